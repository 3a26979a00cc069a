/- One operation, whichever. -/
import Derived.Test.YtiipgpkgcdhbfaaGreatDoorGP0
import Derived.Orders
import Derived.Fence
import Derived.Sort.Grow
import Derived.Sort.Row
import Derived.Lib.SlicesCompact
import Derived.Shelf.Strings.Builder1
import Derived.Shelf.Small.Bits
import Derived.Shelf.Strings.BuilderF
import Derived.Shelf.Strings.BuilderK
import Derived.Shelf.Strconv.Itoa0
import Derived.Shelf.Strconv.Itoa1
import Derived.Shelf.LaysM
import Derived.Shelf.Strconv.Itoa2
import Derived.Shelf.Strconv.Itoa3
import Derived.Shelf.Sort.Plain
import Derived.Ground.Names2Prog
import Derived.Shelf.Slices.Clone
import Derived.Shelf.Slices.CompactI
import Derived.Shelf.Slices.SearchI
import Derived.Shelf.Slices.Cells
import Derived.Shelf.Slices.In.SortNone
import Derived.Ground.SlgnProg
import Derived.Shelf.SlicesE.Clone
import Derived.Test.YtiipgpkgcdhbfaaGreatDoorProg
import Derived.WalkKit
import Derived.BigCall
set_option maxRecDepth 100000
set_option linter.unusedVariables false
set_option linter.unusedSimpArgs false
set_option linter.unusedSectionVars false
namespace Go.Ab
open Go.RowKit
section
variable [WInv] {C:Cfg} {B:Nat} {w:World} {g:G} {m:ai}
def B6(P:Program)(B:Nat)(w:World)(g:G)(a:Act)(o:Oper)(v:AV)(m1:ai):Prop:=
 ∀(next:Act->World->Prop) (Q:Exit->Act->World->Prop),(∀a1 v' w' g',a1.tmps=a.tmps->jk P a1 a->Step B w g w' g'->MemR B w' g' m1->V w' g' v v'->next (a1.put o.dst v') w')->o.wp P a w next Q
theorem B6.done{P:Program}{a:Act}{o:Oper}{v:AV}{m1:ai}{s:Sem Value}(h:pj P B w g s v m1)(hs:∀w,(execOp a.eval o).run P w=(do pure (.value (<- s)):Sem Next).run P w):B6 P B w g a o v m1:=
 fun next Q hn=>quQ hs h fun v' w' g' h1 h2 h3=>hn a v' w' g' rfl (jk.refl _ _) h1 h2 h3
theorem B6.same{P:Program}{a:Act}{o:Oper}{v:AV}(hm:MemR B w g m){s:Sem Value}(h:∃v',s.run P w=.ok v' w/\V w g v v')(hs:∀w,(execOp a.eval o).run P w=(do pure (.value (<- s)):Sem Next).run P w):B6 P B w g a o v m:=
 B6.done (pj.same hm h) hs
theorem qrU{ρ:Operand->AV}{ρ':Operand->Value}(hρ:∀x,V w g (ρ x) (ρ' x))(xs:Array Operand)(cs:List AV)(vs:Array Value)(hl:cs.length=vs.size)(hv:∀j,j<cs.length->V w g (cs.getD j .any) (vs.getD j undef)) :
  (xs.toList.map ρ++cs).length=(xs.map ρ'++vs).size/\∀j,j<(xs.toList.map ρ++cs).length->V w g ((xs.toList.map ρ++cs).getD j .any) ((xs.map ρ'++vs).getD j undef):=by
 refine ⟨by simp[hl],fun j hj=>?_⟩;simp only[aT,jX,rA,Array.getElem?_append,bu,Array.length_toList,Array.size_map]
 by_cases h1:j<xs.size
 .rw[aq h1,aq h1];simpa [h1] using hρ xs[j]
 .rw[an h1,an h1];simp at hj;simpa [aT,jX] using hv (j-xs.size) aa
theorem Bg{ρ:Operand->AV}{ρ':Operand->Value}(hρ:∀x,V w g (ρ x) (ρ' x))(x:Option Operand):su w g (x.map ρ) (x.map ρ'):=by
 cases x with
 | none=>trivial
 | some x=>exact hρ x
theorem qoE(hC:CfgOk C){callI:Nat->List AV->ai->OM}(hI:∀f args m v m',callI f args m=some (v,m')->uv C.P f args m v m'/\∃fn,C.P.funcs[f]?=some fn/\fn.body.isSome)
  {R:Type} {fid:Nat} {d:Option Nat} {f:Nat} {args:List AV} {K:AV->ai->Option R} {r:R} (h:jZ C fid (jY callI) callI d f args m K=some r) (hm:MemR B w g m) (hB:B<=w.heap.size) {vs:Array Value}
  (hl:args.length=vs.size) (hv:∀j,j<args.length->V w g (args.getD j .any) (vs.getD j undef)) :
  ∃v m1 fn,K v m1=some r/\C.P.funcs[f]?=some fn/\fn.body.isSome/\Calls C.P f vs w fun e w'=>∃v' g',e=.returned v'/\Step B w g w' g'/\MemR B w' g' m1/\V w' g' v v':=by
 unfold jZ at h
 cases sK:C.libm f with
 | some hh=>
  rw[sK] at h
  cases d with
  | some s=>cases h
  | none=>
   simp only[bn] at h;obtain ⟨⟨v,m1⟩,hr,h⟩:=h;obtain ⟨⟨fn,h1,h2⟩,h3⟩:=hC.libm f hh sK;exact ⟨v,m1,fn,h,h1,h2,h3 args m v m1 hr B w g vs hm hB hl hv⟩
 | none=>
 rw[sK] at h;simp only at h
 split at h
 .rename_i hh Kb;simp only[bn] at h;obtain ⟨v,hr,h⟩:=h;obtain ⟨⟨fn,h1,h2⟩,h3⟩:=hC.lib f hh Kb;exact ⟨v,m,fn,h,h1,h2,h3 args v hr m B w g vs hm hB hl hv⟩
 .split at h
  .split at h
   .simp only[bn] at h;obtain ⟨⟨v,m1⟩,hr,h⟩:=h
    cases hz:C.frzc fid f with
    | true=>
     rw[hz] at hr;simp only[An,bn] at hr;obtain ⟨⟨rs,l⟩,hf,hc⟩:=hr;obtain ⟨g1,s1,pG,nQ,kZ⟩:=qpq hm hl hv hf;obtain ⟨h1,fn,h2,h3⟩:=hI _ _ _ _ _ hc;refine ⟨v,m1,fn,h,h2,h3,(h1 B w g1 vs pG hB nQ kZ).mono ?_⟩;rintro e w' ⟨v',g',he,s,hm',hV⟩;exact ⟨v',g',he,s1.trans s,hm',hV⟩
    | false=>
    rw[hz] at hr;simp only at hr
    cases ht:C.thaw fid f with
    | false=>
     rw[ht] at hr;obtain ⟨h1,fn,h2,h3⟩:=hI _ _ _ _ _ hr;exact ⟨v,m1,fn,h,h2,h3,h1 B w g vs hm hB hl hv⟩
    | true=>
     rw[ht] at hr;simp only[LB,bn,iq] at hr;obtain ⟨⟨rs,l⟩,hf,⟨v0,m0⟩,hc,⟨v1,m2⟩,nS,he⟩:=hr;simp only[fE] at he;obtain ⟨rfl,rfl⟩:=he;obtain ⟨_,fn,h2,h3⟩:=hI _ _ _ _ _ hc;exact ⟨v1,_,fn,h,h2,h3,qui hm hB (fun args m v m' hh=>(hI _ _ _ _ _ hh).1) hl hv hf hc nS⟩
   .cases h
  .unfold aF at h;simp only[bn] at h;obtain ⟨⟨v,m1⟩,⟨⟨rs,l⟩,hf,hc⟩,h⟩:=h
   split at hc
   .cases hc
   .simp only[iq,fE] at hc;obtain ⟨v',hr,rfl,rfl⟩:=hc
    have hfn:∃fn,C.P.funcs[f]?=some fn/\fn.body.isSome:=by
     unfold jY at hr;simp only[bn] at hr;obtain ⟨⟨v0,m0⟩,hc,_⟩:=hr;exact (hI _ _ _ _ _ hc).2
    obtain ⟨fn,h1,h2⟩:=hfn;exact ⟨v',_,fn,h,h1,h2,qsP hm hB (fun args m v m' hh=>(hI _ _ _ _ _ hh).1) hl hv hf hr⟩
theorem qsv(hC:CfgOk C){callI:Nat->List AV->ai->OM}(hI:∀f args m v m',callI f args m=some (v,m')->uv C.P f args m v m'/\∃fn,C.P.funcs[f]?=some fn/\fn.body.isSome)
  {R:Type} {fid:Nat} {d:Option Nat} {o:Oper} {ρ:Operand->AV} {K:AV->ai->Option R} {r:R} {a:Act} (h:lD C fid (jY callI) callI d o ρ m K=some r) (hρ:∀x,V w g (ρ x) (a.eval x)) (hm:MemR B w g m) (hB:B<=w.heap.size) (yq:ow o=true->∀s,d=some s->m.get s=some .resv) :
  ∃v m1,K v m1=some r/\B6 C.P B w g a o v m1:=by
 unfold lD at h
 split at h
 .rename_i x bT;exact ⟨_,_,h,.same (s:=pure (a.eval x)) hm ⟨_,rfl,hρ x⟩ fun w=>by simp[execOp,bT]⟩
 .rename_i x bT;exact ⟨_,_,h,.same (s:=pure (a.eval x)) hm ⟨_,rfl,hρ x⟩ fun w=>by simp[execOp,bT]⟩
 .rename_i c x y bT;simp only[bn] at h;obtain ⟨v,hv,h⟩:=h;exact ⟨_,_,h,.same hm (qsO (hρ c) (hρ x) (hρ y) hv) fun w=>by simp[execOp,bT]⟩
 .rename_i t bT
  split at h
  .rename_i z hz;have hd:=yq (by simp[ow,bT]);exact ⟨_,_,h,.done (qlU hm hB hd hz) fun w=>by simp[execOp,bT]⟩
  .cases h
 .rename_i t x bT
  split at h
  .simp only[bn] at h;obtain ⟨⟨v,m1⟩,hv,h⟩:=h;have hd:=yq (by simp[ow,bT]);exact ⟨_,_,h,.done (qos (t:=t) hm hB hd (hρ x) hv) fun w=>by simp[execOp,bT]⟩
  .cases h
 .rename_i t ps bT
  split at h
  .rename_i ic
   split at h
   .rename_i z l hz hl;simp only[bn] at h;obtain ⟨v,hv,h⟩:=h;exact ⟨_,_,h,.done (qoA hm hρ ic hz hl hv) fun w=>by simp[execOp,bT]⟩
   .cases h
  .cases h
 .rename_i t n ps bT
  split at h
  .rename_i e he
   split at h
   .rename_i sh hsh
    split at h
    .rename_i nO;simp only[cD,uH,oM] at nO;obtain ⟨⟨c1,c2⟩,c3⟩:=nO;simp only[bn] at h;obtain ⟨v,hv,h⟩:=h
     have ht:C.P.underlying t=some (.slice e):=by
      unfold Cm at he
      split at he
      .simp at he;subst he;assumption
      .cases he
     exact ⟨_,_,h,.done (qoy hm hB hρ ht c1 c2 c3 hv) fun w=>by simp[execOp,bT]⟩
    .cases h
   .cases h
  .cases h
 .rename_i t x bT
  split at h
  .rename_i sh hsh;simp only[bn] at h;obtain ⟨v,hv,h⟩:=h;exact ⟨_,_,h,.same hm (qaz hm (hρ x) hv t hsh) fun w=>by simp[execOp,bT]⟩
  .cases h
 .rename_i t x y bT
  split at h
  .rename_i sh hsh;simp only[bn] at h;obtain ⟨m1,hv,h⟩:=h
   refine ⟨_,_,h,fun next Q hn=>?_⟩
   obtain ⟨w',h1,h2,h3⟩:=qtX (P:=C.P) hm (hρ x) (hρ y) hsh hv;have hr:(execOp a.eval o).run C.P w=.ok .skip w':=by simp[execOp,bT,h1]
   unfold Oper.wp;rw[hr];exact hn a undef w' g rfl (jk.refl _ _) h2 h3 (.any _)
  .cases h
 .rename_i x bT;have hx:=hρ x;simp only[bn] at h;obtain ⟨v,hv,h⟩:=h;unfold jb at hv
  split at hv
  .rename_i cs iO;simp only[cg] at hv;subst hv;rw[iO] at hx
   cases iP:a.eval x with
   | pointer p=>
    cases p with
    | some p=>
     refine ⟨_,_,h,.same (s:=pure (.pointer (some p))) hm ⟨_,rfl,by rw[iP] at hx;exact hx⟩ fun w=>by simp[execOp,bT,iP]⟩
    | none=>rw[iP] at hx;cases hx
   | _=>rw[iP] at hx;cases hx
  .rename_i nm off iO;simp only[cg] at hv;subst hv;rw[iO] at hx
   cases iP:a.eval x with
   | pointer p=>
    cases p with
    | some p=>
     refine ⟨_,_,h,.same (s:=pure (.pointer (some p))) hm ⟨_,rfl,by rw[iP] at hx;exact hx⟩ fun w=>by simp[execOp,bT,iP]⟩
    | none=>rw[iP] at hx;cases hx
   | _=>rw[iP] at hx;cases hx
  .rename_i f cs iO;simp only[cg] at hv;subst hv;rw[iO] at hx
   cases iP:a.eval x with
   | func fn fi cap=>
    rw[iP] at hx
    cases hx with
    | fn _ _ _ hl hv=>
     refine ⟨_,_,h,.same (s:=pure (.func (.func f) #[] cap)) hm ⟨_,rfl,.fn _ _ _ hl hv⟩ fun w=>by simp[execOp,bT,iP]⟩
   | _=>rw[iP] at hx;cases hx
  .cases hv
 .rename_i op t x y _ bT;simp only[bn] at h;obtain ⟨v,hv,h⟩:=h;exact ⟨_,_,h,.same hm (qon op t x y (hρ x) (hρ y) hv) fun w=>by simp[execOp,bT]⟩
 .rename_i op t x bT;simp only[bn] at h;obtain ⟨v,hv,h⟩:=h;exact ⟨_,_,h,.same hm (quG op (hρ x) hv) fun w=>by simp[execOp,bT]⟩
 .rename_i src dst x bT
  split at h
  .rename_i k hk
   split at h
   .rename_i hs;simp only[bn] at h;obtain ⟨v,hv,h⟩:=h;exact ⟨_,_,h,.same hm (qoV (hρ x) hv src dst hk hs) fun w=>by simp[execOp,bT]⟩
   .cases h
  .cases h
 .rename_i fn fi cs bT
  split at h
  .rename_i f yr;have qp8:fi = #[]:=by simpa using yr
   subst qp8;refine ⟨_,_,h,.same (s:=pure (.func (.func f) #[] (cs.map a.eval))) hm ⟨_,rfl,.fn _ _ _ aA fun j hj=>?_⟩ fun w=>by simp[execOp,bT,Instr.makeFunc]⟩;have hG:j<cs.size:=by simpa using hj
   simpa [aT,jX,hG] using hρ cs[j]
  .cases h
 .rename_i t l c bT
  split at h
  .rename_i e he
   split at h
   .rename_i sh z hsh hz
    split at h
    .rename_i mH;simp only[bn] at h;obtain ⟨⟨v,m1⟩,hv,h⟩:=h
     have ht:C.P.underlying t=some (.slice e):=by
      unfold Cm at he
      split at he
      .simp at he;subst he;assumption
      .cases he
     have hd:=yq (by simp[ow,bT])
     cases kN:C.tokm fid with
     | true=>rw[kN] at hv;exact ⟨_,_,h,.done (qrQ hm hB ht hsh mH hz (hρ l) (hρ c) hv) fun w=>by simp[execOp,bT]⟩
     | false=>rw[kN] at hv;exact ⟨_,_,h,.done (qrS hm hB hd ht hsh mH hz (hρ l) (hρ c) hv) fun w=>by simp[execOp,bT]⟩
    .cases h
   .cases h
  .cases h
 .rename_i t x lo hi mx bT
  split at h
  .rename_i e ht
   split at h
   .rename_i sh hsh
    split at h
    .rename_i mH;simp only[bn] at h;obtain ⟨v,hv,h⟩:=h;unfold gX at hv
     split at hv
     .rename_i sh' z o' es hx
      split at hv
      .rename_i hs;exact ⟨_,_,h,.same hm (qtK (hx▸hρ x) (Bg hρ lo) (Bg hρ hi) (Bg hρ mx) hv t ht hsh mH hs) fun w=>by simp[execOp,bT]⟩
      .cases hv
     .rename_i nm off n sh' hx
      split at hv
      .rename_i hs;subst hs
       cases mx with
       | none=>exact ⟨_,_,h,.same hm (qtJ (hx▸hρ x) (Bg hρ lo) (Bg hρ hi) hv t ht mH) fun w=>by simp[execOp,bT]⟩
       | some _=>simp[o0] at hv
      .cases hv
     .cases hv
    .cases h
   .cases h
  .rename_i ht;simp only[bn] at h;obtain ⟨v,hv,h⟩:=h;unfold qcn at hv
   split at hv
   .rename_i s hx
    cases mx with
    | none=>exact ⟨_,_,h,.same hm (qtL (hx▸hρ x) (Bg hρ lo) (Bg hρ hi) hv t ht) fun w=>by simp[execOp,bT]⟩
    | some _=>simp[o0] at hv
   .cases hv
  .cases h
 .rename_i t x f bT
  split at h
  .rename_i off sh hf;simp only[bn] at h;obtain ⟨v,hv,h⟩:=h;exact ⟨_,_,h,.same hm (qph (hρ x) hv t f hf) fun w=>by simp[execOp,bT]⟩
  .cases h
 .rename_i t x f bT
  split at h
  .rename_i off sh hf;simp only[bn] at h;obtain ⟨v,hv,h⟩:=h;exact ⟨_,_,h,.same hm (qpi (hρ x) hv t f hf) fun w=>by simp[execOp,bT]⟩
  .cases h
 .rename_i t x i bT
  split at h
  .rename_i e ht
   split at h
   .rename_i sh hsh
    split at h
    .rename_i mH;simp only[bn] at h;obtain ⟨v,hv,h⟩:=h;exact ⟨_,_,h,.same hm (qrf (hρ x) (hρ i) hv t ht mH) fun w=>by simp[execOp,bT]⟩
    .cases h
   .cases h
  .rename_i n e ht
   split at h
   .rename_i sh hsh
    split at h
    .rename_i mH;simp only[bn] at h;obtain ⟨v,hv,h⟩:=h;exact ⟨_,_,h,.same hm (ql4 (hρ x) (hρ i) hv t ht mH) fun w=>by simp[execOp,bT]⟩
    .cases h
   .cases h
  .cases h
 .rename_i t x i bT
  split at h
  .rename_i ht;simp only[bn] at h;obtain ⟨v,hv,h⟩:=h;exact ⟨_,_,h,.same hm (qrg (hρ x) (hρ i) hv t ht) fun w=>by simp[execOp,bT]⟩
  .cases h
 .rename_i t i bT;simp only[bn] at h;obtain ⟨v,hv,h⟩:=h;exact ⟨_,_,h,.same hm (qpe (hρ t) hv) fun w=>by simp[execOp,bT]⟩
 .rename_i c bT
  split at h
  .rename_i f hc;simp only[bn] at h;obtain ⟨⟨g0,caps⟩,lQ,h⟩:=h;unfold kI at lQ
   split at lQ
   .rename_i f0 caps0 hf;simp only[cg,fE] at lQ;obtain ⟨rfl,rfl⟩:=lQ;have hx:=hρ f;rw[hf] at hx
    obtain ⟨cv,hev,hl,hv⟩:∃cv,a.eval f=.func (.func f0) #[] cv/\caps0.length=cv.size/\∀j,j<caps0.length->V w g (caps0.getD j .any) (cv.getD j undef):=by
     generalize a.eval f=y at hx
     cases hx with
     | fn _ _ vs hl hv=>exact ⟨vs,rfl,hl,hv⟩
    obtain ⟨q1,q2⟩:=qrU hρ c.args caps0 cv hl hv;obtain ⟨v,m1,fn,hK,hfn,hbody,Fk⟩:=qoE hC hI h hm hB q1 q2
    refine ⟨v,m1,hK,fun next Q hn=>?_⟩
    refine quP bT hc hev hfn (hC.name _ _ hfn) hbody Fk ?_;rintro e w' ⟨v',g',rfl,s,hm',hV⟩;exact ⟨v',rfl,hn a v' w' g' rfl (jk.refl _ _) s hm' hV⟩
   .cases lQ
  .rename_i b hc
   have one:∀{x},c.args.toList.map ρ=[x]->∃x',c.args.map a.eval = #[x']/\V w g x x':=by
    intro x lh
    match hca:c.args.toList,lh with
    | [p],lh=>
     simp at lh;have:c.args = #[p]:=by cases Fj:c.args;simp_all
     exact ⟨a.eval p,by simp[this],lh▸hρ p⟩
   have two:∀{x y},c.args.toList.map ρ=[x,y]->∃x' y',c.args.map a.eval = #[x',y']/\V w g x x'/\V w g y y':=by
    intro x y lh
    match hca:c.args.toList,lh with
    | [p,q],lh=>
     simp at lh;have:c.args = #[p,q]:=by cases Fj:c.args;simp_all
     exact ⟨a.eval p,a.eval q,by simp[this],lh.1▸hρ p,lh.2▸hρ q⟩
   unfold Aa at h
   split at h
   .rename_i x lh;obtain ⟨x',qR,hx⟩:=one lh
    split at h
    .rename_i e ht;simp only[bn] at h ht;obtain ⟨v,hv,h⟩:=h;obtain ⟨t,wZ,w0⟩:=ht;exact ⟨_,_,h,.same hm (qam hx hv c.argTypes t o.type wZ ⟨e,w0⟩) fun w=>by simp[execOp,bT,resolve,hc,invoke,builtin,qR]⟩
    .rename_i ht;simp only[bn] at h ht;obtain ⟨v,hv,h⟩:=h;obtain ⟨t,wZ,w0⟩:=ht;exact ⟨_,_,h,.same hm (qam hx hv c.argTypes t o.type wZ w0) fun w=>by simp[execOp,bT,resolve,hc,invoke,builtin,qR]⟩
    .cases h
   .rename_i x y lh;obtain ⟨x',y',qR,hx,hy⟩:=two lh;simp only[bn] at h;obtain ⟨v,hv,h⟩:=h;have:=qaP (P:=C.P) hx hy hv;simp only[bJ] at this;exact ⟨_,_,h,.same hm this fun w=>by simp[execOp,bT,resolve,hc,invoke,builtin,qR,Builtin.max_]⟩
   .rename_i x y lh;obtain ⟨x',y',qR,hx,hy⟩:=two lh;simp only[bn] at h;obtain ⟨v,hv,h⟩:=h;have:=qaP (P:=C.P) hx hy hv;simp only[jJ,lp] at this;exact ⟨_,_,h,.same hm this fun w=>by simp[execOp,bT,resolve,hc,invoke,builtin,qR,Builtin.min_]⟩
   .rename_i x y lh;obtain ⟨x',y',qR,hx,hy⟩:=two lh
    split at h
    .rename_i t t' ht vc
     split at h
     .rename_i heq;subst heq
      split at h
      .rename_i e he
       split at h
       .rename_i sh hsh
        split at h
        .rename_i nO;simp only[bn] at h;obtain ⟨⟨v,m1⟩,hv,h⟩:=h
         have FP:C.P.underlying t=some (.slice e):=by
          unfold Cm at he
          split at he
          .simp at he;subst he;assumption
          .cases he
         have AA:=yq (by simp[ow,bT,hc]);have hd:=ql3 (P:=C.P) (ty:=o.type) hm hB AA FP hsh nO hx hy hv;refine ⟨_,_,h,.done hd fun w=>?_⟩
         have AW:Builtin.append_ c.argTypes o.type #[x',y']=Builtin.append_ #[t,t] o.type #[x',y']:=by
          unfold Builtin.append_;simp[ht,vc]
         simp[execOp,bT,resolve,hc,invoke,builtin,qR,AW]
        .cases h
       .cases h
      .cases h
     .cases h
    .cases h
   .cases h
  .cases h
 .rename_i t n bT
  split at h
  .split at h
   .rename_i kk e rP;exact ⟨_,_,h,.done (qrP hm hB rP) fun w=>by simp[execOp,bT]⟩
   .cases h
  .cases h
 .rename_i t x i ok bT
  split at h
  .rename_i kk e rP
   split at h
   .rename_i z hz;simp only[bn] at h;obtain ⟨⟨v,b⟩,hl,h⟩:=h;obtain ⟨v',hV,r1,r2⟩:=qrL hm (hρ x) (hρ i) rP hz hl
    split at h
    .exact ⟨_,_,h,.same hm ⟨_,r1,.tup _ _ rfl (fun j hj=>by
      match j,hj with
      | 0,_=>exact hV
      | 1,_=>exact .bool _)⟩ fun w=>by simp[execOp,bT]⟩
    .exact ⟨_,_,h,.same hm ⟨_,r2,hV⟩ fun w=>by simp[execOp,bT]⟩
   .cases h
  .cases h
 .rename_i t x i y bT
  split at h
  .rename_i kk e rP;simp only[bn] at h;obtain ⟨m1,hu,h⟩:=h
   refine ⟨_,_,h,fun next Q hn=>?_⟩
   obtain ⟨w',h1,h2,h3⟩:=qcW hm (hρ x) (hρ i) (hρ y) rP hu;have hr:(execOp a.eval o).run C.P w=.ok .skip w':=by simp[execOp,bT,h1]
   unfold Oper.wp;rw[hr];exact hn a undef w' g rfl (jk.refl _ _) h2 h3 (.any _)
  .cases h
 .rename_i t x i y bT
  split at h
  .rename_i kk e rP;simp only[bn] at h;obtain ⟨m1,hu,h⟩:=h
   refine ⟨_,_,h,fun next Q hn=>?_⟩
   obtain ⟨w',h1,h2,h3⟩:=qcW hm (hρ x) (hρ i) (hρ y) rP hu;have hr:(execOp a.eval o).run C.P w=.ok .skip w':=by simp[execOp,bT,h1]
   unfold Oper.wp;rw[hr];exact hn a undef w' g rfl (jk.refl _ _) h2 h3 (.any _)
  .cases h
 .rename_i c bT
  split at h
  .rename_i fo hc
   split at h
   .rename_i qR;simp only[bn] at h;obtain ⟨⟨f,cs⟩,lQ,h⟩:=h
    split at h
    .rename_i qp2
     refine ⟨_,_,h,fun next Q hn=>?_⟩
     have hf:=hρ fo;unfold kI at lQ
     split at lQ
     .rename_i f' cs' hx;simp only[cg,fE] at lQ;obtain ⟨rfl,rfl⟩:=lQ;rw[hx] at hf;generalize AE:a.eval fo=fv at hf
      cases hf with
      | fn _ _ caps _ _=>
       have qp4:c.args = #[]:=by simpa using qR
       have hr:(execOp a.eval o).run C.P w=.ok (.defer { target:=.fn (.func f') caps,args:=#[] }) w:=by
        simp only[execOp,bT,resolve,hc,AE,Deferred.ofValue,qp4,Sem.run_bind,Sem.run_pure,Result.andThen_ok,Array.map_empty,Array.empty_append,Array.append_empty]
       unfold Oper.wp;rw[hr]
       exact hn { a with defers:={ target:=.fn (.func f') caps,args:=#[] } :: a.defers } undef w g rfl (fun hb d hd=>by
        rcases gI.1 hd with rfl|hd
        .exact hC.ben _ qp2 caps
        .exact hb d hd) (Step.refl _ _ _) hm (.any _)
     .cases lQ
    .cases h
   .cases h
  .cases h
 .cases h
end
end Go.Ab
namespace Go.Ab
section
variable {R:Type} {C:Cfg} {fid:Nat} {callP:Nat->List AV->Option AV} {callI:Nat->List AV->ai->OM}
def gy(C:Cfg)(fid:Nat)(callP:Nat->List AV->Option AV)(callI:Nat->List AV->ai->OM)(d:Option Nat)(o:Oper)(ρ:Operand->AV)(m:ai):OM:=lD C fid callP callI d o ρ m fun v m=>some (v,m)
theorem qbg(d:Option Nat)(o:Oper)(ρ:Operand->AV)(m:ai)(K:AV->ai->Option R):lD C fid callP callI d o ρ m K=(gy C fid callP callI d o ρ m).bind fun r=>K r.1 r.2:=by
 unfold gy lD
 split<;>first
  | rfl
  | (simp only[Ej,ae];done)
  | ((repeat' split)<;>first|rfl|(simp only[Ej,ae];done)|skip)
 .simp only[Ej];congr 1;funext gc;unfold jZ
  (repeat' split)<;>first|rfl|(simp only[Ej,ae];done)
 .unfold Aa
  (repeat' split)<;>first|rfl|(simp only[Ej,ae];done)
 .simp only[Ej];congr 1;funext gc;split<;>rfl
theorem QV{ρ ρ':Operand->AV}(xs:Array Operand)(h:∀x∈xs,ρ x=ρ' x):xs.toList.map ρ=xs.toList.map ρ':=List.map_congr_left fun x hx=>h x (by simpa using hx)
theorem qsq{d:Option Nat}{o:Oper}{ρ ρ':Operand->AV}{m:ai}(h:∀x∈o.op.operands,ρ x=ρ' x):gy C fid callP callI d o ρ m=gy C fid callP callI d o ρ' m:=by
 unfold gy lD;cases bT:o.op<;>simp only[bT,Op.operands] at h<;>simp only[]
 case move x=>rw[h x aA]
 case assign x=>rw[h x aA]
 case pick c a b=>rw[h c aA,h a aA,h b aA]
 case box t x=>rw[h x aA]
 case build t ps=>
  have:ps.toList.mapM (fun p=>(Bh C.P t p.1).map fun f=>(f.1,f.2,ρ p.2))=ps.toList.mapM (fun p=>(Bh C.P t p.1).map fun f=>(f.1,f.2,ρ' p.2)):=by
   have tQ:∀p∈ps.toList,ρ p.2=ρ' p.2:=fun p hp=>h p.2 (by simp;exact ⟨p.1,by simpa using hp⟩);generalize ps.toList=l at tQ
   induction l with
   | nil=>rfl
   | cons p l ih=>
    simp only[List.mapM_cons];rw[tQ p aA,ih fun q hq=>tQ q (by simp[hq])]
  rw[this]
 case buildSlice t n ps=>
  have:(ps.toList.map fun p=>ρ p.2)=ps.toList.map fun p=>ρ' p.2:=List.map_congr_left fun p hp=>h p.2 (by simp;exact ⟨p.1,by simpa using hp⟩);rw[this]
 case load t x=>rw[h x aA]
 case store t x y=>rw[h x aA,h y aA]
 case nilCheck x=>rw[h x aA]
 case binOp op t x y ty=>rw[h x aA,h y aA]
 case unOp op t x=>rw[h x aA]
 case convert s t x=>rw[h x aA]
 case makeFunc fn fi cs=>
  rw[QV cs fun x hx=>h x (by simp[hx])]
 case makeSlice t l c=>rw[h l aA,h c aA]
 case slice t x lo hi mx=>
  have h1:lo.map ρ=lo.map ρ':=by cases lo with|none=>rfl|some y=>simp only[aQ];rw[h y aA]
  have h2:hi.map ρ=hi.map ρ':=by cases hi with|none=>rfl|some y=>simp only[aQ];rw[h y aA]
  have h3:mx.map ρ=mx.map ρ':=by cases mx with|none=>rfl|some y=>simp only[aQ];rw[h y aA]
  rw[h1,h2,h3,h x aA]
 case fieldAddr t x f=>rw[h x aA]
 case field t x f=>rw[h x aA]
 case indexAddr t x i=>rw[h x aA,h i aA]
 case index t x i=>rw[h x aA,h i aA]
 case extract x i=>rw[h x aA]
 case lookup t x i ok=>rw[h x aA,h i aA]
 case mapUpdate t x i y=>rw[h x aA,h i aA,h y aA]
 case insert t x i y=>rw[h x aA,h i aA,h y aA]
 case defer c=>
  cases hc:c.callee with
  | value f=>
   simp only[Call.operands,hc] at h;simp only[];rw[h f aA]
  | _=>rfl
 case call c=>
  cases hc:c.callee with
  | value f=>
   simp only[Call.operands,hc] at h;rw[QV c.args fun x hx=>h x (by simp[hx])];simp only[];rw[h f aA]
  | builtin b=>
   simp only[Call.operands,hc] at h;rw[QV c.args fun x hx=>h x (by simp[hx])]
  | invoke r n=>rfl
def qF(m m':ai):Prop:=(∀nm o,m.obj? nm=some o->m'.obj? nm=some o)/\∀nm kk es,m.get nm=some (.mp kk es)->m'.get nm=some (.mp kk es)
theorem qF.refl(m:ai):qF m m:=⟨fun _ _ h=>h,fun _ _ _ h=>h⟩
theorem QU{f f':AV->Option (AV×List Nat)}(h:∀x r,f x=some r->f' x=some r):∀(cs:List AV) r,fU f cs=some r->fU f' cs=some r
 | [],r,hr=>hr
 | c::cs,r,hr=>by
  simp only[fU,bn,iq] at hr ⊢;obtain ⟨x,hx,y,hy,rfl⟩:=hr;exact ⟨x,h _ _ hx,y,QU h cs y hy,rfl⟩
theorem qpw{m m':ai}(h:qF m m'):∀(k:Nat) (x:AV) r,cq m k x=some r->cq m' k x=some r:=by
 intro k
 induction k with
 | zero=>intro x r hr;simp[cq] at hr
 | succ k ih=>
  intro x r hr;have hm:=QU ih
  cases x<;>simp only[cq] at hr ⊢<;>try exact hr
  .simp only[bn] at hr ⊢;obtain ⟨o,ho,hr⟩:=hr;refine ⟨o,h.1 _ _ ho,?_⟩
   split at hr
   .rename_i hc;rw[aq hc];simp only[bn] at hr ⊢;obtain ⟨y,hy,hr⟩:=hr;exact ⟨y,hm _ _ hy,hr⟩
   .cases hr
  .simp only[bn] at hr ⊢;obtain ⟨o,ho,hr⟩:=hr;refine ⟨o,h.1 _ _ ho,?_⟩
   split at hr
   .rename_i hc;rw[aq hc];simp only[iq] at hr ⊢;obtain ⟨y,hy,hr⟩:=hr;exact ⟨y,hm _ _ hy,hr⟩
   .cases hr
  all_goals
   simp only[iq] at hr ⊢;obtain ⟨y,hy,hr⟩:=hr;exact ⟨y,hm _ _ hy,hr⟩
theorem OW(x:Option AV)(m:ai):(x.bind fun v=>some (v,m))=((x.bind fun v=>some (v,([]:ai))).map fun r=>(r.1,m)):=by cases x<;>rfl
theorem qbc{d:Option Nat}{o:Oper}{ρ:Operand->AV}(hc:jz o=.N)(m:ai):gy C fid callP callI d o ρ m=(gy C fid callP callI d o ρ []).map fun r=>(r.1,m):=by
 unfold gy lD;unfold jz at hc
 cases bT:o.op<;>simp only[bT] at hc ⊢<;>first
  | (cases hc;done)
  | rfl
  | exact OW _ _
  | ((repeat' split)<;>first|rfl|exact OW _ _|skip)
 .rename_i c _ f qT;rw[qT] at hc;cases hc
 .rename_i c _ b qT;rw[qT] at hc;unfold Aa
  (repeat' split)<;>first|rfl|exact OW _ _|skip
  all_goals (simp at hc)
theorem C7{d:Option Nat}{o:Oper}{ρ:Operand->AV}{m m1:ai}{v:AV}(hc:jz o=.N)(h:gy C fid callP callI d o ρ m=some (v,m1)):m1=m/\∀m',gy C fid callP callI d o ρ m'=some (v,m'):=by
 rw[qbc hc] at h;obtain ⟨r,hr,h⟩:=iq.1 h;simp only[fE] at h;obtain ⟨rfl,rfl⟩:=h;exact ⟨rfl,fun m'=>by rw[qbc hc,hr];rfl⟩
theorem qr0{m m':ai}(hx:∀nm kk es,m.get nm=some (.mp kk es)->m'.get nm=some (.mp kk es)){kk:KK}{x:AV}{q:Nat×List (AV×AV)}(h:nq m kk x=some q):nq m' kk x=some q:=by
 unfold nq at h ⊢
 split at h
 .split at h
  .rename_i hg;rw[hx _ _ _ hg];exact h
  .cases h
 .cases h
theorem qbf{s:Option Nat}{o:Oper}{ρ:Operand->AV}{m m1:ai}{v:AV}{t:Nat}{x i:Operand}{ok:Bool}(bT:o.op=.lookup t x i ok)(h:gy C fid callP callI s o ρ m=some (v,m1)) :
  m1=m/\∀s' m',(∀nm kk es,m.get nm=some (.mp kk es)->m'.get nm=some (.mp kk es))->gy C fid callP callI s' o ρ m'=some (v,m'):=by
 unfold gy lD at h ⊢;simp only[bT] at h ⊢
 split at h
 .rename_i kk e rP
  split at h
  .rename_i z hz;simp only[bn] at h;obtain ⟨r,hr,h⟩:=h;unfold p6 at hr;simp only[bn] at hr;obtain ⟨q,hq,hr⟩:=hr
   have hm:m1=m:=by
    split at h<;>(simp only[cg,fE] at h;exact h.2.symm)
   refine ⟨hm,fun s' m' hx=>?_⟩;unfold p6;rw[qr0 hx hq];simp only[ae,hr];split at h<;>(simp only[cg,fE] at h;rw[h.1])
  .cases h
 .cases h
theorem Ri{s:Nat}{o:Oper}{ρ:Operand->AV}{m m1:ai}{v:AV}(hc:jz o=.L)(h:gy C fid callP callI (some s) o ρ m=some (v,m1)):m1=m/\∀s' m',qF m m'->gy C fid callP callI (some s') o ρ m'=some (v,m'):=by
 unfold gy lD at h ⊢;unfold jz at hc
 cases bT:o.op<;>simp only[bT] at hc h ⊢<;>first|(cases hc;done)|skip
 case load t x=>
  split at h
  .rename_i sh hsh;simp only[bn,cg,fE] at h;obtain ⟨u,hu,rfl,rfl⟩:=h;refine ⟨rfl,fun s' m' hx=>?_⟩
   have:aj sh m' (ρ x)=some u:=by
    unfold aj at hu ⊢
    split at hu
    .exact hu
    .simp only[bn] at hu ⊢;obtain ⟨o,ho,hu⟩:=hu;exact ⟨o,hx.1 _ _ ho,hu⟩
    .cases hu
   simp[this]
  .cases h
 case lookup t x i ok=>
  have h':gy C fid callP callI (some s) o ρ m=some (v,m1):=by unfold gy lD;simp only[bT];exact h
  obtain ⟨h1,h2⟩:=qbf bT h';refine ⟨h1,fun s' m' hx=>?_⟩;have:=h2 (some s') m' hx.2;unfold gy lD at this;simpa only[bT] using this
 case call c=>
  split at hc<;>first|(cases hc;done)|skip
  rename_i f pX;simp only[pX] at h ⊢;simp only[bn] at h ⊢;obtain ⟨gc,CB,h⟩:=h
  have key:m1=m/\∀s' m',qF m m'->jZ C fid callP callI (some s') gc.1 (List.map ρ c.args.toList++gc.2) m' (fun v m=>some (v,m))=some (v,m'):=by
   unfold jZ at h ⊢
   cases sK:C.libm gc.1 with
   | some hh=>rw[sK] at h;cases h
   | none=>
   rw[sK] at h;simp only at h ⊢
   split at h
   .rename_i hh Kb;simp only[bn,cg,fE] at h;obtain ⟨u,hu,rfl,rfl⟩:=h;exact ⟨rfl,fun s' m' hx=>by simp[Kb,hu]⟩
   .rename_i Kb
    split at h
    .simp at h
    .rename_i qu0;simp only[bn] at h;obtain ⟨⟨u,mu⟩,hp,h⟩:=h;simp only[cg,fE] at h;obtain ⟨rfl,rfl⟩:=h;unfold aF at hp;simp only[bn] at hp;obtain ⟨⟨rs,l⟩,hf,hp⟩:=hp
     split at hp
     .cases hp
     .rename_i hk;simp only[iq,fE] at hp;obtain ⟨u',hu,rfl,rfl⟩:=hp;have hl:l=[]:=by simpa using hk
      subst hl;refine ⟨rfl,fun s' m' hx=>?_⟩;have:=QU (qpw hx kX) _ _ hf
      have CL:aF callP (some s') m' gc.1 (List.map ρ c.args.toList++gc.2)=some (u',m'):=by
       unfold aF;simp only[this,ae,List.isEmpty_nil,jj,zn,jJ,lp,hu]
       rfl
      rw[CL]
      rfl
  exact ⟨key.1,fun s' m' hx=>⟨gc,CB,key.2 s' m' hx⟩⟩
theorem xj(s:Nat)(m:ai)(e:Ent):az (some s) m e=(s,m.set s (some e)):=rfl
theorem KR{s:Nat}{o:Oper}{ρ:Operand->AV}{m m1:ai}{v:AV}(hc:jz o=.A)(h:gy C fid callP callI (some s) o ρ m=some (v,m1)):∃e,m1=m.set s (some e)/\∀m',gy C fid callP callI (some s) o ρ m'=some (v,m'.set s (some e)):=by
 unfold gy lD at h ⊢;unfold jz at hc
 cases bT:o.op<;>simp only[bT] at hc h ⊢<;>first|(cases hc;done)|skip
 case alloc t=>
  split at h
  .rename_i z hz;simp only[xj,cg,fE] at h;obtain ⟨rfl,rfl⟩:=h;exact ⟨_,rfl,fun m'=>rfl⟩
  .cases h
 case box t x=>
  split at h
  .rename_i sh hsh;simp only[bn] at h;obtain ⟨r,hr,h⟩:=h;unfold dp at hr ⊢
   split at hr
   .rename_i bc;simp only[xj,cg] at hr;subst hr;simp only[cg,fE] at h;obtain ⟨rfl,rfl⟩:=h;exact ⟨_,rfl,fun m'=>by simp[bc,xj]⟩
   .cases hr
  .cases h
 case makeSlice t l c=>
  split at h
  .rename_i e he
   split at h
   .rename_i sh z hsh hz
    split at h
    .rename_i mH;simp only[bn] at h;obtain ⟨r,hr,h⟩:=h;simp only[cg,fE] at h;obtain ⟨rfl,rfl⟩:=h
     cases kN:C.tokm fid with
     | true=>rw[kN] at hr;simp[A5] at hr
     | false=>
     rw[kN] at hr;simp only at hr;unfold jy at hr
     split at hr
     .rename_i kl l' kc c' hl yo
      split at hr
      .rename_i nO
       split at hr
       .rename_i heq;simp only[xj,cg] at hr;subst hr;exact ⟨_,rfl,fun m'=>by rw[aq mH];simp only[jy,hl,yo,aq nO,aq heq,xj,ae]⟩
       .rename_i hne
        split at hr
        .rename_i h0;simp only[xj,cg] at hr;subst hr;exact ⟨_,rfl,fun m'=>by rw[aq mH];simp only[jy,hl,yo,aq nO,an hne,aq h0,xj,ae]⟩
        .cases hr
      .cases hr
     .cases hr
    .cases h
   .cases h
  .cases h
 case call c=>
  split at hc<;>cases hc
theorem Ph{m:ai}{s:Nat}{e:Option Ent}(h:∀bx cs,m.get s≠some (.obj bx cs))(h':∀kk es,m.get s≠some (.mp kk es)):qF m (m.set s e):=by
 refine ⟨?_,fun nm kk es hg=>by
  rw[gV,an (fun he:nm=s=>by subst he;exact h' kk es hg)];exact hg⟩
 intro nm o ho;unfold ai.obj? at ho ⊢;rw[gV]
 by_cases hs:nm=s
 .subst hs
  split at ho
  .rename_i hh;exact absurd hh (h _ _)
  .cases ho
 .rw[an hs];exact ho
theorem qsp{s:Nat}{o:Oper}{ρ:Operand->AV}{m m1:ai}{v:AV}(hc:jz o=.Ap)(hs:m.get s=some .resv)(h:gy C fid callP callI (some s) o ρ m=some (v,m1)):qF m m1:=by
 have u6:∀e,qF m (m.set s e):=fun e=>Ph (fun bx cs hh=>by rw[hs] at hh;cases hh) (fun kk es hh=>by rw[hs] at hh;cases hh);unfold gy lD at h;unfold jz at hc
 cases bT:o.op<;>simp only[bT] at hc h<;>first|(cases hc;done)|skip
 case call c=>
  split at hc<;>first|(cases hc;done)|skip
  rename_i pX;simp only[pX] at h;unfold Aa at h;split at h
  all_goals first|(rename_i hb _;cases hb;done)|skip
  .split at h
   .split at h
    .split at h
     .split at h
      .split at h
       .simp only[bn,cg,fE] at h;obtain ⟨r,hr,rfl,rfl⟩:=h;unfold bL at hr
        split at hr
        .split at hr
         .simp only[cg] at hr;subst hr;exact qF.refl m
         .split at hr
          .split at hr
           .split at hr
            .cases hr
            .split at hr
             .split at hr<;>(simp only[xj,cg] at hr;subst hr;exact u6 _)
             .cases hr
            .split at hr
             .split at hr
              .rename_i nm e' k sz aU
               split at hr
               .simp only[cg] at hr;subst hr;exact Ph (fun bx cs hh=>by rw[aU] at hh;cases hh) (fun kk es hh=>by rw[aU] at hh;cases hh)
               .cases hr
              .cases hr
             .cases hr
           .cases hr
          .cases hr
        .simp[zZ] at hr
       .cases h
      .cases h
     .cases h
    .cases h
   .cases h
  .cases h
end
end Go.Ab
namespace Go.Ab
section
variable {R:Type} (C:Cfg) (fid:Nat) (callP:Nat->List AV->Option AV) (callI:Nat->List AV->ai->OM)
def iB(base:Option Nat)(ops:Array Oper)(i:Nat)(o:Oper)(ts:List AV)(m:ai):OM:=match o.guard with
 | none=>gy C fid callP callI (base.map (· + gd ops i)) o (ev ts) m
 | some (j,want)=>match (ops[j]?).bind (·.dst) with
  | none=>none
  | some g=>match y9 ops ts j with
   | true=>match ts.getD g .any with
    | .tup cs=>match cs with
     | []=>some (.tup [],m)
     | _::_=>none
    | _=>none
   | false=>match ts.getD g .any with
    | .bool b=>if b=want then gy C fid callP callI (base.map (· + gd ops i)) o (ev ts) m else some (.tup [],m)
    | _=>none
def fV(base:Option Nat)(ops:Array Oper)(i:Nat)(st:St):Option St:=match ops[i]? with
 | none=>none
 | some o=>(iB C fid callP callI base ops i o st.tmps st.mem).map fun r=>⟨gK st.tmps o.dst r.1,r.2⟩
def iG(base:Option Nat)(ops:Array Oper):List Nat->St->Option St
 | [],st=>some st
 | i::l,st=>(fV C fid callP callI base ops i st).bind (iG base ops l)
end
section
variable {R:Type} {C:Cfg} {fid:Nat} {callP:Nat->List AV->Option AV} {callI:Nat->List AV->ai->OM}
theorem qtA{ts:List AV}{g:Nat}{v:AV}(h:ts.getD g .any=v)(hv:v≠.any):ts.set g v=ts:=by
 rcases sq g ts.length with hl|hl
 .rw[aT,bP hl] at h;simp only[fk] at h;rw[<- h];exact List.set_getElem_self hl
 .rw[aT,pk hl] at h;exact absurd h.symm hv
theorem ud(base:Option Nat)(ops:Array Oper):∀(l:List Nat) (st:St) (K:St->Option R),nA C fid callP callI base ops l st K=(iG C fid callP callI base ops l st).bind K
 | [],st,K=>rfl
 | i::l,st,K=>by
  have ih:=ud base ops l;simp only[nA,iG,fV]
  cases hi:ops[i]? with
  | none=>rfl
  | some o=>
   simp only[]
   cases hg:o.guard with
   | none=>
    simp only[iB,hg];rw[qbg];simp only[ih]
    cases gy C fid callP callI (base.map (· + gd ops i)) o (ev st.tmps) st.mem with
    | none=>rfl
    | some r=>rfl
   | some jw=>
    obtain ⟨j,want⟩:=jw;simp only[iB,hg]
    cases hd:(ops[j]?).bind (·.dst) with
    | none=>rfl
    | some g=>
     simp only[];generalize hv:st.tmps.getD g .any=v
     cases y9 ops st.tmps j with
     | true=>
      simp only[]
      cases v with
      | tup cs=>
       cases cs with
       | nil=>simp only[ih];rfl
       | cons c cs=>rfl
      | _=>rfl
     | false=>
     simp only[]
     cases v with
     | bool b=>
      have hs:=qtA hv aA
      have pJ:∀b0,st.tmps.set g (.bool b0)=st.tmps->(lD C fid callP callI (base.map (· + gd ops i)) o (ev (st.tmps.set g (.bool b0))) st.mem fun v m=>nA C fid callP callI base ops l ⟨gK (st.tmps.set g (.bool b0)) o.dst v,m⟩ K) =
        (((gy C fid callP callI (base.map (· + gd ops i)) o (ev st.tmps) st.mem).map fun r=>(⟨gK st.tmps o.dst r.1,r.2⟩:St)).bind (iG C fid callP callI base ops l)).bind K:=by
       intro b0 nR;rw[nR,qbg];simp only[ih]
       cases gy C fid callP callI (base.map (· + gd ops i)) o (ev st.tmps) st.mem with
       | none=>rfl
       | some r=>rfl
      have FO:∀b0,st.tmps.set g (.bool b0)=st.tmps->nA C fid callP callI base ops l ⟨gK (st.tmps.set g (.bool b0)) o.dst (.tup []),st.mem⟩ K =
        (((some (AV.tup [],st.mem)).map fun r=>(⟨gK st.tmps o.dst r.1,r.2⟩:St)).bind (iG C fid callP callI base ops l)).bind K:=by
       intro b0 nR;rw[nR];simp only[ih]
       rfl
      cases want<;>cases b
      .exact pJ false hs
      .exact FO true hs
      .exact FO false hs
      .exact pJ true hs
     | _=>cases want<;>rfl
theorem Pe{ts ts':List AV}(x:Operand)(h:∀t,x=.tmp t->ts.getD t .any=ts'.getD t .any):ev ts x=ev ts' x:=by
 cases x with
 | tmp t=>exact h t rfl
 | _=>rfl
theorem Bf{base:Option Nat}{ops:Array Oper}{i:Nat}{o:Oper}{ts ts':List AV}{m:ai}(h:∀t∈qz ops o,ts.getD t .any=ts'.getD t .any):iB C fid callP callI base ops i o ts m=iB C fid callP callI base ops i o ts' m:=by
 have h1:gy C fid callP callI (base.map (· + gd ops i)) o (ev ts) m=gy C fid callP callI (base.map (· + gd ops i)) o (ev ts') m:=by
  refine qsq fun x hx=>Pe x fun t ht=>h t ?_;unfold qz;refine hZ.2 (.inl (List.mem_filterMap.2 ⟨x,by simpa using hx,?_⟩));rw[ht]
 unfold iB
 cases hg:o.guard with
 | none=>exact h1
 | some jw=>
  obtain ⟨j,want⟩:=jw;simp only[]
  cases hd:(ops[j]?).bind (·.dst) with
  | none=>rfl
  | some g=>
   simp only[];have h2:ts.getD g .any=ts'.getD g .any:=h g (by unfold qz;rw[hg];simp[hd])
   have h3:y9 ops ts j=y9 ops ts' j:=by
    unfold y9
    cases hq:(ops[j]?).bind (·.guard) with
    | none=>rfl
    | some jw'=>
     obtain ⟨j',w'⟩:=jw';simp only[]
     cases lP:(ops[j']?).bind (·.dst) with
     | none=>rfl
     | some g'=>
      simp only[];have h4:ts.getD g' .any=ts'.getD g' .any:=h g' (by unfold qz;rw[hg];simp[hq,lP]);rw[h4]
   rw[h2,h1,h3]
theorem xA{ts:List AV}{d:Option Nat}{v:AV}{t:Nat}(h:d≠some t):(gK ts d v).getD t .any=ts.getD t .any:=by
 cases d with
 | none=>rfl
 | some d=>
  have:d≠t:=fun he=>h (by rw[he]);simp[gK,aT,List.getElem?_set,this]
theorem RQ{ts:List AV}{d e:Option Nat}{v u:AV}(h:d=none\/d≠e):gK (gK ts d v) e u=gK (gK ts e u) d v:=by
 cases d with
 | none=>rfl
 | some d=>
  cases e with
  | none=>rfl
  | some e=>
   have:d≠e:=fun he=>by rcases h with h|h<;>simp_all
   exact List.set_comm _ _ this
theorem pM{base:Option Nat}{ops:Array Oper}{i:Nat}{o:Oper}{ts:List AV}{m m1:ai}{v:AV}(h:iB C fid callP callI base ops i o ts m=some (v,m1)) :
  (gy C fid callP callI (base.map (· + gd ops i)) o (ev ts) m=some (v,m1)/\∀m',iB C fid callP callI base ops i o ts m'=gy C fid callP callI (base.map (· + gd ops i)) o (ev ts) m') \/
  (m1=m/\∀m',iB C fid callP callI base ops i o ts m'=some (v,m')):=by
 unfold iB at h ⊢
 cases hg:o.guard with
 | none=>simp only[hg] at h;exact .inl ⟨h,fun _=>rfl⟩
 | some jw=>
  obtain ⟨j,want⟩:=jw;simp only[hg] at h ⊢
  cases hd:(ops[j]?).bind (·.dst) with
  | none=>simp[hd] at h
  | some g=>
   simp only[hd] at h ⊢
   cases FN:y9 ops ts j with
   | true=>
    simp only[FN] at h ⊢
    cases hv:ts.getD g .any with
    | tup cs=>
     simp only[hv] at h ⊢
     cases cs with
     | nil=>
      simp only[cg,fE] at h;obtain ⟨rfl,rfl⟩:=h;exact .inr ⟨rfl,fun m'=>rfl⟩
     | cons c cs=>simp only at h;cases h
    | _=>simp only[hv] at h;cases h
   | false=>
   simp only[FN] at h ⊢
   cases hv:ts.getD g .any with
   | bool b=>
    simp only[hv] at h ⊢
    by_cases hb:b=want
    .rw[aq hb] at h;exact .inl ⟨h,fun _=>by rw[aq hb]⟩
    .rw[an hb] at h;simp only[cg,fE] at h;obtain ⟨rfl,rfl⟩:=h;exact .inr ⟨rfl,fun m'=>by rw[an hb]⟩
   | _=>simp only[hv] at h;cases h
theorem qss{s:Nat}{o:Oper}{ρ:Operand->AV}{m m1:ai}{v:AV}(h:gy C fid callP callI (some s) o ρ m=some (v,m1))(x:Nat)(hx:m.get x=some .resv):(x=s/\ow o=true)\/m1.get x=some .resv:=by
 have u7:∀e,ow o=true->(x=s/\ow o=true)\/ai.get (m.set s e) x=some .resv:=fun e nb=>by
  by_cases FT:x=s
  .exact .inl ⟨FT,nb⟩
  .exact .inr (by rw[gV,an FT];exact hx)
 cases hc:jz o with
 | N=>obtain ⟨rfl,_⟩:=C7 hc h;exact .inr hx
 | L=>obtain ⟨rfl,_⟩:=Ri hc h;exact .inr hx
 | A=>
  obtain ⟨e,rfl,_⟩:=KR hc h;refine u7 _ ?_;unfold jz at hc;unfold ow
  cases bT:o.op<;>simp only[bT] at hc<;>first|rfl|(cases hc;done)|(split at hc<;>cases hc)
 | Ap=>
  have nb:ow o=true:=by
   unfold jz at hc;unfold ow
   cases bT:o.op<;>simp only[bT] at hc<;>first|(cases hc;done)|skip
   split at hc<;>first|(cases hc;done)|skip
   rename_i pX;simp[pX]
  unfold gy lD at h;unfold jz at hc
  cases bT:o.op<;>simp only[bT] at hc h<;>first|(cases hc;done)|skip
  case call c=>
   split at hc<;>first|(cases hc;done)|skip
   rename_i pX;simp only[pX] at h;unfold Aa at h;split at h
   all_goals first|(rename_i hb _;cases hb;done)|skip
   .split at h
    .split at h
     .split at h
      .split at h
       .split at h
        .simp only[bn,cg,fE] at h;obtain ⟨r,hr,rfl,rfl⟩:=h;unfold bL at hr
         split at hr
         .split at hr
          .simp only[cg] at hr;subst hr;exact .inr hx
          .split at hr
           .split at hr
            .split at hr
             .cases hr
             .split at hr
              .split at hr<;>(simp only[xj,cg] at hr;subst hr;exact u7 _ nb)
              .cases hr
             .split at hr
              .split at hr
               .rename_i nm e' k sz aU
                split at hr
                .simp only[cg] at hr;subst hr;refine .inr ?_;simp only[];rw[gV,an (fun he=>by subst he;rw[aU] at hx;cases hx)];exact hx
                .cases hr
               .cases hr
              .cases hr
            .cases hr
           .cases hr
         .simp[zZ] at hr
        .cases h
       .cases h
      .cases h
     .cases h
    .cases h
   .cases h
 | W=>
  unfold gy lD at h;unfold jz at hc
  cases bT:o.op<;>simp only[bT] at hc h<;>first|(cases hc;done)|(cases h;done)|skip
  case store t y z=>
   split at h
   .rename_i sh hsh;simp only[bn,cg,fE] at h;obtain ⟨m2,fT,rfl,rfl⟩:=h;unfold aP at fT
    split at fT
    .rename_i nm off _;simp only[bn] at fT;obtain ⟨ob,AQ,fT⟩:=fT
     split at fT
     .split at fT
      .simp only[cg] at fT;subst fT;refine .inr ?_
       rw[gV,an (fun he=>by
        subst he;unfold ai.obj? at AQ;rw[hx] at AQ
        cases AQ)]
       exact hx
      .cases fT
     .cases fT
    .cases fT
   .cases h
  case mapUpdate t y i z=>
   split at h
   .rename_i kk e _;simp only[bn,cg,fE] at h;obtain ⟨m2,hu,rfl,rfl⟩:=h;simp only[lY,bn] at hu;obtain ⟨⟨nm,es⟩,mf,hu⟩:=hu;simp only at hu
    split at hu
    .simp only[cg] at hu;subst hu;refine .inr ?_
     rw[gV,an (fun he=>by
      subst he;unfold nq at mf
      split at mf
      .split at mf
       .rename_i hg
        split at mf
        .simp only[cg,fE] at mf;obtain ⟨rfl,rfl⟩:=mf;rw[hx] at hg;cases hg
        .cases mf
       .cases mf
      .cases mf)]
     exact hx
    .cases hu
   .cases h
  case insert t y i z=>
   split at h
   .rename_i kk e _;simp only[bn,cg,fE] at h;obtain ⟨m2,hu,rfl,rfl⟩:=h;simp only[lY,bn] at hu;obtain ⟨⟨nm,es⟩,mf,hu⟩:=hu;simp only at hu
    split at hu
    .simp only[cg] at hu;subst hu;refine .inr ?_
     rw[gV,an (fun he=>by
      subst he;unfold nq at mf
      split at mf
      .split at mf
       .rename_i hg
        split at mf
        .simp only[cg,fE] at mf;obtain ⟨rfl,rfl⟩:=mf;rw[hx] at hg;cases hg
        .cases mf
       .cases mf
      .cases mf)]
     exact hx
    .cases hu
   .cases h
  case defer c=>
   split at h
   .split at h
    .simp only[bn] at h;obtain ⟨gc,_,h⟩:=h
     split at h
     .simp only[cg,fE] at h;rw[<- h.2];exact .inr hx
     .cases h
    .cases h
   .cases h
  case call c=>
   split at hc<;>first|(cases hc;done)|skip
   rename_i qqv Kg qqw qqx qqy
   split at h
   .rename_i f pX;exact absurd pX (qqy f)
   .rename_i b pX;unfold Aa at h
    split at h
    .exact absurd pX qqv
    .exact absurd pX Kg
    .exact absurd pX qqw
    .exact absurd pX qqx
    .cases h
   .cases h
theorem qbO{ops:Array Oper}{i j:Nat}{x y:Oper}(hi:ops[i]?=some x)(hj:ops[j]?=some y)(hmi:ow x=true)(Qb:ow y=true)(hne:i≠j):gd ops i≠gd ops j:=by
 have key:∀i j x,i<j->ops[i]?=some x->ow x=true->gd ops i<gd ops j:=by
  intro i j x hlt hi hm
  have cE:i<ops.toList.length:=by
   have:=(fP.1 hi).1;simpa using this
  have h1:gd ops (i+1)=gd ops i+1:=by
   unfold gd
   have he:ops.toList[i]=x:=by
    have:=(fP.1 hi).2;simpa using this
   rw[mU cE,List.filter_append,aW,he];simp[hm]
  have h2:gd ops (i+1)<=gd ops j:=by
   unfold gd;have:ops.toList.take (i+1)=(ops.toList.take j).take (i+1):=by rw[List.take_take];congr 1;omega
   rw[this];exact List.Sublist.length_le ((List.take_sublist _ _).filter _)
  omega
 rcases Nat.lt_or_gt_of_ne hne with h|h
 .exact Nat.ne_of_lt (key i j x h hi hmi)
 .exact Nat.ne_of_gt (key j i y h hj Qb)
def vK(ops:Array Oper)(b:Nat)(m:ai)(l:List Nat):Prop:=∀i∈l,∀o,ops[i]?=some o->ow o=true->m.get (b+gd ops i)=some .resv
theorem uj{base:Option Nat}{ops:Array Oper}{i:Nat}{st s1:St}(h:fV C fid callP callI base ops i st=some s1):∃o v m1,ops[i]?=some o/\iB C fid callP callI base ops i o st.tmps st.mem=some (v,m1)/\s1=⟨gK st.tmps o.dst v,m1⟩:=by
 unfold fV at h
 cases hi:ops[i]? with
 | none=>simp[hi] at h
 | some o=>
  simp only[hi] at h;obtain ⟨⟨v,m1⟩,hr,rfl⟩:=iq.1 h;exact ⟨o,v,m1,rfl,hr,rfl⟩
theorem Lp{b:Nat}{ops:Array Oper}{j:Nat}{st s1:St}{l:List Nat}(h:fV C fid callP callI (some b) ops j st=some s1)(hk:vK ops b st.mem l)(hj:j∉l):vK ops b s1.mem l:=by
 obtain ⟨o,v,m1,ho,hr,rfl⟩:=uj h;intro i hi x hx hm;have u6:=hk i hi x hx hm
 rcases pM hr with ⟨hf,_⟩|⟨rfl,_⟩
 .rcases qss (s:=b+gd ops j) hf _ u6 with ⟨he,oR⟩|h
  .exact absurd (by omega:gd ops i=gd ops j) (qbO hx ho hm oR (fun he=>hj (he▸hi)))
  .exact h
 .exact u6
theorem Jo{ops:Array Oper}{x y:Oper}(h:xX ops x y=true):(∀d,x.dst=some d->d∉qz ops y)/\(∀d,y.dst=some d->d∉qz ops x)/\(x.dst=none\/x.dst≠y.dst):=by
 unfold xX at h;simp only[cD] at h
 refine ⟨fun d hd=>?_,fun d hd=>?_,?_⟩
 .rw[hd] at h;simp at h;exact h.1.1
 .rw[hd] at h;simp at h;exact h.2
 .cases hx:x.dst with
  | none=>exact .inl rfl
  | some d=>
   rw[hx] at h;simp at h;exact .inr fun he=>h.1.2 he.symm
theorem QP{x y:Oper}(h:jz x≠.L):F3 x y=false:=by
 unfold F3
 split
 .rename_i bT;exact absurd (by unfold jz;simp only[bT]) h
 .rfl
theorem qst{s:Option Nat}{o:Oper}{ρ:Operand->AV}{m m1:ai}{v:AV}{t:Nat}{x y:Operand}(bT:o.op=.store t x y)(h:gy C fid callP callI s o ρ m=some (v,m1)) :
  ∀nm kk es,m.get nm=some (.mp kk es)->m1.get nm=some (.mp kk es):=by
 unfold gy lD at h;simp only[bT] at h
 split at h
 .simp only[bn,cg,fE] at h;obtain ⟨m2,fT,rfl,rfl⟩:=h;unfold aP at fT
  split at fT
  .rename_i nm0 off _;simp only[bn] at fT;obtain ⟨ob,AQ,fT⟩:=fT
   split at fT
   .split at fT
    .simp only[cg] at fT;subst fT;intro nm kk es hg
     rw[gV,an (fun he=>by
      subst he;unfold ai.obj? at AQ;rw[hg] at AQ
      cases AQ)]
     exact hg
    .cases fT
   .cases fT
  .cases fT
 .cases h
theorem swap{b:Nat}{ops:Array Oper}{i j:Nat}{st s1 s2:St}{x y:Oper}(hx:ops[i]?=some x)(hy:ops[j]?=some y)(hne:i≠j)(bc:zb ops x y=true)(hk:vK ops b st.mem [i,j])
  (h1:fV C fid callP callI (some b) ops i st=some s1) (h2:fV C fid callP callI (some b) ops j s1=some s2):∃s1',fV C fid callP callI (some b) ops j st=some s1'/\fV C fid callP callI (some b) ops i s1'=some s2:=by
 obtain ⟨x',vi,mi,iP,pI,rfl⟩:=uj h1;obtain rfl:x=x':=by simpa [hx] using iP
 obtain ⟨y',vj,mj,AY,kY,rfl⟩:=uj h2;obtain rfl:y=y':=by simpa [hy] using AY
 unfold zb at bc;simp only[cD] at bc;obtain ⟨uR,wH⟩:=bc;obtain ⟨a1,a2,a3⟩:=Jo wH;simp only at kY;have cj:∀m,iB C fid callP callI (some b) ops j y (gK st.tmps x.dst vi) m=iB C fid callP callI (some b) ops j y st.tmps m:=fun m=>Bf fun t ht=>xA fun hd=>a1 t hd ht;have ci:∀v m,iB C fid callP callI (some b) ops i x (gK st.tmps y.dst v) m=iB C fid callP callI (some b) ops i x st.tmps m:=fun v m=>Bf fun t ht=>xA fun hd=>a2 t hd ht;rw[cj] at kY
 have enough:∀m1,iB C fid callP callI (some b) ops j y st.tmps st.mem=some (vj,m1)->iB C fid callP callI (some b) ops i x st.tmps m1=some (vi,mj) ->
   ∃s1',fV C fid callP callI (some b) ops j st=some s1'/\fV C fid callP callI (some b) ops i s1'=some ⟨gK (gK st.tmps x.dst vi) y.dst vj,mj⟩:=by
  intro m1 e1 e2;refine ⟨⟨gK st.tmps y.dst vj,m1⟩,by simp[fV,hy,e1],?_⟩;simp only[fV,hx,ci,e2,aQ];rw[RQ a3]
 have nI:jz x=.N->mi=st.mem/\∀m',iB C fid callP callI (some b) ops i x st.tmps m'=some (vi,m'):=fun hc=>by
  rcases pM pI with ⟨hf,hall⟩|⟨rfl,hall⟩
  .obtain ⟨rfl,h⟩:=C7 hc hf;exact ⟨rfl,fun m'=>(hall m').trans (h m')⟩
  .exact ⟨rfl,hall⟩
 have nJ:jz y=.N->mj=mi/\∀m',iB C fid callP callI (some b) ops j y st.tmps m'=some (vj,m'):=fun hc=>by
  rcases pM kY with ⟨hf,hall⟩|⟨rfl,hall⟩
  .obtain ⟨rfl,h⟩:=C7 hc hf;exact ⟨rfl,fun m'=>(hall m').trans (h m')⟩
  .exact ⟨rfl,hall⟩
 have lI:jz x=.L->mi=st.mem/\∀m',qF st.mem m'->iB C fid callP callI (some b) ops i x st.tmps m'=some (vi,m'):=fun hc=>by
  rcases pM pI with ⟨hf,hall⟩|⟨rfl,hall⟩
  .obtain ⟨rfl,h⟩:=Ri (s:=b+gd ops i) hc hf;exact ⟨rfl,fun m' hm=>(hall m').trans (h _ m' hm)⟩
  .exact ⟨rfl,fun m' _=>hall m'⟩
 have kj:∀o,ops[j]?=some o->ow o=true->st.mem.get (b+gd ops j)=some .resv:=hk j aA
 have aMk:∀o:Oper,jz o=.A\/jz o=.Ap->ow o=true:=by
  intro o hc;unfold jz at hc;unfold ow
  cases bT:o.op<;>simp only[bT] at hc<;>first|rfl|(rcases hc with hc|hc<;>cases hc;done)|skip
  split at hc<;>first|(rcases hc with hc|hc<;>cases hc;done)|skip
  rename_i pX;simp[pX]
 cases n7:jz x with
 | N=>
  obtain ⟨rfl,hall⟩:=nI n7;exact enough mj kY (hall mj)
 | L=>
  obtain ⟨rfl,hall⟩:=lI n7
  cases kK:jz y with
  | N=>
   obtain ⟨rfl,_⟩:=nJ kK;exact enough _ kY (hall _ (qF.refl _))
  | L=>
   have:mj=st.mem:=by
    rcases pM kY with ⟨hf,_⟩|⟨rfl,_⟩
    .exact (Ri (s:=b+gd ops j) kK hf).1
    .rfl
   subst this;exact enough _ kY (hall _ (qF.refl _))
  | A=>
   refine enough mj kY (hall mj ?_)
   rcases pM kY with ⟨hf,_⟩|⟨rfl,_⟩
   .obtain ⟨e,rfl,_⟩:=KR (s:=b+gd ops j) kK hf;exact Ph (fun bx cs hh=>by rw[kj y hy (aMk y (.inl kK))] at hh;cases hh) (fun kk es hh=>by rw[kj y hy (aMk y (.inl kK))] at hh;cases hh)
   .exact qF.refl _
  | Ap=>
   refine enough mj kY (hall mj ?_)
   rcases pM kY with ⟨hf,_⟩|⟨rfl,_⟩
   .exact qsp (s:=b+gd ops j) kK (kj y hy (aMk y (.inr kK))) hf
   .exact qF.refl _
  | W=>
   have Fx:F3 x y=true:=by rw[n7,kK] at uR;simpa [ET] using uR
   unfold F3 at Fx
   split at Fx
   .rename_i tx xx ix okx qqF
    split at Fx
    .rename_i ty yy zy qqG
     have qqj:∀nm kk es,st.mem.get nm=some (.mp kk es)->mj.get nm=some (.mp kk es):=by
      rcases pM kY with ⟨hf,_⟩|⟨rfl,_⟩
      .exact qst qqG hf
      .exact fun _ _ _ h=>h
     refine enough mj kY ?_
     rcases pM pI with ⟨hf,Fh⟩|⟨_,Fh⟩
     .exact (Fh mj).trans ((qbf qqF hf).2 _ mj qqj)
     .exact Fh mj
    .cases Fx
   .cases Fx
 | A=>
  cases kK:jz y with
  | N=>
   obtain ⟨rfl,hall⟩:=nJ kK;exact enough _ (hall _) pI
  | A=>
   have fj:∃f:ai->ai,(∀m',iB C fid callP callI (some b) ops j y st.tmps m'=some (vj,f m'))/\((∀m',f m'=m')\/∃e,∀m',f m'=m'.set (b+gd ops j) (some e)):=by
    rcases pM kY with ⟨hf,hall⟩|⟨rfl,hall⟩
    .obtain ⟨e,_,h⟩:=KR (s:=b+gd ops j) kK hf;exact ⟨fun m'=>m'.set (b+gd ops j) (some e),fun m'=>(hall m').trans (h m'),.inr ⟨e,fun _=>rfl⟩⟩
    .exact ⟨id,hall,.inl fun _=>rfl⟩
   have fi:∃f:ai->ai,(∀m',iB C fid callP callI (some b) ops i x st.tmps m'=some (vi,f m'))/\((∀m',f m'=m')\/∃e,∀m',f m'=m'.set (b+gd ops i) (some e)):=by
    rcases pM pI with ⟨hf,hall⟩|⟨rfl,hall⟩
    .obtain ⟨e,_,h⟩:=KR (s:=b+gd ops i) n7 hf;exact ⟨fun m'=>m'.set (b+gd ops i) (some e),fun m'=>(hall m').trans (h m'),.inr ⟨e,fun _=>rfl⟩⟩
    .exact ⟨id,hall,.inl fun _=>rfl⟩
   obtain ⟨f,f1,f2⟩:=fi;obtain ⟨h,h1,h2⟩:=fj;have em:mi=f st.mem:=by have:=f1 st.mem;rw[pI] at this;simpa using this
   have ej:mj=h mi:=by have:=h1 mi;rw[kY] at this;simpa using this
   refine enough _ (h1 _) ?_;rw[f1,ej,em];congr 2;have hr:=qbO hx hy (aMk x (.inl n7)) (aMk y (.inl kK)) hne
   rcases f2 with f2|⟨e,f2⟩<;>rcases h2 with h2|⟨e',h2⟩<;>simp only[f2,h2]
   exact (List.set_comm _ _ (by omega)).symm
  | _=>exact absurd uR (by rw[n7,kK,QP (by rw[n7];simp)];simp[ET])
 | Ap=>
  cases kK:jz y with
  | N=>
   obtain ⟨rfl,hall⟩:=nJ kK;exact enough _ (hall _) pI
  | _=>exact absurd uR (by rw[n7,kK,QP (by rw[n7];simp)];simp[ET])
 | W=>
  cases kK:jz y with
  | N=>
   obtain ⟨rfl,hall⟩:=nJ kK;exact enough _ (hall _) pI
  | _=>exact absurd uR (by rw[n7,kK,QP (by rw[n7];simp)];simp[ET])
theorem first{b:Nat}{ops:Array Oper}{i:Nat}{x:Oper}(hx:ops[i]?=some x):∀(l:List Nat) (st s':St),l.Nodup->i∈l->vK ops b st.mem l->(∀(p q:List Nat),l=p++i::q->∀j∈p,∃y,ops[j]?=some y/\zb ops y x=true) ->
  iG C fid callP callI (some b) ops l st=some s'->∃s1,fV C fid callP callI (some b) ops i st=some s1/\iG C fid callP callI (some b) ops (l.erase i) s1=some s'
 | [],_,_,_,hi,_,_,_=>by simp at hi
 | j::l,st,s',hnd,hi,hk,yJ,hr=>by
  simp only[iG,bn] at hr;obtain ⟨s1,h1,hr⟩:=hr
  by_cases he:j=i
  .subst he;exact ⟨s1,h1,by simpa using hr⟩
  .have cE:i∈l:=by rcases gI.1 hi with h|h<;>first|exact absurd h.symm he|exact h
   have AM:=(uD.1 hnd)
   obtain ⟨s2,h2,yG⟩:=first hx l s1 s' AM.2 cE (Lp h1 (fun k ck=>hk k (by simp[ck])) AM.1) (fun p q gA k uX=>yJ (j::p) q (by rw[gA];rfl) k (by simp[uX])) hr
   obtain ⟨p,q,gA⟩:=BX cE;obtain ⟨y,hy,bc⟩:=yJ (j::p) q (by rw[gA];rfl) j aA
   obtain ⟨s1',k1,k2⟩:=swap hy hx he bc (fun k ck=>hk k (by
    simp only[gI,zK,or_false] at ck
    rcases ck with rfl|rfl
    .simp
    .simp[cE])) h1 h2
   refine ⟨s1',k1,?_⟩
   have Fp:(j::l).erase i=j::l.erase i:=by
    rw[List.erase_cons,an (by simpa using he)]
   rw[Fp];simp only[iG,k2,ae];exact yG
theorem WM(ops:Array Oper):∀n,(oK ops n).length=n
 | 0=>rfl
 | n+1=>by simp[oK,WM ops n]
theorem EI(ops:Array Oper)(i:Nat):∀n,i<n->(oK ops n).getD i 0=match ops[i]? with
  | some o=>(o.after.toList.filter (Region.binds .any)).foldl (fun s e=>s ||| (2^e.on ||| (oK ops i).getD e.on 0)) 0
  | none=>0
 | 0,h=>aa
 | n+1,h=>by
  simp only[oK,aT,rA,WM]
  by_cases hi:i<n
  .rw[aq hi];have:=EI ops i n hi;simpa [aT] using this
  .obtain rfl:i=n:=aa;simp[aT];cases ops[i]?<;>rfl
theorem X6(f:Edge->Nat)(j:Nat):∀(l:List Edge) (s:Nat),(l.foldl (fun s e=>s ||| (2^e.on ||| f e)) s).testBit j=true->s.testBit j=true\/∃e∈l,e.on=j\/(f e).testBit j=true
 | [],s,h=>.inl h
 | e::l,s,h=>by
  simp only[vP] at h
  rcases X6 f j l _ h with h|⟨e',Fo,h⟩
  .simp only[Nat.testBit_or,BE,Nat.testBit_two_pow,oM] at h
   rcases h with h|h|h
   .exact .inl h
   .exact .inr ⟨e,aA,.inl h⟩
   .exact .inr ⟨e,aA,.inr h⟩
  .exact .inr ⟨e',by simp[Fo],h⟩
theorem Jm{ops:Array Oper}{D:Nat->Prop}(hD:∀k o,D k->ops[k]?=some o->∀e∈o.after.toList,Region.binds .any e=true->D e.on)(hlt:∀k o,ops[k]?=some o->∀e∈o.after.toList,Region.binds .any e=true->e.on<k) :
  ∀(n i:Nat) (o:Oper),i<n->ops[i]?=some o->(∀e∈o.after.toList,Region.binds .any e=true->D e.on)->∀j,((oK ops n).getD i 0).testBit j=true->D j:=by
 intro n
 induction n with
 | zero=>intro i o h;omega
 | succ n ih=>
  intro i o hi ho he j hj;rw[EI ops i (n+1) hi,ho] at hj
  rcases X6 _ j _ _ hj with h|⟨e,hem,hj⟩
  .simp at h
  .obtain ⟨h1,h2⟩:=po.1 hem
   rcases hj with rfl|hj
   .exact he e h1 h2
   .have mH:=hlt i o ho e h1 h2
    rcases yC:ops[e.on]? with _|oe
    .rw[EI ops e.on i mH,yC] at hj;simp at hj
    .have h3:(oK ops i).getD e.on 0=(oK ops n).getD e.on 0:=by
      rw[EI ops e.on i mH,EI ops e.on n aa]
     rw[h3] at hj;exact ih e.on oe aa yC (fun e' Fo hb=>hD e.on oe (he e h1 h2) yC e' Fo hb) j hj
theorem qbl{ops:Array Oper}{ah:List Nat}:∀{l:List Nat},C9 ops ah l=true->∀(p q:List Nat) (i:Nat),l=p++i::q->∀j∈p,(ah.getD i 0).testBit j=true\/∃x y,ops[j]?=some x/\ops[i]?=some y/\zb ops x y=true
 | [],_,p,q,i,h,_,_=>by simp at h
 | k::l,hp,p,q,i,h,j,hj=>by
  simp only[C9,cD,gD] at hp
  match p,h with
  | k'::p,h=>
   simp only[b6,qj] at h;obtain ⟨rfl,rfl⟩:=h
   rcases gI.1 hj with rfl|hj
   .have:=hp.1 i aA
    rcases Bool.or_eq_true_iff.1 this with h|h
    .exact .inl h
    .refine .inr ?_
     split at h
     .exact ⟨_,_,by assumption,by assumption,h⟩
     .cases h
   .exact qbl hp.2 p q i rfl j hj
end
end Go.Ab
namespace Go.Ab
open Go.RowKit
def Pg:Ex->Exit
 | .normal=>.normal
 | .exit id=>.exit id
 | .ret=>.ret
section
variable [WInv] {C:Cfg} {B:Nat} {w:World} {g:G}
structure StR (B:Nat) (w:World) (g:G) (st:St) (a:Act):Prop where
 tmp:qJ w g st.tmps a.tmps
 mem:MemR B w g st.mem
 size:B<=w.heap.size
def s9(C:Cfg)(callI:Nat->List AV->ai->OM):Prop:=∀f args m v m',callI f args m=some (v,m')->uv C.P f args m v m'/\∃fn,C.P.funcs[f]?=some fn/\fn.body.isSome
theorem Ls(hC:CfgOk C){callI:Nat->List AV->ai->OM}(hI:s9 C callI){fid:Nat}{base:Option Nat}{ops:Array Oper}{i:Nat}{st s1:St}{a:Act}(h:fV C fid (jY callI) callI base ops i st=some s1)(hs:StR B w g st a)
  (hk:∀b,base=some b->vK ops b st.mem [i]) {Q:Exit->Act->World->Prop} {next:Act->World->Prop} (hn:∀a' w' g',StR B w' g' s1 a'->Step B w g w' g'->jk C.P a' a->next a' w'):wpOp C.P ops Q i next a w:=by
 obtain ⟨o,v,m1,ho,hr,rfl⟩:=uj h
 have pJ:gy C fid (jY callI) callI (base.map (· + gd ops i)) o (ev st.tmps) st.mem=some (v,m1)->o.wp C.P a w next Q:=by
  intro hf
  obtain ⟨v2,m2,hK,bT⟩:=qsv (a:=a) hC hI hf (XV hs.tmp) hs.mem hs.size (fun nb s hb=>by
   obtain ⟨b,hb1,rfl⟩:=iq.1 hb
   exact hk b hb1 i aA o ho nb)
  simp only[cg,fE] at hK;obtain ⟨rfl,rfl⟩:=hK
  exact bT next Q fun a1 v' w' g' ht hd s hm hv=>hn _ w' g' ⟨qJ.put (a:=a1) (by rw[ht];exact hs.tmp.step s) hv o.dst,hm,fC hs.size s.below.size⟩ s (jk.trans (jk.of_eq (qbI _ _ _)) hd)
 have FO:v=.tup []/\m1=st.mem->next (a.put o.dst undef) w:=by
  rintro ⟨rfl,rfl⟩;exact hn _ w g ⟨hs.tmp.put (.tup [] #[] rfl (fun j hj=>absurd hj (Nat.not_lt_zero j))) o.dst,hs.mem,hs.size⟩ (Step.refl _ _ _) (jk.of_eq (qbI _ _ _))
 unfold wpOp;simp only[ho];unfold iB at hr
 cases hg:o.guard with
 | none=>
  simp only[hg] at hr;have hw:Region.wanted o (yielded ops a.tmps)=true:=by simp[Region.wanted,hg]
  rw[hw,aq rfl];exact .inl (pJ hr)
 | some jw=>
  obtain ⟨j,want⟩:=jw;simp only[hg] at hr
  cases hd:(ops[j]?).bind (·.dst) with
  | none=>simp[hd] at hr
  | some d=>
   simp only[hd] at hr
   cases FN:y9 ops st.tmps j with
   | true=>
    simp only[FN] at hr
    cases hv:st.tmps.getD d .any with
    | tup cs=>
     simp only[hv] at hr
     cases cs with
     | nil=>
      have hV:=hs.tmp.2 d;rw[hv] at hV
      have hy:yielded ops a.tmps j=none:=by
       unfold yielded;rw[hd];simp only[ae];generalize hx:a.tmps.getD d undef=x at hV;cases hV;rw[jX] at hx
       cases hq:a.tmps[d]? with
       | none=>rfl
       | some y=>rw[hq] at hx;simp only[fk] at hx;rw[hx]
      have hw:Region.wanted o (yielded ops a.tmps)=false:=by simp only[Region.wanted,hg,hy];rfl
      rw[hw];simp only[cg,fE] at hr;exact FO ⟨hr.1.symm,hr.2.symm⟩
     | cons c cs=>simp only at hr;cases hr
    | _=>simp only[hv] at hr;cases hr
   | false=>
   simp only[FN] at hr
   cases hv:st.tmps.getD d .any with
   | bool b=>
    simp only[hv] at hr;have hV:=hs.tmp.2 d;rw[hv] at hV
    have hy:yielded ops a.tmps j=some b:=by
     unfold yielded;rw[hd];simp only[ae];generalize hx:a.tmps.getD d undef=x at hV;cases hV
     have:a.tmps[d]?=some (.bool b):=by
      rw[jX] at hx
      cases hq:a.tmps[d]? with
      | none=>rw[hq] at hx;cases hx
      | some y=>rw[hq] at hx;simpa using hx
     rw[this]
    have hw:Region.wanted o (yielded ops a.tmps)=(some b==some want):=by simp only[Region.wanted,hg,hy]
    by_cases hb:b=want
    .rw[aq hb] at hr;have:(some b==some want)=true:=by simpa using hb
     rw[hw,this,aq rfl];exact .inl (pJ hr)
    .rw[an hb] at hr;have:(some b==some want)=false:=by simpa using hb
     rw[hw,this];simp only[cg,fE] at hr;exact FO ⟨hr.1.symm,hr.2.symm⟩
   | _=>simp only[hv] at hr;cases hr
theorem qbX(hC:CfgOk C){callI:Nat->List AV->ai->OM}(hI:s9 C callI){fid:Nat}{ops:Array Oper}{Q:Exit->Act->World->Prop}:∀(l:List Nat) (st s':St) (a:Act) (w:World) (g:G),iG C fid (jY callI) callI none ops l st=some s'->StR B w g st a ->
  (∀a' w' g',StR B w' g' s' a'->Step B w g w' g'->jk C.P a' a->Q .normal a' w')->wpOps C.P ops Q l a w
 | [],st,s',a,w,g,h,hs,hn=>by
  simp only[iG,cg] at h;subst h;exact hn a w g hs (Step.refl _ _ _) (jk.refl _ _)
 | i::l,st,s',a,w,g,h,hs,hn=>by
  simp only[iG,bn] at h;obtain ⟨s1,h1,h⟩:=h;rw[wpOps_cons];exact Ls hC hI h1 hs (fun b hb=>by cases hb) fun a' w' g' gS s hd=>qbX hC hI l s1 s' a' w' g' h gS fun a'' w'' g'' tR s' lP=>hn a'' w'' g'' tR (s.trans s') (lP.trans hd)
theorem Kw:∀(l:List Nat),l≠[]->∃mn∈l,∀x∈l,mn<=x
 | [],h=>absurd rfl h
 | [x],_=>⟨x,aA,aA⟩
 | x::y::l,_=>by
  obtain ⟨mn,h1,h2⟩:=Kw (y::l) aA
  by_cases hx:x<=mn
  .exact ⟨x,aA,fun z hz=>by
    rcases gI.1 hz with rfl|hz
    .exact aR _
    .exact fC hx (h2 z hz)⟩
  .exact ⟨mn,fW _ h1,fun z hz=>by
    rcases gI.1 hz with rfl|hz
    .omega
    .exact h2 z hz⟩
theorem qlV(hC:CfgOk C){callI:Nat->List AV->ai->OM}(hI:s9 C callI){fid b:Nat}{ops:Array Oper}{Q:Exit->Act->World->Prop}{canon:List Nat}(hlt:∀k o,ops[k]?=some o->∀e∈o.after.toList,Region.binds .any e=true->e.on<k)
  (CK:C9 ops (wh ops) canon=true) (hnd:canon.Nodup):∀(l:List Nat) (n:Nat),l.length=n->l.Sublist canon->∀(listed:Array Bool),listed.size=ops.size->(∀x,x<ops.size->(listed.getD x true=true↔x∉l))->(∀x∈l,x<ops.size) ->
  (∀k o,k<ops.size->k∉l->ops[k]?=some o->∀e∈o.after.toList,Region.binds .any e=true->e.on∉l) ->
  ∀(st s':St) (a:Act) (w:World) (g:G),iG C fid (jY callI) callI (some b) ops l st=some s'->vK ops b st.mem l->StR B w g st a ->
  (∀a' w' g',StR B w' g' s' a'->Step B w g w' g'->jk C.P a' a->Q .normal a' w')->wpAny C.P .any ops Q n listed a w:=by
 intro l n hn
 induction n generalizing l with
 | zero=>
  intro hJ listed hsz jK hin sG st s' a w g hr hk hs hq;have wP:l=[]:=oF hn;subst wP;simp only[iG,cg] at hr;subst hr;refine ⟨?_,hq a w g hs (Step.refl _ _ _) (jk.refl _ _)⟩;unfold Region.ready;rw[List.filter_eq_nil_iff];intro x hx;have:listed.getD x true=true:=(jK x (by simpa using hx)).2 aA;simp[this]
 | succ n ih=>
  intro hJ listed hsz jK hin sG st s' a w g hr hk hs hq
  have FI:∀i∈Region.ready .any ops listed,i∈l/\i<ops.size/\∃o,ops[i]?=some o/\∀e∈o.after.toList,Region.binds .any e=true->e.on∉l:=by
   intro i hi;unfold Region.ready at hi;simp only[po,vV,cD,zp] at hi;obtain ⟨h1,h2,h3⟩:=hi
   have cE:i∈l:=by
    by_cases h:i∈l
    .exact h
    .have:=(jK i h1).2 h;rw[this] at h2;cases h2
   refine ⟨cE,h1,ops[i],by simp[h1],fun e he hb mK=>?_⟩;have ho:ops[i]?=some ops[i]:=by simp[h1]
   rw[ho] at h3;simp only[aQ,fk] at h3;have h4:=s6.1 h3 e (by simpa using he);simp only[hb,jj,uu] at h4;have h5:=hlt i _ ho e he hb
   have h6:listed.getD e.on true=true:=by
    have hes:e.on<listed.size:=aa;simp only[Array.getD,hes,dif_pos] at h4 ⊢;exact h4
   exact (jK e.on (by omega)).1 h6 mK
  refine ⟨fun FC=>?_,fun i hi=>?_⟩
  ·
   exfalso;have hne:l≠[]:=fun h=>by rw[h] at hn;simp at hn
   obtain ⟨mn,yx,AJ⟩:∃mn∈l,∀x∈l,mn<=x:=by
    exact Kw l hne
   have j0:=hin mn yx
   have:mn∈Region.ready .any ops listed:=by
    unfold Region.ready;simp only[po,vV,cD,zp]
    refine ⟨j0,?_,?_⟩
    .cases hb:listed.getD mn true with
     | false=>rfl
     | true=>exact absurd yx ((jK mn j0).1 hb)
    .have ho:ops[mn]?=some ops[mn]:=by simp[j0]
     rw[ho];simp only[aQ,fk];rw[s6];intro e he
     by_cases hb:Region.binds .any e=true
     .have h5:=hlt mn _ ho e (by simpa using he) hb;have h6:e.on∉l:=fun h=>by have:=AJ _ h;omega
      have h7:=(jK e.on (by omega)).2 h6;have hes:e.on<listed.size:=aa
      have h8:listed.getD e.on false=true:=by
       simp only[Array.getD,hes,dif_pos] at h7 ⊢;exact h7
      rw[h8];simp
     .simp at hb;simp[hb]
   rw[FC] at this;simp at this
  .obtain ⟨cE,kL,x,hx,wI⟩:=FI i hi
   obtain ⟨s1,h1,h2⟩:=first hx l st s' (hnd.sublist hJ) cE hk (fun p q gA j hj=>by
    obtain ⟨pre,post,uQ⟩:∃pc qc,canon=pc++i::qc/\∀y∈p,y∈pc:=by
     rw[gA] at hJ;obtain ⟨c1,c2,hc,jL,kM⟩:=List.append_sublist_iff.1 hJ
     obtain ⟨d1,d2,hd,hdi⟩:∃d1 d2,c2=d1++i::d2/\True:=by
      have:=kM.subset (gj);obtain ⟨d1,d2,hd⟩:=BX this;exact ⟨d1,d2,hd,trivial⟩
     exact ⟨c1++d1,d2,by rw[hc,hd];simp,fun y hy=>hZ.2 (.inl (jL.subset hy))⟩
    rcases qbl CK pre post i uQ.1 j (uQ.2 j hj) with h|⟨y,x',hy,iP,bc⟩
    .exfalso;have gz:((oK ops ops.size).getD i 0).testBit j=true:=h
     have:=Jm (D:=fun k=>k∉l) (fun k o ck lR e he hb=>by
      rcases sq k ops.size with hk1|hk1
      .exact sG k o hk1 ck lR e he hb
      .rw[DD hk1] at lR;cases lR) hlt ops.size i x kL hx wI j gz
     exact this (by rw[gA];simp[hj])
    .obtain rfl:x=x':=by simpa [hx] using iP
     exact ⟨y,hy,bc⟩) hr
   refine Ls hC hI h1 hs (fun b' gO=>by cases gO;exact fun k ck=>hk k (by simp at ck;rw[ck];exact cE)) fun a' w' g' gS s hd=>?_
   have gz:∀y,y∈l.erase i↔y∈l/\y≠i:=fun y=>by
    rw[(hnd.sublist hJ).mem_erase_iff];exact And.comm
   refine ih (l.erase i) (by rw[List.length_erase_of_mem cE];omega) (List.Sublist.trans List.erase_sublist hJ) (listed.setIfInBounds i true) (by simpa using hsz) (fun y hy=>?_) (fun y hy=>hin y ((gz y).1 hy).1) (fun k o hk1 jB lR e he hb mK=>?_) s1 s' a' w' g' h2 (fun k ck o ho hm=>?_) gS fun a'' w'' g'' tR s' lP=>hq a'' w'' g'' tR (s.trans s') (lP.trans hd)
   .have qY:y<listed.size:=aa
    have hg:(listed.setIfInBounds i true).getD y true=if i=y then true else listed.getD y true:=by
     simp only[jX,G2]
     by_cases nP:i=y
     .subst nP;simp[qY]
     .simp[nP]
    rw[hg,gz]
    by_cases nP:i=y
    .subst nP;simp
    .rw[an nP,jK y hy]
     constructor
     .intro h h';exact h h'.1
     .intro h h';exact h ⟨h',fun he=>nP he.symm⟩
   .have yE:=(gz _).1 mK
    by_cases jx:k=i
    .subst jx;obtain rfl:x=o:=by simpa [hx] using lR
     exact wI e he hb yE.1
    .exact sG k o hk1 (fun h=>jB ((gz k).2 ⟨h,jx⟩)) lR e he hb yE.1
   .exact Lp h1 (fun k' P5=>hk k' ((gz k').1 P5).1) (fun h=>((gz i).1 h).2 rfl) k ck o ho hm
theorem qaR{m:ai}(hm:MemR B w g m):∀k,MemR B w g (m++List.replicate k (some .resv)):=by
 intro k
 have aU:∀x,ai.get (m++List.replicate k (some .resv)) x=if x<m.length then m.get x else if x<m.length+k then some .resv else none:=by
  intro x;unfold ai.get;rw[rA]
  by_cases h1:x<m.length
  .rw[aq h1,aq h1]
  .rw[an h1,an h1,BZ]
   by_cases h2:x<m.length+k
   .rw[aq aa,aq h2];rfl
   .rw[an aa,an h2];rfl
 have old:∀x e,ai.get (m++List.replicate k (some .resv)) x=some e->m.get x=some e\/(e=.resv/\m.length<=x):=by
  intro x e he;rw[aU] at he
  split at he
  .exact .inl he
  .split at he
   .simp at he;exact .inr ⟨he.symm,aa⟩
   .cases he
 have hblk:∀x b,bj g (m++List.replicate k (some .resv)) x=some b->bj g m x=some b:=by
  intro x b hb
  rcases qK hb with ⟨bx,cs,h1,h2⟩|⟨n,sz,h1,h2⟩|⟨kk,es,h1,h2⟩
  .rcases old _ _ h1 with h|⟨h,_⟩
   .simp[bj,h,h2]
   .cases h
  .rcases old _ _ h1 with h|⟨h,_⟩
   .simp[bj,h,h2]
   .cases h
  .rcases old _ _ h1 with h|⟨h,_⟩
   .simp[bj,h,h2]
   .cases h
 refine ⟨fun nm bx cs h=>?_,fun nm n sz h=>?_,fun nm h=>?_,fun nm h=>?_,fun nm nm' b h1 h2=>hm.inj nm nm' b (hblk _ _ h1) (hblk _ _ h2),hm.wrLt,hm.inv,hm.boxLt,fun nm kk es h=>by
  rcases old _ _ h with h|⟨h,_⟩
  .exact hm.mp nm kk es h
  .cases h⟩
 .rcases old _ _ h with h|⟨h,_⟩
  .exact hm.obj nm bx cs h
  .cases h
 .rcases old _ _ h with h|⟨h,_⟩
  .exact hm.tok nm n sz h
  .cases h
 .rcases old _ _ h with h|⟨_,h⟩
  .exact hm.resv nm h
  .exact hm.fresh nm h
 .exact hm.fresh nm (by simp at h;omega)
theorem qbR(m:ai)(c:Nat):bV m c=m++List.replicate c (some .resv):=by
 cases c with
 | zero=>simp[bV]
 | succ c=>rfl
theorem ZY(ops:Array Oper)(m:ai)(l:List Nat):vK ops m.length (m++List.replicate (gd ops ops.size) (some .resv)) l:=by
 intro i _ o ho hm;have hi:=(fP.1 ho).1
 have hlt:gd ops i<gd ops ops.size:=by
  have cE:i<ops.toList.length:=by simpa using hi
  have h1:gd ops (i+1)=gd ops i+1:=by
   unfold gd
   have he:ops.toList[i]=o:=by
    have:=(fP.1 ho).2;simpa using this
   rw[mU cE,List.filter_append,aW,he];simp[hm]
  have h2:gd ops (i+1)<=gd ops ops.size:=by
   unfold gd;have:ops.toList.take (i+1)=(ops.toList.take ops.size).take (i+1):=by rw[List.take_take];congr 1;omega
   rw[this];exact List.Sublist.length_le ((List.take_sublist _ _).filter _)
  omega
 unfold ai.get;rw[td aa,BZ,aq aa]
 rfl
theorem qo7(hC:CfgOk C){callI:Nat->List AV->ai->OM}(hI:s9 C callI){R:Type}{fid id:Nat}{ops:Array Oper}{Q:Exit->Act->World->Prop}{canon:List Nat}(bc:JL C.P ops canon=true){st:St}{K:St->Option R}{r:R}{a:Act}
  (h:nA C fid (jY callI) callI (some st.mem.length) ops canon ⟨st.tmps,bV st.mem (gd ops ops.size)⟩ K=some r) (hs:StR B w g st a)
  (hn:∀s' a' w' g',K s'=some r->StR B w' g' s' a'->Step B w g w' g'->jk C.P a' a->Q .normal a' w'):(Code.region id ops true).wp C.P Q a w:=by
 unfold JL at bc;simp only[cD] at bc;obtain ⟨⟨⟨h1,h2⟩,h3⟩,h4⟩:=bc;have mL:canon.Perm (List.range ops.size):=List.isPerm_iff.1 h2
 have hlt:∀k o,ops[k]?=some o->∀e∈o.after.toList,Region.binds .any e=true->e.on<k:=by
  intro k o hk e he hb;have fZ:=(fP.1 hk).1;have:=gD.1 h3 k (by simpa using fZ);rw[hk] at this;simp only at this;have:=s6.1 this e (by simpa using he);simpa [hb] using this
 rw[ud,qbR] at h;simp only[bn] at h;obtain ⟨s',hr,hK⟩:=h;refine wp_region_any h1 ?_
 refine qlV hC hI hlt h4 (mL.nodup_iff.2 List.nodup_range) canon ops.size (by rw[mL.length_eq];simp) (List.Sublist.refl _) _ aA (fun x hx=>?_) (fun x hx=>by simpa using mL.mem_iff.1 hx) (fun k o hk ck=>?_) _ s' a _ g hr (ZY ops st.mem canon) ⟨hs.tmp.step (Step.drew B w g),qaR (B:=B) (w:=w.drew) (g:=g) hs.mem.drew _,hs.size⟩ ?_
 .have:x∈canon:=mL.mem_iff.2 (by simpa using hx);simp[this,Array.getD,hx]
 .exact absurd (mL.mem_iff.2 (by simpa using hk)) ck
 .intro a' w' g' gS s hd;exact hn s' a' w' g' hK gS ((Step.drew B w g).trans s) hd
theorem KF:∀(bs:List Bool) (ts:List AV) (t:Nat),(qA bs ts).length=ts.length/\((qA bs ts).getD t .any=ts.getD t .any\/(qA bs ts).getD t .any=.any)
 | bs,[],t=>by cases bs<;>simp[qA]
 | [],v::vs,t=>by
  have ih:=KF [] vs;refine ⟨by simp[qA,(ih 0).1],?_⟩
  cases t with
  | zero=>simp[qA]
  | succ t=>simpa [qA] using (ih t).2
 | b::bs,v::vs,t=>by
  have ih:=KF bs vs;refine ⟨by simp[qA,(ih 0).1],?_⟩
  cases t with
  | zero=>cases b<;>simp[qA]
  | succ t=>simpa [qA] using (ih t).2
theorem qJ.mask{ts:List AV}{vs:Array Value}(h:qJ w g ts vs)(bs:List Bool):qJ w g (qA bs ts) vs:=
 ⟨(KF bs ts 0).1.trans h.1,fun t=>by
  rcases (KF bs ts t).2 with h'|h'
  .rw[h'];exact h.2 t
  .rw[h'];exact .any _⟩
def LW(P:Program)(c:Code)(Q:Exit->Act->World->Prop)(a:Act)(w:World):Prop:=
 ∀(b:Frame) (k:List Item) (cs:List Frame),∃e a' w',Q e a' w'/\Arrives P (lone (b.at a (.inLoop c::k)) cs w) b k cs e a' w'
theorem qaB{P:Program}{c:Code}{Q:Exit->Act->World->Prop}{a:Act}{w:World}(h:c.wp P (Exit.then (LW P c Q) Q) a w)(m:List Item->Item)(b:Frame)(k:List Item)(cs:List Frame)
  (hm:step P (lone (b.at a (m k::k)) cs w)=.next (lone (b.at a (.code c :: .inLoop c::k)) cs w)):∃e a' w',Q e a' w'/\Arrives P (lone (b.at a (m k::k)) cs w) b k cs e a' w':=by
 obtain ⟨e,a₁,w₁,hq,Cx⟩:=h b (.inLoop c::k) cs
 cases e with
 | normal=>
  obtain ⟨e₂,a₂,w₂,hq₂,qpZ⟩:=hq b k cs;exact ⟨e₂,a₂,w₂,hq₂,.of_steps (.head hm Cx) qpZ⟩
 | exit id=>exact ⟨_,a₁,w₁,hq,.of_steps (.one hm) (.pass (x:=.inLoop c) rfl (fun _ _=>.inl aA) Cx)⟩
 | goto l=>exact ⟨_,a₁,w₁,hq,.of_steps (.one hm) (.pass (x:=.inLoop c) rfl (fun _ _=>.inl aA) Cx)⟩
 | ret=>exact ⟨_,a₁,w₁,hq,.of_steps (.one hm) (.pass (x:=.inLoop c) rfl (fun _ _=>.inl aA) Cx)⟩
 | panic ch=>exact ⟨_,a₁,w₁,hq,.of_steps (.one hm) (.pass (x:=.inLoop c) rfl (fun _ _=>.inl aA) Cx)⟩
 | outgrown=>exact ⟨_,a₁,w₁,hq,.of_steps (.one hm) (.pass (x:=.inLoop c) rfl (fun _ _=>.inl aA) Cx)⟩
theorem quO{P:Program}{c:Code}{Q:Exit->Act->World->Prop}{a:Act}{w:World}(h:c.wp P (Exit.then (LW P c Q) Q) a w):(Code.loop c).wp P Q a w:=fun b k cs=>qaB h (fun _=>.code (.loop c)) b k cs step_loop
theorem qrN{P:Program}{c:Code}{Q:Exit->Act->World->Prop}{a:Act}{w:World}(h:c.wp P (Exit.then (LW P c Q) Q) a w):LW P c Q a w:=fun b k cs=>qaB h (fun _=>.inLoop c) b k cs step_inLoop
def L9(C:Cfg)(B:Nat){R:Type}(w:World)(g:G)(a:Act)(K:Ex->St->Option R)(r:R)(Q:Exit->Act->World->Prop):Prop:=
 ∀e st' a' w' g',K e st'=some r->StR B w' g' st' a'->Step B w g w' g'->jk C.P a' a->Q (Pg e) a' w'
def K8(vs:Array Value):ResultVar->Sem Value
 | .tmp t=>pure (vs.getD t undef)
 | .cell a t=>do loadVar t (<- asAddr (vs.getD a undef))
theorem qtc(fn:Func)(vs:Array Value):results fn vs=(do let l <- fn.results.mapM (K8 vs);pure (if h:l.size=1 then l[0] else .tuple l)):=rfl
theorem qbS{P:Program}{m:ai}(hm:MemR B w g m){ts:List AV}{vs:Array Value}(ht:qJ w g ts vs):∀(rs:List ResultVar) (l:List AV),vy P m ts rs=some l ->
  ∃vl:List Value,(rs.mapM (K8 vs)).run P w=.ok vl w/\vl.length=l.length/\∀j,j<l.length->V w g (l.getD j .any) (vl.getD j undef)
 | [],l,h=>by simp only[vy,cg] at h;subst h;exact ⟨[],aA,rfl,aA⟩
 | r::rs,l,h=>by
  simp only[vy,bn,iq] at h;obtain ⟨v,hv,l',AF,rfl⟩:=h;obtain ⟨vl,h1,h2,h3⟩:=qbS hm ht rs l' AF
  have CJ:∃v',(K8 vs r).run P w=.ok v' w/\V w g v v':=by
   cases r with
   | tmp t=>simp only[Gt,cg] at hv;subst hv;exact ⟨_,rfl,ht.2 t⟩
   | cell a t=>
    simp only[Gt,bn] at hv;obtain ⟨sh,hsh,hv⟩:=hv;obtain ⟨v',hr,hV⟩:=qaz (P:=P) hm (ht.2 a) hv t hsh;refine ⟨v',?_,hV⟩;unfold Instr.loadAt at hr;unfold aj at hv
    have hp:∃p,vs.getD a undef=.pointer (some p):=by
     have Cw:=ht.2 a
     split at hv
     .rename_i he;rw[he] at Cw;generalize vs.getD a undef=x at Cw;cases Cw;exact ⟨_,rfl⟩
     .rename_i he;rw[he] at Cw;generalize vs.getD a undef=x at Cw;cases Cw;exact ⟨_,rfl⟩
     .cases hv
    obtain ⟨p,hp⟩:=hp;rw[hp] at hr
    have wY:K8 vs (.cell a t)=(do loadVar t (<- asAddr (.pointer (some p)))):=by
     show (do loadVar t (<- asAddr (vs.getD a undef)):Sem Value)=_
     rw[hp]
    rw[wY];simpa [Instr.sureAddr,asAddr] using hr
  obtain ⟨v',e1,e2⟩:=CJ
  refine ⟨v'::vl,?_,by simp[h2],fun j hj=>?_⟩
  .rw[List.mapM_cons];simp only[Sem.run_bind,e1,Result.andThen_ok,h1,Sem.run_pure]
  .cases j with
   | zero=>simpa using e2
   | succ j=>simpa using h3 j (by simpa using hj)
theorem K9{R:Type}(P:Program)(m:ai)(ts:List AV):∀(rs:List ResultVar) (K:List AV->Option R),Bn P m ts rs K=(vy P m ts rs).bind K
 | [],K=>rfl
 | .tmp t::rs,K=>by
  simp only[Bn,vy,Gt,ae,K9 P m ts rs];cases vy P m ts rs<;>rfl
 | .cell a t::rs,K=>by
  simp only[Bn,vy,Gt]
  cases jG P t with
  | none=>rfl
  | some sh=>
   simp only[ae,K9 P m ts rs]
   cases aj sh m (ts.getD a .any) with
   | none=>rfl
   | some v=>
    simp only[ae];cases vy P m ts rs<;>rfl
theorem qso{l:List AV}{vl:List Value}(h2:vl.length=l.length)(h3:∀j,j<l.length->V w g (l.getD j .any) (vl.getD j undef)):V w g (Gk l) (if h:vl.toArray.size=1 then vl.toArray[0] else .tuple vl.toArray):=by
 match l,vl,h2 with
 | [],[],_=>exact .tup [] #[] rfl aA
 | [x],[y],_=>simpa [Gk] using h3 0 aA
 | x::x'::l,y::y'::vl,h2=>
  have:¬ (y::y'::vl).toArray.size=1:=aA;rw[dif_neg this];refine .tup _ _ (by simp at h2 ⊢;omega) fun j hj=>?_;have:=h3 j hj;simpa [aT,jX] using this
end
end Go.Ab
namespace Go.Ab
open Go.RowKit
def ZQ{R:Type}(b:Bool)(x:Option R):Option R:=match b with
 | true=>x
 | false=>none
def Af(y x:Oper):Option (Bool×Nat×Nat×Nat×Nat):=match y.guard with
 | some _=>none
 | none=>match x.guard with
  | some _=>none
  | none=>match x.dst with
   | some _=>none
   | none=>match x.op with
    | .store t2 (.tmp u) _=>match y.op with
     | .load t1 (.tmp t)=>some (true,t1,t,t2,u)
     | .store t1 (.tmp t) _=>match y.dst with
      | none=>some (false,t1,t,t2,u)
      | some _=>none
     | _=>none
    | _=>none
def OR(n1 n2:Nat)(x y:AV):Bool:=match x,y with
 | .ptr a o,.ptr b p=>!(a==b)||(decide (o+n1<=p)||decide (p+n2<=o))
 | _,_=>false
def Gg(x y:AV):Bool:=match y with
 | .ptr b _=>match x with
  | .vptr _=>true
  | .ptr a _=>!(a==b)
  | _=>false
 | _=>false
def E0(P:Program)(c:Bool×Nat×Nat×Nat×Nat)(ts:List AV):Bool:=match c with
 | (b,t1,t,t2,u)=>match b with
  | true=>Gg (ts.getD t .any) (ts.getD u .any)
  | false=>match jG P t1 with
   | none=>false
   | some s1=>match jG P t2 with
    | none=>false
    | some s2=>OR s1.size s2.size (ts.getD t .any) (ts.getD u .any)
def EZ(P:Program)(ops:Array Oper)(j i:Nat)(ts:List AV):Bool:=match ops[j]? with
 | none=>false
 | some y=>match ops[i]? with
  | none=>false
  | some x=>match Af y x with
   | none=>false
   | some c=>E0 P c ts
def um{R:Type}(P:Program)(ops:Array Oper)(st:St)(K:St->Option R):List (Nat×Nat)->Option R
 | []=>K st
 | (j,i)::sp=>match EZ P ops j i st.tmps with
  | true=>um P ops st K sp
  | false=>none
def O3(ops:Array Oper)(ah:List Nat)(j i:Nat)(r:List Nat):Bool:=match ops[j]? with
 | none=>false
 | some y=>match ops[i]? with
  | none=>false
  | some x=>match Af y x with
   | none=>false
   | some (_,_,t,_,u)=>xX ops y x&&r.all (fun k=>match ops[k]? with|some o=>o.dst != some t&&(o.dst != some u||(ah.getD i 0).testBit k)|none=>true)
def Az:List (Nat×Nat)->Nat->Nat->Bool
 | [],_,_=>false
 | (a,b)::l,j,i=>match Nat.beq a j&&Nat.beq b i with
  | true=>true
  | false=>Az l j i
def Da(ops:Array Oper)(ah:List Nat)(sp:List (Nat×Nat)):List Nat->Bool
 | []=>true
 | j::l=>l.all (fun i=>(ah.getD i 0).testBit j||(match ops[j]?,ops[i]? with|some x,some y=>zb ops x y|_,_=>false)||(Az sp j i&&O3 ops ah j i (j::l)))&&Da ops ah sp l
def Ak(P:Program)(ops:Array Oper)(l ah:List Nat)(sp:List (Nat×Nat)):Bool:=match sp with
 | []=>Pc P ops l ah
 | _::_=>P.follows .mixedOrders&&(l.isPerm (List.range ops.size)&&((List.range ops.size).all (fun i=>(match ops[i]? with|some o=>o.after.all fun e=>!Region.binds .any e||decide (e.on<i)|none=>false))&&(Nat.beq ah.length ops.size&&((List.range ops.size).all (EH ops ah)&&Da ops ah sp l))))
theorem qcO{R:Type}{P:Program}{ops:Array Oper}{st:St}{K:St->Option R}{r:R}:∀sp:List (Nat×Nat),um P ops st K sp=some r->K st=some r/\∀j i,Az sp j i=true->EZ P ops j i st.tmps=true
 | [],h=>⟨h,fun _ _ h'=>by simp[Az] at h'⟩
 | (a,b)::sp,h=>by
  simp only[um] at h
  split at h
  .rename_i hd;obtain ⟨h1,h2⟩:=qcO sp h;refine ⟨h1,fun j i h'=>?_⟩;simp only[Az] at h'
   split at h'
   .rename_i hb;simp only[cD] at hb;obtain rfl:=rC hb.1;obtain rfl:=rC hb.2;exact hd
   .exact h2 j i h'
  .cases h
theorem quw{R:Type}(P:Program)(ops:Array Oper)(st:St)(sp:List (Nat×Nat)):(∀K:St->Option R,um P ops st K sp=none)\/(∀K:St->Option R,um P ops st K sp=K st):=by
 induction sp with
 | nil=>exact .inr fun K=>rfl
 | cons p sp ih=>
  obtain ⟨a,b⟩:=p
  cases hd:EZ P ops a b st.tmps with
  | true=>
   rcases ih with h|h
   .exact .inl fun K=>by simp only[um,hd];exact h K
   .exact .inr fun K=>by simp only[um,hd];exact h K
  | false=>exact .inl fun K=>by simp only[um,hd]
section
variable [WInv] {C:Cfg} {B:Nat} {w:World} {g:G}
theorem OP{ops:Array Oper}{ah:List Nat}(hl:ah.length=ops.size)(hlt:∀i o,ops[i]?=some o->∀e∈o.after.toList,Region.binds .any e=true->e.on<i)
  (h:∀i,i<ops.size->EH ops ah i=true):∀n,n<=ops.size->oK ops n=ah.take n:=by
 intro n
 induction n with
 | zero=>intro _;simp[oK]
 | succ n ih=>
  intro hn;have ih:=ih aa;have hx:n<ah.length:=aa;rw[oK,ih,List.take_add_one,bP hx];have ho:ops[n]?=some ops[n]:=DC aa;rw[ho];have iC:=h n aa;unfold EH at iC;rw[ho,bP hx] at iC;simp only at iC;have iC:=rC iC;simp only[Option.toList_some,List.append_cancel_left_eq,qj,and_true];rw[iC,<- Array.foldl_toList]
  have:∀(l:List Edge) (s:Nat),(∀e∈l,Region.binds .any e=true->e.on<n)->List.foldl (fun s e=>s ||| (2^e.on ||| (List.take n ah).getD e.on 0)) s (l.filter (Region.binds .any))=List.foldl (fun s e=>match Region.binds .any e with
    | true=>s ||| (2^e.on ||| ah.getD e.on 0)
    | false=>s) s l:=by
   intro l
   induction l with
   | nil=>intro s _;rfl
   | cons e l ihl=>
    intro s hs;have ht:=fun s=>ihl s fun e' Fo=>hs e' (by simp[Fo])
    cases hb:Region.binds .any e with
    | true=>
     have:=hs e aA hb;rw[List.filter_cons_of_pos (by simpa using hb)];simp only[vP,hb];rw[ht];congr 3;simp only[aT,rB,aq this]
    | false=>
     rw[List.filter_cons_of_neg (by simp[hb])];simp only[vP,hb];rw[ht]
  exact this _ 0 (hlt n _ ho)
theorem qo4{P:Program}{ops:Array Oper}{l ah:List Nat}(h:Pc P ops l ah=true):JL P ops l=true:=by
 unfold Pc at h;simp only[cD] at h;obtain ⟨h1,h2,h3,h4,h5,h6⟩:=h
 have hlt:∀k o,ops[k]?=some o->∀e∈o.after.toList,Region.binds .any e=true->e.on<k:=by
  intro k o hk e he hb;have fZ:=(fP.1 hk).1;have:=gD.1 h3 k (by simpa using fZ);rw[hk] at this;simp only at this;have:=s6.1 this e (by simpa using he);simpa [hb] using this
 have yn:=OP (rC h4) hlt (fun i hi=>gD.1 h5 i (by simpa using hi)) ops.size (aR _);rw[iX (by rw[rC h4];exact aR _)] at yn;unfold JL;simp only[cD];refine ⟨⟨⟨h1,h2⟩,h3⟩,?_⟩;unfold wh;rw[yn];exact h6
theorem qo3{P:Program}{ops:Array Oper}{l ah:List Nat}{p:Nat×Nat}{sp:List (Nat×Nat)}(h:Ak P ops l ah (p::sp)=true):P.follows .mixedOrders=true/\l.isPerm (List.range ops.size)=true /\
  ((List.range ops.size).all (fun i=>(match ops[i]? with|some o=>o.after.all fun e=>!Region.binds .any e||decide (e.on<i)|none=>false)))=true/\Da ops (wh ops) (p::sp) l=true:=by
 unfold Ak at h;simp only[cD] at h;obtain ⟨h1,h2,h3,h4,h5,h6⟩:=h
 have hlt:∀k o,ops[k]?=some o->∀e∈o.after.toList,Region.binds .any e=true->e.on<k:=by
  intro k o hk e he hb;have fZ:=(fP.1 hk).1;have:=gD.1 h3 k (by simpa using fZ);rw[hk] at this;simp only at this;have:=s6.1 this e (by simpa using he);simpa [hb] using this
 have yn:=OP (rC h4) hlt (fun i hi=>gD.1 h5 i (by simpa using hi)) ops.size (aR _);rw[iX (by rw[rC h4];exact aR _)] at yn;refine ⟨h1,h2,h3,?_⟩;unfold wh;rw[yn];exact h6
theorem qoT{y x:Oper}{b:Bool}{t1 t t2 u:Nat}(h:Af y x=some (b,t1,t,t2,u)):y.guard=none/\x.guard=none/\x.dst=none/\(∃v,x.op=.store t2 (.tmp u) v) /\
  ((b=true/\y.op=.load t1 (.tmp t))\/(b=false/\y.dst=none/\∃v,y.op=.store t1 (.tmp t) v)):=by
 unfold Af at h
 split at h
 .cases h
 rename_i h1
 split at h
 .cases h
 rename_i h2
 split at h
 .cases h
 rename_i h3;split at h
 case h_2=>cases h
 rename_i h4
 split at h
 .rename_i h5;simp only[cg,fE] at h;obtain ⟨rfl,rfl,rfl,rfl,rfl⟩:=h;exact ⟨h1,h2,h3,⟨_,h4⟩,.inl ⟨rfl,h5⟩⟩
 .rename_i h5
  split at h
  .rename_i h6;simp only[cg,fE] at h;obtain ⟨rfl,rfl,rfl,rfl,rfl⟩:=h;exact ⟨h1,h2,h3,⟨_,h4⟩,.inr ⟨rfl,h6,_,h5⟩⟩
  .cases h
 .cases h
theorem obj?_set{m:ai}{nm:Nat}{e:Option Ent}{n:Nat}(h:n≠nm):ai.obj? (m.set nm e) n=m.obj? n:=by
 unfold ai.obj?;rw[gV,an h]
theorem obj?_self{m:ai}{nm:Nat}{bx:Bool}{cs cs':List AV}(h:m.obj? nm=some (bx,cs)):ai.obj? (m.set nm (some (.obj bx cs'))) nm=some (bx,cs'):=by
 unfold ai.obj?;rw[gV,aq rfl,aq (bW (obj?_get h))]
theorem qsQ{cs v1 v2:List AV}{o p:Nat}(h1:o+v1.length<=cs.length)(h2:p+v2.length<=cs.length)(hd:o+v1.length<=p\/p+v2.length<=o):b9 (b9 cs o v1) p v2=b9 (b9 cs p v2) o v1:=by
 have l1:=uc h1;have l2:=uc h2;have e1:p+v2.length<=(b9 cs o v1).length:=aa;have e2:o+v1.length<=(b9 cs p v2).length:=aa
 apply List.ext_getElem
 .rw[uc e1,uc e2,l1,l2]
 .intro j uV pY;have k1:=Dd e1 j;have k2:=Dd e2 j;rw[Dd h1] at k1;rw[Dd h2] at k2;rw[aT,bP uV,fk] at k1;rw[aT,bP pY,fk] at k2;rw[k1,k2]
  by_cases a:p<=j/\j<p+v2.length
  .rw[aq a,an aa,aq a]
  .rw[an a]
   by_cases b:o<=j/\j<o+v1.length
   .rw[aq b,aq b]
   .rw[an b,an b,an a]
theorem qtV{s1 s2:Sh}{m m1 m2:ai}{x1 x2 v1 v2:AV}(ha:OR s1.size s2.size x1 x2=true)(h1:aP s1 m x1 v1=some m1)(h2:aP s2 m1 x2 v2=some m2) :
  ∃m3,aP s2 m x2 v2=some m3/\aP s1 m3 x1 v1=some m2:=by
 unfold OR at ha
 split at ha
 .rename_i a o b p;simp only[aP,bn] at h1 h2 ⊢;obtain ⟨⟨bx,cs⟩,g1,h1⟩:=h1;obtain ⟨⟨bx2,cs2⟩,g2,h2⟩:=h2;simp only at h1 h2;split at h1
  case isFalse=>cases h1
  rename_i c1;split at h1
  case isFalse=>cases h1
  rename_i k1;simp only[cg] at h1;subst h1;split at h2
  case isFalse=>cases h2
  rename_i c2;split at h2
  case isFalse=>cases h2
  rename_i k2;simp only[cg] at h2;subst h2;have z1:=uf k1;have z2:=uf k2
  by_cases jc:a=b
  .subst jc;rw[obj?_self g1] at g2;simp only[cg,fE] at g2;obtain ⟨rfl,rfl⟩:=g2;rw[uc aa] at c2;simp only[BEq.rfl,jj,uu,BE,oM] at ha
   refine ⟨m.set a (some (.obj bx (b9 cs p v2.cells))),⟨⟨bx,cs⟩,g1,?_⟩,⟨bx,b9 cs p v2.cells⟩,obj?_self g1,?_⟩
   .simp only;rw[aq c2,aq k2]
   .simp only;rw[aq (by rw[uc aa];exact c1),aq k1,B2,B2,qsQ aa aa aa]
  .rw[obj?_set (fun e=>jc e.symm)] at g2
   refine ⟨m.set b (some (.obj bx2 (b9 cs2 p v2.cells))),⟨⟨bx2,cs2⟩,g2,?_⟩,⟨bx,cs⟩,?_,?_⟩
   .simp only;rw[aq c2,aq k2]
   .rw[obj?_set jc];exact g1
   .simp only;rw[aq c1,aq k1,List.set_comm _ _ jc]
 .cases ha
theorem R3{fid b:Nat}{cp:Nat->List AV->Option AV}{ci:Nat->List AV->ai->OM}{ops:Array Oper}{i:Nat}{o:Oper}{t:Nat}{x v:Operand}(ho:ops[i]?=some o)(hg:o.guard=none)(hd:o.dst=none)(bT:o.op=.store t x v)(st:St) :
  fV C fid cp ci (some b) ops i st=(jG C.P t).bind fun s=>(aP s st.mem (ev st.tmps x) (ev st.tmps v)).map fun m=>⟨st.tmps,m⟩:=by
 unfold fV;rw[ho];simp only[iB,hg];unfold gy lD;rw[bT];simp only[]
 cases jG C.P t with
 | none=>rfl
 | some s=>
  simp only[ae]
  cases aP s st.mem (ev st.tmps x) (ev st.tmps v) with
  | none=>rfl
  | some m=>simp only[ae,aQ,hd,gK]
theorem qcv{fid b:Nat}{cp:Nat->List AV->Option AV}{ci:Nat->List AV->ai->OM}{ops:Array Oper}{i:Nat}{o:Oper}{t:Nat}{x:Operand}(ho:ops[i]?=some o)(hg:o.guard=none)(bT:o.op=.load t x)(st:St) :
  fV C fid cp ci (some b) ops i st=(jG C.P t).bind fun s=>(aj s st.mem (ev st.tmps x)).map fun v=>⟨gK st.tmps o.dst v,st.mem⟩:=by
 unfold fV;rw[ho];simp only[iB,hg];unfold gy lD;rw[bT];simp only[]
 cases jG C.P t with
 | none=>rfl
 | some s=>
  simp only[ae]
  cases aj s st.mem (ev st.tmps x) with
  | none=>rfl
  | some v=>rfl
theorem qrH{s1 s2:Sh}{m m2:ai}{x1 x2 v2:AV}(ha:Gg x1 x2=true)(h2:aP s2 m x2 v2=some m2):aj s1 m2 x1=aj s1 m x1:=by
 unfold Gg at ha
 split at ha
 .rename_i b p
  split at ha
  .rfl
  .rename_i a o;have jc:a≠b:=by simpa using ha
   simp only[aP,bn] at h2;obtain ⟨⟨bx,cs⟩,g1,h2⟩:=h2
   split at h2
   .split at h2
    .simp only[cg] at h2;subst h2;simp only[aj];rw[obj?_set jc]
    .cases h2
   .cases h2
  .cases ha
 .cases ha
theorem RH{fid b:Nat}{cp:Nat->List AV->Option AV}{ci:Nat->List AV->ai->OM}{ops:Array Oper}{t:Nat}:∀(l:List Nat) (s s':St),(∀k∈l,∀o,ops[k]?=some o->o.dst≠some t)->iG C fid cp ci (some b) ops l s=some s'->s'.tmps.getD t .any=s.tmps.getD t .any
 | [],s,s',_,h=>by simp only[iG,cg] at h;rw[h]
 | k::l,s,s',hd,h=>by
  simp only[iG,bn] at h;obtain ⟨s1,h1,h2⟩:=h;rw[RH l s1 s' (fun k' ck=>hd k' (by simp[ck])) h2];obtain ⟨o,v,m1,ho,_,rfl⟩:=uj h1;exact xA (hd k aA o ho)
theorem qt7{fid b:Nat}{cp:Nat->List AV->Option AV}{ci:Nat->List AV->ai->OM}{ops:Array Oper}{i j:Nat}{st s1 s2:St}{x y:Oper}(hx:ops[i]?=some x)(hy:ops[j]?=some y){c:Bool×Nat×Nat×Nat×Nat}(hc:Af y x=some c)(wH:xX ops y x=true)(sH:E0 C.P c st.tmps=true)
  (h1:fV C fid cp ci (some b) ops j st=some s1) (h2:fV C fid cp ci (some b) ops i s1=some s2):∃s1',fV C fid cp ci (some b) ops i st=some s1'/\fV C fid cp ci (some b) ops j s1'=some s2:=by
 obtain ⟨bb,t1,t,t2,u⟩:=c;obtain ⟨g1,g2,g3,⟨v2,g4⟩,g5⟩:=qoT hc;obtain ⟨a1,a2,a3⟩:=Jo wH;rw[R3 hx g2 g3 g4] at h2 ⊢;simp only[bn,iq] at h2;obtain ⟨sh2,k2,m2,k3,rfl⟩:=h2
 rcases g5 with ⟨rfl,g5⟩|⟨rfl,g6,v1,g5⟩
 .rw[qcv hy g1 g5] at h1;simp only[bn,iq] at h1;obtain ⟨sh1,k1,v,k4,rfl⟩:=h1;simp only at k3
  have Zf:∀z t',z=Operand.tmp t'->z∈x.op.operands.toList->y.dst≠some t':=by
   intro z t' hz hm hd;refine a1 t' hd ?_;unfold qz;refine hZ.2 (.inl (List.mem_filterMap.2 ⟨z,hm,?_⟩));rw[hz]
  have Zp:x.op.operands.toList=[.tmp u,v2]:=by rw[g4];rfl
  have e1:ev (gK st.tmps y.dst v) (.tmp u)=ev st.tmps (.tmp u):=Pe _ fun t' ht=>xA (Zf _ t' ht (by rw[Zp];simp));have e2:ev (gK st.tmps y.dst v) v2=ev st.tmps v2:=Pe _ fun t' ht=>xA (Zf _ t' ht (by rw[Zp];simp));rw[e1,e2] at k3;refine ⟨⟨st.tmps,m2⟩,by rw[k2,ae,k3];rfl,?_⟩;rw[qcv hy g1 g5,k1,ae];have:aj sh1 m2 (ev st.tmps (.tmp t))=aj sh1 st.mem (ev st.tmps (.tmp t)):=qrH sH k3;simp only;rw[this,k4]
  rfl
 .rw[R3 hy g1 g6 g5] at h1;simp only[bn,iq] at h1;obtain ⟨sh1,k1,m1,k4,rfl⟩:=h1;simp only at k3;unfold E0 at sH;simp only[k1,k2] at sH;obtain ⟨m3,j1,j2⟩:=qtV (x1:=ev st.tmps (.tmp t)) (x2:=ev st.tmps (.tmp u)) sH k4 k3;refine ⟨⟨st.tmps,m3⟩,by rw[k2,ae,j1];rfl,?_⟩;rw[R3 hy g1 g6 g5,k1,ae];simp only;rw[j2]
  rfl
def qjr(C:Cfg)(ops:Array Oper)(sE:St)(i:Nat)(x:Oper)(r:List Nat)(j:Nat):Prop:=∃y,ops[j]?=some y/\(zb ops y x=true\/∃bb t1 t t2 u,Af y x=some (bb,t1,t,t2,u)/\xX ops y x=true/\E0 C.P (bb,t1,t,t2,u) sE.tmps=true/\∀k∈r,∀o,ops[k]?=some o->o.dst≠some t/\o.dst≠some u)
theorem XX{fid b:Nat}{cp:Nat->List AV->Option AV}{ci:Nat->List AV->ai->OM}{ops:Array Oper}{i:Nat}{x:Oper}(hx:ops[i]?=some x):∀(l:List Nat) (st s':St),l.Nodup->i∈l->vK ops b st.mem l->(∀(p:List Nat) (j:Nat) (r:List Nat),l=p++j::r->i∈r->qjr C ops s' i x (j::r) j) ->
  iG C fid cp ci (some b) ops l st=some s'->∃s1,fV C fid cp ci (some b) ops i st=some s1/\iG C fid cp ci (some b) ops (l.erase i) s1=some s'
 | [],_,_,_,hi,_,_,_=>by simp at hi
 | j::l,st,s',hnd,hi,hk,yJ,hr=>by
  have CN:=hr;simp only[iG,bn] at hr;obtain ⟨s1,h1,hr⟩:=hr
  by_cases he:j=i
  .subst he;exact ⟨s1,h1,by simpa using hr⟩
  .have cE:i∈l:=by rcases gI.1 hi with h|h<;>first|exact absurd h.symm he|exact h
   have AM:=(uD.1 hnd);obtain ⟨s2,h2,yG⟩:=XX hx l s1 s' AM.2 cE (Lp h1 (fun k ck=>hk k (by simp[ck])) AM.1) (fun p k r gA P3=>yJ (j::p) k r (by rw[gA];rfl) P3) hr;obtain ⟨y,hy,bc⟩:=yJ [] j l rfl cE
   have qq3:∃s1',fV C fid cp ci (some b) ops i st=some s1'/\fV C fid cp ci (some b) ops j s1'=some s2:=by
    rcases bc with bc|⟨bb,t1,t,t2,u,hc,wH,sH,YO⟩
    .exact swap hy hx he bc (fun k ck=>hk k (by
      simp only[gI,zK,or_false] at ck
      rcases ck with rfl|rfl
      .simp
      .simp[cE])) h1 h2
    .refine qt7 hx hy hc wH ?_ h1 h2;have ht:=RH (t:=t) (j::l) st s' (fun k ck o ho=>(YO k ck o ho).1) CN;have hu:=RH (t:=u) (j::l) st s' (fun k ck o ho=>(YO k ck o ho).2) CN;unfold E0 at sH ⊢;simp only[ht,hu] at sH;exact sH
   obtain ⟨s1',k1,k2⟩:=qq3;refine ⟨s1',k1,?_⟩
   have Fp:(j::l).erase i=j::l.erase i:=by
    rw[List.erase_cons,an (by simpa using he)]
   rw[Fp];simp only[iG,k2,ae];exact yG
theorem qbk{ops:Array Oper}{ah:List Nat}{sp:List (Nat×Nat)}:∀{l:List Nat},Da ops ah sp l=true->∀(p:List Nat) (j:Nat) (r:List Nat),l=p++j::r->∀i∈r,(ah.getD i 0).testBit j=true\/(∃x y,ops[j]?=some x/\ops[i]?=some y/\zb ops x y=true)\/(Az sp j i=true/\O3 ops ah j i (j::r)=true)
 | [],_,p,j,r,h,_,_=>by simp at h
 | k::l,hp,p,j,r,h,i,hi=>by
  simp only[Da,cD,gD] at hp
  match p,h with
  | [],h=>
   simp only[bF,qj] at h;obtain ⟨rfl,rfl⟩:=h;have:=hp.1 i hi;simp only[BE,cD] at this
   rcases this with (h|h)|h
   .exact .inl h
   .refine .inr (.inl ?_)
    split at h
    .exact ⟨_,_,by assumption,by assumption,h⟩
    .cases h
   .exact .inr (.inr h)
  | k'::p,h=>
   simp only[b6,qj] at h;obtain ⟨rfl,rfl⟩:=h;exact qbk hp.2 p j r rfl i hi
theorem qlW(hC:CfgOk C){callI:Nat->List AV->ai->OM}(hI:s9 C callI){fid b:Nat}{ops:Array Oper}{Q:Exit->Act->World->Prop}{canon:List Nat}(hlt:∀k o,ops[k]?=some o->∀e∈o.after.toList,Region.binds .any e=true->e.on<k)
  {sp:List (Nat×Nat)} {sE:St} (CK:Da ops (wh ops) sp canon=true) (sH:∀j i,Az sp j i=true->EZ C.P ops j i sE.tmps=true) (hnd:canon.Nodup):∀(l:List Nat) (n:Nat),l.length=n->l.Sublist canon->∀(listed:Array Bool),listed.size=ops.size->(∀x,x<ops.size->(listed.getD x true=true↔x∉l))->(∀x∈l,x<ops.size) ->
  (∀k o,k<ops.size->k∉l->ops[k]?=some o->∀e∈o.after.toList,Region.binds .any e=true->e.on∉l) ->
  ∀(st s':St) (a:Act) (w:World) (g:G),s'=sE->iG C fid (jY callI) callI (some b) ops l st=some s'->vK ops b st.mem l->StR B w g st a ->
  (∀a' w' g',StR B w' g' s' a'->Step B w g w' g'->jk C.P a' a->Q .normal a' w')->wpAny C.P .any ops Q n listed a w:=by
 intro l n hn
 induction n generalizing l with
 | zero=>
  intro hJ listed hsz jK hin sG st s' a w g Qp hr hk hs hq;have wP:l=[]:=oF hn;subst wP;simp only[iG,cg] at hr;subst hr;refine ⟨?_,hq a w g hs (Step.refl _ _ _) (jk.refl _ _)⟩;unfold Region.ready;rw[List.filter_eq_nil_iff];intro x hx;have:listed.getD x true=true:=(jK x (by simpa using hx)).2 aA;simp[this]
 | succ n ih=>
  intro hJ listed hsz jK hin sG st s' a w g Qp hr hk hs hq
  have FI:∀i∈Region.ready .any ops listed,i∈l/\i<ops.size/\∃o,ops[i]?=some o/\∀e∈o.after.toList,Region.binds .any e=true->e.on∉l:=by
   intro i hi;unfold Region.ready at hi;simp only[po,vV,cD,zp] at hi;obtain ⟨h1,h2,h3⟩:=hi
   have cE:i∈l:=by
    by_cases h:i∈l
    .exact h
    .have:=(jK i h1).2 h;rw[this] at h2;cases h2
   refine ⟨cE,h1,ops[i],by simp[h1],fun e he hb mK=>?_⟩;have ho:ops[i]?=some ops[i]:=by simp[h1]
   rw[ho] at h3;simp only[aQ,fk] at h3;have h4:=s6.1 h3 e (by simpa using he);simp only[hb,jj,uu] at h4;have h5:=hlt i _ ho e he hb
   have h6:listed.getD e.on true=true:=by
    have hes:e.on<listed.size:=aa;simp only[Array.getD,hes,dif_pos] at h4 ⊢;exact h4
   exact (jK e.on (by omega)).1 h6 mK
  refine ⟨fun FC=>?_,fun i hi=>?_⟩
  ·
   exfalso;have hne:l≠[]:=fun h=>by rw[h] at hn;simp at hn
   obtain ⟨mn,yx,AJ⟩:∃mn∈l,∀x∈l,mn<=x:=by
    exact Kw l hne
   have j0:=hin mn yx
   have:mn∈Region.ready .any ops listed:=by
    unfold Region.ready;simp only[po,vV,cD,zp]
    refine ⟨j0,?_,?_⟩
    .cases hb:listed.getD mn true with
     | false=>rfl
     | true=>exact absurd yx ((jK mn j0).1 hb)
    .have ho:ops[mn]?=some ops[mn]:=by simp[j0]
     rw[ho];simp only[aQ,fk];rw[s6];intro e he
     by_cases hb:Region.binds .any e=true
     .have h5:=hlt mn _ ho e (by simpa using he) hb;have h6:e.on∉l:=fun h=>by have:=AJ _ h;omega
      have h7:=(jK e.on (by omega)).2 h6;have hes:e.on<listed.size:=aa
      have h8:listed.getD e.on false=true:=by
       simp only[Array.getD,hes,dif_pos] at h7 ⊢;exact h7
      rw[h8];simp
     .simp at hb;simp[hb]
   rw[FC] at this;simp at this
  .obtain ⟨cE,kL,x,hx,wI⟩:=FI i hi
   obtain ⟨s1,h1,h2⟩:=XX hx l st s' (hnd.sublist hJ) cE hk (fun p j r gA P3=>by
    have kr:j∈l:=by rw[gA];simp
    obtain ⟨pre,post,uQ,Zs⟩:∃pc qc,canon=pc++j::qc/\∀y∈r,y∈qc:=by
     have ZB:=hJ;rw[gA] at ZB;obtain ⟨c1,c2,hc,jL,kM⟩:=List.append_sublist_iff.1 ZB;obtain ⟨d1,d2,hd,_,hd3⟩:=List.cons_sublist_iff.1 kM;obtain ⟨e1,e2,he⟩:=BX ‹j∈d1›;exact ⟨c1++e1,e2++d2,by rw[hc,hd,he];simp,fun y hy=>hZ.2 (.inr (hd3.subset hy))⟩
    rcases qbk CK pre j post uQ i (Zs i P3) with h|⟨y,x',hy,iP,bc⟩|⟨hsp,tH⟩
    .exfalso;have gz:((oK ops ops.size).getD i 0).testBit j=true:=h
     have:=Jm (D:=fun k=>k∉l) (fun k o ck lR e he hb=>by
      rcases sq k ops.size with hk1|hk1
      .exact sG k o hk1 ck lR e he hb
      .rw[DD hk1] at lR;cases lR) hlt ops.size i x kL hx wI j gz
     exact this kr
    .obtain rfl:x=x':=by simpa [hx] using iP
     exact ⟨y,hy,.inl bc⟩
    .have hd:=sH j i hsp;unfold EZ at hd;unfold O3 at tH
     cases hy:ops[j]? with
     | none=>rw[hy] at hd;cases hd
     | some y=>
      rw[hy,hx] at hd tH;simp only at hd tH
      cases PT:Af y x with
      | none=>rw[PT] at hd;cases hd
      | some c=>
       obtain ⟨bb,t1,t,t2,u⟩:=c;rw[PT] at hd tH;simp only[cD,gD] at hd tH;refine ⟨y,hy,.inr ⟨bb,t1,t,t2,u,PT,tH.1,by rw[Qp];exact hd,fun k ck o ho=>?_⟩⟩
       have hkm:k∈j::post:=by
        rcases gI.1 ck with h|h
        .simp[h]
        .exact fW _ (Zs k h)
       have:=tH.2 k hkm;rw[ho] at this;simp only[cD,BE,bne_iff_ne,ne_eq] at this;refine ⟨this.1,this.2.resolve_right fun h=>?_⟩;have gz:((oK ops ops.size).getD i 0).testBit k=true:=h
       have:=Jm (D:=fun k=>k∉l) (fun k o ck lR e he hb=>by
        rcases sq k ops.size with hk1|hk1
        .exact sG k o hk1 ck lR e he hb
        .rw[DD hk1] at lR;cases lR) hlt ops.size i x kL hx wI k gz
       exact this (by rw[gA];exact hZ.2 (.inr ck))) hr
   refine Ls hC hI h1 hs (fun b' gO=>by cases gO;exact fun k ck=>hk k (by simp at ck;rw[ck];exact cE)) fun a' w' g' gS s hd=>?_
   have gz:∀y,y∈l.erase i↔y∈l/\y≠i:=fun y=>by
    rw[(hnd.sublist hJ).mem_erase_iff];exact And.comm
   refine ih (l.erase i) (by rw[List.length_erase_of_mem cE];omega) (List.Sublist.trans List.erase_sublist hJ) (listed.setIfInBounds i true) (by simpa using hsz) (fun y hy=>?_) (fun y hy=>hin y ((gz y).1 hy).1) (fun k o hk1 jB lR e he hb mK=>?_) s1 s' a' w' g' Qp h2 (fun k ck o ho hm=>?_) gS fun a'' w'' g'' tR s' lP=>hq a'' w'' g'' tR (s.trans s') (lP.trans hd)
   .have qY:y<listed.size:=aa
    have hg:(listed.setIfInBounds i true).getD y true=if i=y then true else listed.getD y true:=by
     simp only[jX,G2]
     by_cases nP:i=y
     .subst nP;simp[qY]
     .simp[nP]
    rw[hg,gz]
    by_cases nP:i=y
    .subst nP;simp
    .rw[an nP,jK y hy]
     constructor
     .intro h h';exact h h'.1
     .intro h h';exact h ⟨h',fun he=>nP he.symm⟩
   .have yE:=(gz _).1 mK
    by_cases jx:k=i
    .subst jx;obtain rfl:x=o:=by simpa [hx] using lR
     exact wI e he hb yE.1
    .exact sG k o hk1 (fun h=>jB ((gz k).2 ⟨h,jx⟩)) lR e he hb yE.1
   .exact Lp h1 (fun k' P5=>hk k' ((gz k').1 P5).1) (fun h=>((gz i).1 h).2 rfl) k ck o ho hm
theorem qo8(hC:CfgOk C){callI:Nat->List AV->ai->OM}(hI:s9 C callI){R:Type}{fid id:Nat}{ops:Array Oper}{Q:Exit->Act->World->Prop}{canon:List Nat}{ah:List Nat}{pr:Nat×Nat}{sp:List (Nat×Nat)}(bc:Ak C.P ops canon ah (pr::sp)=true){st:St}{K:St->Option R}{r:R}{a:Act}
  (h:nA C fid (jY callI) callI (some st.mem.length) ops canon ⟨st.tmps,bV st.mem (gd ops ops.size)⟩ (fun st'=>um C.P ops st' K (pr::sp))=some r) (hs:StR B w g st a)
  (hn:∀s' a' w' g',K s'=some r->StR B w' g' s' a'->Step B w g w' g'->jk C.P a' a->Q .normal a' w'):(Code.region id ops true).wp C.P Q a w:=by
 obtain ⟨h1,h2,h3,h4⟩:=qo3 bc;have mL:canon.Perm (List.range ops.size):=List.isPerm_iff.1 h2
 have hlt:∀k o,ops[k]?=some o->∀e∈o.after.toList,Region.binds .any e=true->e.on<k:=by
  intro k o hk e he hb;have fZ:=(fP.1 hk).1;have:=gD.1 h3 k (by simpa using fZ);rw[hk] at this;simp only at this;have:=s6.1 this e (by simpa using he);simpa [hb] using this
 rw[ud,qbR] at h;simp only[bn] at h;obtain ⟨s',hr,hK⟩:=h;obtain ⟨hK,sH⟩:=qcO _ hK;refine wp_region_any h1 ?_
 refine qlW hC hI hlt h4 sH (mL.nodup_iff.2 List.nodup_range) canon ops.size (by rw[mL.length_eq];simp) (List.Sublist.refl _) _ aA (fun x hx=>?_) (fun x hx=>by simpa using mL.mem_iff.1 hx) (fun k o hk ck=>?_) _ s' a _ g rfl hr (ZY ops st.mem canon) ⟨hs.tmp.step (Step.drew B w g),qaR (B:=B) (w:=w.drew) (g:=g) hs.mem.drew _,hs.size⟩ ?_
 .have:x∈canon:=mL.mem_iff.2 (by simpa using hx);simp[this,Array.getD,hx]
 .exact absurd (mL.mem_iff.2 (by simpa using hk)) ck
 .intro a' w' g' gS s hd;exact hn s' a' w' g' hK gS ((Step.drew B w g).trans s) hd
end
end Go.Ab
namespace Go.Ab
open Go.RowKit
section
variable {R:Type}
open Classical in
noncomputable def w6(p:Prop)(x:Option R):Option R:=if p then x else none
theorem yK{p:Prop}{x:Option R}(h:p):w6 p x=x:=aq h
theorem qre{p:Prop}{x:Option R}(h:¬ p):w6 p x=none:=an h
def yf(o:Oper)(ts:List AV):AV:=match o.dst with
 | some d=>ts.getD d .any
 | none=>.any
def qi(C:Cfg)(fid:Nat)(ops:Array Oper)(y:Nat)(s:St):Prop:=match ops[y]? with
 | some o=>iB C fid (fun _ _=>none) (fun _ _ _=>none) none ops y o s.tmps s.mem=some (yf o s.tmps,s.mem)
 | none=>True
noncomputable def yc(C:Cfg)(fid:Nat)(ops:Array Oper):List Nat->St->Option R->Option R
 | [],_,x=>x
 | y::ys,s,x=>w6 (qi C fid ops y s) (yc C fid ops ys s x)
theorem Ci{C:Cfg}{fid:Nat}{ops:Array Oper}:∀{ys:List Nat} {s:St} {x:Option R},(∀y∈ys,qi C fid ops y s)->yc C fid ops ys s x=x
 | [],_,_,_=>rfl
 | y::ys,s,x,h=>by
  rw[yc,yK (h y gj)];exact Ci fun z hz=>h z (fW _ hz)
theorem OZ{C:Cfg}{fid:Nat}{ops:Array Oper}:∀{ys:List Nat} {s:St} {x:Option R},¬ (∀y∈ys,qi C fid ops y s)->yc C fid ops ys s x=none
 | [],_,_,h=>absurd (fun _ hz=>by cases hz) h
 | y::ys,s,x,h=>by
  rw[yc]
  by_cases hy:qi C fid ops y s
  .rw[yK hy]
   exact OZ fun hh=>h fun z hz=>by
    rcases gI.1 hz with rfl|hz
    .exact hy
    .exact hh z hz
  .exact qre hy
theorem O0{C:Cfg}{fid:Nat}{ops:Array Oper}{ys:List Nat}{s:St}{x:Option R}{r:R}(h:yc C fid ops ys s x=some r):(∀y∈ys,qi C fid ops y s)/\x=some r:=by
 by_cases hc:∀y∈ys,qi C fid ops y s
 .rw[Ci hc] at h;exact ⟨hc,h⟩
 .rw[OZ hc] at h;cases h
noncomputable def rj(C:Cfg)(fid:Nat)(callP:Nat->List AV->Option AV)(callI:Nat->List AV->ai->OM)(lt:List (Nat×List Nat))(ops:Array Oper):List Nat->St->(St->Option R)->Option R
 | [],st,K=>K st
 | i::l,st,K=>nA C fid callP callI none ops [i] st fun s1=>yc C fid ops (qZ lt i) s1 (rj C fid callP callI lt ops l s1 K)
end
section
variable {C:Cfg} {fid:Nat} {callP:Nat->List AV->Option AV} {callI:Nat->List AV->ai->OM}
theorem y5{R:Type}(lt:List (Nat×List Nat))(ops:Array Oper)(i:Nat)(l:List Nat)(st:St)(K:St->Option R) :
  rj C fid callP callI lt ops (i::l) st K=(fV C fid callP callI none ops i st).bind fun s1=>yc C fid ops (qZ lt i) s1 (rj C fid callP callI lt ops l s1 K):=by
 rw[rj,ud];simp only[iG];cases fV C fid callP callI none ops i st<;>rfl
def xG(C:Cfg)(fid:Nat)(callP:Nat->List AV->Option AV)(callI:Nat->List AV->ai->OM)(lt:List (Nat×List Nat))(ops:Array Oper):List Nat->List Nat->St->Prop
 | _,[],_=>True
 | done,i::l,st=>∀s1,fV C fid callP callI none ops i st=some s1->(∀y∈qZ lt i,y∈done->qi C fid ops y s1)/\xG C fid callP callI lt ops (i::done) l s1
theorem xG.anti{lt:List (Nat×List Nat)}{ops:Array Oper}:∀{l done done':List Nat} {st:St},xG C fid callP callI lt ops done l st->(∀y∈done',y∈done)->xG C fid callP callI lt ops done' l st
 | [],_,_,_,_,_=>trivial
 | i::l,done,done',st,h,hd=>fun s1 h1=>by
  obtain ⟨a,b⟩:=h s1 h1;refine ⟨fun y hy hyd=>a y hy (hd y hyd),b.anti fun y hy=>?_⟩
  rcases gI.1 hy with rfl|hy
  .exact gj
  .exact fW _ (hd y hy)
theorem qb0{R:Type}{lt:List (Nat×List Nat)}{ops:Array Oper}:∀{l:List Nat} {st:St} {K:St->Option R} {r:R} (done:List Nat),rj C fid callP callI lt ops l st K=some r ->
  ∃s',iG C fid callP callI none ops l st=some s'/\K s'=some r/\xG C fid callP callI lt ops done l st
 | [],st,K,r,_,h=>⟨st,rfl,h,trivial⟩
 | i::l,st,K,r,done,h=>by
  rw[y5,bn] at h;obtain ⟨s1,h1,h⟩:=h;obtain ⟨hc,h⟩:=O0 h;obtain ⟨s',h2,h3,h4⟩:=qb0 (i::done) h;refine ⟨s',by simp only[iG,h1,ae];exact h2,h3,fun s1' tt=>?_⟩;rw[h1] at tt;obtain rfl:=pS tt;exact ⟨fun y hy _=>hc y hy,h4⟩
theorem O1{o:Oper}(h:jt o=.N):jz o=.N:=by
 unfold jt at h
 split at h
 .assumption
 .split at h<;>cases h
 .cases h
theorem Xw{o:Oper}(h:jt o=.L):∃t x,o.op=.load t x:=by
 unfold jt at h
 split at h
 .cases h
 .split at h
  .rename_i t x ho;exact ⟨t,x,ho⟩
  .cases h
 .cases h
theorem KS{d:Option Nat}{o:Oper}{ρ:Operand->AV}{m m1:ai}{v:AV}(hc:jt o=.L)(h:gy C fid callP callI d o ρ m=some (v,m1)):m1=m:=by
 obtain ⟨t,x,ho⟩:=Xw hc;unfold gy lD at h;rw[ho] at h;simp only at h
 split at h
 .obtain ⟨v',h1,h2⟩:=bn.1 h;simp only[cg,fE] at h2;exact h2.2.symm
 .cases h
theorem qub{ops:Array Oper}{i j:Nat}{st s1 s2:St}{x y:Oper}(hx:ops[i]?=some x)(hy:ops[j]?=some y)(bc:xC ops x y=true)
  (h1:fV C fid callP callI none ops i st=some s1) (h2:fV C fid callP callI none ops j s1=some s2):∃s1',fV C fid callP callI none ops j st=some s1'/\fV C fid callP callI none ops i s1'=some s2:=by
 obtain ⟨x',vi,mi,iP,pI,rfl⟩:=uj h1;obtain rfl:x=x':=by simpa [hx] using iP
 obtain ⟨y',vj,mj,AY,kY,rfl⟩:=uj h2;obtain rfl:y=y':=by simpa [hy] using AY
 unfold xC at bc;simp only[cD] at bc;obtain ⟨uR,wH⟩:=bc;obtain ⟨a1,a2,a3⟩:=Jo wH;simp only at kY;have cj:∀m,iB C fid callP callI none ops j y (gK st.tmps x.dst vi) m=iB C fid callP callI none ops j y st.tmps m:=fun m=>Bf fun t ht=>xA fun hd=>a1 t hd ht;have ci:∀v m,iB C fid callP callI none ops i x (gK st.tmps y.dst v) m=iB C fid callP callI none ops i x st.tmps m:=fun v m=>Bf fun t ht=>xA fun hd=>a2 t hd ht;rw[cj] at kY
 have enough:∀m1,iB C fid callP callI none ops j y st.tmps st.mem=some (vj,m1)->iB C fid callP callI none ops i x st.tmps m1=some (vi,mj) ->
   ∃s1',fV C fid callP callI none ops j st=some s1'/\fV C fid callP callI none ops i s1'=some ⟨gK (gK st.tmps x.dst vi) y.dst vj,mj⟩:=by
  intro m1 e1 e2;refine ⟨⟨gK st.tmps y.dst vj,m1⟩,by simp[fV,hy,e1],?_⟩;simp only[fV,hx,ci,e2,aQ];rw[RQ a3]
 have nI:jt x=.N->mi=st.mem/\∀m',iB C fid callP callI none ops i x st.tmps m'=some (vi,m'):=fun hc=>by
  rcases pM pI with ⟨hf,hall⟩|⟨rfl,hall⟩
  .obtain ⟨rfl,h⟩:=C7 (O1 hc) hf;exact ⟨rfl,fun m'=>(hall m').trans (h m')⟩
  .exact ⟨rfl,hall⟩
 have nJ:jt y=.N->mj=mi/\∀m',iB C fid callP callI none ops j y st.tmps m'=some (vj,m'):=fun hc=>by
  rcases pM kY with ⟨hf,hall⟩|⟨rfl,hall⟩
  .obtain ⟨rfl,h⟩:=C7 (O1 hc) hf;exact ⟨rfl,fun m'=>(hall m').trans (h m')⟩
  .exact ⟨rfl,hall⟩
 have lI:jt x=.L->mi=st.mem:=fun hc=>by
  rcases pM pI with ⟨hf,_⟩|⟨rfl,_⟩
  .exact KS hc hf
  .rfl
 have lJ:jt y=.L->mj=mi:=fun hc=>by
  rcases pM kY with ⟨hf,_⟩|⟨rfl,_⟩
  .exact KS hc hf
  .rfl
 cases n7:jt x with
 | N=>
  obtain ⟨rfl,hall⟩:=nI n7;exact enough mj kY (hall mj)
 | L=>
  obtain rfl:=lI n7
  cases kK:jt y with
  | N=>
   obtain ⟨rfl,hall⟩:=nJ kK;exact enough _ kY pI
  | L=>
   obtain rfl:=lJ kK;exact enough _ kY pI
  | _=>rw[n7,kK] at uR;cases uR
 | _=>
  cases kK:jt y with
  | N=>
   obtain ⟨rfl,hall⟩:=nJ kK;exact enough _ (hall _) pI
  | _=>rw[n7,kK] at uR;cases uR
theorem qsr{cp':Nat->List AV->Option AV}{ci':Nat->List AV->ai->OM}{d d':Option Nat}{o:Oper}{ρ:Operand->AV}{m:ai}(hc:jt o=.L):gy C fid callP callI d o ρ m=gy C fid cp' ci' d' o ρ m:=by
 obtain ⟨t,x,ho⟩:=Xw hc;unfold gy lD;rw[ho]
theorem qsu{cp':Nat->List AV->Option AV}{ci':Nat->List AV->ai->OM}{ops:Array Oper}{i:Nat}{o:Oper}{ts:List AV}{m:ai}(hc:jt o=.L):iB C fid callP callI none ops i o ts m=iB C fid cp' ci' none ops i o ts m:=by
 unfold iB;rw[qsr (callP:=callP) (callI:=callI) (cp':=cp') (ci':=ci') (d':=Option.map (· + gd ops i) none) hc]
theorem E8{ts:List AV}{d:Option Nat}{v:AV}{t:Nat}:(gK ts d v).getD t .any=if d=some t/\t<ts.length then v else ts.getD t .any:=by
 cases d with
 | none=>simp[gK]
 | some d=>
  simp only[gK,aT,List.getElem?_set,cg]
  by_cases h:d=t
  .subst h
   by_cases hl:d<ts.length
   .simp[hl]
   .simp[hl]
  .simp[h]
theorem qi.same{ops:Array Oper}{y:Nat}{s s':St}(hm:s'.mem=s.mem)(ht:∀oy,ops[y]?=some oy->(∀t∈qz ops oy,s'.tmps.getD t .any=s.tmps.getD t .any)/\yf oy s'.tmps=yf oy s.tmps)(h:qi C fid ops y s):qi C fid ops y s':=by
 unfold qi at h ⊢
 cases ho:ops[y]? with
 | none=>trivial
 | some oy=>
  rw[ho] at h;simp only at h ⊢;obtain ⟨h1,h2⟩:=ht oy ho;rw[Bf h1,h2,hm];exact h
theorem qt8{ops:Array Oper}{i j:Nat}{st s1 s2:St}{x y:Oper}(hx:ops[i]?=some x)(hy:ops[j]?=some y)(bc:A3 ops y x=true)
  (h1:fV C fid callP callI none ops j st=some s1) (h2:fV C fid callP callI none ops i s1=some s2) (hc:qi C fid ops j s2):∃s1',fV C fid callP callI none ops i st=some s1'/\fV C fid callP callI none ops j s1'=some s2:=by
 obtain ⟨y',vj,mj,AY,kY,rfl⟩:=uj h1;obtain rfl:y=y':=by simpa [hy] using AY
 obtain ⟨x',vi,mi,iP,pI,rfl⟩:=uj h2;obtain rfl:x=x':=by simpa [hx] using iP
 unfold A3 at bc;simp only[cD] at bc;obtain ⟨hcl,wH,sM⟩:=bc
 have hcl:jt y=.L:=by split at hcl<;>first|assumption|cases hcl
 obtain ⟨a1,a2,a3⟩:=Jo wH;have sM:∀d,y.dst=some d->d∉qz ops y:=fun d hd=>by rw[hd] at sM;simpa using sM
 have Qb:mj=st.mem:=by
  rcases pM kY with ⟨hf,_⟩|⟨rfl,_⟩
  .exact KS hcl hf
  .rfl
 subst Qb;simp only at pI
 have qqP:iB C fid callP callI none ops i x st.tmps st.mem=some (vi,mi):=by
  rw[<- pI];exact (Bf fun t ht=>xA fun hd=>a1 t hd ht).symm
 unfold qi at hc;rw[hy] at hc;simp only at hc
 have pY:iB C fid callP callI none ops j y (gK st.tmps x.dst vi) mi=some (yf y (gK (gK st.tmps y.dst vj) x.dst vi),mi):=by
  rw[qsu (callP:=callP) (callI:=callI) (cp':=fun _ _=>none) (ci':=fun _ _ _=>none) hcl,<- hc];refine Bf fun t ht=>?_;rw[E8,E8,E8];have:y.dst≠some t:=fun hd=>sM t hd ht;have hl:(gK st.tmps y.dst vj).length=st.tmps.length:=by cases y.dst<;>simp[gK]
  simp only[this,false_and,lp,hl]
 refine ⟨⟨gK st.tmps x.dst vi,mi⟩,by simp[fV,hx,qqP],?_⟩;simp only[fV,hy,pY,aQ,cg,St.mk.injEq,and_true]
 cases hd:y.dst with
 | none=>simp[gK]
 | some d=>
  have ZL:x.dst≠some d:=fun he=>by rcases a3 with h|h<;>simp_all
  have e1:yf y (gK (gK st.tmps (some d) vj) x.dst vi)=if d<st.tmps.length then vj else .any:=by
   unfold yf;rw[hd];simp only;rw[E8,E8];simp only[ZL,false_and,lp,true_and]
   by_cases hl:d<st.tmps.length
   .rw[aq hl,aq hl]
   .rw[an hl,an hl];simp[aT,pk (xQ hl)]
  rw[e1]
  by_cases hl:d<st.tmps.length
  .rw[aq hl];exact (RQ (.inr (fun he=>ZL he))).trans rfl |>.symm▸rfl
  .have yt:st.tmps.length<=d:=xQ hl
   have hn:∀(ts:List AV) v,ts.length=st.tmps.length->gK ts (some d) v=ts:=fun ts v hle=>by
    simp only[gK];exact List.set_eq_of_length_le (hle▸yt)
   rw[hn _ _ (by cases x.dst<;>simp[gK]),hn st.tmps vj rfl]
theorem Lr{ops:Array Oper}{i:Nat}{x:Oper}{st s1:St}{base:Option Nat}(hx:ops[i]?=some x)(h:fV C fid callP callI base ops i st=some s1)(t:Nat)(ht:x.dst≠some t):s1.tmps.getD t .any=st.tmps.getD t .any:=by
 obtain ⟨x',v,m,iP,_,rfl⟩:=uj h;obtain rfl:x=x':=by simpa [hx] using iP
 exact xA ht
theorem qcw{ops:Array Oper}{i:Nat}{x:Oper}{st s1:St}(hx:ops[i]?=some x)(h:fV C fid callP callI none ops i st=some s1)(hc:jt x=.N\/jt x=.L):s1.mem=st.mem:=by
 obtain ⟨x',v,m,iP,hr,rfl⟩:=uj h;obtain rfl:x=x':=by simpa [hx] using iP
 rcases pM hr with ⟨hf,_⟩|⟨rfl,_⟩
 .rcases hc with hc|hc
  .exact (C7 (O1 hc) hf).1
  .exact KS hc hf
 .rfl
def zT(ops:Array Oper)(lt:List (Nat×List Nat))(y:Nat)(l:List Nat):Prop:=(lt.any fun p=>p.2.contains y)=true->∀oy,ops[y]?=some oy->∀k∈l,∀o,ops[k]?=some o->∀d,o.dst=some d->d∉qz ops oy/\oy.dst≠some d
theorem qaa{lt:List (Nat×List Nat)}{i y:Nat}(h:y∈qZ lt i):(lt.any fun p=>p.2.contains y)=true:=by
 induction lt with
 | nil=>cases h
 | cons p lt ih=>
  obtain ⟨k,ys⟩:=p;simp only[qZ] at h;simp only[List.any_cons,BE]
  split at h
  .exact .inl (by simpa using h)
  .exact .inr (ih h)
theorem qtT{ops:Array Oper}{x:Oper}{l:List Nat}(h:qct ops x l=true):∀k∈l,∀o,ops[k]?=some o->∀d,o.dst=some d->d∉qz ops x/\x.dst≠some d:=by
 intro k hk o ho d hd;have:=gD.1 h k hk;rw[ho] at this;simp only[hd] at this;simpa using this
structure Facts (ops:Array Oper) (lt:List (Nat×List Nat)) (l:List Nat):Prop where
 late:∀j∈l,∀x,ops[j]?=some x->qZ lt j≠[]->jt x=.W
 still:∀(p q:List Nat) (j:Nat),l=p++j::q->zT ops lt j q
theorem Facts.tail{ops:Array Oper}{lt:List (Nat×List Nat)}{j:Nat}{l:List Nat}(h:Facts ops lt (j::l)):Facts ops lt l:=
 ⟨fun k hk=>h.late k (fW _ hk),fun p q k e=>h.still (j::p) q k (by rw[e];rfl)⟩
theorem zT.sub{ops:Array Oper}{lt:List (Nat×List Nat)}{y:Nat}{l l':List Nat}(h:zT ops lt y l)(hs:∀k∈l',k∈l):zT ops lt y l':=fun a oy b k hk=>h a oy b k (hs k hk)
theorem Facts.sub{ops:Array Oper}{lt:List (Nat×List Nat)}{l l':List Nat}(h:Facts ops lt l)(hs:l'.Sublist l):Facts ops lt l':=by
 refine ⟨fun k hk=>h.late k (hs.subset hk),fun p q j e=>?_⟩;subst e;obtain ⟨c1,c2,rfl,jL,kM⟩:=List.append_sublist_iff.1 hs;obtain ⟨d1,d2,rfl,AA,Fl⟩:=List.cons_sublist_iff.1 kM;obtain ⟨e1,e2,rfl⟩:=BX AA;have:=h.still (c1++e1) (e2++d2) j aA;exact this.sub fun k hk=>hZ.2 (.inr (Fl.subset hk))
theorem qbm{ops:Array Oper}{ah:List Nat}{lt:List (Nat×List Nat)}:∀{l:List Nat},xp ops ah lt l=true->Facts ops lt l
 | [],_=>⟨fun _ h=>by simp at h,fun p q j e=>by simp at e⟩
 | j::l,h=>by
  simp only[xp,cD] at h;obtain ⟨⟨_,h1⟩,h2⟩:=h;have ih:=qbm h2
  have hj:∀x,ops[j]?=some x->(qZ lt j≠[]->jt x=.W)/\zT ops lt j l:=fun x hx=>by
   rw[hx] at h1;simp only[cD,BE] at h1
   refine ⟨fun hne=>?_,fun ha oy Kh=>?_⟩
   .have:=h1.1
    split at this
    .rename_i he;exact absurd he hne
    .split at this<;>first|assumption|cases this
   .obtain rfl:x=oy:=by simpa [hx] using Kh
    rcases h1.2 with hh|hh
    .rw[ha] at hh;cases hh
    .exact qtT hh
  refine ⟨fun k hk x hx=>?_,fun p q k e=>?_⟩
  .rcases gI.1 hk with rfl|hk
   .exact (hj x hx).1
   .exact ih.late k hk x hx
  .match p,e with
   | [],e=>
    simp only[bF,qj] at e;obtain ⟨rfl,rfl⟩:=e
    cases hx:ops[j]? with
    | none=>intro _ oy Kh;rw[hx] at Kh;cases Kh
    | some x=>exact (hj x hx).2
   | k'::p,e=>
    simp only[b6,qj] at e;exact ih.still p q k e.2
theorem qsA{ops:Array Oper}{ah:List Nat}{lt:List (Nat×List Nat)}{canon l:List Nat}(h:xp ops ah lt canon=true)(hs:l.Sublist canon):Facts ops lt l:=(qbm h).sub hs
theorem qt9{ops:Array Oper}{x y:Oper}(h:xC ops x y=true)(hw:jt x=.W):jt y=.N:=by
 unfold xC at h;simp only[cD] at h;rw[hw] at h
 cases hy:jt y<;>rw[hy] at h<;>first|rfl|exact absurd h.1 aA
theorem qua{ops:Array Oper}{x y:Oper}(h:xC ops x y=true)(hw:jt y=.W):jt x=.N:=by
 unfold xC at h;simp only[cD] at h;rw[hw] at h
 cases hy:jt x<;>rw[hy] at h<;>first|rfl|exact absurd h.1 aA
theorem XZ{lt:List (Nat×List Nat)}{ops:Array Oper}{i:Nat}{x:Oper}(hx:ops[i]?=some x):∀(l done:List Nat) (st s':St),l.Nodup->i∈l->xG C fid callP callI lt ops done l st->Facts ops lt l->(∀y∈done,zT ops lt y l) ->
  (∀(p q:List Nat),l=p++i::q->∀j∈p,∃y,ops[j]?=some y/\(xC ops y x=true\/(j∈qZ lt i/\A3 ops y x=true))) ->
  iG C fid callP callI none ops l st=some s'->∃s1,fV C fid callP callI none ops i st=some s1/\iG C fid callP callI none ops (l.erase i) s1=some s'/\xG C fid callP callI lt ops done (l.erase i) s1/\(∀y∈qZ lt i,y∈done->qi C fid ops y s1)
 | [],_,_,_,_,hi,_,_,_,_,_=>by simp at hi
 | j::l,done,st,s',hnd,hi,jA,J4,ic,yJ,hr=>by
  simp only[iG,bn] at hr;obtain ⟨s1,h1,hr⟩:=hr;obtain ⟨wJ,qv⟩:=jA s1 h1
  by_cases he:j=i
  .subst he;refine ⟨s1,h1,by simpa using hr,?_,wJ⟩;rw[List.erase_cons_head];exact qv.anti fun y hy=>fW _ hy
  .have cE:i∈l:=by rcases gI.1 hi with h|h<;>first|exact absurd h.symm he|exact h
   have AM:=(uD.1 hnd)
   have qq2:∀y∈j::done,zT ops lt y l:=fun y hy=>by
    rcases gI.1 hy with rfl|hy
    .exact J4.still [] l y rfl
    .exact (ic y hy).sub fun k hk=>fW _ hk
   obtain ⟨s2,h2,yG,hgo,YK⟩:=XZ hx l (j::done) s1 s' AM.2 cE qv J4.tail qq2 (fun p q gA k uX=>yJ (j::p) q (by rw[gA];rfl) k (by simp[uX])) hr;obtain ⟨p,q,gA⟩:=BX cE;obtain ⟨y,hy,bc⟩:=yJ (j::p) q (by rw[gA];rfl) j aA
   obtain ⟨s1',k1,k2⟩:∃s1',fV C fid callP callI none ops i st=some s1'/\fV C fid callP callI none ops j s1'=some s2:=by
    rcases bc with bc|⟨hm,bc⟩
    .exact qub hy hx bc h1 h2
    .exact qt8 hx hy bc h1 h2 (YK j hm gj)
   have Fp:(j::l).erase i=j::l.erase i:=by
    rw[List.erase_cons,an (by simpa using he)]
   rw[Fp]
   refine ⟨s1',k1,by simp only[iG,k2,ae];exact yG,fun s2' iZ=>?_,fun z hz FU=>?_⟩
   .rw[k2] at iZ;obtain rfl:=pS iZ;refine ⟨fun z hz FU=>?_,hgo⟩;have Y8:=J4.late j gj y hy (fun h=>by rw[h] at hz;cases hz)
    have hxn:jt x=.N:=by
     rcases bc with bc|⟨_,bc⟩
     .exact qt9 bc Y8
     .unfold A3 at bc;rw[Y8] at bc;simp at bc
    refine (wJ z hz FU).same (qcw hx h2 (.inl hxn)) fun oz Qh=>?_;have hs:=ic z FU (qaa hz) oz Qh i (fW _ cE) x hx;refine ⟨fun t ht=>Lr hx h2 t fun hd=>(hs t hd).1 ht,?_⟩;unfold yf
    cases hd:oz.dst with
    | none=>rfl
    | some d=>exact Lr hx h2 d fun lP=>(hs d lP).2 hd
   .have hiw:=J4.late i (fW _ cE) x hx (fun h=>by rw[h] at hz;cases hz)
    have hyn:jt y=.N\/jt y=.L:=by
     rcases bc with bc|⟨_,bc⟩
     .exact .inl (qua bc hiw)
     .unfold A3 at bc;simp only[cD] at bc;have:=bc.1;right
      split at this<;>first|assumption|cases this
    refine (YK z hz (fW _ FU)).same (qcw hy k2 hyn).symm fun oz Qh=>?_;have hs:=ic z FU (qaa hz) oz Qh j gj y hy;refine ⟨fun t ht=>(Lr hy k2 t fun hd=>(hs t hd).1 ht).symm,?_⟩;unfold yf
    cases hd:oz.dst with
    | none=>rfl
    | some d=>exact (Lr hy k2 d fun lP=>(hs d lP).2 hd).symm
theorem qbn{ops:Array Oper}{ah:List Nat}{lt:List (Nat×List Nat)}:∀{l:List Nat},xp ops ah lt l=true->∀(p q:List Nat) (i:Nat),l=p++i::q->∀j∈p,(ah.getD i 0).testBit j=true\/∃x y,ops[j]?=some x/\ops[i]?=some y/\(xC ops x y=true\/(j∈qZ lt i/\A3 ops x y=true))
 | [],_,p,q,i,h,_,_=>by simp at h
 | k::l,hp,p,q,i,h,j,hj=>by
  simp only[xp,cD,gD] at hp
  match p,h with
  | k'::p,h=>
   simp only[b6,qj] at h;obtain ⟨rfl,rfl⟩:=h
   rcases gI.1 hj with rfl|hj
   .have:=hp.1.1 i aA
    rcases Bool.or_eq_true_iff.1 this with h|h
    .exact .inl h
    .refine .inr ?_
     split at h
     .refine ⟨_,_,by assumption,by assumption,?_⟩
      rcases Bool.or_eq_true_iff.1 h with h|h
      .exact .inl h
      .simp only[cD] at h;exact .inr ⟨by simpa using h.1,h.2⟩
     .cases h
   .exact qbn hp.2 p q i rfl j hj
end
section
variable [WInv] {C:Cfg} {B:Nat} {w:World} {g:G}
theorem qlX(hC:CfgOk C){callI:Nat->List AV->ai->OM}(hI:s9 C callI){fid:Nat}{lt:List (Nat×List Nat)}{ops:Array Oper}{Q:Exit->Act->World->Prop}{canon:List Nat}(hlt:∀k o,ops[k]?=some o->∀e∈o.after.toList,Region.binds .any e=true->e.on<k)
  (CK:xp ops (wh ops) lt canon=true) (hnd:canon.Nodup):∀(l:List Nat) (n:Nat),l.length=n->l.Sublist canon->∀(listed:Array Bool),listed.size=ops.size->(∀x,x<ops.size->(listed.getD x true=true↔x∉l))->(∀x∈l,x<ops.size) ->
  (∀k o,k<ops.size->k∉l->ops[k]?=some o->∀e∈o.after.toList,Region.binds .any e=true->e.on∉l) ->
  ∀(st s':St) (a:Act) (w:World) (g:G),iG C fid (jY callI) callI none ops l st=some s'->xG C fid (jY callI) callI lt ops [] l st->StR B w g st a ->
  (∀a' w' g',StR B w' g' s' a'->Step B w g w' g'->jk C.P a' a->Q .normal a' w')->wpAny C.P .any ops Q n listed a w:=by
 intro l n hn
 induction n generalizing l with
 | zero=>
  intro hJ listed hsz jK hin sG st s' a w g hr jA hs hq;have wP:l=[]:=oF hn;subst wP;simp only[iG,cg] at hr;subst hr;refine ⟨?_,hq a w g hs (Step.refl _ _ _) (jk.refl _ _)⟩;unfold Region.ready;rw[List.filter_eq_nil_iff];intro x hx;have:listed.getD x true=true:=(jK x (by simpa using hx)).2 aA;simp[this]
 | succ n ih=>
  intro hJ listed hsz jK hin sG st s' a w g hr jA hs hq
  have FI:∀i∈Region.ready .any ops listed,i∈l/\i<ops.size/\∃o,ops[i]?=some o/\∀e∈o.after.toList,Region.binds .any e=true->e.on∉l:=by
   intro i hi;unfold Region.ready at hi;simp only[po,vV,cD,zp] at hi;obtain ⟨h1,h2,h3⟩:=hi
   have cE:i∈l:=by
    by_cases h:i∈l
    .exact h
    .have:=(jK i h1).2 h;rw[this] at h2;cases h2
   refine ⟨cE,h1,ops[i],by simp[h1],fun e he hb mK=>?_⟩;have ho:ops[i]?=some ops[i]:=by simp[h1]
   rw[ho] at h3;simp only[aQ,fk] at h3;have h4:=s6.1 h3 e (by simpa using he);simp only[hb,jj,uu] at h4;have h5:=hlt i _ ho e he hb
   have h6:listed.getD e.on true=true:=by
    have hes:e.on<listed.size:=aa;simp only[Array.getD,hes,dif_pos] at h4 ⊢;exact h4
   exact (jK e.on (by omega)).1 h6 mK
  refine ⟨fun FC=>?_,fun i hi=>?_⟩
  ·
   exfalso;have hne:l≠[]:=fun h=>by rw[h] at hn;simp at hn
   obtain ⟨mn,yx,AJ⟩:∃mn∈l,∀x∈l,mn<=x:=by
    exact Kw l hne
   have j0:=hin mn yx
   have:mn∈Region.ready .any ops listed:=by
    unfold Region.ready;simp only[po,vV,cD,zp]
    refine ⟨j0,?_,?_⟩
    .cases hb:listed.getD mn true with
     | false=>rfl
     | true=>exact absurd yx ((jK mn j0).1 hb)
    .have ho:ops[mn]?=some ops[mn]:=by simp[j0]
     rw[ho];simp only[aQ,fk];rw[s6];intro e he
     by_cases hb:Region.binds .any e=true
     .have h5:=hlt mn _ ho e (by simpa using he) hb;have h6:e.on∉l:=fun h=>by have:=AJ _ h;omega
      have h7:=(jK e.on (by omega)).2 h6;have hes:e.on<listed.size:=aa
      have h8:listed.getD e.on false=true:=by
       simp only[Array.getD,hes,dif_pos] at h7 ⊢;exact h7
      rw[h8];simp
     .simp at hb;simp[hb]
   rw[FC] at this;simp at this
  .obtain ⟨cE,kL,x,hx,wI⟩:=FI i hi
   obtain ⟨s1,h1,h2,qv,_⟩:=XZ hx l [] st s' (hnd.sublist hJ) cE jA (qsA CK hJ) (fun y hy=>by simp at hy) (fun p q gA j hj=>by
    obtain ⟨pre,post,uQ⟩:∃pc qc,canon=pc++i::qc/\∀y∈p,y∈pc:=by
     rw[gA] at hJ;obtain ⟨c1,c2,hc,jL,kM⟩:=List.append_sublist_iff.1 hJ
     obtain ⟨d1,d2,hd,hdi⟩:∃d1 d2,c2=d1++i::d2/\True:=by
      have:=kM.subset (gj);obtain ⟨d1,d2,hd⟩:=BX this;exact ⟨d1,d2,hd,trivial⟩
     exact ⟨c1++d1,d2,by rw[hc,hd];simp,fun y hy=>hZ.2 (.inl (jL.subset hy))⟩
    rcases qbn CK pre post i uQ.1 j (uQ.2 j hj) with h|⟨y,x',hy,iP,bc⟩
    .exfalso;have gz:((oK ops ops.size).getD i 0).testBit j=true:=h
     have:=Jm (D:=fun k=>k∉l) (fun k o ck lR e he hb=>by
      rcases sq k ops.size with hk1|hk1
      .exact sG k o hk1 ck lR e he hb
      .rw[DD hk1] at lR;cases lR) hlt ops.size i x kL hx wI j gz
     exact this (by rw[gA];simp[hj])
    .obtain rfl:x=x':=by simpa [hx] using iP
     exact ⟨y,hy,bc⟩) hr
   refine Ls hC hI h1 hs (fun b' gO=>by cases gO) fun a' w' g' gS s hd=>?_
   have gz:∀y,y∈l.erase i↔y∈l/\y≠i:=fun y=>by
    rw[(hnd.sublist hJ).mem_erase_iff];exact And.comm
   refine ih (l.erase i) (by rw[List.length_erase_of_mem cE];omega) (List.Sublist.trans List.erase_sublist hJ) (listed.setIfInBounds i true) (by simpa using hsz) (fun y hy=>?_) (fun y hy=>hin y ((gz y).1 hy).1) (fun k o hk1 jB lR e he hb mK=>?_) s1 s' a' w' g' h2 qv gS fun a'' w'' g'' tR s' lP=>hq a'' w'' g'' tR (s.trans s') (lP.trans hd)
   .have qY:y<listed.size:=aa
    have hg:(listed.setIfInBounds i true).getD y true=if i=y then true else listed.getD y true:=by
     simp only[jX,G2]
     by_cases nP:i=y
     .subst nP;simp[qY]
     .simp[nP]
    rw[hg,gz]
    by_cases nP:i=y
    .subst nP;simp
    .rw[an nP,jK y hy]
     constructor
     .intro h h';exact h h'.1
     .intro h h';exact h ⟨h',fun he=>nP he.symm⟩
   .have yE:=(gz _).1 mK
    by_cases jx:k=i
    .subst jx;obtain rfl:x=o:=by simpa [hx] using lR
     exact wI e he hb yE.1
    .exact sG k o hk1 (fun h=>jB ((gz k).2 ⟨h,jx⟩)) lR e he hb yE.1
theorem qo5{P:Program}{ops:Array Oper}{l ah:List Nat}{lt:List (Nat×List Nat)}(h:Al P ops l ah lt=true):P.follows .mixedOrders=true/\l.isPerm (List.range ops.size)=true /\
  ((List.range ops.size).all (fun i=>(match ops[i]? with|some o=>o.after.all fun e=>!Region.binds .any e||decide (e.on<i)|none=>false)))=true/\xp ops (wh ops) lt l=true:=by
 unfold Al at h;simp only[cD] at h;obtain ⟨h1,h2,h3,h4,h5,h6⟩:=h
 have hlt:∀k o,ops[k]?=some o->∀e∈o.after.toList,Region.binds .any e=true->e.on<k:=by
  intro k o hk e he hb;have fZ:=(fP.1 hk).1;have:=gD.1 h3 k (by simpa using fZ);rw[hk] at this;simp only at this;have:=s6.1 this e (by simpa using he);simpa [hb] using this
 have yn:=OP (rC h4) hlt (fun i hi=>gD.1 h5 i (by simpa using hi)) ops.size (aR _);rw[iX (by rw[rC h4];exact aR _)] at yn;refine ⟨h1,h2,h3,?_⟩;unfold wh;rw[yn];exact h6
theorem qo6(hC:CfgOk C){callI:Nat->List AV->ai->OM}(hI:s9 C callI){R:Type}{fid id:Nat}{ops:Array Oper}{Q:Exit->Act->World->Prop}{canon ah:List Nat}{lt:List (Nat×List Nat)}(bc:Al C.P ops canon ah lt=true){st:St}{K:St->Option R}{r:R}{a:Act}
  (h:rj C fid (jY callI) callI lt ops canon st K=some r) (hs:StR B w g st a)
  (hn:∀s' a' w' g',K s'=some r->StR B w' g' s' a'->Step B w g w' g'->jk C.P a' a->Q .normal a' w'):(Code.region id ops true).wp C.P Q a w:=by
 obtain ⟨h1,h2,h3,h4⟩:=qo5 bc;have mL:canon.Perm (List.range ops.size):=List.isPerm_iff.1 h2
 have hlt:∀k o,ops[k]?=some o->∀e∈o.after.toList,Region.binds .any e=true->e.on<k:=by
  intro k o hk e he hb;have fZ:=(fP.1 hk).1;have:=gD.1 h3 k (by simpa using fZ);rw[hk] at this;simp only at this;have:=s6.1 this e (by simpa using he);simpa [hb] using this
 obtain ⟨s',hr,hK,jA⟩:=qb0 [] h;refine wp_region_any h1 ?_
 refine qlX hC hI hlt h4 (mL.nodup_iff.2 List.nodup_range) canon ops.size (by rw[mL.length_eq];simp) (List.Sublist.refl _) _ aA (fun x hx=>?_) (fun x hx=>by simpa using mL.mem_iff.1 hx) (fun k o hk ck=>?_) _ s' a _ g hr jA ⟨hs.tmp.step (Step.drew B w g),hs.mem.drew,hs.size⟩ ?_
 .have:x∈canon:=mL.mem_iff.2 (by simpa using hx);simp[this,Array.getD,hx]
 .exact absurd (mL.mem_iff.2 (by simpa using hk)) ck
 .intro a' w' g' gS s hd;exact hn s' a' w' g' hK gS ((Step.drew B w g).trans s) hd
end
end Go.Ab
namespace Go.Ab
def uF{R:Type}(F:Nat->Option R):Prop:=∀k r,F k=some r->F (k+1)=some r
theorem uF.le{R:Type}{F:Nat->Option R}(h:uF F){k n:Nat}(hn:k<=n){r:R}(hr:F k=some r):F n=some r:=by
 induction hn with
 | refl=>exact hr
 | step _ ih=>exact h _ _ ih
open Classical in
noncomputable def lim{R:Type}(F:Nat->Option R):Option R:=if h:∃k r,F k=some r then F h.choose else none
theorem ua{R:Type}{F:Nat->Option R}{r:R}(h:lim F=some r):∃k,F k=some r:=by
 unfold lim at h
 split at h
 .exact ⟨_,h⟩
 .cases h
theorem uF.lim{R:Type}{F:Nat->Option R}(h:uF F){k:Nat}{r:R}(hr:F k=some r):lim F=some r:=by
 have hx:∃k r,F k=some r:=⟨k,r,hr⟩;unfold Ab.lim;rw[dif_pos hx];obtain ⟨r',Zv⟩:=hx.choose_spec;have h1:=h.le (B4 k hx.choose) hr;have h2:=h.le (Ef k hx.choose) Zv;rw[h1] at h2;rw[Zv,<- pS h2]
theorem Rj{R:Type}{x y:Option R}(h:∀r,x=some r↔y=some r):x=y:=Option.ext h
section
variable {R:Type}
def lK:List Bool->List AV->Bool
 | [],[]=>true
 | _::bs,_::ts=>lK bs ts
 | _,_=>false
def rb:List Bool->List AV->List AV
 | [],_=>[]
 | b::bs,ts=>(match b with|true=>ts.headD .any|false=>.any)::rb bs ts.tail
theorem qbP:∀(bs:List Bool) (ts:List AV),lK bs ts=true->rb bs ts=qA bs ts
 | [],[],_=>rfl
 | b::bs,t::ts,h=>by
  simp only[rb,qA,qbP bs ts (by simpa [lK] using h),List.tail_cons];cases b<;>rfl
 | [],_::_,h=>by simp[lK] at h
 | _::_,[],h=>by simp[lK] at h
theorem RE:∀(bs:List Bool) (ts:List AV),rb bs (rb bs ts)=rb bs ts
 | [],_=>rfl
 | b::bs,ts=>by
  simp only[rb,List.headD_cons,List.tail_cons,RE bs ts.tail];cases b<;>rfl
abbrev kJ(bs:List Bool)(st:St)(f:St->Option R):Option R:=match lK bs st.tmps with
 | true=>f ⟨rb bs st.tmps,st.mem⟩
 | false=>none
abbrev ri(again:St->Option R)(mk:Masks)(K:Ex->St->Option R):Ex->St->Option R:=fun e st'=>match e with
 | .normal=>kJ mk.head st' again
 | .exit id=>kJ mk.out st' (K (.exit id))
 | .ret=>kJ mk.ret st' (K .ret)
def jn(body:St->(Ex->St->Option R)->Option R)(mk:Masks):Nat->St->(Ex->St->Option R)->Option R
 | 0,_,_=>none
 | n+1,st,K=>body st (ri (fun st'=>jn body mk n st' K) mk K)
noncomputable def rS(body:St->(Ex->St->Option R)->Option R)(mk:Masks)(st:St)(K:Ex->St->Option R):Option R:=lim fun n=>jn body mk n st K
section
variable (C:Cfg) (fid:Nat) (callP:Nat->List AV->Option AV) (callI:Nat->List AV->ai->OM)
noncomputable def cL:Code->St->(Ex->St->Option R)->Option R
 | .skip,st,K=>K .normal st
 | .region id ops d,st,K=>match d with
  | false=>nA C fid callP callI none ops (List.range ops.size) st (K .normal)
  | true=>match C.seqm fid id with
  | true=>(match Al C.P ops (re (C.ord fid id) ops.size) (C.ahd fid id) (C.late fid id) with
   | true=>rj C fid callP callI (C.late fid id) ops (re (C.ord fid id) ops.size) st (K .normal)
   | false=>none)
  | false=>match Ak C.P ops (re (C.ord fid id) ops.size) (C.ahd fid id) (C.two fid id) with
   | true=>nA C fid callP callI (some st.mem.length) ops (re (C.ord fid id) ops.size) ⟨st.tmps,bV st.mem (gd ops ops.size)⟩ (fun st'=>um C.P ops st' (K .normal) (C.two fid id))
   | false=>none
 | .seq a b,st,K=>cL a st (y6 (fun st'=>cL b st' K) K)
 | .cond c a b,st,K=>aB (ev st.tmps c) (cL a st K) (cL b st K)
 | .block id b,st,K=>cL b st (bw id K)
 | .loop b,st,K=>kJ (C.mask fid (keyOf b)).head st fun st'=>rS (cL b) (C.mask fid (keyOf b)) st' K
 | .exit id,st,K=>K (.exit id) st
 | .ret,st,K=>K .ret st
 | _,_,_=>none
end
def tc(f:St->(Ex->St->Option R)->Option R):Prop:=∀st,f st=(fun _=>none)\/∃e s,f st=fun K=>K e s
theorem qtn(C:Cfg)(fid:Nat)(callP:Nat->List AV->Option AV)(callI:Nat->List AV->ai->OM)(base:Option Nat)(ops:Array Oper)(l:List Nat)(st:St) :
  ((fun K:Ex->St->Option R=>nA C fid callP callI base ops l st (K .normal))=fun _=>none)\/∃e s,(fun K:Ex->St->Option R=>nA C fid callP callI base ops l st (K .normal))=fun K=>K e s:=by
 cases h:iG C fid callP callI base ops l st with
 | none=>left;funext K;rw[ud,h];rfl
 | some s=>right;refine ⟨.normal,s,?_⟩;funext K;rw[ud,h];rfl
theorem qbZ(C:Cfg)(fid:Nat)(callP:Nat->List AV->Option AV)(callI:Nat->List AV->ai->OM)(lt:List (Nat×List Nat))(ops:Array Oper):∀(l:List Nat) (st:St),
  ((fun K:Ex->St->Option R=>rj C fid callP callI lt ops l st (K .normal))=fun _=>none)\/∃e s,(fun K:Ex->St->Option R=>rj C fid callP callI lt ops l st (K .normal))=fun K=>K e s
 | [],st=>.inr ⟨.normal,st,rfl⟩
 | i::l,st=>by
  cases h:fV C fid callP callI none ops i st with
  | none=>left;funext K;rw[y5,h];rfl
  | some s1=>
   by_cases hc:∀y∈qZ lt i,qi C fid ops y s1
   .rcases qbZ C fid callP callI lt ops l s1 with hh|⟨e,s,hh⟩
    .left;funext K;rw[y5,h,ae,Ci hc];exact congrFun hh K
    .right;exact ⟨e,s,by funext K;rw[y5,h,ae,Ci hc];exact congrFun hh K⟩
   .left;funext K;rw[y5,h,ae,OZ hc]
theorem Yj{bs:List Bool}{st:St}{f:St->(Ex->St->Option R)->Option R}(h:tc f):((fun K=>kJ bs st fun s=>f s K)=fun _=>none)\/∃e s,(fun K=>kJ bs st fun s=>f s K)=fun K=>K e s:=by
 unfold kJ
 cases lK bs st.tmps with
 | false=>exact .inl rfl
 | true=>exact h _
theorem qbU{again again':St->Option R}{mk:Masks}{K:Ex->St->Option R}(h:∀s r,again s=some r->again' s=some r){e:Ex}{s:St}{r:R}(hr:ri again mk K e s=some r):ri again' mk K e s=some r:=by
 cases e with
 | normal=>
  simp only[ri,kJ] at hr ⊢
  cases hf:lK mk.head s.tmps with
  | true=>rw[hf] at hr;exact h _ _ hr
  | false=>rw[hf] at hr;cases hr
 | exit id=>exact hr
 | ret=>exact hr
theorem tc.mono{f:St->(Ex->St->Option R)->Option R}(h:tc f){st:St}{K K':Ex->St->Option R}(hK:∀e s r,K e s=some r->K' e s=some r){r:R}(hr:f st K=some r):f st K'=some r:=by
 rcases h st with h|⟨e,s,h⟩
 .rw[h] at hr;cases hr
 .rw[h] at hr ⊢;exact hK _ _ _ hr
theorem KD{body:St->(Ex->St->Option R)->Option R}(hb:tc body)(mk:Masks)(K:Ex->St->Option R):∀n st r,jn body mk n st K=some r->jn body mk (n+1) st K=some r:=by
 intro n
 induction n with
 | zero=>intro st r h;cases h
 | succ n ih=>
  intro st r h;rw[jn] at h ⊢;exact hb.mono (fun e s r hr=>qbU (fun s r=>ih s r) hr) h
theorem bX{body:St->(Ex->St->Option R)->Option R}(hb:tc body)(mk:Masks)(st:St)(K:Ex->St->Option R):rS body mk st K=body st (ri (fun st'=>rS body mk st' K) mk K):=by
 apply Rj;intro r;have CO:∀st,uF fun n=>jn body mk n st K:=fun st n r h=>KD hb mk K n st r h
 constructor
 .intro h;obtain ⟨n,hn⟩:=ua h
  cases n with
  | zero=>cases hn
  | succ n=>
   rw[jn] at hn;exact hb.mono (fun e s r hr=>qbU (fun s r h=>(CO s).lim h) hr) hn
 .intro h
  rcases hb st with hx|⟨e,s,hx⟩
  .rw[hx] at h;cases h
  .have:∃n,jn body mk (n+1) st K=some r:=by
    rw[hx] at h;simp only[jn];rw[hx];simp only
    cases e with
    | normal=>
     simp only[ri,kJ] at h ⊢
     cases hf:lK mk.head s.tmps with
     | true=>rw[hf] at h;exact ua h
     | false=>rw[hf] at h;cases h
    | exit id=>exact ⟨0,h⟩
    | ret=>exact ⟨0,h⟩
   obtain ⟨n,hn⟩:=this;exact (CO st).lim hn
theorem QS{body:St->(Ex->St->Option R)->Option R}(hb:tc body)(mk:Masks):∀n,tc (jn body mk n)
 | 0=>fun st=>.inl rfl
 | n+1=>fun st=>by
  have ih:=QS hb mk n
  rcases hb st with hx|⟨e,s,hx⟩
  .left;funext K;simp only[jn];rw[hx]
  .cases e with
   | normal=>
    have:jn body mk (n+1) st=fun K=>kJ mk.head s fun s'=>jn body mk n s' K:=by
     funext K;simp only[jn];rw[hx]
    rw[this];exact Yj ih
   | exit id=>
    have:jn body mk (n+1) st=fun K=>kJ mk.out s (K (.exit id)):=by
     funext K;simp only[jn];rw[hx]
    rw[this];unfold kJ
    cases lK mk.out s.tmps with
    | false=>exact .inl rfl
    | true=>exact .inr ⟨_,_,rfl⟩
   | ret=>
    have:jn body mk (n+1) st=fun K=>kJ mk.ret s (K .ret):=by
     funext K;simp only[jn];rw[hx]
    rw[this];unfold kJ
    cases lK mk.ret s.tmps with
    | false=>exact .inl rfl
    | true=>exact .inr ⟨_,_,rfl⟩
open Classical in
theorem qrM{body:St->(Ex->St->Option R)->Option R}(hb:tc body)(mk:Masks):tc (rS body mk):=by
 intro st
 by_cases h:∃n e s,jn body mk n st=fun K=>K e s
 .obtain ⟨n,e,s,hn⟩:=h;right;refine ⟨e,s,?_⟩;funext K;apply Rj;intro r;have CO:uF fun n=>jn body mk n st K:=fun n r h=>KD hb mk K n st r h
  constructor
  .intro hr;obtain ⟨n',hn'⟩:=ua hr;have h1:jn body mk (max n n') st K=some r:=CO.le (Ef n n') hn'
   cases hk:K e s with
   | some r'=>
    have h2:jn body mk (max n n') st K=some r':=CO.le (B4 n n') (r:=r') (by simp only[hn];exact hk);rw[h2] at h1;exact h1
   | none=>
    rcases QS hb mk (max n n') st with hx|⟨e',s',hx⟩
    .rw[hx] at h1;cases h1
    .have h3:jn body mk (max n n') st (fun e2 s2=>if e2=e/\s2=s then some r else none)=some r:=by
      have qqQ:uF fun n=>jn body mk n st (fun e2 s2=>if e2=e/\s2=s then some r else none):=fun n r h=>KD hb mk _ n st r h
      exact qqQ.le (B4 n n') (by simp only[hn];simp)
     rw[hx] at h3 h1;simp only at h3 h1
     split at h3
     .rename_i he;obtain ⟨rfl,rfl⟩:=he;rw[hk] at h1;cases h1
     .cases h3
  .intro hr;exact CO.lim (k:=n) (by simp only[hn];exact hr)
 .left;funext K
  have:∀r,¬ rS body mk st K=some r:=by
   intro r hr;obtain ⟨n,hn⟩:=ua hr
   rcases QS hb mk n st with hx|⟨e,s,hx⟩
   .rw[hx] at hn;cases hn
   .exact h ⟨n,e,s,hx⟩
  cases hx:rS body mk st K with
  | none=>rfl
  | some r=>exact absurd hx (this r)
section
variable {C:Cfg} {fid:Nat} {callP:Nat->List AV->Option AV} {callI:Nat->List AV->ai->OM}
theorem bQ:∀c:Code,tc (R:=R) (cL C fid callP callI c):=by
 intro c
 induction c with
 | skip=>exact fun st=>.inr ⟨.normal,st,rfl⟩
 | region id ops d=>
  intro st
  cases d with
  | false=>
   have:cL (R:=R) C fid callP callI (.region id ops false) st=fun K=>nA C fid callP callI none ops (List.range ops.size) st (K .normal):=by funext K;simp only[cL]
   rw[this];exact qtn ..
  | true=>
   cases hq:C.seqm fid id with
   | true=>
    cases hd:Al C.P ops (re (C.ord fid id) ops.size) (C.ahd fid id) (C.late fid id) with
    | true=>
     have:cL (R:=R) C fid callP callI (.region id ops true) st=fun K=>rj C fid callP callI (C.late fid id) ops (re (C.ord fid id) ops.size) st (K .normal):=by funext K;simp only[cL,hq,hd]
     rw[this];exact qbZ ..
    | false=>left;funext K;simp only[cL,hq,hd]
   | false=>
   cases hd:Ak C.P ops (re (C.ord fid id) ops.size) (C.ahd fid id) (C.two fid id) with
   | true=>
    have:cL (R:=R) C fid callP callI (.region id ops true) st=fun K=>nA C fid callP callI (some st.mem.length) ops (re (C.ord fid id) ops.size) ⟨st.tmps,bV st.mem (gd ops ops.size)⟩ (fun st'=>um C.P ops st' (K .normal) (C.two fid id)):=by funext K;simp only[cL,hq,hd]
    rw[this];have hl:=ud (R:=R) (C:=C) (fid:=fid) (callP:=callP) (callI:=callI) (some st.mem.length) ops (re (C.ord fid id) ops.size) ⟨st.tmps,bV st.mem (gd ops ops.size)⟩
    cases hr:iG C fid callP callI (some st.mem.length) ops (re (C.ord fid id) ops.size) ⟨st.tmps,bV st.mem (gd ops ops.size)⟩ with
    | none=>left;funext K;rw[hl,hr];rfl
    | some s=>
     rcases quw (R:=R) C.P ops s (C.two fid id) with ht|ht
     .left;funext K;rw[hl,hr];exact ht _
     .right;exact ⟨.normal,s,by funext K;rw[hl,hr];exact ht _⟩
   | false=>left;funext K;simp only[cL,hq,hd]
 | seq a b iha ihb=>
  intro st
  rcases iha st with h|⟨e,s,h⟩
  .left;funext K;simp only[cL,h]
  .cases e with
   | normal=>
    rcases ihb s with h'|⟨e',s',h'⟩
    .left;funext K;simp only[cL,h,y6,h']
    .right;refine ⟨e',s',?_⟩;funext K;simp only[cL,h,y6,h']
   | exit id=>right;refine ⟨.exit id,s,?_⟩;funext K;simp only[cL,h,y6]
   | ret=>right;refine ⟨.ret,s,?_⟩;funext K;simp only[cL,h,y6]
 | cond co a b iha ihb=>
  intro st
  cases hv:ev st.tmps co with
  | bool v=>
   cases v with
   | true=>
    have:cL (R:=R) C fid callP callI (.cond co a b) st=cL C fid callP callI a st:=by funext K;simp only[cL,hv,aB]
    rw[this];exact iha st
   | false=>
    have:cL (R:=R) C fid callP callI (.cond co a b) st=cL C fid callP callI b st:=by funext K;simp only[cL,hv,aB]
    rw[this];exact ihb st
  | _=>left;funext K;simp only[cL,hv,aB]
 | block id b ih=>
  intro st
  rcases ih st with h|⟨e,s,h⟩
  .left;funext K;simp only[cL,h]
  .cases e with
   | normal=>right;refine ⟨.normal,s,?_⟩;funext K;simp only[cL,h,bw]
   | exit j=>
    cases hj:j==id with
    | true=>right;refine ⟨.normal,s,?_⟩;funext K;simp only[cL,h,bw,hj]
    | false=>right;refine ⟨.exit j,s,?_⟩;funext K;simp only[cL,h,bw,hj]
   | ret=>right;refine ⟨.ret,s,?_⟩;funext K;simp only[cL,h,bw]
 | loop b ih=>
  intro st;have:cL (R:=R) C fid callP callI (.loop b) st=fun K=>kJ (C.mask fid (keyOf b)).head st fun st'=>rS (cL C fid callP callI b) (C.mask fid (keyOf b)) st' K:=by funext K;simp only[cL]
  rw[this];exact Yj (qrM ih _)
 | exit id=>exact fun st=>.inr ⟨.exit id,st,rfl⟩
 | ret=>exact fun st=>.inr ⟨.ret,st,rfl⟩
 | rangeFunc=>exact fun st=>.inl rfl
 | scope=>exact fun st=>.inl rfl
 | label=>exact fun st=>.inl rfl
 | goto=>exact fun st=>.inl rfl
 | refuse=>exact fun st=>.inl rfl
end
section
variable {C:Cfg} {fid:Nat} {cp cp':Nat->List AV->Option AV} {ci ci':Nat->List AV->ai->OM}
def ph(cp cp':Nat->List AV->Option AV)(ci ci':Nat->List AV->ai->OM):Prop:=(∀g vs v,cp g vs=some v->cp' g vs=some v)/\∀g vs m r,ci g vs m=some r->ci' g vs m=some r
theorem qoD(h:ph cp cp' ci ci'){d:Option Nat}{g:Nat}{vs:List AV}{m:ai}{K:AV->ai->Option R}{x:R}(hx:jZ C fid cp ci d g vs m K=some x):jZ C fid cp' ci' d g vs m K=some x:=by
 unfold jZ at hx ⊢
 cases sK:C.libm g with
 | some l=>rw[sK] at hx;exact hx
 | none=>
 rw[sK] at hx;simp only at hx ⊢
 cases hl:C.lib g with
 | some l=>rw[hl] at hx;exact hx
 | none=>
  rw[hl] at hx;simp only at hx ⊢
  cases hi:C.inl fid g with
  | true=>
   rw[hi] at hx
   cases d with
   | some d=>exact hx
   | none=>
    simp only[bn] at hx ⊢;obtain ⟨r,hr,hx⟩:=hx
    cases hz:C.frzc fid g with
    | true=>
     rw[hz] at hr;simp only[An,bn] at hr ⊢;obtain ⟨r1,h1,h2⟩:=hr;exact ⟨r,⟨r1,h1,h.2 _ _ _ _ h2⟩,hx⟩
    | false=>
    rw[hz] at hr;simp only at hr ⊢
    cases ht:C.thaw fid g with
    | false=>rw[ht] at hr;exact ⟨r,h.2 _ _ _ _ hr,hx⟩
    | true=>
     rw[ht] at hr;simp only[LB,bn] at hr ⊢;obtain ⟨r1,h1,q,h2,h3⟩:=hr;exact ⟨r,⟨r1,h1,q,h.2 _ _ _ _ h2,h3⟩,hx⟩
  | false=>
   rw[hi] at hx;simp only[bn] at hx ⊢;obtain ⟨r,hr,hx⟩:=hx;refine ⟨r,?_,hx⟩;unfold aF at hr ⊢;simp only[bn] at hr ⊢;obtain ⟨r1,h1,h2⟩:=hr;refine ⟨r1,h1,?_⟩
   split at h2
   .cases h2
   .rename_i hne;rw[an hne];simp only[iq] at h2 ⊢;obtain ⟨v,hv,h2⟩:=h2;exact ⟨v,h.1 _ _ _ hv,h2⟩
theorem qbe(h:ph cp cp' ci ci'){d:Option Nat}{o:Oper}{ρ:Operand->AV}{m:ai}{x:AV×ai}(hx:gy C fid cp ci d o ρ m=some x):gy C fid cp' ci' d o ρ m=some x:=by
 unfold gy lD at hx ⊢
 cases ho:o.op with
 | call c=>
  rw[ho] at hx;simp only at hx ⊢
  cases hc:c.callee with
  | value f=>
   rw[hc] at hx;simp only[bn] at hx ⊢;obtain ⟨gc,h1,hx⟩:=hx;exact ⟨gc,h1,qoD h hx⟩
  | _=>rw[hc] at hx;exact hx
 | _=>rw[ho] at hx;exact hx
theorem Lq(h:ph cp cp' ci ci'){base:Option Nat}{ops:Array Oper}{i:Nat}{st s:St}(hx:fV C fid cp ci base ops i st=some s):fV C fid cp' ci' base ops i st=some s:=by
 unfold fV at hx ⊢
 cases hi:ops[i]? with
 | none=>rw[hi] at hx;cases hx
 | some o=>
  rw[hi] at hx;simp only[iq] at hx ⊢;obtain ⟨r,hr,hx⟩:=hx;refine ⟨r,?_,hx⟩;unfold iB at hr ⊢
  cases hg:o.guard with
  | none=>rw[hg] at hr;exact qbe h hr
  | some jw=>
   obtain ⟨j,want⟩:=jw;rw[hg] at hr;simp only at hr ⊢
   cases hd:(ops[j]?).bind (·.dst) with
   | none=>rw[hd] at hr;cases hr
   | some g=>
    rw[hd] at hr;simp only at hr ⊢
    split at hr
    .exact hr
    .split at hr
     .split at hr
      .rename_i hb;rw[aq hb];exact qbe h hr
      .rename_i hb;rw[an hb];exact hr
     .cases hr
theorem RG(h:ph cp cp' ci ci'){base:Option Nat}{ops:Array Oper}:∀(l:List Nat) {st s:St},iG C fid cp ci base ops l st=some s->iG C fid cp' ci' base ops l st=some s
 | [],_,_,hx=>hx
 | i::l,st,s,hx=>by
  simp only[iG,bn] at hx ⊢;obtain ⟨s1,h1,h2⟩:=hx;exact ⟨s1,Lq h h1,RG h l h2⟩
theorem qb2(h:ph cp cp' ci ci'){base:Option Nat}{ops:Array Oper}{l:List Nat}{st:St}{K:St->Option R}{r:R}(hx:nA C fid cp ci base ops l st K=some r):nA C fid cp' ci' base ops l st K=some r:=by
 rw[ud] at hx ⊢;simp only[bn] at hx ⊢;obtain ⟨s,h1,h2⟩:=hx;exact ⟨s,RG h l h1,h2⟩
theorem RI(h:ph cp cp' ci ci'){lt:List (Nat×List Nat)}{ops:Array Oper}:∀(l:List Nat) {st:St} {K:St->Option R} {r:R},rj C fid cp ci lt ops l st K=some r->rj C fid cp' ci' lt ops l st K=some r
 | [],_,_,_,hx=>hx
 | i::l,st,K,r,hx=>by
  rw[y5,bn] at hx ⊢;obtain ⟨s1,h1,h2⟩:=hx;obtain ⟨h3,h4⟩:=O0 h2;exact ⟨s1,Lq h h1,by rw[Ci h3];exact RI h l h4⟩
theorem Cn(h:ph cp cp' ci ci'):∀(c:Code) (st:St) (K:Ex->St->Option R) (r:R),cL C fid cp ci c st K=some r->cL C fid cp' ci' c st K=some r:=by
 intro c
 induction c with
 | region id ops d=>
  intro st K r hx
  cases d with
  | false=>simp only[cL] at hx ⊢;exact qb2 h hx
  | true=>
   simp only[cL] at hx ⊢
   cases hq:C.seqm fid id with
   | true=>
    rw[hq] at hx;simp only at hx ⊢
    cases hd:Al C.P ops (re (C.ord fid id) ops.size) (C.ahd fid id) (C.late fid id) with
    | true=>rw[hd] at hx;exact RI h _ hx
    | false=>rw[hd] at hx;cases hx
   | false=>
   rw[hq] at hx;simp only at hx ⊢
   cases hd:Ak C.P ops (re (C.ord fid id) ops.size) (C.ahd fid id) (C.two fid id) with
   | true=>rw[hd] at hx;exact qb2 h hx
   | false=>rw[hd] at hx;cases hx
 | seq a b iha ihb=>
  intro st K r hx;simp only[cL] at hx ⊢;have h1:=iha _ _ _ hx;refine (bQ a).mono (fun e s r hr=>?_) h1
  cases e with
  | normal=>exact ihb _ _ _ hr
  | exit id=>exact hr
  | ret=>exact hr
 | cond co a b iha ihb=>
  intro st K r hx;simp only[cL] at hx ⊢;unfold aB at hx ⊢
  split at hx
  .split at hx
   .exact iha _ _ _ hx
   .exact ihb _ _ _ hx
  .cases hx
 | block id b ih=>
  intro st K r hx;simp only[cL] at hx ⊢;exact ih _ _ _ hx
 | loop b ih=>
  intro st K r hx;simp only[cL,kJ] at hx ⊢
  cases hf:lK (C.mask fid (keyOf b)).head st.tmps with
  | false=>rw[hf] at hx;cases hx
  | true=>
   rw[hf] at hx;simp only at hx ⊢;obtain ⟨n,hn⟩:=ua hx
   have:∀n st,jn (cL C fid cp ci b) (C.mask fid (keyOf b)) n st K=some r->jn (cL C fid cp' ci' b) (C.mask fid (keyOf b)) n st K=some r:=by
    intro n
    induction n with
    | zero=>intro st hx;cases hx
    | succ n ihn=>
     intro st hx;simp only[jn] at hx ⊢;have h1:=ih _ _ _ hx
     rcases bQ (R:=R) (C:=C) (fid:=fid) (callP:=cp') (callI:=ci') b st with hl|⟨e,s,hl⟩
     .rw[hl] at h1;cases h1
     .rw[hl] at h1 ⊢;simp only at h1 ⊢
      cases e with
      | normal=>
       simp only[ri,kJ] at h1 ⊢
       cases Cz:lK (C.mask fid (keyOf b)).head s.tmps with
       | true=>rw[Cz] at h1;exact ihn _ h1
       | false=>rw[Cz] at h1;cases h1
      | exit id=>exact h1
      | ret=>exact h1
   exact uF.lim (F:=fun n=>jn (cL C fid cp' ci' b) (C.mask fid (keyOf b)) n _ K) (fun n r h=>KD (bQ b) _ K n _ r h) (this n _ hn)
 | _=>intro st K r hx;exact hx
end
structure Chain where
 cp:Nat->Nat->List AV->Option AV
 ci:Nat->Nat->List AV->ai->OM
 le:∀k,ph (cp k) (cp (k+1)) (ci k) (ci (k+1))
theorem ph.refl(cp:Nat->List AV->Option AV)(ci:Nat->List AV->ai->OM):ph cp cp ci ci:=⟨fun _ _ _ h=>h,fun _ _ _ _ h=>h⟩
theorem ph.trans{a b c:Nat->List AV->Option AV}{a' b' c':Nat->List AV->ai->OM}(h:ph a b a' b')(h':ph b c b' c'):ph a c a' c':=⟨fun g vs v x=>h'.1 g vs v (h.1 g vs v x),fun g vs m r x=>h'.2 g vs m r (h.2 g vs m r x)⟩
theorem Chain.up(X:Chain){k n:Nat}(h:k<=n):ph (X.cp k) (X.cp n) (X.ci k) (X.ci n):=by
 induction h with
 | refl=>exact ph.refl _ _
 | step _ ih=>exact ih.trans (X.le _)
structure Tends (X:Chain) (cp:Nat->List AV->Option AV) (ci:Nat->List AV->ai->OM):Prop where
 p:∀g vs v,cp g vs=some v->∃k,X.cp k g vs=some v
 i:∀g vs m r,ci g vs m=some r->∃k,X.ci k g vs m=some r
section
variable {X:Chain} {C:Cfg} {fid:Nat} {cp:Nat->List AV->Option AV} {ci:Nat->List AV->ai->OM}
theorem qoC(h:Tends X cp ci){d:Option Nat}{g:Nat}{vs:List AV}{m:ai}{K:AV->ai->Option R}{x:R}(hx:jZ C fid cp ci d g vs m K=some x):∃k,jZ C fid (X.cp k) (X.ci k) d g vs m K=some x:=by
 unfold jZ at hx ⊢
 cases sK:C.libm g with
 | some l=>rw[sK] at hx;exact ⟨0,hx⟩
 | none=>
 rw[sK] at hx;simp only at hx ⊢
 cases hl:C.lib g with
 | some l=>rw[hl] at hx;exact ⟨0,hx⟩
 | none=>
  rw[hl] at hx;simp only at hx ⊢
  cases hi:C.inl fid g with
  | true=>
   rw[hi] at hx
   cases d with
   | some d=>exact ⟨0,hx⟩
   | none=>
    simp only[bn] at hx ⊢;obtain ⟨r,hr,hx⟩:=hx
    cases hz:C.frzc fid g with
    | true=>
     rw[hz] at hr;simp only[An,bn] at hr ⊢;obtain ⟨r1,h1,h2⟩:=hr;obtain ⟨k,hk⟩:=h.i _ _ _ _ h2;exact ⟨k,r,⟨r1,h1,hk⟩,hx⟩
    | false=>
    rw[hz] at hr;simp only at hr ⊢
    cases ht:C.thaw fid g with
    | false=>
     rw[ht] at hr;obtain ⟨k,hk⟩:=h.i _ _ _ _ hr;exact ⟨k,r,hk,hx⟩
    | true=>
     rw[ht] at hr;simp only[LB,bn] at hr ⊢;obtain ⟨r1,h1,q,h2,h3⟩:=hr;obtain ⟨k,hk⟩:=h.i _ _ _ _ h2;exact ⟨k,r,⟨r1,h1,q,hk,h3⟩,hx⟩
  | false=>
   rw[hi] at hx;simp only[bn] at hx ⊢;obtain ⟨r,hr,hx⟩:=hx;unfold aF at hr;simp only[bn] at hr;obtain ⟨r1,h1,h2⟩:=hr
   split at h2
   .cases h2
   .rename_i hne;simp only[iq] at h2;obtain ⟨v,hv,h2⟩:=h2;obtain ⟨k,hk⟩:=h.p _ _ _ hv;refine ⟨k,r,?_,hx⟩;unfold aF;simp only[bn];refine ⟨r1,h1,?_⟩;rw[an hne];simp only[iq];exact ⟨v,hk,h2⟩
theorem qbd(h:Tends X cp ci){d:Option Nat}{o:Oper}{ρ:Operand->AV}{m:ai}{x:AV×ai}(hx:gy C fid cp ci d o ρ m=some x):∃k,gy C fid (X.cp k) (X.ci k) d o ρ m=some x:=by
 unfold gy lD at hx ⊢
 cases ho:o.op with
 | call c=>
  rw[ho] at hx;simp only at hx ⊢
  cases hc:c.callee with
  | value f=>
   rw[hc] at hx;simp only[bn] at hx ⊢;obtain ⟨gc,h1,hx⟩:=hx;obtain ⟨k,hk⟩:=qoC h hx;exact ⟨k,gc,h1,hk⟩
  | _=>rw[hc] at hx;exact ⟨0,hx⟩
 | _=>rw[ho] at hx;exact ⟨0,hx⟩
theorem qcu(h:Tends X cp ci){base:Option Nat}{ops:Array Oper}{i:Nat}{st s:St}(hx:fV C fid cp ci base ops i st=some s):∃k,fV C fid (X.cp k) (X.ci k) base ops i st=some s:=by
 unfold fV at hx ⊢
 cases hi:ops[i]? with
 | none=>rw[hi] at hx;cases hx
 | some o=>
  rw[hi] at hx;simp only[iq] at hx ⊢;obtain ⟨r,hr,hx⟩:=hx;unfold iB at hr ⊢
  cases hg:o.guard with
  | none=>rw[hg] at hr;obtain ⟨k,hk⟩:=qbd h hr;exact ⟨k,r,hk,hx⟩
  | some jw=>
   obtain ⟨j,want⟩:=jw;rw[hg] at hr;simp only at hr ⊢
   cases hd:(ops[j]?).bind (·.dst) with
   | none=>rw[hd] at hr;cases hr
   | some g=>
    rw[hd] at hr;simp only at hr ⊢
    split at hr
    .exact ⟨0,r,hr,hx⟩
    .split at hr
     .split at hr
      .rename_i hb;subst hb;obtain ⟨k,hk⟩:=qbd h hr;exact ⟨k,r,by simpa using hk,hx⟩
      .rename_i hb;exact ⟨0,r,by rw[an hb];exact hr,hx⟩
     .cases hr
theorem qbW(h:Tends X cp ci){base:Option Nat}{ops:Array Oper}:∀(l:List Nat) {st s:St},iG C fid cp ci base ops l st=some s->∃k,iG C fid (X.cp k) (X.ci k) base ops l st=some s
 | [],_,_,hx=>⟨0,hx⟩
 | i::l,st,s,hx=>by
  simp only[iG,bn] at hx ⊢;obtain ⟨s1,h1,h2⟩:=hx;obtain ⟨k1,h1⟩:=qcu h h1;obtain ⟨k2,h2⟩:=qbW h l h2;exact ⟨max k1 k2,s1,Lq (X.up (B4 ..)) h1,RG (X.up (Ef ..)) l h2⟩
theorem qb1(h:Tends X cp ci){base:Option Nat}{ops:Array Oper}{l:List Nat}{st:St}{K:St->Option R}{r:R}(hx:nA C fid cp ci base ops l st K=some r):∃k,nA C fid (X.cp k) (X.ci k) base ops l st K=some r:=by
 rw[ud] at hx;simp only[bn] at hx;obtain ⟨s,h1,h2⟩:=hx;obtain ⟨k,h1⟩:=qbW h l h1;exact ⟨k,by rw[ud,h1];exact h2⟩
theorem qbY(h:Tends X cp ci){lt:List (Nat×List Nat)}{ops:Array Oper}:∀(l:List Nat) {st:St} {K:St->Option R} {r:R},rj C fid cp ci lt ops l st K=some r->∃k,rj C fid (X.cp k) (X.ci k) lt ops l st K=some r
 | [],_,_,_,hx=>⟨0,hx⟩
 | i::l,st,K,r,hx=>by
  rw[y5,bn] at hx;obtain ⟨s1,h1,h2⟩:=hx;obtain ⟨h3,h4⟩:=O0 h2;obtain ⟨k1,h1⟩:=qcu h h1;obtain ⟨k2,h2⟩:=qbY h l h4;refine ⟨max k1 k2,?_⟩;rw[y5,bn];exact ⟨s1,Lq (X.up (B4 ..)) h1,by rw[Ci h3];exact RI (X.up (Ef ..)) l h2⟩
theorem qao{f:St->(Ex->St->Option R)->Option R}(hf:tc f){st:St}{K:Ex->St->Option R}{r:R}(h:f st K=some r):∃e s,K e s=some r/\∀K',f st K'=K' e s:=by
 rcases hf st with hx|⟨e,s,hx⟩
 .rw[hx] at h;cases h
 .exact ⟨e,s,by rw[hx] at h;exact h,fun K'=>by rw[hx]⟩
theorem qpa(h:Tends X cp ci):∀(c:Code) (st:St) (K:Ex->St->Option R) (r:R),cL C fid cp ci c st K=some r->∃k,cL C fid (X.cp k) (X.ci k) c st K=some r:=by
 intro c
 induction c with
 | region id ops d=>
  intro st K r hx
  cases d with
  | false=>simp only[cL] at hx ⊢;exact qb1 h hx
  | true=>
   simp only[cL] at hx ⊢
   cases hq:C.seqm fid id with
   | true=>
    rw[hq] at hx;simp only at hx ⊢
    cases hd:Al C.P ops (re (C.ord fid id) ops.size) (C.ahd fid id) (C.late fid id) with
    | true=>rw[hd] at hx;exact qbY h _ hx
    | false=>rw[hd] at hx;cases hx
   | false=>
   rw[hq] at hx;simp only at hx ⊢
   cases hd:Ak C.P ops (re (C.ord fid id) ops.size) (C.ahd fid id) (C.two fid id) with
   | true=>rw[hd] at hx;exact qb1 h hx
   | false=>rw[hd] at hx;cases hx
 | seq a b iha ihb=>
  intro st K r hx;simp only[cL] at hx ⊢;obtain ⟨k1,h1⟩:=iha _ _ _ hx;obtain ⟨e,s,h2,h3⟩:=qao (bQ a) h1
  cases e with
  | normal=>
   obtain ⟨k2,h4⟩:=ihb _ _ _ h2;refine ⟨max k1 k2,?_⟩
   have h5:cL C fid (X.cp k1) (X.ci k1) a st (y6 (fun st'=>cL C fid (X.cp (max k1 k2)) (X.ci (max k1 k2)) b st' K) K)=some r:=by
    rw[h3];exact Cn (X.up (Ef ..)) b _ _ _ h4
   exact Cn (X.up (B4 ..)) a _ _ _ h5
  | exit id=>exact ⟨k1,by rw[h3];exact h2⟩
  | ret=>exact ⟨k1,by rw[h3];exact h2⟩
 | cond co a b iha ihb=>
  intro st K r hx;simp only[cL] at hx ⊢;unfold aB at hx ⊢
  split at hx
  .split at hx
   .exact iha _ _ _ hx
   .exact ihb _ _ _ hx
  .cases hx
 | block id b ih=>
  intro st K r hx;simp only[cL] at hx ⊢;exact ih _ _ _ hx
 | loop b ih=>
  intro st K r hx;simp only[cL,kJ] at hx ⊢
  cases hf:lK (C.mask fid (keyOf b)).head st.tmps with
  | false=>rw[hf] at hx;cases hx
  | true=>
   rw[hf] at hx;simp only at hx ⊢;obtain ⟨n,hn⟩:=ua hx
   have:∀n st,jn (cL C fid cp ci b) (C.mask fid (keyOf b)) n st K=some r->∃k,rS (cL C fid (X.cp k) (X.ci k) b) (C.mask fid (keyOf b)) st K=some r:=by
    intro n
    induction n with
    | zero=>intro st hx;cases hx
    | succ n ihn=>
     intro st hx;simp only[jn] at hx;obtain ⟨k1,h1⟩:=ih _ _ _ hx;obtain ⟨e,s,h2,h3⟩:=qao (bQ b) h1
     have fin:(∀k,k1<=k->ri (fun st'=>rS (cL C fid (X.cp k) (X.ci k) b) (C.mask fid (keyOf b)) st' K) (C.mask fid (keyOf b)) K e s=some r->rS (cL C fid (X.cp k) (X.ci k) b) (C.mask fid (keyOf b)) st K=some r):=by
      intro k hk hr;rw[bX (bQ b)];exact Cn (X.up hk) b _ _ _ (by rw[h3];exact hr)
     cases e with
     | normal=>
      simp only[ri,kJ] at h2
      cases Cz:lK (C.mask fid (keyOf b)).head s.tmps with
      | true=>
       rw[Cz] at h2;obtain ⟨k2,h4⟩:=ihn _ h2;refine ⟨max k1 k2,fin _ (B4 ..) ?_⟩;simp only[ri,kJ,Cz]
       have h5:cL C fid (X.cp k2) (X.ci k2) (.loop b) ⟨rb (C.mask fid (keyOf b)).head s.tmps,s.mem⟩ K=rS (cL C fid (X.cp k2) (X.ci k2) b) (C.mask fid (keyOf b)) ⟨rb (C.mask fid (keyOf b)).head s.tmps,s.mem⟩ K:=by
        have mc:∀(bs:List Bool) (ts:List AV),lK bs (rb bs ts)=true:=by
         intro bs
         induction bs with
         | nil=>intro ts;rfl
         | cons b bs ihb=>intro ts;simp only[rb,lK];exact ihb _
        simp only[cL,kJ,mc,RE]
       have h6:=Cn (C:=C) (fid:=fid) (X.up (Ef k1 k2)) (.loop b) _ _ _ (h5.trans h4)
       have mc:∀(bs:List Bool) (ts:List AV),lK bs (rb bs ts)=true:=by
        intro bs
        induction bs with
        | nil=>intro ts;rfl
        | cons b bs ihb=>intro ts;simp only[rb,lK];exact ihb _
       simpa only[cL,kJ,mc,RE] using h6
      | false=>rw[Cz] at h2;cases h2
     | exit id=>exact ⟨k1,fin _ (aR _) h2⟩
     | ret=>exact ⟨k1,fin _ (aR _) h2⟩
   exact this n _ hn
 | _=>intro st K r hx;exact ⟨0,hx⟩
end
noncomputable def pw(C:Cfg):Nat->Nat->List AV->ai->OM
 | 0,_,_,_=>none
 | k+1,f,args,m=>match C.P.funcs[f]? with
  | none=>none
  | some fn=>match fn.body with
   | none=>none
   | some c=>cL C f (jY (pw C k)) (pw C k) c ⟨args++List.replicate (fn.ntmps-args.length) .any,m⟩ (Co C.P fn.results.toList)
noncomputable def AC(C:Cfg)(f:Nat)(args:List AV)(m:ai):OM:=lim fun k=>pw C k f args m
noncomputable def AP(C:Cfg):Nat->List AV->Option AV:=jY (AC C)
theorem OJ{ci ci':Nat->List AV->ai->OM}(h:∀g vs m r,ci g vs m=some r->ci' g vs m=some r):ph (jY ci) (jY ci') ci ci':=by
 refine ⟨fun g vs v hx=>?_,h⟩;unfold jY at hx ⊢;simp only[bn] at hx ⊢;obtain ⟨r,h1,h2⟩:=hx;exact ⟨r,h _ _ _ _ h1,h2⟩
theorem OK(C:Cfg):∀k f args m r,pw C k f args m=some r->pw C (k+1) f args m=some r:=by
 intro k
 induction k with
 | zero=>intro f args m r h;cases h
 | succ k ih=>
  intro f args m r h;rw[pw] at h ⊢
  cases hf:C.P.funcs[f]? with
  | none=>rw[hf] at h;cases h
  | some fn=>
   rw[hf] at h;simp only at h ⊢
   cases hb:fn.body with
   | none=>rw[hb] at h;cases h
   | some c=>
    rw[hb] at h;exact Cn (OJ fun g vs m r=>ih g vs m r) c _ _ _ h
noncomputable def qoG(C:Cfg):Chain:=⟨fun k=>jY (pw C k),fun k=>pw C k,fun k=>OJ (OK C k)⟩
theorem quh(C:Cfg):Tends (qoG C) (AP C) (AC C):=by
 refine ⟨fun g vs v h=>?_,fun g vs m r h=>ua h⟩;unfold AP jY at h;simp only[bn] at h;obtain ⟨r,h1,h2⟩:=h;obtain ⟨k,hk⟩:=ua h1;refine ⟨k,?_⟩;show jY (pw C k) g vs=some v;unfold jY;simp only[bn];exact ⟨r,hk,h2⟩
theorem bm(C:Cfg)(f:Nat)(args:List AV)(m:ai){fn:Func}{c:Code}(hf:C.P.funcs[f]?=some fn)(hb:fn.body=some c) :
  AC C f args m=cL C f (AP C) (AC C) c ⟨args++List.replicate (fn.ntmps-args.length) .any,m⟩ (Co C.P fn.results.toList):=by
 apply Rj;intro r
 constructor
 .intro h;obtain ⟨k,hk⟩:=ua h
  cases k with
  | zero=>cases hk
  | succ k=>
   rw[pw,hf] at hk;simp only[hb] at hk;exact Cn (OJ fun g vs m r hr=>uF.lim (F:=fun k=>pw C k g vs m) (fun k r h=>OK C k g vs m r h) hr) c _ _ _ hk
 .intro h;obtain ⟨k,hk⟩:=qpa (quh C) c _ _ _ h;refine uF.lim (F:=fun k=>pw C k f args m) (fun k r h=>OK C k f args m r h) (k:=k+1) ?_;show pw C (k+1) f args m=some r;rw[pw,hf];simp only[hb];exact hk
end
end Go.Ab
namespace Go.Ab
open Go.RowKit
section
variable [WInv] {C:Cfg} {B:Nat} {w:World} {g:G} {m:ai}
theorem qpb(hC:CfgOk C){callI:Nat->List AV->ai->OM}(hI:s9 C callI){R:Type}{fid:Nat}:∀(c:Code) (st:St) (K:Ex->St->Option R) (r:R) (a:Act) (w:World) (g:G) (Q:Exit->Act->World->Prop),
  cL C fid (jY callI) callI c st K=some r->StR B w g st a->L9 C B w g a K r Q->c.wp C.P Q a w:=by
 intro c
 induction c with
 | skip=>
  intro st K r a w g Q h hs hq;exact wp_skip (hq .normal st a w g h hs (Step.refl _ _ _) (jk.refl _ _))
 | region id ops d=>
  intro st K r a w g Q h hs hq;simp only[cL] at h
  cases d with
  | false=>
   simp only at h;rw[ud] at h;simp only[bn] at h;obtain ⟨s',hr,hK⟩:=h;exact wp_region (qbX hC hI _ st s' a w g hr hs fun a' w' g' gS s hd=>hq .normal s' a' w' g' hK gS s hd)
  | true=>
   simp only at h
   cases Zy:C.seqm fid id with
   | true=>
    rw[Zy] at h;simp only at h
    split at h
    .rename_i bc;exact qo6 hC hI bc h hs fun s' a' w' g' hK gS s hd=>hq .normal s' a' w' g' hK gS s hd
    .cases h
   | false=>
   rw[Zy] at h;simp only at h
   split at h
   .rename_i bc
    cases ht:C.two fid id with
    | nil=>
     rw[ht] at bc h;exact qo7 hC hI (qo4 bc) h hs fun s' a' w' g' hK gS s hd=>hq .normal s' a' w' g' hK gS s hd
    | cons two sp=>
     rw[ht] at bc h;exact qo8 hC hI bc h hs fun s' a' w' g' hK gS s hd=>hq .normal s' a' w' g' hK gS s hd
   .cases h
 | seq x y ihx ihy=>
  intro st K r a w g Q h hs hq;simp only[cL] at h;refine wp_seq (ihx st _ r a w g _ h hs ?_);intro e st' a' w' g' hK gS s hd
  cases e with
  | normal=>
   simp only[y6] at hK;exact ihy st' K r a' w' g' Q hK gS fun e st'' a'' w'' g'' PK tR s' lP=>hq e st'' a'' w'' g'' PK tR (s.trans s') (lP.trans hd)
  | exit id=>exact hq (.exit id) st' a' w' g' hK gS s hd
  | ret=>exact hq .ret st' a' w' g' hK gS s hd
 | cond co x y ihx ihy=>
  intro st K r a w g Q h hs hq;simp only[cL] at h;have hV:=XV hs.tmp co
  cases hv:ev st.tmps co with
  | bool b=>
   rw[hv] at h hV;generalize hx:a.eval co=v at hV;cases hV
   cases b with
   | true=>exact wp_cond_true hx (ihx st K r a w g Q (by simpa [aB] using h) hs hq)
   | false=>exact wp_cond_false hx (ihy st K r a w g Q (by simpa [aB] using h) hs hq)
  | _=>rw[hv] at h;simp[aB] at h
 | block id x ih=>
  intro st K r a w g Q h hs hq;simp only[cL] at h;refine wp_block (ih st _ r a w g _ h hs ?_);intro e st' a' w' g' hK gS s hd
  cases e with
  | normal=>exact hq .normal st' a' w' g' hK gS s hd
  | exit j=>
   simp only[bw] at hK
   by_cases hj:j=id
   .have hb:(j==id)=true:=by simpa using hj
    rw[hb] at hK;simp only[Pg,Exit.inBlock,aq hj];exact hq .normal st' a' w' g' hK gS s hd
   .have hb:(j==id)=false:=by simpa using hj
    rw[hb] at hK;simp only[Pg,Exit.inBlock,an hj];exact hq (.exit j) st' a' w' g' hK gS s hd
  | ret=>exact hq .ret st' a' w' g' hK gS s hd
 | loop x ih=>
  intro st K r a w g Q h hs hq;simp only[cL] at h;generalize C.mask fid (keyOf x)=mk at h;have Kc:∀(l:List Bool) {w:World} {g:G} {st:St} {a:Act},lK l st.tmps=true->StR B w g st a->StR B w g ⟨rb l st.tmps,st.mem⟩ a:=fun l w g st a hf hs=>⟨by rw[qbP _ _ hf];exact hs.tmp.mask _,hs.mem,hs.size⟩;simp only[kJ] at h
  cases PV:lK mk.head st.tmps with
  | false=>rw[PV] at h;cases h
  | true=>
  rw[PV] at h;have nR:=Kc mk.head PV hs;obtain ⟨n,hn⟩:=ua h
  have round:∀k (st:St) (a:Act) (w:World) (g:G),jn (cL C fid (jY callI) callI x) mk k st K=some r->StR B w g st a->L9 C B w g a K r Q->x.wp C.P (Exit.then (LW C.P x Q) Q) a w:=by
   intro k
   induction k with
   | zero=>intro st a w g h;simp[jn] at h
   | succ k ihk=>
    intro st a w g h hs hq;simp only[jn] at h;refine ih st _ r a w g _ h hs ?_;intro e st' a' w' g' hK gS s hd;have hq':L9 C B w' g' a' K r Q:=fun e st'' a'' w'' g'' PK tR s' lP=>hq e st'' a'' w'' g'' PK tR (s.trans s') (lP.trans hd)
    cases e with
    | normal=>
     simp only[ri,kJ] at hK
     cases hf:lK mk.head st'.tmps with
     | false=>rw[hf] at hK;cases hK
     | true=>
      rw[hf] at hK;exact qrN (ihk _ a' w' g' hK (Kc _ hf gS) hq')
    | exit id=>
     simp only[ri,kJ] at hK
     cases hf:lK mk.out st'.tmps with
     | false=>rw[hf] at hK;cases hK
     | true=>rw[hf] at hK;exact hq (.exit id) _ a' w' g' hK (Kc _ hf gS) s hd
    | ret=>
     simp only[ri,kJ] at hK
     cases hf:lK mk.ret st'.tmps with
     | false=>rw[hf] at hK;cases hK
     | true=>rw[hf] at hK;exact hq .ret _ a' w' g' hK (Kc _ hf gS) s hd
  exact quO (round n _ a w g hn nR hq)
 | exit id=>
  intro st K r a w g Q h hs hq;exact wp_exit (hq (.exit id) st a w g h hs (Step.refl _ _ _) (jk.refl _ _))
 | ret=>
  intro st K r a w g Q h hs hq;exact wp_ret (hq .ret st a w g h hs (Step.refl _ _ _) (jk.refl _ _))
 | rangeFunc=>intro st K r a w g Q h;simp[cL] at h
 | scope=>intro st K r a w g Q h;simp[cL] at h
 | label=>intro st K r a w g Q h;simp[cL] at h
 | goto=>intro st K r a w g Q h;simp[cL] at h
 | refuse=>intro st K r a w g Q h;simp[cL] at h
theorem qlJ(hC:CfgOk C):∀k,s9 C (pw C k):=by
 intro k
 induction k with
 | zero=>intro f args m v m' h;simp[pw] at h
 | succ k ih=>
  intro f args m v m' h;simp only[pw] at h
  cases hfn:C.P.funcs[f]? with
  | none=>rw[hfn] at h;simp at h
  | some fn=>
   rw[hfn] at h;simp only at h
   cases hb:fn.body with
   | none=>rw[hb] at h;simp at h
   | some c=>
    rw[hb] at h;simp only at h;refine ⟨?_,fn,rfl,by simp[hb]⟩;intro B w g vs hm hB hl hv;refine calls_of_wp_defers hfn hb ?_
    have AW:qJ w g (args++List.replicate (fn.ntmps-args.length) .any) (vs++Array.replicate (fn.ntmps-vs.size) undef):=by
     refine ⟨by simp[hl],fun t=>?_⟩;simp only[aT,jX,rA,Array.getElem?_append]
     by_cases h1:t<args.length
     .rw[aq h1,aq aa];simpa [aT,jX] using hv t h1
     .rw[an h1,an aa,BZ];split<;>exact .any _
    refine qpb hC ih c _ _ (v,m') _ w g _ h ⟨AW,hm,hB⟩ ?_;intro e st' a' w' g' hK gS s hd
    have fin:(vy C.P st'.mem st'.tmps fn.results.toList).bind (fun vs=>some (Gk vs,st'.mem))=some (v,m')->Leaves C.P fn a'.tmps (fun e w'=>∃v'' g'',e=Ending.returned v''/\Step B w g w' g''/\MemR B w' g'' m'/\V w' g'' v v'') a'.defers .returning w':=by
     intro hK;simp only[bn,cg,fE] at hK;obtain ⟨l,nQ,rfl,rfl⟩:=hK;obtain ⟨vl,r1,r2,r3⟩:=qbS (P:=C.P) gS.mem gS.tmp _ l nQ;refine qaj ⟨_,?_,_,g',rfl,s,gS.mem,qso r2 r3⟩ _ (hd (fun d hd=>by cases hd));rw[qtc,Array.mapM_eq_mapM_toList];simp only[Sem.run_bind,Sem.run_map,r1,Result.andThen_ok,Sem.run_pure]
    cases e with
    | normal=>exact fin (by simpa only[Co,K9] using hK)
    | exit id=>simp[Co] at hK
    | ret=>exact fin (by simpa only[Co,K9] using hK)
theorem qdc(hC:CfgOk C):s9 C (AC C):=by
 intro f args m v m' h;obtain ⟨k,hk⟩:=ua h;exact qlJ hC k f args m v m' hk
end
end Go.Ab
namespace Go.Ab
open Go.RowKit Go.Sort
def yM:List AV->Option (List Int)
 | []=>some []
 | .int .i64 n::l=>(yM l).map fun ns=>n::ns
 | _=>none
theorem QE:∀{ks:List AV} {ns:List Int},yM ks=some ns->ks=ns.map (AV.int .i64)
 | [],ns,h=>by simp[yM] at h;subst h;rfl
 | x::l,ns,h=>by
  unfold yM at h
  split at h
  .rename_i he;cases he
  .rename_i n l' he;cases he;obtain ⟨ms,hm,rfl⟩:=iq.1 h;rw[QE hm];rfl
  .cases h
theorem QF:∀ns:List Int,yM (ns.map (AV.int .i64))=some ns
 | []=>rfl
 | n::ns=>by simp only[gh,yM,QF ns,aQ]
def o8(ns:List Int):List Int:=ns.mergeSort fun x y=>decide (x<=y)
def Bp:List AV->ai->OM
 | [.lst _ _ _ []],m=>some (.tup [],m)
 | [.arr nm off n sh],m=>match sh with
  | some _=>none
  | none=>(m.obj? nm).bind fun o=>if o.1=false/\off=0/\0<n/\n=o.2.length/\n<=1000000 then (yM o.2).map fun ns=>(.tup [],m.set nm (some (.obj false ((o8 ns).map (AV.int .i64))))) else none
 | _,_=>none
def Ae:List AV->ai->OM
 | [.lst sh z o []],m=>some (.lst sh z o [],m)
 | [.arr nm off n sh],m=>match sh with
  | some _=>none
  | none=>(m.obj? nm).bind fun o=>if o.1=false/\off=0/\0<n/\n=o.2.length/\n<=1000000 then (yM o.2).map fun ns=>(.arr nm 0 (Lib.compact ns).length none,m.set nm (some (.obj false ((Lib.compact ns++List.replicate (ns.length-(Lib.compact ns).length) 0).map (AV.int .i64))))) else none
 | _,_=>none
abbrev mY:Int->Value:=Value.int .i64
section
variable [WInv] {P:Program} {B:Nat} {w:World} {g:G} {m:ai}
theorem qsV{w:World}{b:Nat}{d:Array Int}{c:Array Value}{e:TypeId}{fr:Nat×Nat}(hb:w.heap[b]?=some (Obj.cells c e fr))(n:Nat)(os:Array Obj) :
  Below (w.setRow b (putCells mY 0 d c)).heap.size (w.setRow b (putCells mY 0 d c)) (grow (putRow mY (Sort.ahead w n) b 0 d) os):=by
 have hsz:(w.setRow b (putCells mY 0 d c)).heap.size=w.heap.size:=aA;have Qu:(putRow mY (Sort.ahead w n) b 0 d).heap.size=w.heap.size:=by simp[putRow,mapBlock,Sort.ahead]
 refine ⟨rfl,rfl,rfl,?_,fun k hk=>?_⟩
 .show _<=((putRow mY (Sort.ahead w n) b 0 d).heap++os).size;rw[BC,hsz,Qu];omega
 .rw[hsz] at hk;rw[heap_grow_old _ os (by rw[Qu];exact hk)]
  by_cases he:k=b
  .subst he;rw[setRow_heap w k c _ e fr hb];simp only[putRow,mapBlock,Sort.ahead,Array.getElem?_modify,bJ,hb,aQ,onCells]
  .rw[setRow_other w b k _ he];simp only[putRow,mapBlock,Sort.ahead,Array.getElem?_modify];rw[an (fun h=>he h.symm)]
theorem qsR{d:Array Int}{c:Array Value}{j:Nat}(hj:j<d.size)(hc:d.size<=c.size):(putCells mY 0 d c).getD j undef=.int .i64 d[j]!:=by
 have CD:j<c.size:=aa;simp[putCells,jX,Array.getElem?_mapIdx,CD,hj]
theorem qbK(hm:MemR B w g m)(hB:B<=w.heap.size){nm b:Nat}{cs:List AV}{c:Array Value}{e:TypeId}(hn:m.get nm=some (.obj false cs))(hl:g.loc nm=some b)(hb:w.heap[b]?=some (Obj.cells c e (0,0)))(hcl:cs.length<=c.size){ds:List Int}(hd:ds.length=cs.length)(n:Nat)(os:Array Obj) :
  Step B w g (grow (putRow mY (Sort.ahead w n) b 0 ds.toArray) os) g/\MemR B (grow (putRow mY (Sort.ahead w n) b 0 ds.toArray) os) g (m.set nm (some (.obj false (ds.map (AV.int .i64))))):=by
 have hsz:(putCells mY 0 ds.toArray c).size=c.size:=by simp[putCells]
 obtain ⟨s1,pG⟩:=hm.write (cs':=ds.map (AV.int .i64)) (c':=putCells mY 0 ds.toArray c) hn hl hb hsz (by rw[hsz,bu];omega) (fun j hj=>by
  rw[bu] at hj;rw[qsR (by simpa using hj) (by simp;omega)];have e1:(ds.map (AV.int .i64)).getD j .any=.int .i64 ds[j]:=by simp[aT,hj]
  have e2:ds.toArray[j]! = ds[j]:=by simp[hj]
  rw[e1,e2]
  exact .int _ _)
 have pB:=qsV (d:=ds.toArray) hb n os;have Au:B<=(w.setRow b (putCells mY 0 ds.toArray c)).heap.size:=by simpa using hB
 have s2:Step B (w.setRow b (putCells mY 0 ds.toArray c)) g (grow (putRow mY (Sort.ahead w n) b 0 ds.toArray) os) g:=
  ⟨pB.mono Au,fun b' off u _ hc=>(pB.cell (p:=⟨b',off,none⟩) (uJ hc)).trans hc,fun b' c' e' fr gO=>⟨c',(pB.block b' (fP.1 gO).1).trans gO,rfl⟩,fun _ _ _ h=>h,fun _ _ _=>Iff.rfl,fun _ _=>Iff.rfl,fun _ _ h=>h,fun _ _ _ h=>h⟩
 exact ⟨s1.trans s2,pG.keep s2 (fun b' _ gO=>pB.block b' gO) (fun _ _ h=>h) rfl rfl (fun b' off hw=>so (pG.wrLt b' off hw) pB.size) (fun b' hw=>so (pG.boxLt b' hw) pB.size)⟩
theorem Zo{b:Nat}{cs:List AV}{c:Array Value}{e:TypeId}(hb:w.heap[b]?=some (Obj.cells c e (0,0)))(hcl:cs.length<=c.size){ns:List Int}(hc:cs=ns.map (AV.int .i64))(hv:∀j,j<cs.length->V w g (cs.getD j .any) (c.getD j undef)):Holds mY w b 0 ns.toArray:=by
 intro j hj;have hG:j<ns.length:=by simpa using hj
 have CD:j<cs.length:=by rw[hc,bu];exact hG
 have h1:=hv j CD;have e1:cs.getD j .any=.int .i64 ns[j]:=by rw[hc];simp[aT,hG]
 rw[e1] at h1
 have e3:c.getD j undef=.int .i64 ns[j]:=by
  generalize c.getD j undef=u at h1;cases h1;rfl
 refine ⟨?_,by simp[World.frozen?,hb]⟩;rw[cell_of_row w _ _ c e (0,0) hb];have hjs:j<c.size:=aa;simp only[bq];rw[jX,DC hjs,fk] at e3;rw[DC hjs,e3];simp[hG]
theorem qtN{f:Nat}(hS:∀(bj cap:Nat) (zs:List Int) (w:World),Holds mY w bj 0 zs.toArray->bj<w.heap.size->zs.length<4611686018427387904->Calls P f #[.slice (some ⟨bj,0,none⟩) zs.length cap] w fun e w'=>e=.returned (.tuple #[])/\∃n os,w'=grow (putRow mY (Sort.ahead w n) bj 0 (o8 zs).toArray) os)
  (hN:∀(p:Option Addr) (cap:Nat) (w:World),Calls P f #[.slice p 0 cap] w fun e w'=>e=.returned (.tuple #[])/\w'=w) (vs:List AV) (m:ai) (v:AV) (m':ai) (h:Bp vs m=some (v,m')):uv P f vs m v m':=by
 intro B w g us hm hB hus hV
 have one:∀x,vs=[x]->∃u,us = #[u]/\V w g x u:=fun x hx=>by
  subst hx;have hsz:us.size=1:=by simpa using hus.symm
  have h0:=hV 0 aA;simp only[qk] at h0;refine ⟨us.getD 0 undef,?_,h0⟩;apply Array.ext (by simpa using hsz);intro i hi1 hi2;obtain rfl:i=0:=by simp at hi2;omega
  simp[Array.getD,hi1]
 unfold Bp at h
 split at h
 .rename_i m0 sh z o;simp only[cg,fE] at h;obtain ⟨rfl,rfl⟩:=h;obtain ⟨u,rfl,hu⟩:=one _ rfl;have hus:∃p cap,u=.slice p 0 cap:=by cases hu<;>exact ⟨_,_,rfl⟩
  obtain ⟨p,cap,rfl⟩:=hus;refine (hN p cap w).mono ?_;rintro e w' ⟨rfl,rfl⟩;exact ⟨_,g,rfl,Step.refl _ _ _,hm,.tup [] #[] rfl (fun j hj=>absurd hj (Nat.not_lt_zero j))⟩
 .rename_i m0 nm off n sh
  split at h
  .cases h
  .obtain ⟨⟨bx,cs⟩,ho,h2⟩:=bn.1 h;clear h;simp only at h2
   split at h2
   .rename_i hc;obtain ⟨rfl,rfl,mI,rfl,Ke⟩:=hc;obtain ⟨ns,hns,h3⟩:=iq.1 h2;simp only[fE] at h3;obtain ⟨rfl,rfl⟩:=h3;have iO:=QE hns;obtain ⟨u,rfl,hu⟩:=one _ rfl;have aU:=obj?_get ho;obtain ⟨b,c,e,o1,o2,o3,o4,o5,o6,o7⟩:=hm.obj nm false cs aU
    cases hu with
    | arr _ _ _ _ a cap hs yo hmx hl=>
     obtain ⟨l1,l2,_⟩:=hl.resolve_left aa;obtain rfl:b=a.block:=by simpa [o1] using l1
     have hlen:cs.length=ns.length:=by rw[iO,bu]
     have hH:=Zo (g:=g) o3 o4 iO o5;rw[l2,hlen];refine (hS a.block cap ns w hH (fP.1 o3).1 (by omega)).mono ?_;rintro e' w' ⟨rfl,k,os,rfl⟩;obtain ⟨s,hm'⟩:=qbK hm hB aU o1 o3 o4 (ds:=o8 ns) (by rw[o8,List.length_mergeSort,hlen]) k os;exact ⟨_,g,rfl,s,hm',.tup [] #[] rfl (fun j hj=>absurd hj (Nat.not_lt_zero j))⟩
   .cases h2
 .cases h
theorem qoS{f:Nat}(hS:∀(bj cap:Nat) (zs:List Int) (w:World),Holds mY w bj 0 zs.toArray->zs.length<=9223372036854775807->zs.length<=cap->Calls P f #[.slice (some ⟨bj,0,none⟩) zs.length cap] w fun e w'=>e=.returned (.slice (some ⟨bj,0,none⟩) (Lib.compact zs).length cap)/\∃q,w'=putRow mY (Sort.ahead w q) bj 0 (Lib.compact zs++List.replicate (zs.length-(Lib.compact zs).length) 0).toArray)
  (hN:∀(p:Option Addr) (cap:Nat) (w:World),Calls P f #[.slice p 0 cap] w fun e w'=>e=.returned (.slice p 0 cap)/\w'=w) (hle:∀zs:List Int,(Lib.compact zs).length<=zs.length) (vs:List AV) (m:ai) (v:AV) (m':ai) (h:Ae vs m=some (v,m')):uv P f vs m v m':=by
 intro B w g us hm hB hus hV
 have one:∀x,vs=[x]->∃u,us = #[u]/\V w g x u:=fun x hx=>by
  subst hx;have hsz:us.size=1:=by simpa using hus.symm
  have h0:=hV 0 aA;simp only[qk] at h0;refine ⟨us.getD 0 undef,?_,h0⟩;apply Array.ext (by simpa using hsz);intro i hi1 hi2;obtain rfl:i=0:=by simp at hi2;omega
  simp[Array.getD,hi1]
 unfold Ae at h
 split at h
 .rename_i m0 sh z o;simp only[cg,fE] at h;obtain ⟨rfl,rfl⟩:=h;obtain ⟨u,rfl,hu⟩:=one _ rfl;have hus:∃p cap,u=.slice p 0 cap:=by cases hu<;>exact ⟨_,_,rfl⟩
  obtain ⟨p,cap,rfl⟩:=hus;refine (hN p cap w).mono ?_;rintro e w' ⟨rfl,rfl⟩;exact ⟨_,g,rfl,Step.refl _ _ _,hm,hu⟩
 .rename_i m0 nm off n sh
  split at h
  .cases h
  .obtain ⟨⟨bx,cs⟩,ho,h2⟩:=bn.1 h;clear h;simp only at h2
   split at h2
   .rename_i hc;obtain ⟨rfl,rfl,mI,rfl,Ke⟩:=hc;obtain ⟨ns,hns,h3⟩:=iq.1 h2;simp only[fE] at h3;obtain ⟨rfl,rfl⟩:=h3;have iO:=QE hns;obtain ⟨u,rfl,hu⟩:=one _ rfl;have aU:=obj?_get ho;obtain ⟨b,c,e,o1,o2,o3,o4,o5,o6,o7⟩:=hm.obj nm false cs aU
    cases hu with
    | arr _ _ _ _ a cap hs yo hmx hl=>
     obtain ⟨l1,l2,c2,e2,l3,l4⟩:=hl.resolve_left aa;obtain rfl:b=a.block:=by simpa [o1] using l1
     have hlen:cs.length=ns.length:=by rw[iO,bu]
     have hH:=Zo (g:=g) o3 o4 iO o5;rw[hlen] at yo;rw[l2,hlen];refine (hS a.block cap ns w hH aa yo).mono ?_;rintro e' w' ⟨rfl,k,rfl⟩;have hcl:=hle ns;obtain ⟨s,hm'⟩:=qbK hm hB aU o1 o3 o4 (ds:=Lib.compact ns++List.replicate (ns.length-(Lib.compact ns).length) 0) (by rw[aW,vR];omega) k #[]
     have eg:grow (putRow mY (Sort.ahead w k) a.block 0 (Lib.compact ns++List.replicate (ns.length-(Lib.compact ns).length) 0).toArray) #[]=putRow mY (Sort.ahead w k) a.block 0 (Lib.compact ns++List.replicate (ns.length-(Lib.compact ns).length) 0).toArray:=by
      simp only[grow,Array.append_empty]
     rw[eg] at s hm';refine ⟨_,g,rfl,s,hm',.arr _ _ _ _ _ _ (.inr rfl) aa hmx (.inr ⟨o1,rfl,?_⟩)⟩;obtain ⟨c',k1,k2⟩:=s.shape _ _ _ _ l3;exact ⟨c',e2,k1,aa⟩
   .cases h2
 .cases h
end
end Go.Ab
namespace Go.Proofs
open Go.Shelf
def Tryz.lays169_ren:Go.Shelf.Ren:=⟨fun|169=>176|n=>n,fun|70=>200|9=>9|0=>0|72=>203|37=>201|127=>215|3=>3|5=>5|n=>n,fun|n=>n⟩
theorem Tryz.lays169:Go.Proofs.Lays.n169 Tryz.prog Tryz.lays169_ren:={
 mixed:=au
 f169:=Tryz.func176.trans (dc some au)
 t0:=Tryz.underlying0
 a0:=Tryz.isAgg0
 z0:=Tryz.sizeOf0
 v0:=Tryz.zeroValue0
 t3:=Tryz.underlying3
 a3:=Tryz.isAgg3
 z3:=Tryz.sizeOf3
 v3:=Tryz.zeroValue3
 t9:=Tryz.underlying9
 a9:=Tryz.isAgg9
 z9:=Tryz.sizeOf9
 v9:=Tryz.zeroValue9
 t37:=Tryz.underlying201
 a37:=Tryz.isAgg201
 z37:=Tryz.sizeOf201
 v37:=Tryz.zeroValue201
 t70:=Tryz.underlying200
 a70:=Tryz.isAgg200
 z70:=Tryz.sizeOf200
 v70:=Tryz.zeroValue200
 t72:=Tryz.underlying203
 a72:=Tryz.isAgg203
 z72:=Tryz.sizeOf203
 v72:=Tryz.zeroValue203
 t127:=Tryz.underlying215
 a127:=Tryz.isAgg215
 z127:=Tryz.sizeOf215
 v127:=Tryz.zeroValue215 }
theorem Tryz.Builder_Extra_169:Builder.Extra Tryz.prog Tryz.lays169_ren:={
 sizeBuilder:=au
 liesBuilder:=au
 t5:=Tryz.underlying5
 a5:=Tryz.isAgg5
 z5:=Tryz.sizeOf5
 v5:=Tryz.zeroValue5
 infoByte:=au
 cellsByte:=au
 sizeByte:=au
 neB5:=by decide }
open Go.RowKit in
theorem Tryz.Builder_String_any_k(B b:Nat)(l:List UInt8)(w:World)(h:Lib.IsBuilderF 203 5 B b (Lib.byteCells l) w)(hBw:B<=w.heap.size) :
  Calls Tryz.prog 176 #[.pointer (some ⟨b,0,none⟩)] w fun e w'=>e=.returned (.string ⟨l.toArray⟩)/\(Lib.IsBuilderF 203 5 B b (Lib.byteCells l) w'/\Below B w w'/\Lib.OthersKept 5 (some b) w w'):=Any.Builder_String_any_k Tryz.lays169 Tryz.Builder_Extra_169 B b l w h hBw
def Tryz.laysM171_ren:Go.Shelf.Ren:=⟨fun|171=>173|243=>188|246=>205|283=>213|284=>214|285=>215|286=>216|129=>200|317=>218|318=>219|319=>220|320=>221|337=>222|338=>223|n=>n,fun|3=>3|9=>9|2=>2|4=>4|171=>238|0=>0|53=>117|37=>201|5=>5|173=>240|212=>246|51=>161|20=>20|213=>247|46=>162|232=>248|233=>249|n=>n,fun|17=>0|18=>1|19=>2|n=>n⟩
theorem Tryz.laysM171:Go.Proofs.LaysM.n171 Tryz.prog Tryz.laysM171_ren:={
 mixed:=au
 f129:=Tryz.func200.trans (dc some au)
 f171:=Tryz.func173.trans (dc some au)
 f243:=Tryz.func188.trans (dc some au)
 f246:=Tryz.func205.trans (dc some au)
 f283:=Tryz.func213.trans (dc some au)
 f284:=Tryz.func214.trans (dc some au)
 f285:=Tryz.func215.trans (dc some au)
 f286:=Tryz.func216.trans (dc some au)
 f317:=Tryz.func218.trans (dc some au)
 f318:=Tryz.func219.trans (dc some au)
 f319:=Tryz.func220.trans (dc some au)
 f320:=Tryz.func221.trans (dc some au)
 f337:=Tryz.func222.trans (dc some au)
 f338:=Tryz.func223.trans (dc some au)
 t0:=Tryz.underlying0
 a0:=Tryz.isAgg0
 z0:=Tryz.sizeOf0
 v0:=Tryz.zeroValue0
 t2:=Tryz.underlying2
 a2:=Tryz.isAgg2
 z2:=Tryz.sizeOf2
 v2:=Tryz.zeroValue2
 t3:=Tryz.underlying3
 a3:=Tryz.isAgg3
 z3:=Tryz.sizeOf3
 v3:=Tryz.zeroValue3
 t4:=Tryz.underlying4
 a4:=Tryz.isAgg4
 z4:=Tryz.sizeOf4
 v4:=Tryz.zeroValue4
 t5:=Tryz.underlying5
 a5:=Tryz.isAgg5
 z5:=Tryz.sizeOf5
 v5:=Tryz.zeroValue5
 t9:=Tryz.underlying9
 a9:=Tryz.isAgg9
 z9:=Tryz.sizeOf9
 v9:=Tryz.zeroValue9
 t20:=Tryz.underlying20
 a20:=Tryz.isAgg20
 z20:=Tryz.sizeOf20
 v20:=Tryz.zeroValue20
 t37:=Tryz.underlying201
 a37:=Tryz.isAgg201
 z37:=Tryz.sizeOf201
 v37:=Tryz.zeroValue201
 t46:=Tryz.underlying162
 a46:=Tryz.isAgg162
 z46:=Tryz.sizeOf162
 v46:=Tryz.zeroValue162
 t51:=Tryz.underlying161
 a51:=Tryz.isAgg161
 z51:=Tryz.sizeOf161
 v51:=Tryz.zeroValue161
 t53:=Tryz.underlying117
 a53:=Tryz.isAgg117
 z53:=Tryz.sizeOf117
 v53:=Tryz.zeroValue117
 t171:=Tryz.underlying238
 a171:=Tryz.isAgg238
 z171:=Tryz.sizeOf238
 v171:=Tryz.zeroValue238
 t173:=Tryz.underlying240
 a173:=Tryz.isAgg240
 z173:=Tryz.sizeOf240
 v173:=Tryz.zeroValue240
 t212:=Tryz.underlying246
 a212:=Tryz.isAgg246
 z212:=Tryz.sizeOf246
 v212:=Tryz.zeroValue246
 t213:=Tryz.underlying247
 a213:=Tryz.isAgg247
 z213:=Tryz.sizeOf247
 t232:=Tryz.underlying248
 a232:=Tryz.isAgg248
 z232:=Tryz.sizeOf248
 v232:=Tryz.zeroValue248
 t233:=Tryz.underlying249
 a233:=Tryz.isAgg249
 z233:=Tryz.sizeOf249
 v233:=Tryz.zeroValue249
 g17:=au
 g18:=au
 g19:=au
 i0:=au
 i2:=au
 i3:=au
 i4:=au
 i5:=au
 i9:=au
 i20:=au
 i37:=au
 i46:=au
 i51:=au
 i53:=au
 i171:=au
 i173:=au
 i212:=au
 i232:=au
 i233:=au
 m17:=au
 m18:=au
 m19:=by kernel_rfl }
open Go.RowKit Go.Sort Go.Lib in
theorem Tryz.strconv_Itoa(n:Int)(h0:-9223372036854775808<=n)(h1:n<=9223372036854775807)(w:World) (htab:Lib.TabIs Tryz.prog w "internal/strconv.uint64pow10" .u64 Lib.pow10Tab) :
  Calls Tryz.prog 173 #[.int .i64 n] w fun e w'=>e=.returned (.string ⟨(Lib.itoa n).toArray⟩)/\∃k os,w'=grow (w.drewN k) os:=Any.strconv_Itoa Tryz.laysM171 n h0 h1 w htab
def Tryz.lays189_ren:Go.Shelf.Ren:=⟨fun|189=>148|125=>179|257=>178|128=>199|129=>200|294=>190|295=>191|296=>192|297=>193|298=>194|299=>195|216=>196|300=>197|301=>198|328=>207|329=>208|330=>209|331=>210|332=>211|215=>212|343=>217|n=>n,fun|28=>22|3=>3|46=>162|0=>0|51=>161|53=>117|4=>4|183=>218|182=>217|131=>173|5=>5|9=>9|218=>232|222=>236|228=>242|229=>243|n=>n,fun|n=>n⟩
theorem Tryz.lays189:Go.Proofs.Lays.n189 Tryz.prog Tryz.lays189_ren:={
 mixed:=au
 f125:=Tryz.func179.trans (dc some au)
 f128:=Tryz.func199.trans (dc some au)
 f129:=Tryz.func200.trans (dc some au)
 f189:=Tryz.func148.trans (dc some au)
 f215:=Tryz.func212.trans (dc some au)
 f216:=Tryz.func196.trans (dc some au)
 f257:=Tryz.func178.trans (dc some au)
 f294:=Tryz.func190.trans (dc some au)
 f295:=Tryz.func191.trans (dc some au)
 f296:=Tryz.func192.trans (dc some au)
 f297:=Tryz.func193.trans (dc some au)
 f298:=Tryz.func194.trans (dc some au)
 f299:=Tryz.func195.trans (dc some au)
 f300:=Tryz.func197.trans (dc some au)
 f301:=Tryz.func198.trans (dc some au)
 f328:=Tryz.func207.trans (dc some au)
 f329:=Tryz.func208.trans (dc some au)
 f330:=Tryz.func209.trans (dc some au)
 f331:=Tryz.func210.trans (dc some au)
 f332:=Tryz.func211.trans (dc some au)
 f343:=Tryz.func217.trans (dc some au)
 t0:=Tryz.underlying0
 a0:=Tryz.isAgg0
 z0:=Tryz.sizeOf0
 v0:=Tryz.zeroValue0
 t3:=Tryz.underlying3
 a3:=Tryz.isAgg3
 z3:=Tryz.sizeOf3
 v3:=Tryz.zeroValue3
 t4:=Tryz.underlying4
 a4:=Tryz.isAgg4
 z4:=Tryz.sizeOf4
 v4:=Tryz.zeroValue4
 t5:=Tryz.underlying5
 a5:=Tryz.isAgg5
 z5:=Tryz.sizeOf5
 v5:=Tryz.zeroValue5
 t9:=Tryz.underlying9
 a9:=Tryz.isAgg9
 z9:=Tryz.sizeOf9
 v9:=Tryz.zeroValue9
 t28:=Tryz.underlying22
 a28:=Tryz.isAgg22
 z28:=Tryz.sizeOf22
 v28:=Tryz.zeroValue22
 t46:=Tryz.underlying162
 a46:=Tryz.isAgg162
 z46:=Tryz.sizeOf162
 v46:=Tryz.zeroValue162
 t51:=Tryz.underlying161
 a51:=Tryz.isAgg161
 z51:=Tryz.sizeOf161
 v51:=Tryz.zeroValue161
 t53:=Tryz.underlying117
 a53:=Tryz.isAgg117
 z53:=Tryz.sizeOf117
 v53:=Tryz.zeroValue117
 t131:=Tryz.underlying173
 a131:=Tryz.isAgg173
 z131:=Tryz.sizeOf173
 v131:=Tryz.zeroValue173
 t182:=Tryz.underlying217
 a182:=Tryz.isAgg217
 z182:=Tryz.sizeOf217
 v182:=Tryz.zeroValue217
 t183:=Tryz.underlying218
 a183:=Tryz.isAgg218
 z183:=Tryz.sizeOf218
 v183:=Tryz.zeroValue218
 t218:=Tryz.underlying232
 a218:=Tryz.isAgg232
 z218:=Tryz.sizeOf232
 v218:=Tryz.zeroValue232
 t222:=Tryz.underlying236
 a222:=Tryz.isAgg236
 z222:=Tryz.sizeOf236
 v222:=Tryz.zeroValue236
 t228:=Tryz.underlying242
 a228:=Tryz.isAgg242
 z228:=Tryz.sizeOf242
 v228:=Tryz.zeroValue242
 t229:=Tryz.underlying243
 a229:=Tryz.isAgg243
 z229:=Tryz.sizeOf243
 v229:=Tryz.zeroValue243 }
open Go.Sort Go.RowKit in
theorem Tryz.slices_Sort_int(bj off cap:Nat)(zs:List Int)(w:World)(hH:Holds (Value.int .i64) w bj off zs.toArray)(hblk:bj<w.heap.size)(hsz:zs.length<4611686018427387904) :
  Calls Tryz.prog 148 #[.slice (some ⟨bj,off,none⟩) zs.length cap] w fun e w'=>
   e=.returned (.tuple #[])/\∃n os,w'=grow (putRow (Value.int .i64) (Sort.ahead w n) bj off (zs.mergeSort fun x y=>decide (x<=y)).toArray) os:=Any.slices_Sort_int Tryz.lays189 bj off cap zs w hH hblk hsz
def Tryz.laysNm220_ren:Go.Shelf.Ren:=⟨fun|20=>149|n=>n,fun|22=>22|3=>3|4=>4|0=>0|n=>n,fun|n=>n⟩
theorem Tryz.laysNm220:Go.Proofs.Lays2.n20 Tryz.prog Tryz.laysNm220_ren:={
 mixed:=au
 f20:=Tryz.func149.trans (dc some au)
 t0:=Tryz.underlying0
 a0:=Tryz.isAgg0
 z0:=Tryz.sizeOf0
 v0:=Tryz.zeroValue0
 t3:=Tryz.underlying3
 a3:=Tryz.isAgg3
 z3:=Tryz.sizeOf3
 v3:=Tryz.zeroValue3
 t4:=Tryz.underlying4
 a4:=Tryz.isAgg4
 z4:=Tryz.sizeOf4
 v4:=Tryz.zeroValue4
 t22:=Tryz.underlying22
 a22:=Tryz.isAgg22
 z22:=Tryz.sizeOf22
 v22:=Tryz.zeroValue22
 i3:=by kernel_rfl }
open Go.RowKit Go.Lib Go.Sort in
theorem Tryz.slices_Compact_int(bj off cap:Nat)(zs:List Int)(w:World)(hH:Holds (Value.int .i64) w bj off zs.toArray)(hsz:zs.length<=9223372036854775807)(hcap:zs.length<=cap) :
  Calls Tryz.prog 149 #[.slice (some ⟨bj,off,none⟩) zs.length cap] w fun e w'=>e=.returned (.slice (some ⟨bj,off,none⟩) (Lib.compact zs).length cap)/\∃q,w'=putRow (Value.int .i64) (Sort.ahead w q) bj off (Lib.compact zs++List.replicate (zs.length-(Lib.compact zs).length) 0).toArray:=Any.slices_Compact_int Tryz.laysNm220 bj off cap zs w hH hsz hcap
open Go.RowKit Go.Lib Go.Sort in
theorem Tryz.slices_Compact_int_empty(a:Option Addr)(cap:Nat)(w:World) :
  Calls Tryz.prog 149 #[.slice a 0 cap] w fun e w'=>e=.returned (.slice a 0 cap)/\w'=w:=Any.slices_Compact_int_empty Tryz.laysNm220 a cap w
open Go.RowKit Go.Sort in
theorem Tryz.slices_Sort_int_none(p:Option Addr)(cap:Nat)(w:World) :
  Calls Tryz.prog 148 #[.slice p 0 cap] w fun e w'=>e=.returned (.tuple #[])/\w'=w:=Any.slices_Sort_int_none Tryz.lays189 p cap w
end Go.Proofs
namespace Go.Proofs
open Go.Shelf Go.RowKit
theorem Yd.infoByte:(Tryz.prog.info? 5).map (fun i=>(i.zero,i.size,i.bytes))=some (some (.int .u8 0),1,1):=au
theorem Yd.sizeBuilder:(Tryz.prog.info? 203).map (·.size)=some 2:=au
theorem Yd.liesBuilder:liesAt Tryz.prog Tryz.prog.depth 203 (2/Tryz.prog.cellsOf 203) 0 203 1=true:=au
set_option maxHeartbeats 2000000 in
set_option maxRecDepth 100000 in
theorem Yd.Builder_copyCheck_used(b:Nat)(w:World)(h0:w.cell? ⟨b,0,none⟩=some (.pointer (some ⟨b,0,none⟩))) :
  Calls Tryz.prog 189 #[.pointer (some ⟨b,0,none⟩)] w fun e w'=>e=.returned (.tuple #[])/\w'=w:=by
 obtain ⟨j,hj,_⟩:=iq.1 Yd.sizeBuilder;have mixed:Tryz.prog.follows .mixedOrders=true:=au;have t72:=Tryz.underlying203;have a72:=Tryz.isAgg203;have z72:=Tryz.sizeOf203;have v72:=Tryz.zeroValue203;have u72:=run_underlying Tryz.underlying203;have t70:=Tryz.underlying200;have a70:=Tryz.isAgg200;have z70:=Tryz.sizeOf200;have v70:=Tryz.zeroValue200;have u70:=run_underlying Tryz.underlying200;have t9:=Tryz.underlying9;have a9:=Tryz.isAgg9;have z9:=Tryz.sizeOf9;have v9:=Tryz.zeroValue9;have u9:=run_underlying Tryz.underlying9;have t4:=Tryz.underlying4;have a4:=Tryz.isAgg4;have z4:=Tryz.sizeOf4;have v4:=Tryz.zeroValue4;have u4:=run_underlying Tryz.underlying4;have t164:=Tryz.underlying230;have a164:=Tryz.isAgg230;have z164:=Tryz.sizeOf230;have v164:=Tryz.zeroValue230;have u164:=run_underlying Tryz.underlying230
 go_enter Tryz.func189,Tryz.ntmps189
 go_wp2
 rw[Lib.run_neq_ptr_same w _ Tryz.underlying200 hj]
 go_wp2
 go_end0
 exact ⟨rfl,rfl⟩
set_option maxHeartbeats 2000000 in
set_option maxRecDepth 100000 in
theorem Yd.Builder_copyCheck_fresh(b:Nat)(w:World)(h0:w.cell? ⟨b,0,none⟩=some (.pointer none))(hsh:w.shape? b=some (203,2))(hfz:w.frozen? ⟨b,0,none⟩=false) :
  Calls Tryz.prog 189 #[.pointer (some ⟨b,0,none⟩)] w fun e w'=>e=.returned (.tuple #[])/\w'=w.setCell ⟨b,0,none⟩ (.pointer (some ⟨b,0,none⟩)):=by
 obtain ⟨j,hj,hjs⟩:=iq.1 Yd.sizeBuilder;have mixed:Tryz.prog.follows .mixedOrders=true:=au;have t72:=Tryz.underlying203;have a72:=Tryz.isAgg203;have z72:=Tryz.sizeOf203;have v72:=Tryz.zeroValue203;have u72:=run_underlying Tryz.underlying203;have t70:=Tryz.underlying200;have a70:=Tryz.isAgg200;have z70:=Tryz.sizeOf200;have v70:=Tryz.zeroValue200;have u70:=run_underlying Tryz.underlying200;have t9:=Tryz.underlying9;have a9:=Tryz.isAgg9;have z9:=Tryz.sizeOf9;have v9:=Tryz.zeroValue9;have u9:=run_underlying Tryz.underlying9;have t4:=Tryz.underlying4;have a4:=Tryz.isAgg4;have z4:=Tryz.sizeOf4;have v4:=Tryz.zeroValue4;have u4:=run_underlying Tryz.underlying4;have t164:=Tryz.underlying230;have a164:=Tryz.isAgg230;have z164:=Tryz.sizeOf230;have v164:=Tryz.zeroValue230;have u164:=run_underlying Tryz.underlying230
 go_enter Tryz.func189,Tryz.ntmps189
 go_wp2
 rw[Lib.run_to_unsafe w ⟨b,0,none⟩ Tryz.underlying200 Tryz.underlying230 hj (by rw[hjs];decide) hsh (Nat.zero_lt_succ 1)];simp only[Result.andThen];rw[Oper.upon_value]
 go_wp2
 rw[run_callFunc_extern Tryz.func206 au au au (e:=Extern.AbiNoEscape.same) au];rw[Lib.run_noEscape];simp only[Result.andThen];rw[Oper.upon_value]
 go_wp2
 rw[Lib.run_from_unsafe w ⟨b,0,none⟩ Tryz.underlying230 Tryz.underlying200 hj hsh Yd.liesBuilder];simp only[Result.andThen];rw[Oper.upon_value]
 go_wp2
 go_end0
 exact ⟨rfl,rfl⟩
set_option maxHeartbeats 2000000 in
set_option maxRecDepth 100000 in
theorem Yd.Builder_copyCheck_k(B b:Nat)(bs:List Value)(w:World)(h:Lib.IsBuilderF 203 5 B b bs w) :
  Calls Tryz.prog 189 #[.pointer (some ⟨b,0,none⟩)] w fun e w'=>e=.returned (.tuple #[])/\(Lib.BuilderAtF 203 5 B b (.pointer (some ⟨b,0,none⟩)) bs w'/\Below B w w'/\Lib.OthersKept 5 (some b) w w'):=by
 rcases h with h|h
 .refine (Yd.Builder_copyCheck_fresh b w h.cell0 h.shape h.frozen0).mono ?_;rintro e w' ⟨rfl,rfl⟩;exact ⟨rfl,h.used _,(Below.refl B w).setCell (p:=⟨b,0,none⟩) h.1 _,(Lib.OthersKept.refl _ _ w).setCell ⟨b,0,none⟩ rfl _⟩
 .refine (Yd.Builder_copyCheck_used b w h.cell0).mono ?_;rintro e w' ⟨rfl,rfl⟩;exact ⟨rfl,h,Below.refl B _,Lib.OthersKept.refl _ _ _⟩
set_option maxHeartbeats 2000000 in
set_option maxRecDepth 100000 in
theorem Yd.Builder_WriteByte_k(B b:Nat)(bs:List Value)(c:Int)(w:World)(h:Lib.IsBuilderF 203 5 B b bs w)(hlen:bs.length+1<=140737488355328)(hBw:B<=w.heap.size) :
  Calls Tryz.prog 175 #[.pointer (some ⟨b,0,none⟩),.int .u8 c] w fun e w'=>e=.returned .nilIface/\(Lib.BuilderAtF 203 5 B b (.pointer (some ⟨b,0,none⟩)) (bs++[.int .u8 c]) w'/\Below B w w'/\Lib.OthersKept 5 (some b) w w'):=by
 obtain ⟨i0,hi,hz0,hz1,hz2⟩:=info_parts Yd.infoByte;have mixed:Tryz.prog.follows .mixedOrders=true:=au;have t72:=Tryz.underlying203;have a72:=Tryz.isAgg203;have z72:=Tryz.sizeOf203;have v72:=Tryz.zeroValue203;have u72:=run_underlying Tryz.underlying203;have t70:=Tryz.underlying200;have a70:=Tryz.isAgg200;have z70:=Tryz.sizeOf200;have v70:=Tryz.zeroValue200;have u70:=run_underlying Tryz.underlying200;have t5:=Tryz.underlying5;have a5:=Tryz.isAgg5;have z5:=Tryz.sizeOf5;have v5:=Tryz.zeroValue5;have u5:=run_underlying Tryz.underlying5;have t37:=Tryz.underlying201;have a37:=Tryz.isAgg201;have z37:=Tryz.sizeOf201;have v37:=Tryz.zeroValue201;have u37:=run_underlying Tryz.underlying201;have t9:=Tryz.underlying9;have a9:=Tryz.isAgg9;have z9:=Tryz.sizeOf9;have v9:=Tryz.zeroValue9;have u9:=run_underlying Tryz.underlying9;have t4:=Tryz.underlying4;have a4:=Tryz.isAgg4;have z4:=Tryz.sizeOf4;have v4:=Tryz.zeroValue4;have u4:=run_underlying Tryz.underlying4;have t164:=Tryz.underlying230;have a164:=Tryz.isAgg230;have z164:=Tryz.sizeOf230;have v164:=Tryz.zeroValue230;have u164:=run_underlying Tryz.underlying230;have e240:∀args w,(callFunc 189 args).run Tryz.prog w=.ok (.enter 189 args) w:=enters_of Tryz.func189 au rfl
 go_enter Tryz.func175,Tryz.ntmps175
 go_wp2_with (go_at_call 189;refine (Yd.Builder_copyCheck_k B b bs _ h).mono ?_)
 rintro e w1 ⟨rfl,h1,hb1,hk1⟩;obtain ⟨hB,v,hbk,hown,hne⟩:=h1;have c0:w1.cell? ⟨b,0,none⟩=some (.pointer (some ⟨b,0,none⟩)):=by rw[Lib.cell_of_heap hbk];rfl
 have c1:w1.cell? ⟨b,1,none⟩=some v:=by rw[Lib.cell_of_heap hbk];rfl
 go_wp2_with (at_builtin;refine wpList_append_ownF _ rfl _ _ 201 rfl B 5 i0 (.int .u8 0) 1 1 Tryz.underlying201 hi hz0 hz1 hz2 rfl (by decide) _ _ _ rfl (hown.alloc _) ⟨w1.heap.size,0,none⟩ 1 1 [.int .u8 c] rfl rfl ?c1 ?c2 ?c3 ?c4 ?c5 ?_)
 case c1=>
  intro j u hj
  match j,hj with
  | 0,hj=>simp at hj;subst hj;simp[Addr.add]
 case c2=>intro u hu;simp at hu;subst hu;rfl
 case c3=>unfold maxLen;omega
 case c4=>omega
 case c5=>have:=hb1.size;simp;omega
 intro v' w2 hown' hgrow _
 have hlt:b<w1.heap.size:=by
  rcases sq b w1.heap.size with h'|h'
  .exact h'
  .simp[DD h'] at hbk
 have hb2:w2.heap[b]?=some (.cells #[.pointer (some ⟨b,0,none⟩),v] 203 (0,0)):=by
  rw[hgrow.block b (by simp;omega) (fun e=>hne e.symm),Lib.alloc_old w1 _ b hlt];exact hbk
 have d0:w2.cell? ⟨b,0,none⟩=some (.pointer (some ⟨b,0,none⟩)):=by rw[Lib.cell_of_heap hb2];rfl
 have d1:w2.cell? ⟨b,1,none⟩=some v:=by rw[Lib.cell_of_heap hb2];rfl
 have f1:w2.frozen? ⟨b,1,none⟩=false:=Lib.frozen_of_heap hb2 1
 obtain ⟨g,cap,rfl⟩:∃g cap,v'=.slice (some ⟨g,0,none⟩) (bs.length+1) cap:=by
  rcases hown'.2 with ⟨_,h0⟩|⟨g,cap,cur,fz,hv,_⟩
  .omega
  .exact ⟨g,cap,hv⟩
 go_wp2
 go_ret
 refine ⟨rfl,?_,?_,((hk1.alloc _).grown hgrow (Lib.ownsRowF_kind (hown.alloc _))).setCell ⟨b,1,none⟩ rfl _⟩
 .exact Lib.BuilderAtF.put (T:=203) (e:=5) hB hb2 (bs':=bs++[.int .u8 c]) (by simpa using hown') (by decide)
 .exact ((hb1.alloc (by have:=hb1.size;omega) _).grown hgrow (by have:=hb1.size;simp;omega) (fun k hk=>(hown.lt k hk).1)).setCell (p:=⟨b,1,none⟩) hB _
set_option maxHeartbeats 2000000 in
set_option maxRecDepth 100000 in
theorem Yd.Builder_WriteString_k(B b:Nat)(bs:List Value)(s:ByteArray)(w:World)(h:Lib.IsBuilderF 203 5 B b bs w)(hlen:bs.length+s.size<=140737488355328)(hBw:B<=w.heap.size) :
  Calls Tryz.prog 174 #[.pointer (some ⟨b,0,none⟩),.string s] w fun e w'=>e=.returned (.tuple #[.int .i64 s.size,.nilIface])/\(Lib.BuilderAtF 203 5 B b (.pointer (some ⟨b,0,none⟩)) (bs++Lib.strCells s) w'/\Below B w w'/\Lib.OthersKept 5 (some b) w w'):=by
 obtain ⟨i0,hi,hz0,hz1,hz2⟩:=info_parts Yd.infoByte;have mixed:Tryz.prog.follows .mixedOrders=true:=au;have t72:=Tryz.underlying203;have a72:=Tryz.isAgg203;have z72:=Tryz.sizeOf203;have v72:=Tryz.zeroValue203;have u72:=run_underlying Tryz.underlying203;have t70:=Tryz.underlying200;have a70:=Tryz.isAgg200;have z70:=Tryz.sizeOf200;have v70:=Tryz.zeroValue200;have u70:=run_underlying Tryz.underlying200;have t37:=Tryz.underlying201;have a37:=Tryz.isAgg201;have z37:=Tryz.sizeOf201;have v37:=Tryz.zeroValue201;have u37:=run_underlying Tryz.underlying201;have t3:=Tryz.underlying3;have a3:=Tryz.isAgg3;have z3:=Tryz.sizeOf3;have v3:=Tryz.zeroValue3;have u3:=run_underlying Tryz.underlying3;have t9:=Tryz.underlying9;have a9:=Tryz.isAgg9;have z9:=Tryz.sizeOf9;have v9:=Tryz.zeroValue9;have u9:=run_underlying Tryz.underlying9;have t4:=Tryz.underlying4;have a4:=Tryz.isAgg4;have z4:=Tryz.sizeOf4;have v4:=Tryz.zeroValue4;have u4:=run_underlying Tryz.underlying4;have t164:=Tryz.underlying230;have a164:=Tryz.isAgg230;have z164:=Tryz.sizeOf230;have v164:=Tryz.zeroValue230;have u164:=run_underlying Tryz.underlying230;have t5:=Tryz.underlying5;have a5:=Tryz.isAgg5;have z5:=Tryz.sizeOf5;have v5:=Tryz.zeroValue5;have u5:=run_underlying Tryz.underlying5;have e240:∀args w,(callFunc 189 args).run Tryz.prog w=.ok (.enter 189 args) w:=enters_of Tryz.func189 au rfl
 go_enter Tryz.func174,Tryz.ntmps174
 go_wp2_with (go_at_call 189;refine (Yd.Builder_copyCheck_k B b bs _ h).mono ?_)
 rintro e w1 ⟨rfl,h1,hb1,hk1⟩;obtain ⟨hB,v,hbk,hown,hne⟩:=h1;have c0:w1.cell? ⟨b,0,none⟩=some (.pointer (some ⟨b,0,none⟩)):=by rw[Lib.cell_of_heap hbk];rfl
 have c1:w1.cell? ⟨b,1,none⟩=some v:=by rw[Lib.cell_of_heap hbk];rfl
 go_wp2_with (at_builtin;refine Lib.wpList_append_own_stringF _ rfl _ _ 201 9 rfl B 5 i0 Tryz.underlying201 Tryz.underlying9 hi hz0 hz1 hz2 _ _ _ rfl hown s rfl ?c3 ?c4 ?c5 ?_)
 case c3=>unfold maxLen;omega
 case c4=>omega
 case c5=>have:=hb1.size;omega
 intro v' w2 hown' hgrow _
 have hlt:b<w1.heap.size:=by
  rcases sq b w1.heap.size with h'|h'
  .exact h'
  .simp[DD h'] at hbk
 have hb2:w2.heap[b]?=some (.cells #[.pointer (some ⟨b,0,none⟩),v] 203 (0,0)):=by
  rw[hgrow.block b hlt (fun e=>hne e.symm)];exact hbk
 have d0:w2.cell? ⟨b,0,none⟩=some (.pointer (some ⟨b,0,none⟩)):=by rw[Lib.cell_of_heap hb2];rfl
 have d1:w2.cell? ⟨b,1,none⟩=some v:=by rw[Lib.cell_of_heap hb2];rfl
 have f1:w2.frozen? ⟨b,1,none⟩=false:=Lib.frozen_of_heap hb2 1
 obtain ⟨ao,n',cap,rfl⟩:∃ao n' cap,v'=.slice ao n' cap:=by
  rcases hown'.2 with ⟨hv,_⟩|⟨g,cap,cur,fz,hv,_⟩
  .exact ⟨_,_,_,hv⟩
  .exact ⟨_,_,_,hv⟩
 go_wp2
 go_ret2
 refine ⟨rfl,?_,?_,(hk1.grown hgrow (Lib.ownsRowF_kind hown)).setCell ⟨b,1,none⟩ rfl _⟩
 .exact Lib.BuilderAtF.put (T:=203) (e:=5) hB hb2 (bs':=bs++Lib.strCells s) (by simpa [Lib.strCells_length] using hown') (by decide)
 .exact (hb1.grown hgrow (by have:=hb1.size;omega) (fun k hk=>(hown.lt k hk).1)).setCell (p:=⟨b,1,none⟩) hB _
end Go.Proofs
namespace Go.Proofs
open Go.RowKit
def Yd.nameB(var leaf:Int)(ks:List Int):List UInt8:=if var<0 then 61::Lib.itoa leaf else Lib.itoa var++ks.flatMap fun k=>32::Lib.itoa k
def Yd.i64(n:Int):Prop:=-9223372036854775808<=n/\n<=9223372036854775807
abbrev Yd.tab(w:World):Prop:=Lib.TabIs Tryz.prog w "internal/strconv.uint64pow10" .u64 Lib.pow10Tab
theorem Yd.globalPow:Tryz.prog.globalNamed "internal/strconv.uint64pow10" = some 0:=au
theorem Yd.tab_lt{w:World}(h:Yd.tab w):0<w.heap.size:=by
 unfold Yd.tab Lib.TabIs World.var? at h;rw[Yd.globalPow] at h;simp only[ae] at h
 split at h
 .rename_i hh;exact (fP.1 hh).1
 .cases h
theorem Yd.tab_below{B:Nat}{w w':World}(hB:0<B)(h:Yd.tab w)(s:Below B w w'):Yd.tab w':=by
 unfold Yd.tab Lib.TabIs World.var? at h ⊢;rw[Yd.globalPow] at h ⊢;simp only[ae] at h ⊢;rw[s.block 0 hB];exact h
theorem Yd.decDigits_len(u k:Nat)(h:u<10^(k+1)):(Lib.decDigits u).length<=k+1:=by
 induction k generalizing u with
 | zero=>rw[Lib.decDigits,dif_pos aa];simp
 | succ k ih=>
  rw[Lib.decDigits]
  split
  .simp
  .rw[aW];have:=ih (u/10) (by rw[vZ (by decide)];rw[kh] at h;exact h);simp;omega
theorem Yd.itoa_len{n:Int}(h:Yd.i64 n):(Lib.itoa n).length<=20:=by
 have:n.natAbs<10^(18+1):=by
  have:=h.1;have:=h.2;have e:(10:Nat)^(18+1)=10000000000000000000:=by decide
  rw[e];omega
 have h2:n.toNat<10^(18+1):=aa;unfold Lib.itoa
 split
 .have:=Yd.decDigits_len _ _ this;simp;omega
 .have:=Yd.decDigits_len _ _ h2;omega
theorem Yd.drewN_heap(w:World):∀k,(w.drewN k).heap=w.heap/\(w.drewN k).os=w.os/\(w.drewN k).tape=w.tape/\(w.drewN k).output=w.output
 | 0=>⟨rfl,rfl,rfl,rfl⟩
 | k+1=>Yd.drewN_heap w.drew k
theorem Yd.below_grow(w:World)(k:Nat)(os:Array Obj):Below w.heap.size w (Sort.grow (w.drewN k) os):=by
 obtain ⟨h1,h2,h3,h4⟩:=Yd.drewN_heap w k
 refine ⟨h2,h3,h4,?_,fun i hi=>?_⟩
 .simp[Sort.grow]
 .simp only[Sort.grow,h1];rw[Array.getElem?_append_left hi]
set_option maxHeartbeats 4000000 in
set_option maxRecDepth 1000000 in
theorem Yd.name_leaf(var leaf:Int)(kv:Value)(w:World)(h0:Yd.tab w)(hv:var<0)(hl:Yd.i64 leaf) :
  Calls Tryz.prog 141 #[.agg #[.int .i64 var,kv,.int .i64 leaf]] w fun e w'=>e=.returned (.string ⟨(61::Lib.itoa leaf).toArray⟩)/\Below w.heap.size w w':=by
 have hB:=Yd.tab_lt h0;have b0:Below w.heap.size w (w.alloc (.cells #[.int .i64 var,kv,.int .i64 leaf] 74)):=(Below.refl _ w).alloc (aR _) _;have t0:=Yd.tab_below hB h0 b0;have hz:¬9223372036854775807<1+(Lib.itoa leaf).length:=by have:=Yd.itoa_len hl;omega
 go_enter Tryz.func141,Tryz.ntmps141
 go_wp2_with (go_at_call 173;refine (Tryz.strconv_Itoa leaf hl.1 hl.2 _ t0).mono ?_)
 rintro e W1 ⟨rfl,k,os,rfl⟩
 go_wp2
 all_goals (go_ret;exact ⟨by congr 2,b0.trans ((Yd.below_grow _ k os).mono b0.size)⟩)
theorem Yd.isF_grow{T e:TypeId}{B b:Nat}{bs:List Value}{w w':World}(h:Lib.IsBuilderF T e B b bs w)(hg:w.grownBy w' none):Lib.IsBuilderF T e B b bs w':=by
 have key:∀p,Lib.BuilderAtF T e B b p bs w->Lib.BuilderAtF T e B b p bs w':=by
  rintro p ⟨hB,v,hb,hown,hne⟩;exact ⟨hB,v,by rw[hg.block b (fP.1 hb).1 aA];exact hb,hown.kept hg (by cases hv:v.ownBlock<;>simp),hne⟩
 exact h.imp (key _) (key _)
theorem Yd.grownBy_grow(w:World)(k:Nat)(os:Array Obj):w.grownBy (Sort.grow (w.drewN k) os) none:=
 ⟨rfl,rfl,rfl,by simp[Sort.grow],fun i hi _=>by simp only[Sort.grow];exact Array.getElem?_append_left hi⟩
theorem Yd.itoa{n:Int}(h:Yd.i64 n)(w:World)(h0:Yd.tab w):Calls Tryz.prog 173 #[.int .i64 n] w fun e w'=>e=.returned (.string ⟨(Lib.itoa n).toArray⟩)/\(Below w.heap.size w w'/\w.grownBy w' none):=by
 refine (Tryz.strconv_Itoa n h.1 h.2 w h0).mono ?_;rintro e w' ⟨rfl,k,os,rfl⟩;exact ⟨rfl,Yd.below_grow w k os,Yd.grownBy_grow w k os⟩
def Yd.part(var:Int)(ks:List Int)(n:Nat):List UInt8:=Lib.itoa var++(ks.take n).flatMap fun k=>32::Lib.itoa k
theorem Yd.part_succ(var:Int)(ks:List Int)(n:Nat)(h:n<ks.length):Yd.part var ks (n+1)=Yd.part var ks n++[32]++Lib.itoa ks[n]:=by
 unfold Yd.part;rw[mU h,List.flatMap_append];simp
theorem Yd.part_len{var:Int}{ks:List Int}(hv:Yd.i64 var)(hk:∀k∈ks,Yd.i64 k):∀n,n<=ks.length->(Yd.part var ks n).length<=20+21*n
 | 0,_=>by have:=Yd.itoa_len hv;simpa [Yd.part] using this
 | n+1,h=>by
  have h1:=Yd.part_len hv hk n aa;have h2:=Yd.itoa_len (hk ks[n] (bA aa));rw[Yd.part_succ var ks n aa];simp only[aW,vS];omega
theorem Yd.strCells_byte(l:List UInt8):Lib.strCells ⟨l.toArray⟩=Lib.byteCells l:=by rw[Lib.strCells_eq]
set_option maxHeartbeats 4000000 in
set_option maxRecDepth 1000000 in
theorem Yd.name_node(var leaf:Int)(ks:List Int)(ad:Option Addr)(cap:Nat)(w:World)(h0:Yd.tab w)(hv:¬ var<0)(hi:Yd.i64 var)(hk:∀k∈ks,Yd.i64 k)(hlen:ks.length<=1048576)
  (hr:∀j (h:j<ks.length),∃b o,ad=some ⟨b,o,none⟩/\w.cell? ⟨b,o+j,none⟩=some (.int .i64 ks[j])) :
  Calls Tryz.prog 141 #[.agg #[.int .i64 var,.slice ad ks.length cap,.int .i64 leaf]] w fun e w'=>e=.returned (.string ⟨(Yd.part var ks ks.length).toArray⟩)/\Below w.heap.size w w':=by
 have hB:=Yd.tab_lt h0;have b0:Below w.heap.size w ((w.alloc (.cells #[.int .i64 var,.slice ad ks.length cap,.int .i64 leaf] 74)).alloc (.cells #[.pointer none,.slice none 0 0] 203)):=((Below.refl _ w).alloc (aR _) _).alloc aA _;have t0:=Yd.tab_below hB h0 b0
 have f0:Lib.IsBuilderF 203 5 (w.heap.size+1) (w.heap.size+1) [] ((w.alloc (.cells #[.int .i64 var,.slice ad ks.length cap,.int .i64 leaf] 74)).alloc (.cells #[.pointer none,.slice none 0 0] 203)):=by
  have:=Lib.IsBuilderF.of (Lib.fresh_isBuilder 203 5 (w.alloc (.cells #[.int .i64 var,.slice ad ks.length cap,.int .i64 leaf] 74)));simpa using this
 generalize hW:(w.alloc (.cells #[.int .i64 var,.slice ad ks.length cap,.int .i64 leaf] 74)).alloc (.cells #[.pointer none,.slice none 0 0] 203)=W at b0 t0 f0;have hWs:W.heap.size=w.heap.size+2:=by rw[<- hW];simp
 have hbx:W.heap[w.heap.size]?=some (.cells #[.int .i64 var,.slice ad ks.length cap,.int .i64 leaf] 74 (0,0)):=by
  rw[<- hW,Lib.alloc_old _ _ _ aA];exact Go.heap_alloc_new w _
 have c0:W.cell? ⟨w.heap.size,0,none⟩=some (.int .i64 var):=by rw[Lib.cell_of_heap hbx];rfl
 have c1:W.cell? ⟨w.heap.size,1,none⟩=some (.slice ad ks.length cap):=by rw[Lib.cell_of_heap hbx];rfl
 go_enter Tryz.func141,Tryz.ntmps141
 go_wp2_with (go_at_call 173;refine (Yd.itoa hi _ t0).mono ?_)
 intro e W1 he b1 g1;cases he;have f1:=Yd.isF_grow f0 g1;have b1:Below (w.heap.size+1) W W1:=b1.mono aa;have hW1:w.heap.size+1<=W1.heap.size:=by have:=b1.size;omega
 go_wp2_with (go_at_call 174;refine (Yd.Builder_WriteString_k (w.heap.size+1) (w.heap.size+1) [] ⟨(Lib.itoa var).toArray⟩ _ f1 (by have:=Yd.itoa_len hi;simp[ByteArray.size];omega) hW1).mono ?_)
 rintro e W2 ⟨rfl,f2,b2,k2⟩
 have f2':Lib.IsBuilderF 203 5 (w.heap.size+1) (w.heap.size+1) (Lib.byteCells (Yd.part var ks 0)) W2:=by
  refine Or.inr ?_;rw[Yd.strCells_byte] at f2;simpa [Yd.part] using f2
 have bW2:=b1.trans b2;have c1':=(bW2.cell (p:=⟨w.heap.size,1,none⟩) (by simp)).trans c1
 have kc:∀j (h:j<ks.length),∃b o,ad=some ⟨b,o,none⟩/\b<w.heap.size/\w.cell? ⟨b,o+j,none⟩=some (.int .i64 ks[j]):=fun j h=>by
  obtain ⟨b,o,h1,h2⟩:=hr j h;exact ⟨b,o,h1,World.block_lt_of_cell? w ⟨b,o+j,none⟩ h2,h2⟩
 have tW2:=Yd.tab_below (B:=w.heap.size+1) aa t0 bW2;have sW2:=bW2.size;clear f2 f1 g1 b2 b1 f0 t0 h0 c0 c1 hbx hW hr hW1 k2
 go_wp2
 go_loopw [20] (fun i wr=>∃n,n<=ks.length/\i=.int .i64 n/\Lib.IsBuilderF 203 5 (w.heap.size+1) (w.heap.size+1) (Lib.byteCells (Yd.part var ks n)) wr/\Below (w.heap.size+1) W2 wr)
  (fun i _=>ks.length-(intOf i).toNat)
 case atStart=>exact ⟨0,oJ _,rfl,f2',Below.refl _ _⟩
 case round=>
  obtain ⟨n,hn,rfl,hf,hbw⟩:=hrel;have swr:=hbw.size;have hpl:=Yd.part_len hi hk n hn
  by_cases hlt:n<ks.length
  .obtain ⟨b,o,had,hb,hc⟩:=kc n hlt;subst had;have hcw:wr.cell? ⟨b,o+n,none⟩=some (.int .i64 ks[n]):=((hbw.cell (p:=⟨b,o+n,none⟩) (by show b<_;omega)).trans (bW2.cell (p:=⟨b,o+n,none⟩) (by show b<_;omega))).trans ((b0.cell (p:=⟨b,o+n,none⟩) hb).trans hc);have hik:=hk ks[n] (bA hlt);have twr:=Yd.tab_below (B:=w.heap.size+1) aa tW2 hbw;generalize hx:ks[n]=x at hcw hik;clear kc bW2 b0 hc
   go_wp2_with (go_at_call 175;refine (Yd.Builder_WriteByte_k (w.heap.size+1) (w.heap.size+1) _ 32 _ hf (by rw[Lib.byteCells_length];omega) (by omega)).mono ?_)
   rintro e W3 ⟨rfl,f3,b3,k3⟩;have t3:=Yd.tab_below (B:=w.heap.size+1) aa twr b3;have s3:=b3.size
   go_wp2_with (go_at_call 173;refine (Yd.itoa hik _ t3).mono ?_)
   rintro e W4 ⟨rfl,b4,g4⟩;have f4:=Yd.isF_grow (Or.inr f3) g4;have s4:=b4.size
   go_wp2_with (go_at_call 174;refine (Yd.Builder_WriteString_k (w.heap.size+1) (w.heap.size+1) _ ⟨(Lib.itoa x).toArray⟩ _ f4 (by have:=Yd.itoa_len hik;simp only[aW,Lib.byteCells_length,ByteArray.size,List.size_toArray,vS];omega) (by omega)).mono ?_)
   rintro e W5 ⟨rfl,f5,b5,k5⟩;clear f3 f4 g4 k3 k5
   go_wp2
   go_roundw
   case rel=>
    refine ⟨n+1,aa,aA,?_,((hbw.trans b3).trans (b4.mono (by omega))).trans b5⟩;rw[Yd.part_succ var ks n hlt,hx];rw[Yd.strCells_byte] at f5;refine Or.inr ?_;simpa [Lib.byteCells] using f5
   case measure=>simp[intOf];omega
  .obtain rfl:n=ks.length:=aa
   go_wp2_with (go_at_call 176;refine (Tryz.Builder_String_any_k (w.heap.size+1) (w.heap.size+1) _ _ hf (by omega)).mono ?_)
   rintro e W3 ⟨rfl,f3,b3,k3⟩
   go_wp2
   go_ret
   exact ⟨rfl,b0.trans (((bW2.trans hbw).trans b3).mono aa)⟩
end Go.Proofs
namespace Go.Ab
open Go.Proofs Go.RowKit
noncomputable instance:WInv:=⟨fun w=>Yd.tab w⟩
def A0:List AV->Option (List Int)
 | []=>some []
 | .int .i64 n::l=>if -9223372036854775808<=n/\n<=9223372036854775807 then (A0 l).map fun ns=>n::ns else none
 | _=>none
def A8:List AV->Option AV
 | [.agg [.int .i64 v,.lst none _ _ ks,.int .i64 l]]=>(A0 ks).bind fun ns=>
  if (-9223372036854775808<=v/\v<=9223372036854775807)/\(-9223372036854775808<=l/\l<=9223372036854775807)/\ns.length<=1048576 then some (.str ⟨(Yd.nameB v l ns).toArray⟩) else none
 | _=>none
theorem ZU:∀{ks:List AV} {ns:List Int},A0 ks=some ns->ks=ns.map (AV.int .i64)/\∀n∈ns,Yd.i64 n
 | [],ns,h=>by simp[A0] at h;subst h;simp
 | x::l,ns,h=>by
  unfold A0 at h
  split at h
  .rename_i he;cases he
  .rename_i n l' he;cases he
   split at h
   .rename_i hn;obtain ⟨ms,hm,rfl⟩:=iq.1 h;obtain ⟨h1,h2⟩:=ZU hm
    exact ⟨by rw[h1];rfl,fun n hn'=>by
     rcases gI.1 hn' with rfl|h'
     .exact hn
     .exact h2 _ h'⟩
   .cases h
  .cases h
theorem qrl{ns:List Int}(h:∀n∈ns,Yd.i64 n):A0 (ns.map (AV.int .i64))=some ns:=by
 induction ns with
 | nil=>rfl
 | cons n ns ih=>
  simp only[gh,A0];rw[aq (show _/\_ from h n gj),ih fun k hk=>h k (fW _ hk)]
  rfl
theorem qpm(ns:List Int):dH (ns.map (AV.int .i64))=ns.map (AV.int .i64):=by
 induction ns with
 | nil=>rfl
 | cons n l ih=>simp only[gh,dH,vO,AV.cells] at ih ⊢;rw[ih];rfl
theorem qcx{B:Nat}{w w':World}{g:G}(hB:B<=w.heap.size)(h:Below w.heap.size w w'):Step B w g w' g where
 below:=h.mono hB
 cell b off u _ hc:=(h.cell (p:=⟨b,off,none⟩) (uJ hc)).trans hc
 shape b c e fr hb:=⟨c,(h.block b (fP.1 hb).1).trans hb,rfl⟩
 wr b off _ hn:=hn
 wrB b off _:=Iff.rfl
 box b _:=Iff.rfl
 loc nm b h:=h
 tloc nm n b h:=h
theorem qrX{B:Nat}{w w':World}{g:G}{m:ai}(hB:B<=w.heap.size)(h:Below w.heap.size w w')(hm:MemR B w g m):MemR B w' g m:=
 hm.keep (qcx hB h) (fun b _ hb=>h.block b hb) (fun _ _ h=>h) rfl rfl (fun b off hw=>so (hm.wrLt b off hw) h.size) (fun b hw=>so (hm.boxLt b hw) h.size)
theorem qr5(vs:List AV)(v:AV)(h:A8 vs=some v)(m:ai):uv Tryz.prog 141 vs m v m:=by
 unfold A8 at h
 split at h
 .rename_i var z o ks leaf;simp only[bn] at h;obtain ⟨ns,hns,h⟩:=h
  split at h
  .rename_i hc;obtain ⟨hv,hl,hlen⟩:=hc;obtain rfl:=pS h;obtain ⟨rfl,hin⟩:=ZU hns;intro B w g us hm hB hus hV;have h0:=hV 0 aA;simp only[qk] at h0;have hsz:us.size=1:=by simpa using hus.symm
   obtain ⟨u,rfl⟩:∃u,us = #[u]:=⟨us.getD 0 undef,by
    apply Array.ext (by simpa using hsz);intro i hi1 hi2;obtain rfl:i=0:=by simp at hi2;omega
    simp[Array.getD,hi1]⟩
   have h0:V w g (.agg [.int .i64 var,.lst none z o (ns.map (AV.int .i64)),.int .i64 leaf]) u:=h0;cases h0;rename_i ws hl3 hVs;have htab:Yd.tab w:=hm.inv w (Below.refl _ _);have a0:=hVs 0 aA;have a1:=hVs 1 aA;have a2:=hVs 2 aA;simp only[qk,zH] at a0 a1 a2
   have hws:ws = #[ws.getD 0 undef,ws.getD 1 undef,ws.getD 2 undef]:=by
    have h3:ws.size=3:=by simpa using hl3.symm
    apply Array.ext (by simpa using h3);intro i hi1 hi2
    match i,hi2 with
    | 0,_=>simp[Array.getD,h3]
    | 1,_=>simp[Array.getD,h3]
    | 2,_=>simp[Array.getD,h3]
   generalize ws.getD 0 undef=q0 at a0 hws;generalize ws.getD 1 undef=q1 at a1 hws;generalize ws.getD 2 undef=q2 at a2 hws;subst hws;cases a0;cases a2
   have fin:∀{e:Ending} {w':World},e=.returned (.string ⟨(Yd.nameB var leaf ns).toArray⟩)/\Below w.heap.size w w'->∃v' g',e=.returned v'/\Step B w g w' g'/\MemR B w' g' m/\V w' g' (.str ⟨(Yd.nameB var leaf ns).toArray⟩) v':=by
    rintro e w' ⟨rfl,hb⟩;exact ⟨_,g,rfl,qcx hB hb,qrX hB hb hm,.str _⟩
   by_cases hneg:var<0
   .refine (Yd.name_leaf var leaf q1 w htab hneg hl).mono fun e w' hr=>fin ?_;rw[Yd.nameB,aq hneg];exact hr
   .have e1:Yd.nameB var leaf ns=Yd.part var ns ns.length:=by rw[Yd.nameB,an hneg,Yd.part,List.take_length]
    rw[e1] at fin ⊢;generalize hes:ns.map (AV.int .i64)=es at a1
    cases a1 with
    | nils _ _ _=>
     obtain rfl:ns=[]:=uA.1 hes;exact (Yd.name_node var leaf [] none 0 w htab hneg hv hin aA (fun j h=>by simp at h)).mono fun e w' hr=>fin hr
    | lst _ _ _ a cap us hs hcl hmx hsh hcell hvv ho=>
     subst hes;rw[bu] at *;have hfl:=qpm ns;refine (Yd.name_node var leaf ns (some a) cap w htab hneg hv hin hlen (fun j hj=>?_)).mono fun e w' hr=>fin hr;rw[hfl] at hcell hvv;have c1:=(hcell j (by simpa using hj)).1;have c2:=hvv j (by simpa using hj);have hg:(ns.map (AV.int .i64)).getD j .any=.int .i64 ns[j]:=by simp[aT,hj]
     rw[hg] at c2;generalize us j=q at c1 c2;cases c2;have hsp:a.spot=none:=hs.resolve_left aa;obtain ⟨bl,off,sp⟩:=a;simp only at hsp c1;subst hsp;exact ⟨bl,off,rfl,c1⟩
  .cases h
 .cases h
end Go.Ab
namespace Go.Ab
open Go.Proofs
structure ND where
 var:Int
 kids:List Int
 leaf:Int
 deriving DecidableEq
def ND.key(n:ND):List UInt8:=Yd.nameB n.var n.leaf n.kids
def ND.ok(n:ND):Prop:=(n.var=-1/\n.kids=[]/\0<=n.leaf/\n.leaf<=2147483647)\/(0<=n.var/\n.var<1000/\n.leaf=0/\(∀k∈n.kids,0<=k/\k<1000000)/\n.kids.length<=64)
theorem qo0(u:Nat):Lib.decDigits u≠[]:=by
 rw[Lib.decDigits];split<;>simp
theorem O8(u:Nat):∀b∈Lib.decDigits u,48<=b.toNat/\b.toNat<=57:=by
 induction u using Nat.strongRecOn with
 | ind u ih=>
  rw[Lib.decDigits]
  have h8:∀v,v<10->48<=(UInt8.ofNat (48+v)).toNat/\(UInt8.ofNat (48+v)).toNat<=57:=fun v hv=>by
   have:(UInt8.ofNat (48+v)).toNat=48+v:=by simp;omega
   omega
  split
  .rename_i h;intro b hb;simp only[List.mem_singleton] at hb;rw[hb];exact h8 u h
  .intro b hb
   rcases hZ.1 hb with hb|hb
   .exact ih (u/10) aa b hb
   .simp only[List.mem_singleton] at hb;rw[hb];exact h8 (u%10) aa
def LL(l:List UInt8):Nat:=l.foldl (fun a b=>a*10+(b.toNat-48)) 0
theorem XJ(u:Nat):LL (Lib.decDigits u)=u:=by
 induction u using Nat.strongRecOn with
 | ind u ih=>
  rw[Lib.decDigits];have h8:∀v,v<10->(UInt8.ofNat (48+v)).toNat=48+v:=fun v hv=>by simp;omega
  split
  .rename_i h;simp only[LL,vP,List.foldl_nil,h8 u h];omega
  .rename_i h;have:=ih (u/10) aa;unfold LL at this ⊢;rw[List.foldl_append,this];simp only[vP,List.foldl_nil,h8 (u%10) aa];omega
def EO(x:List UInt8):Prop:=x=[]\/∃y,x=32::y
theorem qcr:∀{a b x y:List UInt8},(∀c∈a,48<=c.toNat/\c.toNat<=57)->(∀c∈b,48<=c.toNat/\c.toNat<=57)->EO x->EO y->a++x=b++y->a=b/\x=y
 | [],[],x,y,_,_,_,_,h=>⟨rfl,by simpa using h⟩
 | [],c::b,x,y,_,hb,hx,_,h=>by
  exfalso;have hc:=hb c gj
  rcases hx with rfl|⟨z,rfl⟩
  .simp at h
  .simp only[bF,b6,qj] at h;rw[<- h.1] at hc;simp at hc
 | c::a,[],x,y,ha,_,_,hy,h=>by
  exfalso;have hc:=ha c gj
  rcases hy with rfl|⟨z,rfl⟩
  .simp at h
  .simp only[bF,b6,qj] at h;rw[h.1] at hc;simp at hc
 | c::a,d::b,x,y,ha,hb,hx,hy,h=>by
  simp only[b6,qj] at h;obtain ⟨e1,e2⟩:=qcr (fun c hc=>ha c (fW _ hc)) (fun c hc=>hb c (fW _ hc)) hx hy h.2;exact ⟨by rw[h.1,e1],e2⟩
theorem QI{n:Int}(h:0<=n):Lib.itoa n=Lib.decDigits n.toNat:=by unfold Lib.itoa;rw[an aa]
theorem QJ{a b:Int}(ha:0<=a)(hb:0<=b){x y:List UInt8}(hx:EO x)(hy:EO y)(h:Lib.itoa a++x=Lib.itoa b++y):a=b/\x=y:=by
 rw[QI ha,QI hb] at h;obtain ⟨e1,e2⟩:=qcr (O8 _) (O8 _) hx hy h;have:=dc LL e1;rw[XJ,XJ] at this;exact ⟨aa,e2⟩
theorem Js(ks:List Int):EO (ks.flatMap fun k=>32::Lib.itoa k):=by
 cases ks with
 | nil=>exact .inl rfl
 | cons k ks=>exact .inr ⟨_,by rw[vO];rfl⟩
theorem Z7:∀{a b:List Int},(∀k∈a,0<=k)->(∀k∈b,0<=k)->(a.flatMap fun k=>32::Lib.itoa k)=(b.flatMap fun k=>32::Lib.itoa k)->a=b
 | [],[],_,_,_=>rfl
 | [],k::b,_,_,h=>by simp[vO] at h
 | k::a,[],_,_,h=>by simp[vO] at h
 | k::a,l::b,ha,hb,h=>by
  simp only[vO,b6,qj,true_and] at h;obtain ⟨e1,e2⟩:=QJ (ha k gj) (hb l gj) (Js a) (Js b) h;rw[e1,Z7 (fun k hk=>ha k (fW _ hk)) (fun k hk=>hb k (fW _ hk)) e2]
theorem qrp{a b:ND}(ha:a.ok)(hb:b.ok)(h:a.key=b.key):a=b:=by
 obtain ⟨v,ks,l⟩:=a;obtain ⟨v',ks',l'⟩:=b;unfold ND.key Yd.nameB at h;simp only at h
 have lead:∀{n:Int} {x:List UInt8} {y:List UInt8},0<=n->61::x=Lib.itoa n++y->False:=fun {n x y} hn he=>by
  rw[QI hn] at he
  cases hd:Lib.decDigits n.toNat with
  | nil=>exact qo0 _ hd
  | cons c d=>
   have:=O8 n.toNat c (by rw[hd];exact gj);rw[hd] at he;simp only[b6,qj] at he;rw[<- he.1] at this;simp at this
 rcases ha with ⟨h1,h2,h3,h4⟩|⟨h1,h2,h3,h4,h5⟩<;>rcases hb with ⟨k1,k2,k3,k4⟩|⟨k1,k2,k3,k4,k5⟩<;>simp only at h1 h2 h3 h4 k1 k2 k3 k4
 .subst h1;subst k1;subst h2;subst k2;rw[aq (by decide),aq (by decide)] at h;simp only[qj,true_and] at h;have:=(QJ h3 k3 (x:=[]) (y:=[]) (.inl rfl) (.inl rfl) (by simpa using h)).1;rw[this]
 .subst h1;rw[aq (by decide),an aa] at h;exact (lead k1 h).elim
 .subst k1;rw[an aa,aq (by decide)] at h;exact (lead h1 h.symm).elim
 .rw[an aa,an aa] at h;obtain ⟨e1,e2⟩:=QJ h1 k1 (Js _) (Js _) h;rw[e1,h3,k3,Z7 (fun k hk=>(h4 k hk).1) (fun k hk=>(k4 k hk).1) e2]
theorem qa0{n:ND}(h:n.ok)(z:Bool)(o:Own):A8 [.agg [.I n.var,.lst none z o (n.kids.map (AV.int .i64)),.I n.leaf]]=some (.str ⟨n.key.toArray⟩):=by
 have hk:∀k∈n.kids,Yd.i64 k:=fun k hk=>by
  rcases h with ⟨_,h2,_⟩|⟨_,_,_,h4,_⟩
  .rw[h2] at hk;cases hk
  .have:=h4 k hk;constructor<;>omega
 have hb:((-9223372036854775808<=n.var/\n.var<=9223372036854775807)/\(-9223372036854775808<=n.leaf/\n.leaf<=9223372036854775807)/\n.kids.length<=1048576):=by
  rcases h with ⟨h1,h2,h3,h4⟩|⟨h1,h2,h3,h4,h5⟩
  .rw[h2];refine ⟨aa,aa,aA⟩
  .omega
 unfold A8;simp only[];rw[qrl hk,ae,aq hb]
 rfl
end Go.Ab
namespace Go.Ab
abbrev Dr:ByteArray:=⟨⟨[0,1,2,2,3,3,3,3,4,4,4,4,4,4,4,4,5,5,5,5,5,5,5,5,5,5,5,5,5,5,5,5,6,6,6,6,6,6,6,6,6,6,6,6,6,6,6,6,6,6,6,6,6,6,6,6,6,6,6,6,6,6,6,6,7,7,7,7,7,7,7,7,7,7,7,7,7,7,7,7,7,7,7,7,7,7,7,7,7,7,7,7,7,7,7,7,7,7,7,7,7,7,7,7,7,7,7,7,7,7,7,7,7,7,7,7,7,7,7,7,7,7,7,7,7,7,7,7,8,8,8,8,8,8,8,8,8,8,8,8,8,8,8,8,8,8,8,8,8,8,8,8,8,8,8,8,8,8,8,8,8,8,8,8,8,8,8,8,8,8,8,8,8,8,8,8,8,8,8,8,8,8,8,8,8,8,8,8,8,8,8,8,8,8,8,8,8,8,8,8,8,8,8,8,8,8,8,8,8,8,8,8,8,8,8,8,8,8,8,8,8,8,8,8,8,8,8,8,8,8,8,8,8,8,8,8,8,8,8,8,8,8,8,8,8,8,8,8,8,8,8,8,8,8,8,8]⟩⟩
open Go.Proofs.Tryz
def aw:Nat->Nat->List Bool
 | 0,_=>[]
 | n+1,x=>Nat.beq (x%2) 1::aw n (x/2)
def mM3(n a b c:Nat):Masks:=⟨aw n a,aw n b,aw n c⟩
def qrV:List (Nat×Nat×Masks):=[(3,17,⟨(aw 122 1813388729421943762112512),(aw 122 32768),(aw 122 64)⟩),
 (4,19,⟨(aw 186 72692156019487586799426948609895424),(aw 186 814080),(aw 186 256)⟩),
 (4,28,⟨(aw 186 137015778499772148581595453067151533092764647424),(aw 186 0),(aw 186 256)⟩),
 (5,9,⟨(aw 196 2115620184325601055735810),(aw 196 0),(aw 196 16)⟩),
 (5,25,⟨(aw 196 670466799128826375531776824380375888017523967011062274),(aw 196 2115620184325601055736322),(aw 196 16)⟩),
 (7,15,⟨(aw 105 2066035336255470798344),(aw 105 1015808),(aw 105 256)⟩),
 (9,13,⟨(aw 152 252201579132804104),(aw 152 49160),(aw 152 256)⟩),
 (10,4,⟨(aw 29 8),(aw 29 8),(aw 29 4)⟩),
 (11,4,⟨(aw 21 1792),(aw 21 0),(aw 21 4)⟩),
 (12,3,⟨(aw 22 1826),(aw 22 32),(aw 22 16)⟩),
 (14,3,⟨(aw 32 99),(aw 32 32),(aw 32 16)⟩),
 (16,4,⟨(aw 45 28770),(aw 45 32),(aw 45 16)⟩),
 (16,8,⟨(aw 45 30562),(aw 45 29282),(aw 45 16)⟩),
 (17,11,⟨(aw 123 31525197391598860),(aw 123 4352),(aw 123 192)⟩),
 (17,17,⟨(aw 123 528905077606597655631116),(aw 123 31525197391598860),(aw 123 192)⟩),
 (17,28,⟨(aw 123 1135814937804493543741046076215296),(aw 123 4194304),(aw 123 192)⟩),
 (18,4,⟨(aw 50 229377),(aw 50 0),(aw 50 16)⟩),
 (18,8,⟨(aw 50 29589729),(aw 50 229601),(aw 50 16)⟩),
 (19,3,⟨(aw 49 114823),(aw 49 128),(aw 49 64)⟩),
 (19,7,⟨(aw 49 29476487),(aw 49 116359),(aw 49 64)⟩),
 (24,7,⟨(aw 72 481036337713),(aw 72 561),(aw 72 448)⟩),
 (25,5,⟨(aw 37 114722),(aw 37 0),(aw 37 16)⟩),
 (26,3,⟨(aw 68 918279),(aw 68 775),(aw 68 192)⟩),
 (26,8,⟨(aw 68 30064771847),(aw 68 768),(aw 68 192)⟩),
 (26,12,⟨(aw 68 15423227585287),(aw 68 30064788231),(aw 68 192)⟩),
 (27,4,⟨(aw 26 12291),(aw 26 0),(aw 26 16)⟩),
 (36,6,⟨(aw 85 469762055),(aw 85 7),(aw 85 192)⟩),
 (36,11,⟨(aw 85 7),(aw 85 3),(aw 85 192)⟩),
 (43,8,⟨(aw 77 29360321),(aw 77 128),(aw 77 48)⟩),
 (43,13,⟨(aw 77 504403158294856897),(aw 77 29361345),(aw 77 48)⟩),
 (45,4,⟨(aw 29 8),(aw 29 8),(aw 29 4)⟩),
 (47,3,⟨(aw 32 99),(aw 32 32),(aw 32 16)⟩),
 (48,4,⟨(aw 45 28770),(aw 45 32),(aw 45 16)⟩),
 (48,8,⟨(aw 45 30562),(aw 45 29282),(aw 45 16)⟩),
 (49,6,⟨(aw 44 58720896),(aw 44 640),(aw 44 112)⟩),
 (50,9,⟨(aw 65 246290604626184),(aw 65 4352),(aw 65 768)⟩),
 (51,3,⟨(aw 119 28716),(aw 119 44),(aw 119 16)⟩),
 (51,10,⟨(aw 119 108086391056891916),(aw 119 12),(aw 119 16)⟩),
 (51,16,⟨(aw 119 56668397794435742564364),(aw 119 0),(aw 119 16)⟩),
 (51,21,⟨(aw 119 237684544211190807216374415884),(aw 119 56668397794435742564364),(aw 119 16)⟩),
 (52,3,⟨(aw 33 49344),(aw 33 192),(aw 33 64)⟩),
 (53,4,⟨(aw 47 28678),(aw 47 6),(aw 47 28)⟩),
 (54,3,⟨(aw 18 25),(aw 18 8),(aw 18 4)⟩),
 (55,3,⟨(aw 48 114738),(aw 48 48),(aw 48 16)⟩),
 (55,7,⟨(aw 48 14795250),(aw 48 115186),(aw 48 16)⟩),
 (58,2,⟨(aw 45 9),(aw 45 0),(aw 45 4)⟩),
 (58,4,⟨(aw 45 1849),(aw 45 57),(aw 45 4)⟩),
 (59,3,⟨(aw 88 234881054),(aw 88 30),(aw 88 12)⟩),
 (59,8,⟨(aw 88 123145302310942),(aw 88 30),(aw 88 12)⟩),
 (60,3,⟨(aw 57 7177),(aw 57 8),(aw 57 4)⟩),
 (61,3,⟨(aw 67 7177),(aw 67 8),(aw 67 4)⟩),
 (62,6,⟨(aw 71 7183),(aw 71 1033),(aw 71 768)⟩),
 (63,4,⟨(aw 50 229377),(aw 50 0),(aw 50 16)⟩),
 (63,8,⟨(aw 50 29589729),(aw 50 229601),(aw 50 16)⟩),
 (70,3,⟨(aw 30 7219),(aw 30 51),(aw 30 16)⟩),
 (75,4,⟨(aw 73 99),(aw 73 32),(aw 73 16)⟩),
 (75,8,⟨(aw 73 483),(aw 73 227),(aw 73 16)⟩),
 (76,4,⟨(aw 44 227),(aw 44 32),(aw 44 16)⟩),
 (77,7,⟨(aw 45 35),(aw 45 0),(aw 45 16)⟩),
 (78,6,⟨(aw 44 451),(aw 44 64),(aw 44 48)⟩),
 (82,5,⟨(aw 37 114722),(aw 37 0),(aw 37 16)⟩),
 (83,3,⟨(aw 25 114696),(aw 25 8),(aw 25 4)⟩),
 (86,8,⟨(aw 87 27021597764255807),(aw 87 32813),(aw 87 4096)⟩),
 (87,3,⟨(aw 25 803),(aw 25 32),(aw 25 16)⟩),
 (89,4,⟨(aw 27 12291),(aw 27 0),(aw 27 16)⟩),
 (90,3,⟨(aw 18 456),(aw 18 8),(aw 18 4)⟩),
 (91,7,⟨(aw 128 3975),(aw 128 1927),(aw 128 64)⟩),
 (91,14,⟨(aw 128 4487),(aw 128 129),(aw 128 64)⟩),
 (91,18,⟨(aw 128 8873554201597605810476922437761),(aw 128 129),(aw 128 64)⟩),
 (99,2,⟨(aw 29 3591),(aw 29 4),(aw 29 64)⟩),
 (101,13,⟨(aw 106 56668397794435742638111),(aw 106 73751),(aw 106 1024)⟩),
 (103,10,⟨(aw 85 126100789566382111),(aw 85 8211),(aw 85 1024)⟩),
 (104,7,⟨(aw 49 14680325),(aw 49 256),(aw 49 192)⟩),
 (107,2,⟨(aw 92 3587),(aw 92 2),(aw 92 16)⟩),
 (107,10,⟨(aw 92 504403158265499235),(aw 92 3587),(aw 92 16)⟩),
 (108,3,⟨(aw 64 28683),(aw 64 9),(aw 64 4)⟩),
 (108,9,⟨(aw 64 120259113083),(aw 64 28795),(aw 64 4)⟩),
 (109,3,⟨(aw 23 3592),(aw 23 8),(aw 23 4)⟩),
 (110,7,⟨(aw 46 58721065),(aw 46 768),(aw 46 256)⟩),
 (111,8,⟨(aw 78 240518168820),(aw 78 244),(aw 78 16)⟩),
 (111,13,⟨(aw 78 492581209243892),(aw 78 144),(aw 78 16)⟩),
 (112,5,⟨(aw 72 481036337162),(aw 72 10),(aw 72 4)⟩),
 (115,3,⟨(aw 33 99),(aw 33 32),(aw 33 16)⟩),
 (119,5,⟨(aw 84 160),(aw 84 32),(aw 84 16)⟩),
 (119,13,⟨(aw 84 515),(aw 84 515),(aw 84 16)⟩),
 (119,15,⟨(aw 84 515),(aw 84 513),(aw 84 16)⟩),
 (119,16,⟨(aw 84 515),(aw 84 515),(aw 84 16)⟩),
 (119,18,⟨(aw 84 515),(aw 84 515),(aw 84 16)⟩),
 (121,4,⟨(aw 37 12294),(aw 37 6),(aw 37 28)⟩),
 (122,4,⟨(aw 53 24579),(aw 53 0),(aw 53 16)⟩),
 (122,9,⟨(aw 53 12884926499),(aw 53 24579),(aw 53 16)⟩),
 (124,3,⟨(aw 36 29360153),(aw 36 17),(aw 36 0)⟩),
 (125,2,⟨(aw 63 455),(aw 63 199),(aw 63 0)⟩),
 (125,7,⟨(aw 63 71),(aw 63 0),(aw 63 0)⟩),
 (125,9,⟨(aw 63 455),(aw 63 199),(aw 63 0)⟩),
 (127,4,⟨(aw 71 14680098),(aw 71 32),(aw 71 16)⟩),
 (127,8,⟨(aw 71 1893728738),(aw 71 14680418),(aw 71 16)⟩),
 (130,7,⟨(aw 60 117440610),(aw 60 96),(aw 60 16)⟩),
 (131,7,⟨(aw 49 35),(aw 49 0),(aw 49 16)⟩),
 (132,7,⟨(aw 59 29360322),(aw 59 64),(aw 59 48)⟩),
 (133,2,⟨(aw 22 9),(aw 22 9),(aw 22 4)⟩),
 (136,6,⟨(aw 27 24),(aw 27 8),(aw 27 4)⟩),
 (137,11,⟨(aw 98 1539),(aw 98 513),(aw 98 112)⟩),
 (137,14,⟨(aw 98 7683),(aw 98 3587),(aw 98 112)⟩),
 (141,6,⟨(aw 30 1835016),(aw 30 8),(aw 30 4)⟩),
 (142,4,⟨(aw 45 1610612748),(aw 45 0),(aw 45 16)⟩),
 (143,2,⟨(aw 17 225),(aw 17 0),(aw 17 4)⟩),
 (144,4,⟨(aw 26 12291),(aw 26 0),(aw 26 16)⟩),
 (145,2,⟨(aw 19 387),(aw 19 0),(aw 19 16)⟩),
 (158,4,⟨(aw 32 229382),(aw 32 0),(aw 32 64)⟩),
 (159,4,⟨(aw 26 12291),(aw 26 0),(aw 26 16)⟩),
 (160,4,⟨(aw 32 229382),(aw 32 0),(aw 32 64)⟩),
 (162,5,⟨(aw 62 31525197391593472),(aw 62 0),(aw 62 4)⟩),
 (164,2,⟨(aw 21 9),(aw 21 9),(aw 21 4)⟩),
 (165,1,⟨(aw 53 271),(aw 53 0),(aw 53 0)⟩),
 (165,4,⟨(aw 53 783),(aw 53 271),(aw 53 0)⟩),
 (166,3,⟨(aw 220 3091),(aw 220 1027),(aw 220 0)⟩),
 (166,9,⟨(aw 220 9217),(aw 220 0),(aw 220 0)⟩),
 (166,15,⟨(aw 220 49173),(aw 220 16389),(aw 220 0)⟩),
 (166,21,⟨(aw 220 147457),(aw 220 0),(aw 220 0)⟩),
 (166,33,⟨(aw 220 8126495),(aw 220 1835039),(aw 220 0)⟩),
 (170,4,⟨(aw 41 451),(aw 41 192),(aw 41 48)⟩),
 (172,4,⟨(aw 42 899),(aw 42 384),(aw 42 64)⟩),
 (178,2,⟨(aw 134 783),(aw 134 0),(aw 134 0)⟩),
 (180,2,⟨(aw 19 387),(aw 19 0),(aw 19 16)⟩),
 (183,2,⟨(aw 26 3),(aw 26 1),(aw 26 16)⟩),
 (184,3,⟨(aw 19 456),(aw 19 8),(aw 19 4)⟩),
 (185,2,⟨(aw 96 3587),(aw 96 2),(aw 96 16)⟩),
 (185,10,⟨(aw 96 8070450532247932515),(aw 96 3587),(aw 96 16)⟩),
 (186,2,⟨(aw 58 3093),(aw 58 1045),(aw 58 0)⟩),
 (187,14,⟨(aw 315 32256),(aw 315 13824),(aw 315 112)⟩),
 (187,18,⟨(aw 315 228864),(aw 315 97792),(aw 315 112)⟩),
 (187,24,⟨(aw 315 1096126227998177188652763624537212264741950291456),(aw 315 884224),(aw 315 112)⟩),
 (187,41,⟨(aw 315 165641912322973530898434140694648610858826615332089277323900581371805184),(aw 315 622080),(aw 315 112)⟩),
 (187,51,⟨(aw 315 11656013353354374425516771440941113439854441034312837127510874458433425711231284553216),(aw 315 33562624),(aw 315 112)⟩),
 (190,1,⟨(aw 49 71),(aw 49 0),(aw 49 0)⟩),
 (190,4,⟨(aw 49 199),(aw 49 71),(aw 49 0)⟩),
 (191,4,⟨(aw 56 961),(aw 56 449),(aw 56 0)⟩),
 (191,8,⟨(aw 56 1217),(aw 56 0),(aw 56 0)⟩),
 (192,5,⟨(aw 65 963),(aw 65 0),(aw 65 0)⟩),
 (194,2,⟨(aw 32 193),(aw 32 0),(aw 32 0)⟩),
 (195,3,⟨(aw 133 391),(aw 133 0),(aw 133 64)⟩),
 (195,5,⟨(aw 133 391),(aw 133 391),(aw 133 64)⟩),
 (195,14,⟨(aw 133 903),(aw 133 391),(aw 133 64)⟩),
 (195,20,⟨(aw 133 1415),(aw 133 391),(aw 133 64)⟩),
 (197,3,⟨(aw 84 1539),(aw 84 1539),(aw 84 256)⟩),
 (197,5,⟨(aw 84 1539),(aw 84 1539),(aw 84 256)⟩),
 (198,3,⟨(aw 168 3075),(aw 168 3075),(aw 168 768)⟩),
 (198,5,⟨(aw 168 3075),(aw 168 3075),(aw 168 768)⟩),
 (198,13,⟨(aw 168 3075),(aw 168 3075),(aw 168 768)⟩),
 (198,15,⟨(aw 168 3075),(aw 168 3075),(aw 168 768)⟩),
 (201,1,⟨(aw 38 1039),(aw 38 0),(aw 38 0)⟩),
 (202,4,⟨(aw 43 451),(aw 43 192),(aw 43 48)⟩),
 (204,3,⟨(aw 40 28706),(aw 40 32),(aw 40 16)⟩),
 (207,1,⟨(aw 76 269),(aw 76 0),(aw 76 0)⟩),
 (215,1,⟨(aw 167 19),(aw 167 19),(aw 167 0)⟩)]
def qsy:List (Nat×Nat×List Nat):=[(9,19,[0,1,2,4,5,6,3,7,8,9]),(9,29,[0,1,2,4,5,6,7,3,8,9]),(59,12,[0,1,2,3,4,5,6,7,8,9,10,11,12,13,14,15,16]),(67,1,[0,1,3,4,2,5,6,7]),(97,1,[0,1,2,3,4,5,6,8,7,9,10,11])]
def qlO:List (Nat×Nat×List Nat):=[(3,19,[0,0,3,7,15,0,0,96,224,480,1023,2047,4095,4095,16383,32767,65535,4095,4095,397311,921599,1970175,4194303,8388607,16777215]),
 (3,21,[0,0,0,6,14,30,63,127]),
 (3,23,[0,0,3,7,15,31,63]),
 (4,30,[0,0,3,7,15,0,0,96,224,480,1023,2047,4095,4095,16383,32767,65535,4095,4095,397311,921599,1970175,4194303,8388607,16777215]),
 (6,13,[0,1,3,7,7,7,7,103,7,503,1023,2047,4095,8191,16383,32767,65535,131071,262143,524287,1048575,2097151,4194303,8388607]),
 (7,18,[0,0,0,6,15,31]),
 (8,2,[0,1,0,4,0,16,48,112,252,0,512,0,2048,6144,14336,32256,65535,131071]),
 (8,14,[0,0,2,6,15,0,32,96,255,0,512,1536,4095,8191]),
 (8,15,[0,1,0,0,8,0,56,120,0,504,1023,2047]),
 (9,19,[0,0,2,7,0,0,32,127,255,511]),
 (9,24,[0,0,0,6,15,0,0,64,224,511,1023]),
 (9,26,[0,1,0,7,15,31,63,127,255,511,1023]),
 (9,29,[0,0,2,7,0,16,48,112,255,511]),
 (17,13,[0,1,3,7,0,31,63,0,0,384,0,0,3199,8191]),
 (17,19,[0,0,0,4,14,30,0,126,255,0,1023]),
 (19,10,[0,0,0,6,15,31]),
 (22,1,[0,1,0,7,15,31]),
 (22,2,[0,1,0,4,15,0,32,0,128,511,0,1024,0,4096,16383,32767,65535,131071]),
 (22,3,[0,1,0,0,12,31,63]),
 (24,3,[0,0,3,7,15,31,31,95,223,479,991,2047,4095,8191]),
 (27,6,[0,0,3,7,0,0,48,112,255]),
 (34,3,[0,1,3,7,7,23,55,119,247,511,1023,2047,4095,8191,4095,20479,53247,118783,4095,511999,1036287,2097151,4194303,8388607,16777215,16777215,67108863,134217727]),
 (36,12,[0,1,3,7,0,31,63,127,0,0,512,1536,3584,0,15872,32256,65024,130816,261888,524287,1048575,2097151]),
 (39,3,[0,0,3,7,15,31,63,127,255,511,511,1535,3583,7679,15871,32767,65535,131071,262143,524287,1048575,2097151,4194303,4194303,12582911,29360127,62914559,4194303,264241151,532676607,1073741823,2147483647]),
 (43,11,[0,1,3,7,0,31,63,127,0,256,768,1792,0,7936,16128,32512,65535,0,262143]),
 (44,3,[0,1,3,7,0,31,63]),
 (46,3,[0,1,3,7,7,31,63,127]),
 (50,11,[0,1,0,4,0,0,0,64,252,508,1023,2047,4095]),
 (51,12,[0,1,0,7,15,0,32,0,224,480,1023,2047]),
 (51,18,[0,1,0,7,15,31,0,64,0,448,960,1984,4095]),
 (51,23,[0,1,0,7,15,0,63,127,0,256,0,1792,3840,0,16128,32512,65535]),
 (52,5,[0,1,0,4,15,31,63]),
 (52,6,[0,1,0,0,0,24,63,127]),
 (53,6,[0,1,0,7,15,0,32,0,0,256,0,1024,4064,8191,16383]),
 (53,9,[0,1,0,4,12,28,63,127,0,511,1023,2047,4095]),
 (56,4,[0,1,3,7,15,31,15,127,255,511,1023]),
 (59,1,[0,1,0,4,12,28,63,0,128,511,0,2047]),
 (59,10,[0,1,0,4,0,16,0,64,192,448,1008,0,2048,0,8192,24576,57344,129024,262140,524284,1048575,2097151,4194303]),
 (59,12,[0,1,0,4,0,16,48,112,252,0,512,0,2048,8191,0,16383,65535]),
 (60,6,[0,1,3,7,15,31,63,63,191,511,1023,63,4095,8191,16383,32767,32767,98303,262143,524287,1048575,32767,2129919,8388607,16777215,33554431,67108863]),
 (60,10,[0,0,3,7]),
 (61,6,[0,1,3,7,15,31,63,127,63,319,831,1855,4095,8191,16383,32767,65535,32767,163839,425983,950271,2097151,4194303,8388607,16777215,33554431,67108863,33554431,33554431,301989887,973078527,2046820351,4194303999,8589934591,17179869183,34359738367,68719476735]),
 (61,10,[0,0,3,7]),
 (67,1,[0,0,3,0,0,31,63,127]),
 (69,1,[0,1,0,4,15,0,32,0,128,480,0,1024,0,4096,16352,32767,65535]),
 (71,5,[0,1,0,4,15,0,32,0,128,511,0,1024,0,4096,16383,32767,65535,131071]),
 (71,7,[0,1,0,0,12,0,63,127]),
 (75,10,[0,0,3,7,15,0,0,96,224,480,1023,0,0,0,12288,30720,63488,129024,262143,0,1048575,2097151]),
 (77,9,[0,0,3,7,0,0,48,112,255]),
 (77,10,[0,0,3,7,0,0,48,112,255]),
 (87,5,[0,0,0,6,14,31,0,0,192,448,1023,2047]),
 (89,6,[0,0,3,7,0,0,48,112,255,511]),
 (91,16,[0,1,0,0,8,0,0,0,192,0,512,0,3584,8160,16380,32764,65535,131071,262143]),
 (91,23,[0,0,2,6,14,0,32,126,255,511,1023]),
 (97,1,[0,0,3,7,15,31,31,127,31,511,1023,2047]),
 (98,1,[0,0,0,4,15,31]),
 (101,7,[0,0,2,6,14,0,62,126,254,0,512,1536,3584,0,15872,32256,65024,131071,262143]),
 (105,1,[0,1,0,4,12,3,63]),
 (106,1,[0,1,0,4,12,3,63]),
 (107,7,[0,1,3,7,15,31,15,79,255,511,1023,2047,4095,8191,16383,32767,65535,131071,262143,65535,65535,1114111,3735551,7929855,16777215,33554431]),
 (107,12,[0,1,3,7,7,31,63,127,255,255,1023,2047,4095,8191,16383,32767,32767,131071,262143,524287,32767,1081343,4194303,8388607,16777215]),
 (110,9,[0,0,0,4,14,30,0,126,0,0,768,1792,4094,8191,16383]),
 (111,16,[0,0,0,4,0,28,60,126,255,511]),
 (117,1,[0,1,0,7,15,31]),
 (117,2,[0,1,0,4,15,0,32,0,128,480,0,1024,0,4096,16352,32767,65535,131071,131071,0,786431,2097151]),
 (119,6,[0,0,0,6,3,31]),
 (121,6,[0,1,0,7,15,0,0,96,255,511]),
 (122,6,[0,0,3,7,15,0,0,96,224,480,1023]),
 (122,11,[0,0,3,7,0,31,63,0,0,384,896,0,3968,8064,16383]),
 (131,9,[0,0,3,7,0,0,48,112,255,511]),
 (131,11,[0,0,3,7,0,0,48,112,255,511]),
 (134,1,[0,0,2,7,15]),
 (139,5,[0,1,3,7,15,0,32,96,224,511]),
 (139,7,[0,0,2,6,14,0,32,126,255,511,1023]),
 (139,8,[0,1,3,7,0,0,32,96,224,480,992,2047]),
 (142,6,[0,1,0,7,15,0,32,0,224,480,1023]),
 (144,6,[0,0,3,7,0,0,48,112,255]),
 (153,1,[0,1,0,7,15,31]),
 (153,6,[0,0,2,0,8,30,0,64,0,256,1022,2046,4095,8191]),
 (155,8,[0,1,3,7,15,0,32,96,224,511,1023,2047]),
 (159,6,[0,0,3,7,0,0,48,112,255]),
 (165,4,[0,0,3,7,15,15,15,111,239,15,15,1039,3599,7695,16383,32767,65535]),
 (165,6,[0,0,0,0,8,0,0,64,224,480,0,0,3072,7168,16355,32739,65535,131071]),
 (166,5,[0,0,0,6,14,0,0,96,224,511,1023]),
 (166,11,[0,0,0,0,8,0,0,64,224,480,0,0,3072,7168,16355,32739,65535,131071]),
 (166,17,[0,0,0,6,14,0,0,96,224,511,1023,2047]),
 (166,23,[0,0,0,0,8,0,0,64,224,480,0,0,3072,7168,16355,32739,65535,131071]),
 (166,35,[0,0,0,0,12,30,62,0,0,384,896,2047,4095,8191]),
 (171,2,[0,0,0,6,15,31,0,0,0,384,896,2015,4095,0,0,16384,57344,122880,253952,8191,1048575]),
 (178,17,[0,1,3,7,7,23,63,127,7,7,775,1799,4095,8191,16383]),
 (182,8,[0,1,3,7,0,16,48,112,240,511,1023,2047]),
 (185,7,[0,1,3,7,15,31,15,79,255,511,1023,2047,4095,8191,16383,32767,65535,131071,262143,65535,65535,1114111,3735551,7929855,16777215,33554431]),
 (185,12,[0,1,3,7,7,31,63,127,255,255,1023,2047,4095,8191,16383,32767,32767,131071,262143,524287,32767,1081343,4194303,8388607,16777215]),
 (187,16,[0,0,0,6,15,31,63,127,0,0,0,1536,3584,7936,16128,32512,65535,131071]),
 (187,17,[0,0,0,4,14,30,62,127,0,0,0,1024,3584,7680,15872,32512,255,131071]),
 (187,18,[0,1,3,7,7,7,39,119,247,503,1023,7,2055,7,7,7,49159,114695,253959,516103,1040391,2095111,4194303,8388607]),
 (187,43,[0,0,0,0,12,30,62,126,0,0,768,1792,3840,8190,16383,32767]),
 (187,55,[0,0,3,7,0,0,32,112,240,0,512,2032,4095,8191,16383]),
 (190,4,[0,0,3,7,15,15,63,127,15,15,527,1807,3855,8191,16383]),
 (190,6,[0,0,0,0,8,0,0,64,224,480,0,0,3072,7168,16355,32739,65535,131071]),
 (191,10,[0,0,0,0,0,24,0,0,0,384,960,1984,0,0,12288,28672,65475,131011,262143,524287]),
 (192,10,[0,0,0,0,0,24,0,0,0,384,960,1984,0,0,12288,28672,65475,131011,262143,524287]),
 (194,3,[0,0,0,0,0,0,48,112,0,0,768,1792,4083,8179,16383,32767]),
 (195,5,[0,0,3,7,15,15,63,127,15,15,527,1807,3855,8191,16383,32767]),
 (195,11,[0,0,0,0,8,0,0,64,224,480,0,0,3072,7168,16355,32739,65535,131071]),
 (195,16,[0,0,3,7,0,0,32,112,240,511,1023]),
 (195,17,[0,0,0,0,8,0,0,64,224,480,0,0,3072,7168,16355,32739,65535,131071]),
 (195,22,[0,0,3,7,0,0,32,112,240,511,1023]),
 (195,23,[0,0,0,0,8,0,0,64,224,480,0,0,3072,7168,16355,32739,65535,131071]),
 (197,1,[0,0,0,0,0,0,48,112,0,0,768,1792,4083,8179,16383,32767]),
 (197,3,[0,0,3,7,15,15,63,127,15,15,783,1807,4095,8191,16383]),
 (197,5,[0,0,3,7,15,15,63,127,15,15,783,1807,4095,8191]),
 (197,8,[0,0,0,0,0,0,48,112,0,0,768,1792,4083,8179,16383,32767]),
 (198,1,[0,0,0,0,0,0,48,112,0,0,768,1792,4083,8179,16383,32767]),
 (198,3,[0,0,3,7,15,15,63,127,15,15,783,1807,4095,8191]),
 (198,5,[0,0,3,7,15,15,63,127,15,15,783,1807,4095,8191,16383]),
 (198,8,[0,0,0,0,0,0,48,112,0,0,768,1792,4083,8179,16383,32767]),
 (198,10,[0,0,0,0,0,0,48,112,0,0,768,1792,4083,8179,16383,32767]),
 (198,13,[0,0,3,7,15,15,63,127,15,15,783,1807,4095,8191]),
 (198,15,[0,0,3,7,15,15,63,127,15,15,783,1807,4095,8191,16383]),
 (198,18,[0,0,0,0,0,0,48,112,0,0,768,1792,4083,8179,16383,32767]),
 (198,21,[0,0,0,0,0,0,48,112,0,0,768,1792,4083,8179,16383,32767]),
 (201,3,[0,0,0,6,0,0,0,96,0,0,0,1536,3840,7936,0,0,0,98304,245760,507904,1048335,2096911,4194303,8388607]),
 (207,3,[0,1,0,7,15,31,31,31,223,511,1023,31,31,31,12319,28703,63519,129055,262143,524287]),
 (207,5,[0,0,0,6,15,31,0,0,0,384,960,1984,4095,8191]),
 (207,6,[0,0,0,6,0,0,0,96,0,0,0,1536,3840,7936,0,0,0,98304,245760,507904,1048335,2096911,4194303,8388607]),
 (209,1,[0,1,3,0,8,24,56,127,255,511]),
 (209,2,[0,1,3,0,8,24,56,127,255,511]),
 (209,3,[0,1,3,0,8,24,56,127,255,511]),
 (215,7,[0,0,2,0,0,16,0,64,192,0,512,455,2503,8191,16383]),
 (215,8,[0,0,2,0,0,16,0,64,192,0,512,455,2503,8191,16383]),
 (215,9,[0,0,2,0,0,16,0,64,192,0,512,455,2503,8191,16383]),
 (215,10,[0,0,2,0,0,16,0,64,192,0,512,455,2503,8191,16383]),
 (215,17,[0,0,2,0,0,16,0,64,192,0,512,455,2503,8191,16383]),
 (215,18,[0,0,2,0,0,16,0,64,192,0,512,455,2503,8191,16383]),
 (215,23,[0,0,2,0,0,16,0,64,192,0,512,455,2503,8191,16383]),
 (217,1,[0,0,3,7,0,0,48,112,255])]
def WL:List (Nat×Nat×List Nat)->Nat->Nat->List Nat
 | [],_,_=>[]
 | (f,k,m)::l,f',k'=>match Nat.beq f f'&&Nat.beq k k' with
  | true=>m
  | false=>WL l f' k'
def qrh:List (Nat×Nat):=[(108,99),(187,204)]
def CW:List (Nat×Nat)->Nat->Nat->Bool
 | [],_,_=>false
 | (a,b)::l,f,g=>match Nat.beq a f&&Nat.beq b g with
  | true=>true
  | false=>CW l f g
def quj:List (Nat×Nat):=[]
def qpr:List (Nat×Nat):=[(108,99)]
def qul:List Nat:=[172]
def Bs:List Nat->Nat->Bool
 | [],_=>false
 | a::l,f=>match Nat.beq a f with
  | true=>true
  | false=>Bs l f
def qux:List (Nat×Nat×List (Nat×Nat)):=[(59,12,[(14,15)])]
def qcN:List (Nat×Nat×List (Nat×Nat))->Nat->Nat->List (Nat×Nat)
 | [],_,_=>[]
 | (a,b,p)::l,f,k=>match Nat.beq a f&&Nat.beq b k with
  | true=>p
  | false=>qcN l f k
def qrv:List (Nat×Nat×List (Nat×List Nat)):=[(67,1,[(2,[3])]),(91,16,[(14,[1])]),(97,1,[(7,[8])]),(98,1,[(3,[0,1])])]
def qab:List (Nat×Nat×List (Nat×List Nat))->Nat->Nat->List (Nat×List Nat)
 | [],_,_=>[]
 | (a,b,p)::l,f,k=>match Nat.beq a f&&Nat.beq b k with
  | true=>p
  | false=>qab l f k
def qtz:List (Nat×Nat):=[(24,3),(34,3),(39,3),(67,1),(91,16),(97,1),(98,1),(101,7),(165,4),(166,5),(166,17),(166,35)]
def qri:List Nat:=[15,17,24,28,29,30,32,33,34,35,36,37,38,39,40,41,42,43,44,49,50,62,65,66,67,68,80,81,84,91,92,93,95,96,97,98,99,100,101,102,103,104,105,106,108,115,124,125,139,145,146,147,165,166,186,201]
def qsb:List (Nat×Nat):=[]
def OV:List Nat:=[140,177]
noncomputable def af:Cfg where
 P:=prog
 inl:=fun f g=>match Bs qri g with|true=>(match CW qsb f g with|true=>false|false=>true)|false=>CW qrh f g
 ben:=Bs OV
 seqm:=CW qtz
 late:=qab qrv
 frzc:=CW qpr
 arrm:=Bs [54,65,104,124]
 tokm:=Bs qul
 two:=qcN qux
 thaw:=CW quj
 mask:=qaO qrV
 ord:=qbh qsy
 ahd:=WL qlO
 lib:=fun g=>match Nat.beq g 141 with|true=>some A8|false=>none
 libm:=fun g=>match Nat.beq g 148 with|true=>some Bp|false=>match Nat.beq g 149 with|true=>some Ae|false=>none
theorem at9:af.P.funcs[9]?=some f9:=au
theorem qmb:af.P.funcs[11]?=some f11:=au
theorem qml:af.P.funcs[12]?=some f12:=au
theorem qmL:af.P.funcs[15]?=some f15:=au
theorem qm6:af.P.funcs[17]?=some f17:=au
theorem qna:af.P.funcs[18]?=some f18:=au
theorem qnk:af.P.funcs[20]?=some f20:=au
theorem qnp:af.P.funcs[21]?=some f21:=au
theorem qnq:af.P.funcs[22]?=some f22:=au
theorem qnr:af.P.funcs[23]?=some f23:=au
theorem qns:af.P.funcs[31]?=some f31:=au
theorem qnt:af.P.funcs[32]?=some f32:=au
theorem qnu:af.P.funcs[33]?=some f33:=au
theorem qnv:af.P.funcs[34]?=some f34:=au
theorem qnw:af.P.funcs[41]?=some f41:=au
theorem qnx:af.P.funcs[43]?=some f43:=au
theorem qny:af.P.funcs[44]?=some f44:=au
theorem qnz:af.P.funcs[45]?=some f45:=au
theorem qnA:af.P.funcs[46]?=some f46:=au
theorem qnB:af.P.funcs[47]?=some f47:=au
theorem qnC:af.P.funcs[48]?=some f48:=au
theorem qnD:af.P.funcs[49]?=some f49:=au
theorem qnE:af.P.funcs[50]?=some f50:=au
theorem qnF:af.P.funcs[53]?=some f53:=au
theorem qnG:af.P.funcs[56]?=some f56:=au
theorem qnH:af.P.funcs[57]?=some f57:=au
theorem qnI:af.P.funcs[58]?=some f58:=au
theorem qnJ:af.P.funcs[59]?=some f59:=au
theorem qnK:af.P.funcs[60]?=some f60:=au
theorem qnL:af.P.funcs[61]?=some f61:=au
theorem qnM:af.P.funcs[62]?=some f62:=au
theorem qnN:af.P.funcs[63]?=some f63:=au
theorem qnO:af.P.funcs[64]?=some f64:=au
theorem qnP:af.P.funcs[65]?=some f65:=au
theorem qnQ:af.P.funcs[66]?=some f66:=au
theorem qnR:af.P.funcs[67]?=some f67:=au
theorem qnS:af.P.funcs[68]?=some f68:=au
theorem qnT:af.P.funcs[69]?=some f69:=au
theorem qnU:af.P.funcs[70]?=some f70:=au
theorem qnV:af.P.funcs[71]?=some f71:=au
theorem qnW:af.P.funcs[72]?=some f72:=au
theorem qnX:af.P.funcs[73]?=some f73:=au
theorem qnY:af.P.funcs[74]?=some f74:=au
theorem qnZ:af.P.funcs[75]?=some f75:=au
theorem qn0:af.P.funcs[76]?=some f76:=au
theorem qn1:af.P.funcs[77]?=some f77:=au
theorem qn2:af.P.funcs[78]?=some f78:=au
theorem qn3:af.P.funcs[79]?=some f79:=au
theorem qn4:af.P.funcs[80]?=some f80:=au
theorem qn5:af.P.funcs[81]?=some f81:=au
theorem qn6:af.P.funcs[84]?=some f84:=au
theorem qn7:af.P.funcs[88]?=some f88:=au
theorem qn8:af.P.funcs[89]?=some f89:=au
theorem qn9:af.P.funcs[91]?=some f91:=au
theorem qoa:af.P.funcs[92]?=some f92:=au
theorem qob:af.P.funcs[93]?=some f93:=au
theorem qoc:af.P.funcs[94]?=some f94:=au
theorem qod:af.P.funcs[95]?=some f95:=au
theorem qoe:af.P.funcs[96]?=some f96:=au
theorem qof:af.P.funcs[97]?=some f97:=au
theorem qog:af.P.funcs[98]?=some f98:=au
theorem qoh:af.P.funcs[99]?=some f99:=au
theorem ql6:af.P.funcs[104]?=some f104:=au
theorem ql7:af.P.funcs[106]?=some f106:=au
theorem ql8:af.P.funcs[107]?=some f107:=au
theorem ql9:af.P.funcs[108]?=some f108:=au
theorem qma:af.P.funcs[109]?=some f109:=au
theorem qmc:af.P.funcs[110]?=some f110:=au
theorem qmd:af.P.funcs[111]?=some f111:=au
theorem qme:af.P.funcs[112]?=some f112:=au
theorem qmf:af.P.funcs[113]?=some f113:=au
theorem qmg:af.P.funcs[114]?=some f114:=au
theorem qmh:af.P.funcs[116]?=some f116:=au
theorem qmi:af.P.funcs[117]?=some f117:=au
theorem qmj:af.P.funcs[118]?=some f118:=au
theorem qmk:af.P.funcs[119]?=some f119:=au
theorem qmm:af.P.funcs[120]?=some f120:=au
theorem qmn:af.P.funcs[121]?=some f121:=au
theorem qmo:af.P.funcs[122]?=some f122:=au
theorem qmp:af.P.funcs[123]?=some f123:=au
theorem qmq:af.P.funcs[124]?=some f124:=au
theorem qmr:af.P.funcs[125]?=some f125:=au
theorem qms:af.P.funcs[126]?=some f126:=au
theorem qmt:af.P.funcs[127]?=some f127:=au
theorem qmu:af.P.funcs[128]?=some f128:=au
theorem qmv:af.P.funcs[129]?=some f129:=au
theorem qmw:af.P.funcs[130]?=some f130:=au
theorem qmx:af.P.funcs[131]?=some f131:=au
theorem qmy:af.P.funcs[132]?=some f132:=au
theorem qmz:af.P.funcs[133]?=some f133:=au
theorem qmA:af.P.funcs[134]?=some f134:=au
theorem qmB:af.P.funcs[135]?=some f135:=au
theorem qmC:af.P.funcs[136]?=some f136:=au
theorem qmD:af.P.funcs[137]?=some f137:=au
theorem qmE:af.P.funcs[139]?=some f139:=au
theorem qmF:af.P.funcs[141]?=some f141:=au
theorem qmG:af.P.funcs[142]?=some f142:=au
theorem qmH:af.P.funcs[143]?=some f143:=au
theorem qmI:af.P.funcs[144]?=some f144:=au
theorem qmJ:af.P.funcs[145]?=some f145:=au
theorem qmK:af.P.funcs[148]?=some f148:=au
theorem qmM:af.P.funcs[150]?=some f150:=au
theorem qmN:af.P.funcs[151]?=some f151:=au
theorem qmO:af.P.funcs[152]?=some f152:=au
theorem qmP:af.P.funcs[153]?=some f153:=au
theorem qmQ:af.P.funcs[154]?=some f154:=au
theorem qmR:af.P.funcs[155]?=some f155:=au
theorem qmS:af.P.funcs[156]?=some f156:=au
theorem qmT:af.P.funcs[157]?=some f157:=au
theorem qmU:af.P.funcs[158]?=some f158:=au
theorem qmV:af.P.funcs[159]?=some f159:=au
theorem qmW:af.P.funcs[160]?=some f160:=au
theorem qmX:af.P.funcs[161]?=some f161:=au
theorem qmY:af.P.funcs[162]?=some f162:=au
theorem qmZ:af.P.funcs[163]?=some f163:=au
theorem qm0:af.P.funcs[164]?=some f164:=au
theorem qm1:af.P.funcs[165]?=some f165:=au
theorem qm2:af.P.funcs[166]?=some f166:=au
theorem qm3:af.P.funcs[167]?=some f167:=au
theorem qm4:af.P.funcs[168]?=some f168:=au
theorem qm5:af.P.funcs[169]?=some f169:=au
theorem qm7:af.P.funcs[170]?=some f170:=au
theorem qm8:af.P.funcs[171]?=some f171:=au
theorem qm9:af.P.funcs[172]?=some f172:=au
theorem qnb:af.P.funcs[180]?=some f180:=au
theorem qnc:af.P.funcs[181]?=some f181:=au
theorem qnd:af.P.funcs[182]?=some f182:=au
theorem qne:af.P.funcs[183]?=some f183:=au
theorem qnf:af.P.funcs[184]?=some f184:=au
theorem qng:af.P.funcs[185]?=some f185:=au
theorem qnh:af.P.funcs[186]?=some f186:=au
theorem qni:af.P.funcs[187]?=some f187:=au
theorem qnj:af.P.funcs[199]?=some f199:=au
theorem qnl:af.P.funcs[201]?=some f201:=au
theorem qnm:af.P.funcs[202]?=some f202:=au
theorem qnn:af.P.funcs[203]?=some f203:=au
theorem qno:af.P.funcs[204]?=some f204:=au
noncomputable abbrev aH(f:Func):KT:=Co af.P f.results.toList
noncomputable def bY(f:Nat)(c:Code)(i:Nat)(l:List AV)(m:ai)(K:KT):OM:=rS (cL af f (AP af) (AC af) c) (af.mask f (some i)) ⟨l,m⟩ K
noncomputable abbrev nU(f:Nat)(c:Code)(i:Nat)(K:KT):KT:=ri (fun st=>rS (cL af f (AP af) (AC af) c) (af.mask f (some i)) st K) (af.mask f (some i)) K
noncomputable abbrev bI(f:Nat)(c:Code)(X:KT):KT:=y6 (fun st=>cL af f (AP af) (AC af) c st X) X
abbrev XA(c:Code):Code:=c1 (c1 (c1 (c1 c)))
abbrev oL(c:Code):Code:=c1 (c1 (c1 (c2 c)))
abbrev b8(c:Code):Code:=c1 (c1 (c2 (c1 c)))
abbrev rH(c:Code):Code:=c1 (c1 (c2 (c2 c)))
abbrev JB(c:Code):Code:=c1 (c2 (c1 (c1 c)))
abbrev nM(c:Code):Code:=c1 (c2 (c1 (c2 c)))
abbrev Ck(c:Code):Code:=c1 (c2 (c2 (c1 c)))
abbrev EU(c:Code):Code:=c1 (c2 (c2 (c2 c)))
abbrev XB(c:Code):Code:=c2 (c1 (c1 (c1 c)))
abbrev uN(c:Code):Code:=c2 (c1 (c1 (c2 c)))
abbrev EW(c:Code):Code:=c2 (c1 (c2 (c1 c)))
abbrev qP(c:Code):Code:=c2 (c1 (c2 (c2 c)))
abbrev lH(c:Code):Code:=c2 (c2 (c1 (c1 c)))
abbrev O4(c:Code):Code:=c2 (c2 (c1 (c2 c)))
abbrev ma(c:Code):Code:=c2 (c2 (c2 (c1 c)))
abbrev bG(c:Code):Code:=c2 (c2 (c2 (c2 c)))
end Go.Ab
