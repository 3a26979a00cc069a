/- Operations whose result the world does not tell, but for cells that stay. -/
import Derived.Test.YtlapgjmmlbnehaaKP1
import Derived.RangeFuncLeaves
import Derived.Test.YtlapgjmmlbnehaaProg
set_option maxRecDepth 100000
set_option linter.unusedVariables false
set_option linter.unusedSimpArgs false
set_option linter.unusedSectionVars false
set_option linter.unusedVariables false
set_option linter.unusedSimpArgs false
set_option linter.unusedSectionVars false
namespace Go.Ab
open Go.RowKit
section
variable [WInv] {C:Cfg} {B:Nat} {w W:World} {g:G}
def wl:AV→Bool
 | .any | .int .. | .bool _ | .str _ | .nilp | .nilf | .nile=>true
 | _=>false
theorem V.flat {x:AV} {v:Value} {w':World} {g':G} (h:V w g x v) (hw:wl x=true):V w' g' x v:=by
 cases h<;>first|(simp[wl] at hw;done)|constructor
theorem slice_any {P:Program} {e:Nat} {sh:Sh} {z:Bool} {o:Own} {es:List AV} {x':Value} {lo hi:Nat} (hx:V w g (.lst sh z o es) x') (h1:lo≤hi) (h2:hi≤es.length) (t:Nat) (ht:P.underlying t=some (.slice e)) (hsh:shOf P e=some sh) (he:elemOk P e sh=true) :
  ∃ v',(∀ W,(Instr.sliceAt t x' (some (.int .i64 lo)) (some (.int .i64 hi)) none).run P W=.ok v' W)∧V w g (.lst sh z .no ((es.take hi).drop lo)) v':=by
 obtain ⟨inf,z0,hinf,hs1,hpos,_,_,_⟩:=elemOk_facts he
 have bd:∀ (len cap:Nat) (W:World),len=es.length→len≤cap→(Instr.sliceBounds true len cap (some (.int .i64 lo)) (some (.int .i64 hi)) none).run P W=.ok (lo,hi,cap) W:=by
  intro len cap W hl hc
  have e1:(0:Int)≤(hi:Nat)∧((hi:Nat):Int)≤len:=by omega
  have e2:(0:Int)≤(lo:Nat)∧((lo:Nat):Int)≤hi:=by omega
  obtain ⟨b1,b2,b3⟩:=bounds_two (P:=P) (w:=W) (g:=g) (isS:=true) (len:=len) (cap:=cap) (lo:=some (.int .i64 lo)) (hi:=some (.int .i64 hi)) (lo':=some (.int .i64 lo)) (hi':=some (.int .i64 hi)) (V.int .i64 lo) (V.int .i64 hi) hc (h:=hi) (l:=lo) (by simp only[boundA,e1,and_self,if_true];simp) (by simp only[boundA,e2,and_self,if_true];simp)
  exact b1
 cases hx with
 | nils _ o hof=>
  have h3:hi=0:=by simpa using h2
  have h4:lo=0:=by omega
  subst h3;subst h4
  refine ⟨.slice none 0 0,fun W=>?_,?_⟩
  ·have hb1:(Instr.sliceBounds true 0 0 (some (.int .i64 0)) (some (.int .i64 0)) none).run P W=.ok (0,0,0) W:=bd 0 0 W rfl (Nat.le_refl _)
   simp[Instr.sliceAt,run_underlying ht,Instr.slice,hb1,run_sizeOf hinf]
  ·simp only[List.take_nil,List.drop_nil]
   exact .nils _ _ (by simp)
 | lst _ o es a cap us hsp hc hm' hsh' hcell hv ho'=>
  refine ⟨.slice (some (if cap=lo then a else a.add (lo*sh.size))) (hi-lo) (cap-lo),fun W=>?_,V_sub (.lst sh o es a cap us hsp hc hm' hsh' hcell hv ho') h1 h2 (by omega) (Nat.le_refl _) (.inl rfl)⟩
  have hb1:=bd es.length cap W rfl hc
  simp only[Instr.sliceAt,Sem.run_bind,run_underlying ht,Result.andThen_ok,Instr.slice,hb1,run_sizeOf hinf,Sem.run_pure]
  by_cases hml:cap=lo<;>simp[hml,hs1]
def pure2 (o:Op) (ρ:Operand→AV) (v:AV):Bool:=match o with
 | .move _ | .assign _ | .load .. | .fieldAddr ..=>true
 | .binOp _ _ x y _=>wl (ρ x)&&(wl (ρ y)&&wl v)
 | .unOp _ _ x=>wl (ρ x)&&wl v
 | _=>false
theorem pure2_sound {callP:Nat→List AV→Option AV} {callI:Nat→List AV→Mem→OM} {fid:Nat} {d:Option Nat} {o:Oper} {ρ:Operand→AV} {a:Act} {v:AV} {m1:Mem} (hh:Hold g w w W) (h:opF C fid callP callI d o ρ []=some (v,m1)) (hp:pure2 o.op ρ v=true) (hρ:∀ x,V w g (ρ x) (a.eval x)) :
  m1=[]∧∃ v',(execOp a.eval o).run C.P W=.ok (.value v') W∧V w g v v':=by
 unfold opF opK at h
 unfold pure2 at hp
 cases hop:o.op with
 | move x=>
  rw[hop] at h
  simp only[Option.some.injEq,Prod.mk.injEq] at h
  obtain ⟨rfl,rfl⟩:=h
  exact ⟨rfl,_,by simp[execOp,hop],hρ x⟩
 | assign x=>
  rw[hop] at h
  simp only[Option.some.injEq,Prod.mk.injEq] at h
  obtain ⟨rfl,rfl⟩:=h
  exact ⟨rfl,_,by simp[execOp,hop],hρ x⟩
 | load t x=>
  rw[hop] at h
  simp only at h
  split at h
  ·rename_i sh hsh
   simp only[Option.bind_eq_some_iff,Option.some.injEq,Prod.mk.injEq] at h
   obtain ⟨v0,hv,rfl,rfl⟩:=h
   refine ⟨rfl,?_⟩
   have hx:=hρ x
   unfold loadA at hv
   split at hv
   ·rename_i cs hcs
    rw[hcs] at hx
    generalize hxe:a.eval x=x' at hx
    cases hx with
    | vptr cs b o us hcell hv'=>
     obtain ⟨h1,h2⟩:=cut_V us hv' hv
     have hcW:∀ j,j<cs.length→W.cell? ⟨b,o+j,none⟩=some (us j):=fun j hj=>hh.cell _ _ _ (cell_lt (hcell j hj).1) (hcell j hj).2 (hcell j hj).1
     cases sh with
     | none=>
      obtain ⟨hlt,hV⟩:=h1 rfl
      refine ⟨_,?_,hV⟩
      simp only[execOp,hop,hxe,Instr.loadAt,Instr.sureAddr,Sem.run_bind,Sem.run_pure,Result.andThen_ok]
      rw[run_loadVar_fn hsh us (fun j hj=>hcW j (by simp only[Sh.size] at hj;omega))]
      rfl
     | some n=>
      obtain ⟨hlt,hV⟩:=h2 n rfl
      refine ⟨_,?_,by simpa using hV⟩
      simp only[execOp,hop,hxe,Instr.loadAt,Instr.sureAddr,Sem.run_bind,Sem.run_pure,Result.andThen_ok]
      rw[run_loadVar_fn hsh us (fun j hj=>hcW j (by simp only[Sh.size] at hj;omega))]
      rfl
   ·simp[Mem.obj?,Mem.get] at hv
   ·cases hv
  ·cases h
 | fieldAddr t x f=>
  rw[hop] at h
  simp only at h
  split at h
  ·rename_i off sh hf
   simp only[Option.bind_eq_some_iff,Option.some.injEq,Prod.mk.injEq] at h
   obtain ⟨v0,hv,rfl,rfl⟩:=h
   refine ⟨rfl,?_⟩
   have hx:=hρ x
   obtain ⟨fs,fd,hu,hfd,hsh,rfl,hne⟩:=fieldOf_facts hf
   obtain ⟨i,d,hi,hd,hs,_⟩:=shOf_facts hsh
   have hz:i.size≠0:=by omega
   unfold fieldAddrA at hv
   split at hv
   ·rename_i cs hcs
    rw[hcs] at hx
    split at hv
    ·rename_i hlt
     simp at hv;subst hv
     generalize hxe:a.eval x=x' at hx
     cases hx with
     | vptr cs b o us hcell hv'=>
      refine ⟨.pointer (some ⟨b,o+fd.offset,none⟩),by simp[execOp,hop,hxe,Instr.fieldAt,run_underlying hu,hfd,Instr.sureAddr,fieldPlace,run_sizeOf hi,hz,Addr_add],?_⟩
      refine .vptr _ _ _ (fun j=>us (fd.offset+j)) (fun j hj=>?_) (fun j hj=>?_)
      ·have:=hcell (fd.offset+j) (by simp at hj;omega)
       simpa [Nat.add_assoc] using this
      ·have:=hv' (fd.offset+j) (by simp at hj;omega)
       simpa [List.getD_eq_getElem?_getD,List.getElem?_drop] using this
    ·cases hv
   ·rename_i nm o hcs
    simp at hv;subst hv
    rw[hcs] at hx
    generalize hxe:a.eval x=x' at hx
    cases hx with
    | ptr nm o b hl=>
     exact ⟨.pointer (some ⟨b,o+fd.offset,none⟩),by simp[execOp,hop,hxe,Instr.fieldAt,run_underlying hu,hfd,Instr.sureAddr,fieldPlace,run_sizeOf hi,hz,Addr_add],.ptr _ _ _ hl⟩
   ·cases hv
  ·cases h
 | binOp op t x y p=>
  rw[hop] at h hp
  simp only[Option.bind_eq_some_iff,Option.some.injEq,Prod.mk.injEq] at h
  obtain ⟨v0,hv,rfl,rfl⟩:=h
  simp only[Bool.and_eq_true] at hp
  obtain ⟨v',h1,h2⟩:=pure_ok (P:=C.P) (a:=a) (o:=o) (w:=W) (g:=g) (bin_sound (P:=C.P) op t x y ((hρ x).flat hp.1) ((hρ y).flat hp.2.1) hv) (fun w=>by simp[execOp,hop])
  exact ⟨rfl,v',h1,h2.flat hp.2.2⟩
 | unOp op t x=>
  rw[hop] at h hp
  simp only[Option.bind_eq_some_iff,Option.some.injEq,Prod.mk.injEq] at h
  obtain ⟨v0,hv,rfl,rfl⟩:=h
  simp only[Bool.and_eq_true] at hp
  obtain ⟨v',h1,h2⟩:=pure_ok (P:=C.P) (a:=a) (o:=o) (w:=W) (g:=g) (un_sound (P:=C.P) op ((hρ x).flat hp.1) hv) (fun w=>by simp[execOp,hop])
  exact ⟨rfl,v',h1,h2.flat hp.2⟩
 | _=>rw[hop] at hp;cases hp
def runQ (C:Cfg) (fid:Nat) (ops:Array Oper):List Nat→List AV→Option (List AV)
 | [],ts=>some ts
 | i::l,ts=>match ops[i]? with
  | none=>none
  | some o=>match o.guard with
   | some _=>none
   | none=>match opF C fid (fun _ _=>none) (fun _ _ _=>none) none o (ev ts) [] with
    | none=>none
    | some r=>match pure2 o.op (ev ts) r.1 with
     | true=>runQ C fid ops l (setD ts o.dst r.1)
     | false=>none
def noDst (ops:Array Oper) (l:List Nat) (t:Nat):Bool:=l.all fun i=>match ops[i]? with
 | some o=>match o.dst with
  | some d=>!(Nat.beq d t)
  | none=>true
 | none=>false
theorem put_other {a:Act} {d:Option Nat} {t:Nat} {v:Value} (h:d≠some t):(a.put d v).tmps.getD t undef=a.tmps.getD t undef:=by
 cases d with
 | none=>rfl
 | some d=>
  have hdt:d≠t:=fun e=>h (by rw[e])
  simp only[Act.put]
  rw[Array.getD_eq_getD_getElem?,Array.getD_eq_getD_getElem?,Array.getElem?_setIfInBounds_ne hdt]
theorem valIn {F:Fence} {n:Nat} (hF:Fine F) {P:Program} {ops:Array Oper} {i:Nat} {o:Oper} {v:Value} (ho:ops[i]?=some o) (hd:∀ c,o.op≠.defer c) (hg:o.guard=none) {next:Act→World→Prop} {Q:Exit→Act→World→Prop} {a:Act} {w:World}
  (hr:(execOp a.eval o).run P w=.ok (.value v) w) (h:next (a.put o.dst v) w):nextIn F n P ops Q i next a w:=by
 refine nextIn_of hF (fun o' ho' hw=>?_) (fun o' ho' hw=>?_) (fun hnone=>by rw[ho] at hnone;cases hnone)
 ·rw[ho] at ho'
  obtain rfl:=Option.some.inj ho'
  refine ⟨?_,hd⟩
  unfold Oper.wp
  rw[hr]
  exact h
 ·rw[ho] at ho'
  obtain rfl:=Option.some.inj ho'
  rw[show Region.wanted o (yielded ops a.tmps)=true by simp[Region.wanted,hg]] at hw
  cases hw
theorem pureQ {F:Fence} {n:Nat} (hF:Fine F) {fid:Nat} {ops:Array Oper} {Q:Exit→Act→World→Prop} (hh:Hold g w w W) (rest:List Nat):∀ (l:List Nat) (ts ts':List AV) (a:Act),
  runQ C fid ops l ts=some ts'→TmpR w g ts a.tmps →
  (∀ a',TmpR w g ts' a'.tmps→a'.defers=a.defers→(∀ t,noDst ops l t=true→a'.tmps.getD t undef=a.tmps.getD t undef)→wpOpsIn F n C.P ops Q rest a' W)→wpOpsIn F n C.P ops Q (l++rest) a W:=by
 intro l
 induction l with
 | nil=>
  intro ts ts' a h ht hn
  simp only[runQ,Option.some.injEq] at h
  subst h
  exact hn a ht rfl fun _ _=>rfl
 | cons i l ih=>
  intro ts ts' a h ht hn
  unfold runQ at h
  cases ho:ops[i]? with
  | none=>rw[ho] at h;cases h
  | some o=>
   rw[ho] at h
   simp only at h
   cases hg:o.guard with
   | some _=>rw[hg] at h;cases h
   | none=>
    rw[hg] at h
    simp only at h
    cases hr:opF C fid (fun _ _=>none) (fun _ _ _=>none) none o (ev ts) [] with
    | none=>rw[hr] at h;cases h
    | some r=>
     rw[hr] at h
     simp only at h
     cases hp:pure2 o.op (ev ts) r.1 with
     | false=>rw[hp] at h;cases h
     | true=>
      rw[hp] at h
      obtain ⟨v,m1⟩:=r
      obtain ⟨rfl,v',hrun,hv⟩:=pure2_sound (a:=a) hh hr hp (ev_V ht)
      have hd:∀ c,o.op≠.defer c:=by
       intro c hc
       rw[hc] at hp;cases hp
      rw[List.cons_append,wpOpsIn_cons]
      refine valIn hF ho hd hg hrun ?_
      refine ih (setD ts o.dst v) ts' (a.put o.dst v') h (ht.put hv o.dst) fun a' ht' hd' hk=>hn a' ht' (hd'.trans (put_defers _ _ _)) fun t htn=>?_
      simp only[noDst,List.all_cons,Bool.and_eq_true,ho] at htn
      rw[hk t htn.2]
      refine put_other fun e=>?_
      have:=htn.1
      rw[e] at this
      simp[Nat.beq_refl] at this
end
end Go.Ab
set_option linter.unusedVariables false
set_option linter.unusedSimpArgs false
set_option linter.unusedSectionVars false
namespace Go.Ab
open Go.RowKit
section
variable [WInv] {C:Cfg} {B:Nat} {w W:World} {g:G}
open Classical in
noncomputable def only (e0:Ex) (st0:St):KT:=fun e st=>if e=e0∧st=st0 then some (.any,[]) else none
theorem only_self (e0:Ex) (st0:St):only e0 st0 e0 st0=some (.any,[]):=by simp[only]
theorem only_eq {e0 e:Ex} {st0 st:St} {r:AV×Mem} (h:only e0 st0 e st=some r):e=e0∧st=st0:=by
 unfold only at h
 split at h
 ·assumption
 ·cases h
theorem results_run {P:Program} {fn:Func} {st:St} {a:Act} {l:List AV} (hs:StR B W g st a) (h:resultsA P st.mem st.tmps fn.results.toList=some l):∃ v,(results fn a.tmps).run P W=.ok v W∧V W g (oneOf l) v:=by
 obtain ⟨vl,r1,r2,r3⟩:=results_sound (P:=P) hs.mem hs.tmp _ l h
 refine ⟨_,?_,oneOf_V r2 r3⟩
 rw[results_eq,Array.mapM_eq_mapM_toList]
 simp only[Sem.run_bind,Sem.run_map,r1,Result.andThen_ok,Sem.run_pure]
theorem leaves0 {F:Fence} {n:Nat} {P:Program} {fn:Func} {R:Ending→World→Prop} {st:St} {a:Act} {l:List AV} (hs:StR B W g st a) (h:resultsA P st.mem st.tmps fn.results.toList=some l) (hd:a.defers=[]) (hR:∀ v,V W g (oneOf l) v→R (.returned v) W):bodyPostM F n P fn R .ret a W:=by
 obtain ⟨v,h1,h2⟩:=results_run hs h
 show LeavesInM F n P fn a.tmps R a.defers .returning W
 rw[hd]
 exact ⟨v,h1,hR v h2⟩
theorem leavesD {F:Fence} {n:Nat} {P:Program} {fn:Func} {R:Ending→World→Prop} {st:St} {a:Act} {l:List AV} {D:Nat} (hs:StR B W g st a) (h:resultsA P st.mem st.tmps fn.results.toList=some l) (hd:a.defers=[{ target:=.collected D,args:=#[] }]) (hK:W.heap[D]?=some (.deferred (some []))) (hBD:B≤D) (hnm:mapsOn=true→NoMap st.mem)
  (hR:∀ v,V (W.putObj D (.deferred none)) g (oneOf l) v→MemR B (W.putObj D (.deferred none)) g st.mem→R (.returned v) (W.putObj D (.deferred none))):bodyPostM F n P fn R .ret a W:=by
 have hg:=grownBy_putObj' W D (.deferred none)
 have hr:NonCells W (some D):=fun r e=>by cases e;exact ⟨_,hK,rfl⟩
 have hs':StR B (W.putObj D (.deferred none)) g st a:=⟨hs.tmp.grown hg hr,hs.mem.grown hg hr hs.size (fun r e=>by cases e;exact hBD) hnm,Nat.le_trans hs.size hg.size⟩
 obtain ⟨v,h1,h2⟩:=results_run hs' h
 show LeavesInM F n P fn a.tmps R a.defers .returning W
 rw[hd]
 exact ⟨by simp,.inl ⟨D,_,rfl,run_takeDeferred hK,v,h1,hR v h2 hs'.mem⟩⟩
theorem MemR.none {m:Mem} (h:MemR B W g m):MemR B W g.bare [] where
 obj nm bx cs hn:=by simp[Mem.get] at hn
 tok nm n sz hn:=by simp[Mem.get] at hn
 resv nm hn:=by simp[Mem.get] at hn
 fresh nm _:=⟨rfl,fun _=>rfl⟩
 inj nm nm' b h1 _:=by simp[blk,Mem.get] at h1
 wrLt b off hw:=h.wrLt b off hw
 boxLt b hb:=h.boxLt b hb
 inv:=h.inv
 mp nm kk es hn:=by simp[Mem.get] at hn
theorem Step.bare {g':G} (hm:MemR B w g []) (h:Step B w g W g'):Step B w g W g'.bare where
 below:=h.below
 cell:=h.cell
 shape:=h.shape
 wr:=h.wr
 wrB:=h.wrB
 box:=h.box
 loc nm b hl:=by rw[(hm.fresh nm (by simp)).1] at hl;cases hl
 tloc nm n b hl:=by rw[(hm.fresh nm (by simp)).2 n] at hl;cases hl
 others:=h.others
theorem V.resh {sh sh':Sh} {z:Bool} {o:Own} {v:Value} (h:V w g (.lst sh z o []) v) (hc:cl (.lst sh z o [])=true):V w g (.lst sh' z o []) v:=by
 cases h with
 | nils _ _ ho=>exact .nils _ _ ho
 | lst _ _ _ a cap us hs hc' hm hsh hcell hv ho=>
  refine .lst sh' o [] a cap us hs hc' hm (by simp) (by simp) (by simp) ?_
  cases o with
  | no=>trivial
  | full=>exact ho
  | tok=>simp[cl] at hc
end
end Go.Ab
namespace Go.Ab
open Go.Proofs.Try
def mkMask:Nat→Nat→List Bool
 | 0,_=>[]
 | n+1,x=>Nat.beq (x%2) 1::mkMask n (x/2)
def opsOf:Code→Array Oper
 | .region _ ops _=>ops
 | _=>#[]
def masksOf:List (Nat×Nat×Masks):=[(4,5,⟨(mkMask 75 105),(mkMask 75 41),(mkMask 75 4)⟩),
 (11,3,⟨(mkMask 113 7516192776),(mkMask 113 0),(mkMask 113 16)⟩),
 (13,3,⟨(mkMask 92 14680118),(mkMask 92 54),(mkMask 92 16)⟩),
 (13,11,⟨(mkMask 92 820),(mkMask 92 272),(mkMask 92 16)⟩),
 (20,4,⟨(mkMask 45 240518168576),(mkMask 45 0),(mkMask 45 4)⟩),
 (21,4,⟨(mkMask 45 240518168576),(mkMask 45 0),(mkMask 45 4)⟩),
 (30,10,⟨(mkMask 51 210),(mkMask 51 80),(mkMask 51 48)⟩),
 (34,7,⟨(mkMask 60 1649267441756),(mkMask 60 80),(mkMask 60 48)⟩),
 (36,5,⟨(mkMask 41 50331740),(mkMask 41 80),(mkMask 41 48)⟩),
 (38,5,⟨(mkMask 48 54),(mkMask 48 20),(mkMask 48 12)⟩),
 (38,8,⟨(mkMask 48 118),(mkMask 48 54),(mkMask 48 12)⟩),
 (39,4,⟨(mkMask 46 1610612748),(mkMask 46 0),(mkMask 46 16)⟩),
 (40,4,⟨(mkMask 46 1610612748),(mkMask 46 0),(mkMask 46 16)⟩),
 (44,11,⟨(mkMask 40 214),(mkMask 40 80),(mkMask 40 48)⟩),
 (46,4,⟨(mkMask 40 1835008),(mkMask 40 0),(mkMask 40 4)⟩),
 (46,7,⟨(mkMask 40 119275536),(mkMask 40 1835024),(mkMask 40 4)⟩),
 (51,6,⟨(mkMask 32 7340096),(mkMask 32 64),(mkMask 32 12)⟩),
 (53,7,⟨(mkMask 90 15393162788956),(mkMask 90 92),(mkMask 90 48)⟩),
 (53,16,⟨(mkMask 90 132226261520350065985556),(mkMask 90 2064),(mkMask 90 48)⟩),
 (56,3,⟨(mkMask 27 28684),(mkMask 27 12),(mkMask 27 4)⟩),
 (58,3,⟨(mkMask 33 24774),(mkMask 33 192),(mkMask 33 64)⟩),
 (58,6,⟨(mkMask 33 418246),(mkMask 33 24774),(mkMask 33 64)⟩),
 (61,3,⟨(mkMask 24 115),(mkMask 24 48),(mkMask 24 16)⟩),
 (63,3,⟨(mkMask 23 29),(mkMask 23 12),(mkMask 23 4)⟩),
 (72,4,⟨(mkMask 73 99),(mkMask 73 32),(mkMask 73 16)⟩),
 (72,8,⟨(mkMask 73 483),(mkMask 73 227),(mkMask 73 16)⟩),
 (81,3,⟨(mkMask 74 124),(mkMask 74 48),(mkMask 74 16)⟩),
 (81,6,⟨(mkMask 74 252),(mkMask 74 124),(mkMask 74 16)⟩),
 (81,9,⟨(mkMask 74 508),(mkMask 74 252),(mkMask 74 16)⟩),
 (83,3,⟨(mkMask 18 908),(mkMask 18 12),(mkMask 18 4)⟩),
 (85,3,⟨(mkMask 32 1546),(mkMask 32 8),(mkMask 32 4)⟩),
 (87,3,⟨(mkMask 19 29),(mkMask 19 12),(mkMask 19 4)⟩),
 (88,3,⟨(mkMask 54 454),(mkMask 54 192),(mkMask 54 48)⟩),
 (88,11,⟨(mkMask 54 1478),(mkMask 54 454),(mkMask 54 48)⟩),
 (90,5,⟨(mkMask 84 1942),(mkMask 84 768),(mkMask 84 256)⟩),
 (90,10,⟨(mkMask 84 8086),(mkMask 84 3990),(mkMask 84 256)⟩),
 (91,5,⟨(mkMask 173 995),(mkMask 173 224),(mkMask 173 48)⟩),
 (91,9,⟨(mkMask 173 2019),(mkMask 173 2019),(mkMask 173 48)⟩),
 (91,19,⟨(mkMask 173 29014219670751100192951267),(mkMask 173 995),(mkMask 173 48)⟩),
 (91,24,⟨(mkMask 173 486777830487640090174734030865379),(mkMask 173 995),(mkMask 173 48)⟩),
 (91,29,⟨(mkMask 173 261336858282058570427511788682332017288163),(mkMask 173 486777830487640090174734030865379),(mkMask 173 48)⟩),
 (92,7,⟨(mkMask 52 1240),(mkMask 52 216),(mkMask 52 48)⟩),
 (92,10,⟨(mkMask 52 412316861656),(mkMask 52 1240),(mkMask 52 48)⟩),
 (96,2,⟨(mkMask 26 3),(mkMask 26 1),(mkMask 26 16)⟩),
 (98,7,⟨(mkMask 45 35),(mkMask 45 0),(mkMask 45 16)⟩),
 (99,5,⟨(mkMask 84 160),(mkMask 84 32),(mkMask 84 16)⟩),
 (99,13,⟨(mkMask 84 515),(mkMask 84 515),(mkMask 84 16)⟩),
 (99,15,⟨(mkMask 84 515),(mkMask 84 513),(mkMask 84 16)⟩),
 (99,16,⟨(mkMask 84 515),(mkMask 84 515),(mkMask 84 16)⟩),
 (99,18,⟨(mkMask 84 515),(mkMask 84 515),(mkMask 84 16)⟩),
 (101,6,⟨(mkMask 27 24),(mkMask 27 8),(mkMask 27 4)⟩),
 (102,11,⟨(mkMask 98 1539),(mkMask 98 513),(mkMask 98 112)⟩),
 (102,14,⟨(mkMask 98 7683),(mkMask 98 3587),(mkMask 98 112)⟩),
 (103,2,⟨(mkMask 22 9),(mkMask 22 9),(mkMask 22 4)⟩),
 (104,3,⟨(mkMask 54 24783),(mkMask 54 192),(mkMask 54 64)⟩),
 (107,4,⟨(mkMask 71 14680098),(mkMask 71 32),(mkMask 71 16)⟩),
 (107,8,⟨(mkMask 71 1893728738),(mkMask 71 14680418),(mkMask 71 16)⟩),
 (108,7,⟨(mkMask 60 117440610),(mkMask 60 96),(mkMask 60 16)⟩),
 (109,7,⟨(mkMask 49 35),(mkMask 49 0),(mkMask 49 16)⟩),
 (110,7,⟨(mkMask 59 29360322),(mkMask 59 64),(mkMask 59 48)⟩),
 (111,4,⟨(mkMask 44 227),(mkMask 44 32),(mkMask 44 16)⟩),
 (112,6,⟨(mkMask 44 451),(mkMask 44 64),(mkMask 44 48)⟩),
 (114,1,⟨(mkMask 26 99),(mkMask 26 0),(mkMask 26 0)⟩),
 (115,3,⟨(mkMask 53 396),(mkMask 53 128),(mkMask 53 64)⟩),
 (116,2,⟨(mkMask 51 782),(mkMask 51 0),(mkMask 51 0)⟩),
 (117,4,⟨(mkMask 83 6597069766934),(mkMask 83 0),(mkMask 83 0)⟩),
 (124,2,⟨(mkMask 21 9),(mkMask 21 9),(mkMask 21 4)⟩),
 (125,14,⟨(mkMask 315 32256),(mkMask 315 13824),(mkMask 315 112)⟩),
 (125,18,⟨(mkMask 315 228864),(mkMask 315 97792),(mkMask 315 112)⟩),
 (125,24,⟨(mkMask 315 1096126227998177188652763624537212264741950291456),(mkMask 315 884224),(mkMask 315 112)⟩),
 (125,41,⟨(mkMask 315 165641912322973530898434140694648610858826615332089277323900581371805184),(mkMask 315 622080),(mkMask 315 112)⟩),
 (125,51,⟨(mkMask 315 11656013353354374425516771440941113439854441034312837127510874458433425711231284553216),(mkMask 315 33562624),(mkMask 315 112)⟩),
 (129,4,⟨(mkMask 41 451),(mkMask 41 192),(mkMask 41 48)⟩),
 (131,4,⟨(mkMask 42 899),(mkMask 42 384),(mkMask 42 64)⟩),
 (136,4,⟨(mkMask 43 451),(mkMask 43 192),(mkMask 43 48)⟩),
 (138,3,⟨(mkMask 40 28706),(mkMask 40 32),(mkMask 40 16)⟩)]
def ordsOf:List (Nat×Nat×List Nat):=[(50,3,[0,2,3,1,4,5,6,7,8,9]),(67,1,[0,1,2,3,5,6,4,7,8,9]),(104,5,[0,1,2,3,4,5,6,7,8,9,10,11,12,13,14,15,16,17,18,19,20,21,22,23]),(116,4,[0,1,2,3,4,5,6,7,8,9,10,11,12,13,14,15,16,17,18,19,20,21,22,23,24,25,26,27,28,29,30,31,32,33,34,35,36,37,38,39])]
def ahsOf:List (Nat×Nat×List Nat):=[(3,8,[0,1,0,7,15,31,63,63,63,63,1023,2047,4095,8191,8191,8191,8191,131071,262143,524287,1048575,1048575,1048575,1048575,16777215,33554431,67108863,134217727,134217727,134217727,1073741823,134217727,134217727,134217727,17179869183,34359738367,68719476735,137438953471,274877906943,549755813887,1099511627775]),
 (4,11,[0,0,0,4,12,31,63,127,127,127,127,639,2687,7807,15999,32767,65535,131071,262143,524287,1048575]),
 (5,1,[0,1,0,7,15,31]),
 (5,2,[0,1,0,4,12,0,32,124,255,511]),
 (5,9,[0,0,0,0,15,31,63,63,63,63,1023,2047,4095,8191,8191,8191,8191,131071,262143,524287,1048575,1048575,4194303,1048575,1048575,33554431,67108863,134217727,268435455,536870911,1073741823,2147483647]),
 (6,1,[0,1,0,7,15,31]),
 (8,1,[0,1,0,7,15,31]),
 (8,2,[0,1,0,7,15,31,63,127,63,511,1023,2047]),
 (9,5,[0,1,3,7,7,23,63,127,255,511,1023,2047]),
 (10,1,[0,1,0,7,15,31]),
 (10,5,[0,0,3,0,0,31,63,127]),
 (10,12,[0,1,3,7,15,31,63,127,255,511,1023,2047,2047,2047,14335,32767,65535,131071,262143,262143,1048575,2097151,4194303,8388607,16777215,33554431]),
 (11,1,[0,1,0,7,15,31]),
 (11,2,[0,0,2,7,15,0]),
 (12,1,[0,1,0,7,15,31]),
 (12,5,[0,0,3,0,0,16,0,64,0,0,512,1792,4032,8184,16383,32767,65535]),
 (13,5,[0,1,0,4,0,16,48,0,128,496,1020,2044,4095,8191,16383]),
 (13,13,[0,1,0,4,0,0,32,112,0,0,512,1792,0,4096,16128,32764,65535,131071,262143]),
 (29,1,[0,1,0,7,15,31]),
 (29,2,[0,1,0,4,15,0,32,0,128,480,0,1024,0,4096,16352,32767,65535,131071,131071,0,786431,2097151]),
 (30,9,[0,1,0,4,15,0,63,0,0,511,1023]),
 (34,9,[0,1,0,0,8,0,56,120,0,256,0,1792,3840,8184,16383,32767]),
 (36,7,[0,1,0,0,8,0,56,120,0,504,1023,2047]),
 (38,10,[0,1,0,0,8,28,0,124,0,256,0,0,2048,7168,0,31744,65280,130816,262143,524287]),
 (39,6,[0,1,0,7,15,0,32,0,224,480,1023,2047]),
 (40,6,[0,1,0,7,15,0,32,0,224,480,1023,2047]),
 (47,13,[0,0,0,6,14,31,63]),
 (49,5,[0,1,0,4,15,31,63,63,0,383,1023]),
 (50,3,[0,1,0,4,15,31,63,63,127,511]),
 (51,3,[0,1,0,4,15,31,63,63,0,383,1023]),
 (53,18,[0,1,0,0,8,28,63,127,255]),
 (54,3,[0,0,2,0,8,30,63,127,127,511,1023]),
 (55,5,[0,0,2,6,15,31,31,127,255]),
 (56,5,[0,1,0,4,12,31,63,127]),
 (58,8,[0,1,0,0,0,28,60,127,255,511]),
 (61,5,[0,1,0,4,15,31,63]),
 (63,5,[0,1,0,0,12,0,60,0,255,511]),
 (65,4,[0,1,3,7,15,31,15,127,255,511,1023]),
 (67,1,[0,1,0,4,12,0,32,124,255,511]),
 (72,10,[0,0,3,7,15,0,0,96,224,480,1023,0,0,0,12288,30720,63488,129024,262143,0,1048575,2097151]),
 (74,1,[0,1,0,0,8,28,0,124,255,511,0,1024,0,0,8192,28672,0,126976,261120,523264,1048575,2097151]),
 (75,5,[0,1,0,4,15,0,32,0,128,511,0,1024,0,4096,16383,32767,65535,131071]),
 (75,7,[0,1,0,0,12,0,63,127]),
 (76,1,[0,1,0,7,15,31]),
 (76,2,[0,1,0,4,15,0,32,0,128,511,0,1024,0,4096,16383,32767,65535,131071]),
 (76,3,[0,1,0,0,12,31,63]),
 (77,1,[0,1,0,0,8,28,0,124,255,511,0,2047,4095]),
 (78,1,[0,1,0,4,15,0,32,0,128,480,0,1024,0,4096,16352,32767,65535]),
 (81,11,[0,1,0,0,8,28,0,124,0,256,0,0,2048,7168,0,31744,65280,130816,0,262144,0,0,2097152,7340032,0,32505856,66846720,133955584,0,268435456,0,0,2147483648,7516192768,0,33285996544,68451041280,137170518016,274877644800,549755813632,1099511627775,2199023255551]),
 (87,5,[0,0,0,6,14,31,63]),
 (90,8,[0,0,2,0,0,16,56,0,248,510,1022,2047,0,8191]),
 (90,15,[0,0,0,4,0,0,62,127,255]),
 (91,14,[0,0,0,0,0,0,48,112,0,0,768,1792,4083,8179,16383,32767]),
 (91,21,[0,0,3,7,0,0,0,96,224,0,992,2016,0,8160,16352,32736,32736,65535,196607]),
 (91,31,[0,0,3,7,0,0,0,96,224,0,992,2016,0,0,0,24576,57344,0,253952,516096,1044480,2097120,4194303,8388607]),
 (91,36,[0,0,1,7]),
 (95,8,[0,1,3,7,0,16,48,112,240,511,1023,2047]),
 (98,9,[0,0,3,7,0,0,48,112,255]),
 (98,10,[0,0,3,7,0,0,48,112,255]),
 (99,6,[0,0,0,6,3,31]),
 (100,1,[0,0,2,7,15]),
 (104,5,[0,1,0,0,8,28,0,124,255,511,0,1024,0,0,8192,28672,0,126976,261120,523264,0,0,3146751,8388607]),
 (104,7,[0,0,0,6,15,31]),
 (109,9,[0,0,3,7,0,0,48,112,255,511]),
 (109,11,[0,0,3,7,0,0,48,112,255,511]),
 (113,1,[0,1,0,7,15,31]),
 (113,6,[0,0,2,0,8,30,0,64,0,256,1022,2046,4095,8191]),
 (115,6,[0,1,3,7,15,31,63,127,255,511,255,1279,255,255,8447,28927,255,127231,261375,523519,1048575,2097151,4194303,8388607]),
 (116,4,[0,1,0,0,8,28,0,124,0,256,0,0,2048,7168,0,31744,0,65536,0,0,524288,1835008,0,8126464,16711680,33488896,0,67108864,0,0,536870912,1879048192,0,8321499136,17112760320,34292629504,68719411455,137438888191,274877906943,549755813887]),
 (117,1,[0,1,0,0,8,28,0,124,255,511,0,1024,0,0,8192,28672,0,126976,261120,523264,1048575,2097151,4194303,4194303,0,25165823,67108863]),
 (117,8,[0,1,0,0,8,28,0,124,0,256,0,0,2048,7168,0,31744,65280,130816,0,0,786432,2096896,4194303,8388607]),
 (119,1,[0,1,0,7,15,31]),
 (119,2,[0,1,0,4,15,0,32,0,128,480,0,1024,0,4096,16352,32767,65535,65535,262143,524287]),
 (121,1,[0,1,0,0,8,28,0,124,0,508,1023,2047,0,4096,0,0,32768,114688,0,507904,1044480,2093056,4194303,8388607,16777215,16777215,0,100663295,268435455]),
 (122,3,[0,1,0,4,15,0,32,0,128,480,0,1024,0,4096,16352,32767,65535,131071]),
 (125,16,[0,0,0,6,15,31,63,127,0,0,0,1536,3584,7936,16128,32512,65535,131071]),
 (125,17,[0,0,0,4,14,30,62,127,0,0,0,1024,3584,7680,15872,32512,255,131071]),
 (125,18,[0,1,3,7,7,7,39,119,247,503,1023,7,2055,7,7,7,49159,114695,253959,516103,1040391,2095111,4194303,8388607]),
 (125,43,[0,0,0,0,12,30,62,126,0,0,768,1792,3840,8190,16383,32767]),
 (125,55,[0,0,3,7,0,0,32,112,240,0,512,2032,4095,8191,16383]),
 (126,8,[0,1,3,7,15,0,32,96,224,511,1023,2047]),
 (130,2,[0,0,0,6,15,31,0,0,0,384,896,2015,4095,0,0,16384,57344,122880,253952,8191,1048575]),
 (134,1,[0,1,3,0,8,31,63,127]),
 (135,1,[0,0,2,7,15])]
def ahdGet:List (Nat×Nat×List Nat)→Nat→Nat→List Nat
 | [],_,_=>[]
 | (f,k,m)::l,f',k'=>match Nat.beq f f'&&Nat.beq k k' with
  | true=>m
  | false=>ahdGet l f' k'
def inlOf:List (Nat×Nat):=[(34,61),(36,61),(38,61),(47,56),(47,88),(48,90),(50,56),(50,88),(63,61),(81,61),(88,115),(88,116),(88,117),(90,90),(92,58),(92,88),(92,117),(125,138)]
def inlGet:List (Nat×Nat)→Nat→Nat→Bool
 | [],_,_=>false
 | (a,b)::l,f,g=>match Nat.beq a f&&Nat.beq b g with
  | true=>true
  | false=>inlGet l f g
def thawOf:List (Nat×Nat):=[(34,61),(36,61),(38,61),(47,56),(50,56),(63,61),(81,61),(92,58)]
def frzOf:List (Nat×Nat):=[]
def tokOf:List Nat:=[131]
def tokGet:List Nat→Nat→Bool
 | [],_=>false
 | a::l,f=>match Nat.beq a f with
  | true=>true
  | false=>tokGet l f
def twoOf:List (Nat×Nat×List (Nat×Nat)):=[(104,5,[(11,22),(14,22),(19,22)]),(116,4,[(9,37),(12,37)])]
def twoGet:List (Nat×Nat×List (Nat×Nat))→Nat→Nat→List (Nat×Nat)
 | [],_,_=>[]
 | (a,b,p)::l,f,k=>match Nat.beq a f&&Nat.beq b k with
  | true=>p
  | false=>twoGet l f k
def lateOf:List (Nat×Nat×List (Nat×List Nat)):=[(50,3,[(1,[3])]),(90,15,[(6,[0])])]
def lateGet:List (Nat×Nat×List (Nat×List Nat))→Nat→Nat→List (Nat×List Nat)
 | [],_,_=>[]
 | (a,b,p)::l,f,k=>match Nat.beq a f&&Nat.beq b k with
  | true=>p
  | false=>lateGet l f k
def seqOf:List (Nat×Nat):=[(50,3),(90,15)]
noncomputable def cfg:Cfg where
 P:=prog
 inl:=inlGet inlOf
 ben:=fun _=>false
 seqm:=inlGet seqOf
 late:=lateGet lateOf
 frzc:=inlGet frzOf
 arrm:=fun _=>false
 tokm:=tokGet tokOf
 two:=twoGet twoOf
 thaw:=inlGet thawOf
 mask:=maskGet masksOf
 ord:=ordGet ordsOf
 ahd:=ahdGet ahsOf
 lib:=fun g=>match Nat.beq g 45 with|true=>some (fun _=>none)|false=>match Nat.beq g 47 with|true=>some (fun _=>none)|false=>match Nat.beq g 48 with|true=>some (fun _=>none)|false=>none
 libm:=fun g=>none
theorem at13:cfg.P.funcs[13]?=some f13:=by kernel_rfl
theorem at18:cfg.P.funcs[18]?=some f18:=by kernel_rfl
theorem at20:cfg.P.funcs[20]?=some f20:=by kernel_rfl
theorem at21:cfg.P.funcs[21]?=some f21:=by kernel_rfl
theorem at23:cfg.P.funcs[23]?=some f23:=by kernel_rfl
theorem at26:cfg.P.funcs[26]?=some f26:=by kernel_rfl
theorem at28:cfg.P.funcs[28]?=some f28:=by kernel_rfl
theorem at29:cfg.P.funcs[29]?=some f29:=by kernel_rfl
theorem at31:cfg.P.funcs[31]?=some f31:=by kernel_rfl
theorem at32:cfg.P.funcs[32]?=some f32:=by kernel_rfl
theorem at43:cfg.P.funcs[43]?=some f43:=by kernel_rfl
theorem at56:cfg.P.funcs[56]?=some f56:=by kernel_rfl
theorem at57:cfg.P.funcs[57]?=some f57:=by kernel_rfl
theorem at58:cfg.P.funcs[58]?=some f58:=by kernel_rfl
theorem at60:cfg.P.funcs[60]?=some f60:=by kernel_rfl
theorem at62:cfg.P.funcs[62]?=some f62:=by kernel_rfl
theorem at64:cfg.P.funcs[64]?=some f64:=by kernel_rfl
theorem at65:cfg.P.funcs[65]?=some f65:=by kernel_rfl
theorem at66:cfg.P.funcs[66]?=some f66:=by kernel_rfl
theorem at67:cfg.P.funcs[67]?=some f67:=by kernel_rfl
theorem at69:cfg.P.funcs[69]?=some f69:=by kernel_rfl
theorem at70:cfg.P.funcs[70]?=some f70:=by kernel_rfl
theorem at71:cfg.P.funcs[71]?=some f71:=by kernel_rfl
theorem at72:cfg.P.funcs[72]?=some f72:=by kernel_rfl
theorem at75:cfg.P.funcs[75]?=some f75:=by kernel_rfl
theorem at76:cfg.P.funcs[76]?=some f76:=by kernel_rfl
theorem at78:cfg.P.funcs[78]?=some f78:=by kernel_rfl
theorem at82:cfg.P.funcs[82]?=some f82:=by kernel_rfl
theorem at84:cfg.P.funcs[84]?=some f84:=by kernel_rfl
theorem at86:cfg.P.funcs[86]?=some f86:=by kernel_rfl
theorem at88:cfg.P.funcs[88]?=some f88:=by kernel_rfl
theorem at89:cfg.P.funcs[89]?=some f89:=by kernel_rfl
theorem at90:cfg.P.funcs[90]?=some f90:=by kernel_rfl
theorem at93:cfg.P.funcs[93]?=some f93:=by kernel_rfl
theorem at94:cfg.P.funcs[94]?=some f94:=by kernel_rfl
theorem at95:cfg.P.funcs[95]?=some f95:=by kernel_rfl
theorem at96:cfg.P.funcs[96]?=some f96:=by kernel_rfl
theorem at97:cfg.P.funcs[97]?=some f97:=by kernel_rfl
theorem at98:cfg.P.funcs[98]?=some f98:=by kernel_rfl
theorem at99:cfg.P.funcs[99]?=some f99:=by kernel_rfl
theorem at100:cfg.P.funcs[100]?=some f100:=by kernel_rfl
theorem at101:cfg.P.funcs[101]?=some f101:=by kernel_rfl
theorem at102:cfg.P.funcs[102]?=some f102:=by kernel_rfl
theorem at103:cfg.P.funcs[103]?=some f103:=by kernel_rfl
theorem at105:cfg.P.funcs[105]?=some f105:=by kernel_rfl
theorem at106:cfg.P.funcs[106]?=some f106:=by kernel_rfl
theorem at107:cfg.P.funcs[107]?=some f107:=by kernel_rfl
theorem at108:cfg.P.funcs[108]?=some f108:=by kernel_rfl
theorem at109:cfg.P.funcs[109]?=some f109:=by kernel_rfl
theorem at110:cfg.P.funcs[110]?=some f110:=by kernel_rfl
theorem at111:cfg.P.funcs[111]?=some f111:=by kernel_rfl
theorem at112:cfg.P.funcs[112]?=some f112:=by kernel_rfl
theorem at115:cfg.P.funcs[115]?=some f115:=by kernel_rfl
theorem at116:cfg.P.funcs[116]?=some f116:=by kernel_rfl
theorem at117:cfg.P.funcs[117]?=some f117:=by kernel_rfl
theorem at118:cfg.P.funcs[118]?=some f118:=by kernel_rfl
theorem at122:cfg.P.funcs[122]?=some f122:=by kernel_rfl
theorem at123:cfg.P.funcs[123]?=some f123:=by kernel_rfl
theorem at124:cfg.P.funcs[124]?=some f124:=by kernel_rfl
theorem at125:cfg.P.funcs[125]?=some f125:=by kernel_rfl
theorem at126:cfg.P.funcs[126]?=some f126:=by kernel_rfl
theorem at127:cfg.P.funcs[127]?=some f127:=by kernel_rfl
theorem at128:cfg.P.funcs[128]?=some f128:=by kernel_rfl
theorem at129:cfg.P.funcs[129]?=some f129:=by kernel_rfl
theorem at130:cfg.P.funcs[130]?=some f130:=by kernel_rfl
theorem at131:cfg.P.funcs[131]?=some f131:=by kernel_rfl
theorem at132:cfg.P.funcs[132]?=some f132:=by kernel_rfl
theorem at133:cfg.P.funcs[133]?=some f133:=by kernel_rfl
theorem at134:cfg.P.funcs[134]?=some f134:=by kernel_rfl
theorem at135:cfg.P.funcs[135]?=some f135:=by kernel_rfl
theorem at136:cfg.P.funcs[136]?=some f136:=by kernel_rfl
theorem at137:cfg.P.funcs[137]?=some f137:=by kernel_rfl
theorem at138:cfg.P.funcs[138]?=some f138:=by kernel_rfl
theorem at139:cfg.P.funcs[139]?=some f139:=by kernel_rfl
theorem at140:cfg.P.funcs[140]?=some f140:=by kernel_rfl
end Go.Ab
set_option linter.unusedVariables false
namespace Go.Ab
open Go.Proofs.Try
def O90_5 (x8 x9:AV) (m:Mem):St:=⟨[.any,.any,.any,.any,.any,.any,.any,.any,x8,x9,.any,.any,.any,.any,.any,.any,.any,.any,.any,.any,.any,.any,.any,.any,.any,.any,.any,.any,.any,.any,.any,.any,.any,.any,.any,.any,.any,.any,.any,.any,.any,.any,.any,.any,.any,.any,.any,.any,.any,.any,.any,.any,.any,.any,.any,.any,.any,.any,.any,.any,.any,.any,.any,.any,.any,.any,.any,.any,.any,.any,.any,.any,.any,.any,.any,.any,.any,.any,.any,.any,.any,.any,.any,.any],m⟩
noncomputable def L90_5 (x1 x2 x4 x7 x8 x9 x10:AV) (m:Mem) (K:KT):OM:=loopW (execW cfg 90 (AP cfg) (AC cfg) (c1 (c1 (c2 (c1 (c2 (c2 (c2 (bodyOf f90))))))))) (cfg.mask 90 (some 5)) ⟨[.any,x1,x2,.any,x4,.any,.any,x7,x8,x9,x10,.any,.any,.any,.any,.any,.any,.any,.any,.any,.any,.any,.any,.any,.any,.any,.any,.any,.any,.any,.any,.any,.any,.any,.any,.any,.any,.any,.any,.any,.any,.any,.any,.any,.any,.any,.any,.any,.any,.any,.any,.any,.any,.any,.any,.any,.any,.any,.any,.any,.any,.any,.any,.any,.any,.any,.any,.any,.any,.any,.any,.any,.any,.any,.any,.any,.any,.any,.any,.any,.any,.any,.any,.any],m⟩ K
def O90_10 (x1 x2 x4 x7 x8 x9 x10 x11:AV) (m:Mem):St:=⟨[.any,x1,x2,.any,x4,.any,.any,x7,x8,x9,x10,x11,.any,.any,.any,.any,.any,.any,.any,.any,.any,.any,.any,.any,.any,.any,.any,.any,.any,.any,.any,.any,.any,.any,.any,.any,.any,.any,.any,.any,.any,.any,.any,.any,.any,.any,.any,.any,.any,.any,.any,.any,.any,.any,.any,.any,.any,.any,.any,.any,.any,.any,.any,.any,.any,.any,.any,.any,.any,.any,.any,.any,.any,.any,.any,.any,.any,.any,.any,.any,.any,.any,.any,.any],m⟩
noncomputable def L90_10 (x1 x2 x4 x7 x8 x9 x10 x11 x12:AV) (m:Mem) (K:KT):OM:=loopW (execW cfg 90 (AP cfg) (AC cfg) (c1 (c1 (c2 (c1 (c2 (c2 (c1 (c1 (c2 (c1 (c1 (c2 (c1 (c2 (c2 (c2 (bodyOf f90)))))))))))))))))) (cfg.mask 90 (some 10)) ⟨[.any,x1,x2,.any,x4,.any,.any,x7,x8,x9,x10,x11,x12,.any,.any,.any,.any,.any,.any,.any,.any,.any,.any,.any,.any,.any,.any,.any,.any,.any,.any,.any,.any,.any,.any,.any,.any,.any,.any,.any,.any,.any,.any,.any,.any,.any,.any,.any,.any,.any,.any,.any,.any,.any,.any,.any,.any,.any,.any,.any,.any,.any,.any,.any,.any,.any,.any,.any,.any,.any,.any,.any,.any,.any,.any,.any,.any,.any,.any,.any,.any,.any,.any,.any],m⟩ K
noncomputable abbrev K90_5_0 (K:KT):KT:=seqK (fun st=>execW cfg 90 (AP cfg) (AC cfg) (c2 (c2 (c2 (c2 (bodyOf f90))))) st K) K
noncomputable abbrev K90_5_1 (K:KT):KT:=blockK 0 (K90_5_0 K)
noncomputable abbrev K90_5 (K:KT):KT:=(K90_5_1 K)
noncomputable abbrev K90_10_0 (K:KT):KT:=seqK (fun st=>execW cfg 90 (AP cfg) (AC cfg) (c2 (c2 (c1 (c1 (c2 (c1 (c2 (c2 (c2 (bodyOf f90)))))))))) st (roundG (fun st=>loopW (execW cfg 90 (AP cfg) (AC cfg) (c1 (c1 (c2 (c1 (c2 (c2 (c2 (bodyOf f90))))))))) (cfg.mask 90 (some 5)) st K) (cfg.mask 90 (some 5)) K)) (roundG (fun st=>loopW (execW cfg 90 (AP cfg) (AC cfg) (c1 (c1 (c2 (c1 (c2 (c2 (c2 (bodyOf f90))))))))) (cfg.mask 90 (some 5)) st K) (cfg.mask 90 (some 5)) K)
noncomputable abbrev K90_10_1 (K:KT):KT:=blockK 1 (K90_10_0 K)
noncomputable abbrev K90_10_2 (K:KT):KT:=seqK (fun st=>execW cfg 90 (AP cfg) (AC cfg) (c2 (c2 (c2 (c1 (c1 (c2 (c1 (c1 (c2 (c1 (c2 (c2 (c2 (bodyOf f90)))))))))))))) st (K90_10_1 K)) (K90_10_1 K)
noncomputable abbrev K90_10_3 (K:KT):KT:=blockK 2 (K90_10_2 K)
noncomputable abbrev K90_10 (K:KT):KT:=(K90_10_3 K)
theorem T90 (a0 a1 a2 a3:AV) (m:Mem):AC cfg 90 [a0,a1,a2,a3] m =
 (boxA none (some 3) m a0).bind fun r1=>
 (boxA none (some 3) r1.2 a3).bind fun r2=>
 (fieldAddrA 0 r1.1).bind fun v3=>
 (loadA none (newAt none r2.2 (.obj true [(.bool false),(.lst none true .full []),(.lst none true .full [])])).2 v3).bind fun v4=>
 (binA .other .eql a1 v4).bind fun v5=>
 ifA v5 (
 (loadA (some 3) (newAt none r2.2 (.obj true [(.bool false),(.lst none true .full []),(.lst none true .full [])])).2 r2.1).bind fun v6=>
 (storeA (some 3) (newAt none r2.2 (.obj true [(.bool false),(.lst none true .full []),(.lst none true .full [])])).2 (.ptr (newAt none r2.2 .resv).1 0) v6).bind fun m7=>
 (loadA (some 3) m7 (.ptr (newAt none r2.2 .resv).1 0)).bind fun v8=>
 some (v8,m7)) (
 (pcall (AP cfg) none (newAt none r2.2 (.obj true [(.bool false),(.lst none true .full []),(.lst none true .full [])])).2 31 []).bind fun r9=>
 (storeA (some 3) (newAt none r9.2 (.obj true [(.bool false),(.lst none true .full []),(.lst none true .full [])])).2 (.ptr (newAt none r9.2 .resv).1 0) r9.1).bind fun m10=>
 L90_5 a1 a2 r1.1 r2.1 (.ptr (newAt none r2.2 .resv).1 0) (.ptr (newAt none r9.2 .resv).1 0) (.int .i64 0) m10 (K90_5 (finK cfg.P f90.results.toList))):=
(AC_eq cfg 90 [a0,a1,a2,a3] m (fn:=f90) (c:=bodyOf f90) at90 rfl).trans (by kernel_rfl)
theorem L90_5_eq (x1 x2 x4 x7 x8 x9 x10:AV) (m:Mem) (K:KT):L90_5 x1 x2 x4 x7 x8 x9 x10 m K =
 (fieldAddrA 1 x4).bind fun v1=>
 (loadA none m v1).bind fun v2=>
 (binA .other .lss x10 v2).bind fun v3=>
 ifA v3 (
 (indexAddrA none x2 x10).bind fun v4=>
 (loadA none m v4).bind fun v5=>
 ifA v5 (
 (binA .other .add x10 (.int .i64 1)).bind fun v6=>
 L90_5 x1 x2 x4 x7 x8 x9 v6 m K) (
 (fieldAddrA 2 x4).bind fun v7=>
 (loadA none m v7).bind fun v8=>
 (fieldAddrA 1 x4).bind fun v9=>
 (loadA none m v9).bind fun v10=>
 (binA .other .mul x1 v10).bind fun v11=>
 (binA .other .add v11 x10).bind fun v12=>
 (indexAddrA (some 3) v8 v12).bind fun v13=>
 (loadA (some 3) m v13).bind fun v14=>
 (pcall (AP cfg) none m 86 [v14]).bind fun r15=>
 (binA .other .eql r15.1 (.int .i64 0)).bind fun v16=>
 ifA v16 (
 (binA .other .add x10 (.int .i64 1)).bind fun v17=>
 L90_5 x1 x2 x4 x7 x8 x9 v17 r15.2 K) (
 (loadA (some 3) (reserve r15.2 1) x7).bind fun v18=>
 (fieldAddrA 2 x4).bind fun v19=>
 (loadA none (reserve r15.2 1) v19).bind fun v20=>
 (fieldAddrA 1 x4).bind fun v21=>
 (loadA none (reserve r15.2 1) v21).bind fun v22=>
 (binA .other .mul x1 v22).bind fun v23=>
 (binA .other .add v23 x10).bind fun v24=>
 (indexAddrA (some 3) v20 v24).bind fun v25=>
 (loadA (some 3) (reserve r15.2 1) v25).bind fun v26=>
 (pcall (AP cfg) (some r15.2.length) (reserve r15.2 1) 29 [v18,v26]).bind fun r27=>
 (storeA (some 3) (newAt (some r15.2.length) r27.2 (.obj true [(.bool false),(.lst none true .full []),(.lst none true .full [])])).2 (.ptr (newAt (some r15.2.length) r27.2 .resv).1 0) r27.1).bind fun m28=>
 (binA .other .add x10 (.int .i64 1)).bind fun v29=>
 L90_10 x1 x2 x4 x7 x8 x9 x10 (.ptr (newAt (some r15.2.length) r27.2 .resv).1 0) v29 m28 (K90_10 K)))) (
 K (.exit 0) (O90_5 x8 x9 m)):=
(loopW_eq (execW_lin _) _ _ _).trans (by kernel_rfl)
theorem L90_10_eq (x1 x2 x4 x7 x8 x9 x10 x11 x12:AV) (m:Mem) (K:KT):L90_10 x1 x2 x4 x7 x8 x9 x10 x11 x12 m K =
 (fieldAddrA 1 x4).bind fun v1=>
 (loadA none m v1).bind fun v2=>
 (binA .other .lss x12 v2).bind fun v3=>
 ifA v3 (
 (indexAddrA none x2 x12).bind fun v4=>
 (loadA none m v4).bind fun v5=>
 ifA v5 (
 (loadA (some 3) m x11).bind fun v6=>
 (pcall (AP cfg) none m 118 [v6]).bind fun r7=>
 (storeA (some 3) r7.2 x11 r7.1).bind fun m8=>
 (binA .other .add x12 (.int .i64 1)).bind fun v9=>
 L90_10 x1 x2 x4 x7 x8 x9 x10 x11 v9 m8 K) (
 (binA .other .add x12 (.int .i64 1)).bind fun v10=>
 L90_10 x1 x2 x4 x7 x8 x9 x10 x11 v10 m K)) (
 K (.exit 2) (O90_10 x1 x2 x4 x7 x8 x9 x10 x11 m)):=
(loopW_eq (execW_lin _) _ _ _).trans (by kernel_rfl)
theorem K90_5_x0 (x8 x9:AV) (m:Mem):K90_5 (finK cfg.P f90.results.toList) (.exit 0) (O90_5 x8 x9 m) =
 (loadA (some 3) m x9).bind fun v1=>
 (storeA (some 3) m x8 v1).bind fun m2=>
 (loadA (some 3) m2 x8).bind fun v3=>
 some (v3,m2):=by kernel_rfl
theorem K90_10_x2 (x1 x2 x4 x7 x8 x9 x10 x11:AV) (m:Mem) (K:KT):K90_10 K (.exit 2) (O90_10 x1 x2 x4 x7 x8 x9 x10 x11 m) =
 (indexAddrA none x2 x10).bind fun v1=>
 (storeA none m v1 (.bool true)).bind fun m2=>
 (loadA (some 3) m2 x9).bind fun v3=>
 (loadA (some 3) m2 x4).bind fun v4=>
 (binA .other .add x1 (.int .i64 1)).bind fun v5=>
 (loadA (some 3) m2 x11).bind fun v6=>
 (AC cfg 90 [v4,v5,x2,v6] m2).bind fun r7=>
 ifP ((loadA (some 3) r7.2 x9).bind (fun v=>some (v,r7.2))=some (v3,r7.2)) (
 (pcall (AP cfg) none r7.2 76 [v3,r7.1]).bind fun r8=>
 (storeA (some 3) r8.2 x9 r8.1).bind fun m9=>
 (indexAddrA none x2 x10).bind fun v10=>
 (storeA none m9 v10 (.bool false)).bind fun m11=>
 (binA .other .add x10 (.int .i64 1)).bind fun v12=>
 L90_5 x1 x2 x4 x7 x8 x9 v12 m11 K):=by kernel_rfl
end Go.Ab
set_option linter.unusedVariables false
namespace Go.Ab
open Go.Proofs.Try
theorem T93 (a0:AV) (m:Mem):AC cfg 93 [a0] m =
 (convA .u32 a0).bind fun v1=>
 (binA .other .shr a0 (.int .u64 32)).bind fun v2=>
 (convA .u32 v2).bind fun v3=>
 (buildSliceA none [v1,v3]).bind fun v4=>
 (pcall (AP cfg) none m 124 [v4]).bind fun r5=>
 (pcall (AP cfg) none r5.2 123 [r5.1]).bind fun r6=>
 some (r6.1,r6.2):=
(AC_eq cfg 93 [a0] m (fn:=f93) (c:=bodyOf f93) at93 rfl).trans (by kernel_rfl)
theorem T94 (a0:AV) (m:Mem):AC cfg 94 [a0] m =
 (lenA false a0).bind fun v1=>
 (binA .other .eql v1 (.int .i64 0)).bind fun v2=>
 ifA v2 (
 some ((.bool true),m)) (
 (lenA false a0).bind fun v3=>
 (binA .other .sub v3 (.int .i64 1)).bind fun v4=>
 (indexAddrA none a0 v4).bind fun v5=>
 (loadA none m v5).bind fun v6=>
 (binA .other .neq v6 (.int .u32 0)).bind fun v7=>
 some (v7,m)):=
(AC_eq cfg 94 [a0] m (fn:=f94) (c:=bodyOf f94) at94 rfl).trans (by kernel_rfl)
theorem T95 (a0:AV) (m:Mem):AC cfg 95 [a0] m =
 (pcall (AP cfg) none m 124 [a0]).bind fun r1=>
 (lenA false r1.1).bind fun v2=>
 (binA .other .eql v2 (.int .i64 0)).bind fun v3=>
 ifA v3 (
 some ((.tup [(.int .u64 0),(.bool true)]),r1.2)) (
 (binA .other .eql v2 (.int .i64 1)).bind fun v4=>
 ifA v4 (
 (indexAddrA none r1.1 (.int .i64 0)).bind fun v5=>
 (loadA none r1.2 v5).bind fun v6=>
 (convA .u64 v6).bind fun v7=>
 some ((.tup [v7,(.bool true)]),r1.2)) (
 (binA .other .eql v2 (.int .i64 2)).bind fun v8=>
 ifA v8 (
 (indexAddrA none r1.1 (.int .i64 0)).bind fun v9=>
 (loadA none r1.2 v9).bind fun v10=>
 (convA .u64 v10).bind fun v11=>
 (indexAddrA none r1.1 (.int .i64 1)).bind fun v12=>
 (loadA none r1.2 v12).bind fun v13=>
 (convA .u64 v13).bind fun v14=>
 (binA .other .shl v14 (.int .u64 32)).bind fun v15=>
 (binA .other .or v11 v15).bind fun v16=>
 some ((.tup [v16,(.bool true)]),r1.2)) (
 some ((.tup [(.int .u64 0),(.bool false)]),r1.2)))):=
(AC_eq cfg 95 [a0] m (fn:=f95) (c:=bodyOf f95) at95 rfl).trans (by kernel_rfl)
def O96_2 (x0:AV) (m:Mem):St:=⟨[x0,.any,.any,.any,.any,.any,.any,.any,.any,.any,.any,.any,.any,.any,.any,.any,.any,.any,.any,.any,.any,.any,.any,.any,.any,.any],m⟩
noncomputable def L96_2 (x0 x1:AV) (m:Mem) (K:KT):OM:=loopW (execW cfg 96 (AP cfg) (AC cfg) (c1 (c1 (c1 (c2 (c2 (bodyOf f96))))))) (cfg.mask 96 (some 2)) ⟨[x0,x1,.any,.any,.any,.any,.any,.any,.any,.any,.any,.any,.any,.any,.any,.any,.any,.any,.any,.any,.any,.any,.any,.any,.any,.any],m⟩ K
noncomputable abbrev K96_2_0 (K:KT):KT:=seqK (fun st=>execW cfg 96 (AP cfg) (AC cfg) (c2 (c2 (c2 (bodyOf f96)))) st K) K
noncomputable abbrev K96_2_1 (K:KT):KT:=blockK 0 (K96_2_0 K)
noncomputable abbrev K96_2 (K:KT):KT:=(K96_2_1 K)
theorem T96 (a0 a1:AV) (m:Mem):AC cfg 96 [a0,a1] m =
 (pcall (AP cfg) none m 124 [a0]).bind fun r1=>
 (pcall (AP cfg) none r1.2 124 [a1]).bind fun r2=>
 L96_2 r1.1 r2.1 r2.2 (K96_2 (finK cfg.P f96.results.toList)):=
(AC_eq cfg 96 [a0,a1] m (fn:=f96) (c:=bodyOf f96) at96 rfl).trans (by kernel_rfl)
theorem L96_2_eq (x0 x1:AV) (m:Mem) (K:KT):L96_2 x0 x1 m K =
 (lenA false x1).bind fun v1=>
 (binA .other .gtr v1 (.int .i64 0)).bind fun v2=>
 ifA v2 (
 (pcall (AP cfg) none m 125 [x0,x1]).bind fun r3=>
 (extractA r3.1 0).bind fun v4=>
 (extractA r3.1 1).bind fun v5=>
 (extractA r3.1 2).bind fun v6=>
 L96_2 x1 v5 r3.2 K) (
 K (.exit 0) (O96_2 x0 m)):=
(loopW_eq (execW_lin _) _ _ _).trans (by kernel_rfl)
theorem K96_2_x0 (x0:AV) (m:Mem):K96_2 (finK cfg.P f96.results.toList) (.exit 0) (O96_2 x0 m) =
 (pcall (AP cfg) none m 123 [x0]).bind fun r1=>
 some (r1.1,r1.2):=by kernel_rfl
def O107_4 (x5:AV) (m:Mem):St:=⟨[.any,.any,.any,.any,.any,x5,.any,.any,.any,.any,.any,.any,.any,.any,.any,.any,.any,.any,.any,.any,.any,.any,.any,.any,.any,.any,.any,.any,.any,.any,.any,.any,.any,.any,.any,.any,.any,.any,.any,.any,.any,.any,.any,.any,.any,.any,.any,.any,.any,.any,.any,.any,.any,.any,.any,.any,.any,.any,.any,.any,.any,.any,.any,.any,.any,.any,.any,.any,.any,.any,.any],m⟩
noncomputable def L107_4 (x1 x5 x21 x22 x23:AV) (m:Mem) (K:KT):OM:=loopW (execW cfg 107 (AP cfg) (AC cfg) (c1 (c1 (c2 (c1 (c2 (c2 (c2 (bodyOf f107))))))))) (cfg.mask 107 (some 4)) ⟨[.any,x1,.any,.any,.any,x5,.any,.any,.any,.any,.any,.any,.any,.any,.any,.any,.any,.any,.any,.any,.any,x21,x22,x23,.any,.any,.any,.any,.any,.any,.any,.any,.any,.any,.any,.any,.any,.any,.any,.any,.any,.any,.any,.any,.any,.any,.any,.any,.any,.any,.any,.any,.any,.any,.any,.any,.any,.any,.any,.any,.any,.any,.any,.any,.any,.any,.any,.any,.any,.any,.any],m⟩ K
def O107_8 (x1 x5 x6 x8 x21 x22 x23:AV) (m:Mem):St:=⟨[.any,x1,.any,.any,.any,x5,x6,.any,x8,.any,.any,.any,.any,.any,.any,.any,.any,.any,.any,.any,.any,x21,x22,x23,.any,.any,.any,.any,.any,.any,.any,.any,.any,.any,.any,.any,.any,.any,.any,.any,.any,.any,.any,.any,.any,.any,.any,.any,.any,.any,.any,.any,.any,.any,.any,.any,.any,.any,.any,.any,.any,.any,.any,.any,.any,.any,.any,.any,.any,.any,.any],m⟩
noncomputable def L107_8 (x1 x5 x6 x7 x8 x21 x22 x23 x28 x29 x30:AV) (m:Mem) (K:KT):OM:=loopW (execW cfg 107 (AP cfg) (AC cfg) (c1 (c1 (c2 (c1 (c2 (c2 (c1 (c1 (c2 (c2 (c1 (c1 (c2 (c1 (c2 (c2 (c2 (bodyOf f107))))))))))))))))))) (cfg.mask 107 (some 8)) ⟨[.any,x1,.any,.any,.any,x5,x6,x7,x8,.any,.any,.any,.any,.any,.any,.any,.any,.any,.any,.any,.any,x21,x22,x23,.any,.any,.any,.any,x28,x29,x30,.any,.any,.any,.any,.any,.any,.any,.any,.any,.any,.any,.any,.any,.any,.any,.any,.any,.any,.any,.any,.any,.any,.any,.any,.any,.any,.any,.any,.any,.any,.any,.any,.any,.any,.any,.any,.any,.any,.any,.any],m⟩ K
noncomputable abbrev K107_4_0 (K:KT):KT:=seqK (fun st=>execW cfg 107 (AP cfg) (AC cfg) (c2 (c2 (c2 (c2 (bodyOf f107))))) st K) K
noncomputable abbrev K107_4_1 (K:KT):KT:=blockK 0 (K107_4_0 K)
noncomputable abbrev K107_4 (K:KT):KT:=(K107_4_1 K)
noncomputable abbrev K107_8_0 (K:KT):KT:=seqK (fun st=>execW cfg 107 (AP cfg) (AC cfg) (c2 (c2 (c2 (c1 (c1 (c2 (c1 (c2 (c2 (c2 (bodyOf f107))))))))))) st (roundG (fun st=>loopW (execW cfg 107 (AP cfg) (AC cfg) (c1 (c1 (c2 (c1 (c2 (c2 (c2 (bodyOf f107))))))))) (cfg.mask 107 (some 4)) st K) (cfg.mask 107 (some 4)) K)) (roundG (fun st=>loopW (execW cfg 107 (AP cfg) (AC cfg) (c1 (c1 (c2 (c1 (c2 (c2 (c2 (bodyOf f107))))))))) (cfg.mask 107 (some 4)) st K) (cfg.mask 107 (some 4)) K)
noncomputable abbrev K107_8_1 (K:KT):KT:=blockK 1 (K107_8_0 K)
noncomputable abbrev K107_8_2 (K:KT):KT:=seqK (fun st=>execW cfg 107 (AP cfg) (AC cfg) (c2 (c2 (c2 (c1 (c1 (c2 (c2 (c1 (c1 (c2 (c1 (c2 (c2 (c2 (bodyOf f107))))))))))))))) st (K107_8_1 K)) (K107_8_1 K)
noncomputable abbrev K107_8_3 (K:KT):KT:=blockK 2 (K107_8_2 K)
noncomputable abbrev K107_8 (K:KT):KT:=(K107_8_3 K)
theorem T107 (a0 a1:AV) (m:Mem):AC cfg 107 [a0,a1] m =
 (pcall (AP cfg) none m 124 [a0]).bind fun r1=>
 (pcall (AP cfg) none r1.2 124 [a1]).bind fun r2=>
 (lenA false r1.1).bind fun v3=>
 (lenA false r2.1).bind fun v4=>
 (binA .other .add v3 v4).bind fun v5=>
 (makeA none 116 none (.int .u32 0) 4 r2.2 v5 v5).bind fun r6=>
 (lenA false r1.1).bind fun v7=>
 L107_4 r2.1 r6.1 r1.1 v7 (.int .i64 0) r6.2 (K107_4 (finK cfg.P f107.results.toList)):=
(AC_eq cfg 107 [a0,a1] m (fn:=f107) (c:=bodyOf f107) at107 rfl).trans (by kernel_rfl)
theorem L107_4_eq (x1 x5 x21 x22 x23:AV) (m:Mem) (K:KT):L107_4 x1 x5 x21 x22 x23 m K =
 (binA .other .lss x23 x22).bind fun v1=>
 ifA v1 (
 (indexAddrA none x21 x23).bind fun v2=>
 (loadA none m v2).bind fun v3=>
 (lenA false x1).bind fun v4=>
 L107_8 x1 x5 x23 v3 (.int .u64 0) x21 x22 x23 x1 v4 (.int .i64 0) m (K107_8 K)) (
 K (.exit 0) (O107_4 x5 m)):=
(loopW_eq (execW_lin _) _ _ _).trans (by kernel_rfl)
theorem L107_8_eq (x1 x5 x6 x7 x8 x21 x22 x23 x28 x29 x30:AV) (m:Mem) (K:KT):L107_8 x1 x5 x6 x7 x8 x21 x22 x23 x28 x29 x30 m K =
 (binA .other .lss x30 x29).bind fun v1=>
 ifA v1 (
 (indexAddrA none x28 x30).bind fun v2=>
 (loadA none m v2).bind fun v3=>
 (binA .other .add x6 x30).bind fun v4=>
 (indexAddrA none x5 v4).bind fun v5=>
 (loadA none m v5).bind fun v6=>
 (convA .u64 v6).bind fun v7=>
 (convA .u64 x7).bind fun v8=>
 (convA .u64 v3).bind fun v9=>
 (binA .other .mul v8 v9).bind fun v10=>
 (binA .other .add v7 v10).bind fun v11=>
 (binA .other .add x8 v11).bind fun v12=>
 (binA .other .add x6 x30).bind fun v13=>
 (convA .u32 v12).bind fun v14=>
 (indexAddrA none x5 v13).bind fun v15=>
 (storeA none m v15 v14).bind fun m16=>
 (binA .other .shr v12 (.int .u64 32)).bind fun v17=>
 (binA .other .add x30 (.int .i64 1)).bind fun v18=>
 L107_8 x1 x5 x6 x7 v17 x21 x22 x23 x28 x29 v18 m16 K) (
 K (.exit 2) (O107_8 x1 x5 x6 x8 x21 x22 x23 m)):=
(loopW_eq (execW_lin _) _ _ _).trans (by kernel_rfl)
theorem K107_4_x0 (x5:AV) (m:Mem):K107_4 (finK cfg.P f107.results.toList) (.exit 0) (O107_4 x5 m) =
 (pcall (AP cfg) none m 124 [x5]).bind fun r1=>
 some (r1.1,r1.2):=by kernel_rfl
theorem K107_8_x2 (x1 x5 x6 x8 x21 x22 x23:AV) (m:Mem) (K:KT):K107_8 K (.exit 2) (O107_8 x1 x5 x6 x8 x21 x22 x23 m) =
 (lenA false x1).bind fun v1=>
 (binA .other .add x6 v1).bind fun v2=>
 (convA .u32 x8).bind fun v3=>
 (indexAddrA none x5 v2).bind fun v4=>
 (storeA none m v4 v3).bind fun m5=>
 (binA .other .add x23 (.int .i64 1)).bind fun v6=>
 L107_4 x1 x5 x21 x22 v6 m5 K:=by kernel_rfl
def O108_7 (x5 x6:AV) (m:Mem):St:=⟨[.any,.any,.any,.any,.any,x5,x6,.any,.any,.any,.any,.any,.any,.any,.any,.any,.any,.any,.any,.any,.any,.any,.any,.any,.any,.any,.any,.any,.any,.any,.any,.any,.any,.any,.any,.any,.any,.any,.any,.any,.any,.any,.any,.any,.any,.any,.any,.any,.any,.any,.any,.any,.any,.any,.any,.any,.any,.any,.any,.any],m⟩
noncomputable def L108_7 (x1 x5 x6 x24 x25 x26:AV) (m:Mem) (K:KT):OM:=loopW (execW cfg 108 (AP cfg) (AC cfg) (c1 (c1 (c2 (c1 (c2 (c2 (c2 (c2 (c2 (bodyOf f108))))))))))) (cfg.mask 108 (some 7)) ⟨[.any,x1,.any,.any,.any,x5,x6,.any,.any,.any,.any,.any,.any,.any,.any,.any,.any,.any,.any,.any,.any,.any,.any,.any,x24,x25,x26,.any,.any,.any,.any,.any,.any,.any,.any,.any,.any,.any,.any,.any,.any,.any,.any,.any,.any,.any,.any,.any,.any,.any,.any,.any,.any,.any,.any,.any,.any,.any,.any,.any],m⟩ K
noncomputable abbrev K108_7_0 (K:KT):KT:=seqK (fun st=>execW cfg 108 (AP cfg) (AC cfg) (c2 (c2 (c2 (c2 (c2 (c2 (bodyOf f108))))))) st K) K
noncomputable abbrev K108_7_1 (K:KT):KT:=blockK 0 (K108_7_0 K)
noncomputable abbrev K108_7 (K:KT):KT:=(K108_7_1 K)
theorem T108 (a0 a1:AV) (m:Mem):AC cfg 108 [a0,a1] m =
 (pcall (AP cfg) none m 124 [a0]).bind fun r1=>
 (pcall (AP cfg) none r1.2 124 [a1]).bind fun r2=>
 (lenA false r1.1).bind fun v3=>
 (lenA false r2.1).bind fun v4=>
 (binA .other .lss v3 v4).bind fun v5=>
 ifA v5 (
 (lenA false r2.1).bind fun v6=>
 (binA .other .add v6 (.int .i64 1)).bind fun v7=>
 (makeA none 116 none (.int .u32 0) 4 r2.2 (.int .i64 0) v7).bind fun r8=>
 (lenA false r2.1).bind fun v9=>
 L108_7 r1.1 r8.1 (.int .u64 0) r2.1 v9 (.int .i64 0) r8.2 (K108_7 (finK cfg.P f108.results.toList))) (
 (lenA false r1.1).bind fun v10=>
 (binA .other .add v10 (.int .i64 1)).bind fun v11=>
 (makeA none 116 none (.int .u32 0) 4 r2.2 (.int .i64 0) v11).bind fun r12=>
 (lenA false r1.1).bind fun v13=>
 L108_7 r2.1 r12.1 (.int .u64 0) r1.1 v13 (.int .i64 0) r12.2 (K108_7 (finK cfg.P f108.results.toList))):=
(AC_eq cfg 108 [a0,a1] m (fn:=f108) (c:=bodyOf f108) at108 rfl).trans (by kernel_rfl)
theorem L108_7_eq (x1 x5 x6 x24 x25 x26:AV) (m:Mem) (K:KT):L108_7 x1 x5 x6 x24 x25 x26 m K =
 (binA .other .lss x26 x25).bind fun v1=>
 ifA v1 (
 (indexAddrA none x24 x26).bind fun v2=>
 (loadA none m v2).bind fun v3=>
 (convA .u64 v3).bind fun v4=>
 (binA .other .add x6 v4).bind fun v5=>
 (lenA false x1).bind fun v6=>
 (binA .other .lss x26 v6).bind fun v7=>
 ifA v7 (
 (indexAddrA none x1 x26).bind fun v8=>
 (loadA none m v8).bind fun v9=>
 (convA .u64 v9).bind fun v10=>
 (binA .other .add v5 v10).bind fun v11=>
 (convA .u32 v11).bind fun v12=>
 (buildSliceA none [v12]).bind fun v13=>
 (appA none false 116 none 4 m x5 v13).bind fun r14=>
 (binA .other .shr v11 (.int .u64 32)).bind fun v15=>
 (binA .other .add x26 (.int .i64 1)).bind fun v16=>
 L108_7 x1 r14.1 v15 x24 x25 v16 r14.2 K) (
 (convA .u32 v5).bind fun v17=>
 (buildSliceA none [v17]).bind fun v18=>
 (appA none false 116 none 4 m x5 v18).bind fun r19=>
 (binA .other .shr v5 (.int .u64 32)).bind fun v20=>
 (binA .other .add x26 (.int .i64 1)).bind fun v21=>
 L108_7 x1 r19.1 v20 x24 x25 v21 r19.2 K)) (
 K (.exit 0) (O108_7 x5 x6 m)):=
(loopW_eq (execW_lin _) _ _ _).trans (by kernel_rfl)
theorem K108_7_x0 (x5 x6:AV) (m:Mem):K108_7 (finK cfg.P f108.results.toList) (.exit 0) (O108_7 x5 x6 m) =
 (convA .u32 x6).bind fun v1=>
 (buildSliceA none [v1]).bind fun v2=>
 (appA none false 116 none 4 m x5 v2).bind fun r3=>
 (pcall (AP cfg) none r3.2 124 [r3.1]).bind fun r4=>
 some (r4.1,r4.2):=by kernel_rfl
def O109_7 (m:Mem):St:=⟨[.any,.any,.any,.any,.any,.any,.any,.any,.any,.any,.any,.any,.any,.any,.any,.any,.any,.any,.any,.any,.any,.any,.any,.any,.any,.any,.any,.any,.any,.any,.any,.any,.any,.any,.any,.any,.any,.any,.any,.any,.any,.any,.any,.any,.any,.any,.any,.any,.any],m⟩
def R109_7 (x4:AV) (m:Mem):St:=⟨[.any,.any,.any,.any,x4,.any,.any,.any,.any,.any,.any,.any,.any,.any,.any,.any,.any,.any,.any,.any,.any,.any,.any,.any,.any,.any,.any,.any,.any,.any,.any,.any,.any,.any,.any,.any,.any,.any,.any,.any,.any,.any,.any,.any,.any,.any,.any,.any,.any],m⟩
noncomputable def L109_7 (x0 x1 x5:AV) (m:Mem) (K:KT):OM:=loopW (execW cfg 109 (AP cfg) (AC cfg) (c1 (c1 (c2 (c1 (c2 (c2 (c2 (bodyOf f109))))))))) (cfg.mask 109 (some 7)) ⟨[x0,x1,.any,.any,.any,x5,.any,.any,.any,.any,.any,.any,.any,.any,.any,.any,.any,.any,.any,.any,.any,.any,.any,.any,.any,.any,.any,.any,.any,.any,.any,.any,.any,.any,.any,.any,.any,.any,.any,.any,.any,.any,.any,.any,.any,.any,.any,.any,.any],m⟩ K
noncomputable abbrev K109_7_0 (K:KT):KT:=seqK (fun st=>execW cfg 109 (AP cfg) (AC cfg) (c2 (c2 (c2 (c2 (bodyOf f109))))) st K) K
noncomputable abbrev K109_7_1 (K:KT):KT:=blockK 1 (K109_7_0 K)
noncomputable abbrev K109_7 (K:KT):KT:=(K109_7_1 K)
theorem T109 (a0 a1:AV) (m:Mem):AC cfg 109 [a0,a1] m =
 (pcall (AP cfg) none m 124 [a0]).bind fun r1=>
 (pcall (AP cfg) none r1.2 124 [a1]).bind fun r2=>
 (lenA false r1.1).bind fun v3=>
 (lenA false r2.1).bind fun v4=>
 (binA .other .lss v3 v4).bind fun v5=>
 ifA v5 (
 some ((.int .i64 (-1)),r2.2)) (
 (lenA false r1.1).bind fun v6=>
 (lenA false r2.1).bind fun v7=>
 (binA .other .gtr v6 v7).bind fun v8=>
 ifA v8 (
 some ((.int .i64 1),r2.2)) (
 (lenA false r1.1).bind fun v9=>
 (binA .other .sub v9 (.int .i64 1)).bind fun v10=>
 L109_7 r1.1 r2.1 v10 r2.2 (K109_7 (finK cfg.P f109.results.toList)))):=
(AC_eq cfg 109 [a0,a1] m (fn:=f109) (c:=bodyOf f109) at109 rfl).trans (by kernel_rfl)
theorem L109_7_eq (x0 x1 x5:AV) (m:Mem) (K:KT):L109_7 x0 x1 x5 m K =
 (binA .other .geq x5 (.int .i64 0)).bind fun v1=>
 ifA v1 (
 (indexAddrA none x0 x5).bind fun v2=>
 (loadA none m v2).bind fun v3=>
 (indexAddrA none x1 x5).bind fun v4=>
 (loadA none m v4).bind fun v5=>
 (binA .other .lss v3 v5).bind fun v6=>
 ifA v6 (
 K .ret (R109_7 (.int .i64 (-1)) m)) (
 (indexAddrA none x0 x5).bind fun v7=>
 (loadA none m v7).bind fun v8=>
 (indexAddrA none x1 x5).bind fun v9=>
 (loadA none m v9).bind fun v10=>
 (binA .other .gtr v8 v10).bind fun v11=>
 ifA v11 (
 K .ret (R109_7 (.int .i64 1) m)) (
 (binA .other .sub x5 (.int .i64 1)).bind fun v12=>
 L109_7 x0 x1 v12 m K))) (
 K (.exit 1) (O109_7 m)):=
(loopW_eq (execW_lin _) _ _ _).trans (by kernel_rfl)
theorem K109_7_x1 (m:Mem):K109_7 (finK cfg.P f109.results.toList) (.exit 1) (O109_7  m) =
 some ((.int .i64 0),m):=by kernel_rfl
theorem K109_7_ret (x4:AV) (m:Mem):K109_7 (finK cfg.P f109.results.toList) .ret (R109_7 x4 m) =
 some (x4,m):=by kernel_rfl
def O110_7 (x6:AV) (m:Mem):St:=⟨[.any,.any,.any,.any,.any,.any,x6,.any,.any,.any,.any,.any,.any,.any,.any,.any,.any,.any,.any,.any,.any,.any,.any,.any,.any,.any,.any,.any,.any,.any,.any,.any,.any,.any,.any,.any,.any,.any,.any,.any,.any,.any,.any,.any,.any,.any,.any,.any,.any,.any,.any,.any,.any,.any,.any,.any,.any,.any,.any],m⟩
noncomputable def L110_7 (x1 x6 x7 x22 x23 x24:AV) (m:Mem) (K:KT):OM:=loopW (execW cfg 110 (AP cfg) (AC cfg) (c1 (c1 (c2 (c1 (c2 (c2 (c2 (c2 (c2 (bodyOf f110))))))))))) (cfg.mask 110 (some 7)) ⟨[.any,x1,.any,.any,.any,.any,x6,x7,.any,.any,.any,.any,.any,.any,.any,.any,.any,.any,.any,.any,.any,.any,x22,x23,x24,.any,.any,.any,.any,.any,.any,.any,.any,.any,.any,.any,.any,.any,.any,.any,.any,.any,.any,.any,.any,.any,.any,.any,.any,.any,.any,.any,.any,.any,.any,.any,.any,.any,.any],m⟩ K
noncomputable abbrev K110_7_0 (K:KT):KT:=seqK (fun st=>execW cfg 110 (AP cfg) (AC cfg) (c2 (c2 (c2 (c2 (c2 (c2 (bodyOf f110))))))) st K) K
noncomputable abbrev K110_7_1 (K:KT):KT:=blockK 0 (K110_7_0 K)
noncomputable abbrev K110_7 (K:KT):KT:=(K110_7_1 K)
theorem T110 (a0 a1:AV) (m:Mem):AC cfg 110 [a0,a1] m =
 (pcall (AP cfg) none m 109 [a0,a1]).bind fun r1=>
 (binA .other .lss r1.1 (.int .i64 0)).bind fun v2=>
 ifA v2 (
 some ((.tup [(.lst none true .full []),(.int .i64 1)]),r1.2)) (
 (pcall (AP cfg) none r1.2 124 [a0]).bind fun r3=>
 (pcall (AP cfg) none r3.2 124 [a1]).bind fun r4=>
 (lenA false r3.1).bind fun v5=>
 (makeA none 116 none (.int .u32 0) 4 r4.2 v5 v5).bind fun r6=>
 (lenA false r3.1).bind fun v7=>
 L110_7 r4.1 r6.1 (.int .u64 0) r3.1 v7 (.int .i64 0) r6.2 (K110_7 (finK cfg.P f110.results.toList))):=
(AC_eq cfg 110 [a0,a1] m (fn:=f110) (c:=bodyOf f110) at110 rfl).trans (by kernel_rfl)
theorem L110_7_eq (x1 x6 x7 x22 x23 x24:AV) (m:Mem) (K:KT):L110_7 x1 x6 x7 x22 x23 x24 m K =
 (binA .other .lss x24 x23).bind fun v1=>
 ifA v1 (
 (indexAddrA none x22 x24).bind fun v2=>
 (loadA none m v2).bind fun v3=>
 (lenA false x1).bind fun v4=>
 (binA .other .lss x24 v4).bind fun v5=>
 ifA v5 (
 (indexAddrA none x1 x24).bind fun v6=>
 (loadA none m v6).bind fun v7=>
 (convA .u64 v7).bind fun v8=>
 (binA .other .add x7 v8).bind fun v9=>
 (convA .u64 v3).bind fun v10=>
 (binA .other .lss v10 v9).bind fun v11=>
 ifA v11 (
 (convA .u64 v3).bind fun v12=>
 (binA .other .shl (.int .u64 1) (.int .u64 32)).bind fun v13=>
 (binA .other .add v12 v13).bind fun v14=>
 (binA .other .sub v14 v9).bind fun v15=>
 (convA .u32 v15).bind fun v16=>
 (indexAddrA none x6 x24).bind fun v17=>
 (storeA none m v17 v16).bind fun m18=>
 (binA .other .add x24 (.int .i64 1)).bind fun v19=>
 L110_7 x1 x6 (.int .u64 1) x22 x23 v19 m18 K) (
 (convA .u64 v3).bind fun v20=>
 (binA .other .shl (.int .u64 0) (.int .u64 32)).bind fun v21=>
 (binA .other .add v20 v21).bind fun v22=>
 (binA .other .sub v22 v9).bind fun v23=>
 (convA .u32 v23).bind fun v24=>
 (indexAddrA none x6 x24).bind fun v25=>
 (storeA none m v25 v24).bind fun m26=>
 (binA .other .add x24 (.int .i64 1)).bind fun v27=>
 L110_7 x1 x6 (.int .u64 0) x22 x23 v27 m26 K)) (
 (convA .u64 v3).bind fun v28=>
 (binA .other .lss v28 x7).bind fun v29=>
 ifA v29 (
 (convA .u64 v3).bind fun v30=>
 (binA .other .shl (.int .u64 1) (.int .u64 32)).bind fun v31=>
 (binA .other .add v30 v31).bind fun v32=>
 (binA .other .sub v32 x7).bind fun v33=>
 (convA .u32 v33).bind fun v34=>
 (indexAddrA none x6 x24).bind fun v35=>
 (storeA none m v35 v34).bind fun m36=>
 (binA .other .add x24 (.int .i64 1)).bind fun v37=>
 L110_7 x1 x6 (.int .u64 1) x22 x23 v37 m36 K) (
 (convA .u64 v3).bind fun v38=>
 (binA .other .shl (.int .u64 0) (.int .u64 32)).bind fun v39=>
 (binA .other .add v38 v39).bind fun v40=>
 (binA .other .sub v40 x7).bind fun v41=>
 (convA .u32 v41).bind fun v42=>
 (indexAddrA none x6 x24).bind fun v43=>
 (storeA none m v43 v42).bind fun m44=>
 (binA .other .add x24 (.int .i64 1)).bind fun v45=>
 L110_7 x1 x6 (.int .u64 0) x22 x23 v45 m44 K))) (
 K (.exit 0) (O110_7 x6 m)):=
(loopW_eq (execW_lin _) _ _ _).trans (by kernel_rfl)
theorem K110_7_x0 (x6:AV) (m:Mem):K110_7 (finK cfg.P f110.results.toList) (.exit 0) (O110_7 x6 m) =
 (pcall (AP cfg) none m 124 [x6]).bind fun r1=>
 some ((.tup [r1.1,(.int .i64 0)]),r1.2):=by kernel_rfl
theorem T123 (a0:AV) (m:Mem):AC cfg 123 [a0] m =
 (binA .sl .eql a0 (.lst none true .full [])).bind fun v1=>
 ifA v1 (
 some ((.lst none true .full []),m)) (
 (buildSliceA none []).bind fun v2=>
 (appA none false 116 none 4 m v2 a0).bind fun r3=>
 some (r3.1,r3.2)):=
(AC_eq cfg 123 [a0] m (fn:=f123) (c:=bodyOf f123) at123 rfl).trans (by kernel_rfl)
def O124_2 (x0 x3:AV) (m:Mem):St:=⟨[x0,.any,.any,x3,.any,.any,.any,.any,.any,.any,.any,.any,.any,.any,.any,.any,.any,.any,.any,.any,.any],m⟩
noncomputable def L124_2 (x0 x3:AV) (m:Mem) (K:KT):OM:=loopW (execW cfg 124 (AP cfg) (AC cfg) (c1 (c1 (c1 (c2 (c2 (bodyOf f124))))))) (cfg.mask 124 (some 2)) ⟨[x0,.any,.any,x3,.any,.any,.any,.any,.any,.any,.any,.any,.any,.any,.any,.any,.any,.any,.any,.any,.any],m⟩ K
noncomputable abbrev K124_2_0 (K:KT):KT:=seqK (fun st=>execW cfg 124 (AP cfg) (AC cfg) (c2 (c2 (c2 (bodyOf f124)))) st K) K
noncomputable abbrev K124_2_1 (K:KT):KT:=blockK 0 (K124_2_0 K)
noncomputable abbrev K124_2 (K:KT):KT:=(K124_2_1 K)
theorem T124 (a0:AV) (m:Mem):AC cfg 124 [a0] m =
 (lenA false a0).bind fun v1=>
 L124_2 a0 v1 m (K124_2 (finK cfg.P f124.results.toList)):=
(AC_eq cfg 124 [a0] m (fn:=f124) (c:=bodyOf f124) at124 rfl).trans (by kernel_rfl)
theorem L124_2_eq (x0 x3:AV) (m:Mem) (K:KT):L124_2 x0 x3 m K =
 (binA .other .gtr x3 (.int .i64 0)).bind fun v1=>
 ifA v1 (
 (binA .other .sub x3 (.int .i64 1)).bind fun v2=>
 (indexAddrA none x0 v2).bind fun v3=>
 (loadA none m v3).bind fun v4=>
 (binA .other .eql v4 (.int .u32 0)).bind fun v5=>
 ifA v5 (
 (binA .other .sub x3 (.int .i64 1)).bind fun v6=>
 L124_2 x0 v6 m K) (
 K (.exit 0) (O124_2 x0 x3 m))) (
 K (.exit 0) (O124_2 x0 x3 m)):=
(loopW_eq (execW_lin _) _ _ _).trans (by kernel_rfl)
theorem K124_2_x0 (x0 x3:AV) (m:Mem):K124_2 (finK cfg.P f124.results.toList) (.exit 0) (O124_2 x0 x3 m) =
 (sliceT none x0 none (some x3) none).bind fun v1=>
 some (v1,m):=by kernel_rfl
def O125_14 (x9 x10 x12 x13:AV) (m:Mem):St:=⟨[.any,.any,.any,.any,.any,.any,.any,.any,.any,x9,x10,.any,x12,x13,.any,.any,.any,.any,.any,.any,.any,.any,.any,.any,.any,.any,.any,.any,.any,.any,.any,.any,.any,.any,.any,.any,.any,.any,.any,.any,.any,.any,.any,.any,.any,.any,.any,.any,.any,.any,.any,.any,.any,.any,.any,.any,.any,.any,.any,.any,.any,.any,.any,.any,.any,.any,.any,.any,.any,.any,.any,.any,.any,.any,.any,.any,.any,.any,.any,.any,.any,.any,.any,.any,.any,.any,.any,.any,.any,.any,.any,.any,.any,.any,.any,.any,.any,.any,.any,.any,.any,.any,.any,.any,.any,.any,.any,.any,.any,.any,.any,.any,.any,.any,.any,.any,.any,.any,.any,.any,.any,.any,.any,.any,.any,.any,.any,.any,.any,.any,.any,.any,.any,.any,.any,.any,.any,.any,.any,.any,.any,.any,.any,.any,.any,.any,.any,.any,.any,.any,.any,.any,.any,.any,.any,.any,.any,.any,.any,.any,.any,.any,.any,.any,.any,.any,.any,.any,.any,.any,.any,.any,.any,.any,.any,.any,.any,.any,.any,.any,.any,.any,.any,.any,.any,.any,.any,.any,.any,.any,.any,.any,.any,.any,.any,.any,.any,.any,.any,.any,.any,.any,.any,.any,.any,.any,.any,.any,.any,.any,.any,.any,.any,.any,.any,.any,.any,.any,.any,.any,.any,.any,.any,.any,.any,.any,.any,.any,.any,.any,.any,.any,.any,.any,.any,.any,.any,.any,.any,.any,.any,.any,.any,.any,.any,.any,.any,.any,.any,.any,.any,.any,.any,.any,.any,.any,.any,.any,.any,.any,.any,.any,.any,.any,.any,.any,.any,.any,.any,.any,.any,.any,.any,.any,.any,.any,.any,.any,.any,.any,.any,.any,.any,.any,.any,.any,.any,.any,.any,.any,.any,.any,.any,.any,.any,.any,.any,.any,.any,.any,.any,.any,.any,.any,.any,.any,.any,.any,.any,.any,.any,.any,.any,.any,.any],m⟩
noncomputable def L125_14 (x9 x10 x11 x12 x13 x14:AV) (m:Mem) (K:KT):OM:=loopW (execW cfg 125 (AP cfg) (AC cfg) (c1 (c1 (c2 (c1 (c2 (c2 (c2 (c2 (c2 (c2 (c2 (bodyOf f125))))))))))))) (cfg.mask 125 (some 14)) ⟨[.any,.any,.any,.any,.any,.any,.any,.any,.any,x9,x10,x11,x12,x13,x14,.any,.any,.any,.any,.any,.any,.any,.any,.any,.any,.any,.any,.any,.any,.any,.any,.any,.any,.any,.any,.any,.any,.any,.any,.any,.any,.any,.any,.any,.any,.any,.any,.any,.any,.any,.any,.any,.any,.any,.any,.any,.any,.any,.any,.any,.any,.any,.any,.any,.any,.any,.any,.any,.any,.any,.any,.any,.any,.any,.any,.any,.any,.any,.any,.any,.any,.any,.any,.any,.any,.any,.any,.any,.any,.any,.any,.any,.any,.any,.any,.any,.any,.any,.any,.any,.any,.any,.any,.any,.any,.any,.any,.any,.any,.any,.any,.any,.any,.any,.any,.any,.any,.any,.any,.any,.any,.any,.any,.any,.any,.any,.any,.any,.any,.any,.any,.any,.any,.any,.any,.any,.any,.any,.any,.any,.any,.any,.any,.any,.any,.any,.any,.any,.any,.any,.any,.any,.any,.any,.any,.any,.any,.any,.any,.any,.any,.any,.any,.any,.any,.any,.any,.any,.any,.any,.any,.any,.any,.any,.any,.any,.any,.any,.any,.any,.any,.any,.any,.any,.any,.any,.any,.any,.any,.any,.any,.any,.any,.any,.any,.any,.any,.any,.any,.any,.any,.any,.any,.any,.any,.any,.any,.any,.any,.any,.any,.any,.any,.any,.any,.any,.any,.any,.any,.any,.any,.any,.any,.any,.any,.any,.any,.any,.any,.any,.any,.any,.any,.any,.any,.any,.any,.any,.any,.any,.any,.any,.any,.any,.any,.any,.any,.any,.any,.any,.any,.any,.any,.any,.any,.any,.any,.any,.any,.any,.any,.any,.any,.any,.any,.any,.any,.any,.any,.any,.any,.any,.any,.any,.any,.any,.any,.any,.any,.any,.any,.any,.any,.any,.any,.any,.any,.any,.any,.any,.any,.any,.any,.any,.any,.any,.any,.any,.any,.any,.any,.any,.any,.any,.any,.any,.any,.any,.any,.any,.any,.any,.any,.any,.any],m⟩ K
def O125_18 (x9 x10 x11 x12 x13 x14 x16:AV) (m:Mem):St:=⟨[.any,.any,.any,.any,.any,.any,.any,.any,.any,x9,x10,x11,x12,x13,x14,.any,x16,.any,.any,.any,.any,.any,.any,.any,.any,.any,.any,.any,.any,.any,.any,.any,.any,.any,.any,.any,.any,.any,.any,.any,.any,.any,.any,.any,.any,.any,.any,.any,.any,.any,.any,.any,.any,.any,.any,.any,.any,.any,.any,.any,.any,.any,.any,.any,.any,.any,.any,.any,.any,.any,.any,.any,.any,.any,.any,.any,.any,.any,.any,.any,.any,.any,.any,.any,.any,.any,.any,.any,.any,.any,.any,.any,.any,.any,.any,.any,.any,.any,.any,.any,.any,.any,.any,.any,.any,.any,.any,.any,.any,.any,.any,.any,.any,.any,.any,.any,.any,.any,.any,.any,.any,.any,.any,.any,.any,.any,.any,.any,.any,.any,.any,.any,.any,.any,.any,.any,.any,.any,.any,.any,.any,.any,.any,.any,.any,.any,.any,.any,.any,.any,.any,.any,.any,.any,.any,.any,.any,.any,.any,.any,.any,.any,.any,.any,.any,.any,.any,.any,.any,.any,.any,.any,.any,.any,.any,.any,.any,.any,.any,.any,.any,.any,.any,.any,.any,.any,.any,.any,.any,.any,.any,.any,.any,.any,.any,.any,.any,.any,.any,.any,.any,.any,.any,.any,.any,.any,.any,.any,.any,.any,.any,.any,.any,.any,.any,.any,.any,.any,.any,.any,.any,.any,.any,.any,.any,.any,.any,.any,.any,.any,.any,.any,.any,.any,.any,.any,.any,.any,.any,.any,.any,.any,.any,.any,.any,.any,.any,.any,.any,.any,.any,.any,.any,.any,.any,.any,.any,.any,.any,.any,.any,.any,.any,.any,.any,.any,.any,.any,.any,.any,.any,.any,.any,.any,.any,.any,.any,.any,.any,.any,.any,.any,.any,.any,.any,.any,.any,.any,.any,.any,.any,.any,.any,.any,.any,.any,.any,.any,.any,.any,.any,.any,.any,.any,.any,.any,.any,.any,.any,.any,.any,.any,.any,.any,.any],m⟩
noncomputable def L125_18 (x9 x10 x11 x12 x13 x14 x16 x17:AV) (m:Mem) (K:KT):OM:=loopW (execW cfg 125 (AP cfg) (AC cfg) (c1 (c1 (c1 (c2 (c2 (c1 (c1 (c2 (c1 (c1 (c2 (c1 (c2 (c2 (c2 (c2 (c2 (c2 (c2 (bodyOf f125))))))))))))))))))))) (cfg.mask 125 (some 18)) ⟨[.any,.any,.any,.any,.any,.any,.any,.any,.any,x9,x10,x11,x12,x13,x14,.any,x16,x17,.any,.any,.any,.any,.any,.any,.any,.any,.any,.any,.any,.any,.any,.any,.any,.any,.any,.any,.any,.any,.any,.any,.any,.any,.any,.any,.any,.any,.any,.any,.any,.any,.any,.any,.any,.any,.any,.any,.any,.any,.any,.any,.any,.any,.any,.any,.any,.any,.any,.any,.any,.any,.any,.any,.any,.any,.any,.any,.any,.any,.any,.any,.any,.any,.any,.any,.any,.any,.any,.any,.any,.any,.any,.any,.any,.any,.any,.any,.any,.any,.any,.any,.any,.any,.any,.any,.any,.any,.any,.any,.any,.any,.any,.any,.any,.any,.any,.any,.any,.any,.any,.any,.any,.any,.any,.any,.any,.any,.any,.any,.any,.any,.any,.any,.any,.any,.any,.any,.any,.any,.any,.any,.any,.any,.any,.any,.any,.any,.any,.any,.any,.any,.any,.any,.any,.any,.any,.any,.any,.any,.any,.any,.any,.any,.any,.any,.any,.any,.any,.any,.any,.any,.any,.any,.any,.any,.any,.any,.any,.any,.any,.any,.any,.any,.any,.any,.any,.any,.any,.any,.any,.any,.any,.any,.any,.any,.any,.any,.any,.any,.any,.any,.any,.any,.any,.any,.any,.any,.any,.any,.any,.any,.any,.any,.any,.any,.any,.any,.any,.any,.any,.any,.any,.any,.any,.any,.any,.any,.any,.any,.any,.any,.any,.any,.any,.any,.any,.any,.any,.any,.any,.any,.any,.any,.any,.any,.any,.any,.any,.any,.any,.any,.any,.any,.any,.any,.any,.any,.any,.any,.any,.any,.any,.any,.any,.any,.any,.any,.any,.any,.any,.any,.any,.any,.any,.any,.any,.any,.any,.any,.any,.any,.any,.any,.any,.any,.any,.any,.any,.any,.any,.any,.any,.any,.any,.any,.any,.any,.any,.any,.any,.any,.any,.any,.any,.any,.any,.any,.any,.any,.any,.any,.any,.any,.any,.any,.any],m⟩ K
def O125_24 (x9 x10 x11 x12 x13 x14 x16 x18 x19:AV) (m:Mem):St:=⟨[.any,.any,.any,.any,.any,.any,.any,.any,.any,x9,x10,x11,x12,x13,x14,.any,x16,.any,x18,x19,.any,.any,.any,.any,.any,.any,.any,.any,.any,.any,.any,.any,.any,.any,.any,.any,.any,.any,.any,.any,.any,.any,.any,.any,.any,.any,.any,.any,.any,.any,.any,.any,.any,.any,.any,.any,.any,.any,.any,.any,.any,.any,.any,.any,.any,.any,.any,.any,.any,.any,.any,.any,.any,.any,.any,.any,.any,.any,.any,.any,.any,.any,.any,.any,.any,.any,.any,.any,.any,.any,.any,.any,.any,.any,.any,.any,.any,.any,.any,.any,.any,.any,.any,.any,.any,.any,.any,.any,.any,.any,.any,.any,.any,.any,.any,.any,.any,.any,.any,.any,.any,.any,.any,.any,.any,.any,.any,.any,.any,.any,.any,.any,.any,.any,.any,.any,.any,.any,.any,.any,.any,.any,.any,.any,.any,.any,.any,.any,.any,.any,.any,.any,.any,.any,.any,.any,.any,.any,.any,.any,.any,.any,.any,.any,.any,.any,.any,.any,.any,.any,.any,.any,.any,.any,.any,.any,.any,.any,.any,.any,.any,.any,.any,.any,.any,.any,.any,.any,.any,.any,.any,.any,.any,.any,.any,.any,.any,.any,.any,.any,.any,.any,.any,.any,.any,.any,.any,.any,.any,.any,.any,.any,.any,.any,.any,.any,.any,.any,.any,.any,.any,.any,.any,.any,.any,.any,.any,.any,.any,.any,.any,.any,.any,.any,.any,.any,.any,.any,.any,.any,.any,.any,.any,.any,.any,.any,.any,.any,.any,.any,.any,.any,.any,.any,.any,.any,.any,.any,.any,.any,.any,.any,.any,.any,.any,.any,.any,.any,.any,.any,.any,.any,.any,.any,.any,.any,.any,.any,.any,.any,.any,.any,.any,.any,.any,.any,.any,.any,.any,.any,.any,.any,.any,.any,.any,.any,.any,.any,.any,.any,.any,.any,.any,.any,.any,.any,.any,.any,.any,.any,.any,.any,.any,.any,.any],m⟩
noncomputable def L125_24 (x9 x10 x11 x12 x13 x14 x16 x18 x19 x158 x159:AV) (m:Mem) (K:KT):OM:=loopW (execW cfg 125 (AP cfg) (AC cfg) (c1 (c1 (c2 (c1 (c2 (c2 (c2 (c2 (c1 (c1 (c2 (c1 (c1 (c2 (c1 (c2 (c2 (c2 (c2 (c2 (c2 (c2 (bodyOf f125)))))))))))))))))))))))) (cfg.mask 125 (some 24)) ⟨[.any,.any,.any,.any,.any,.any,.any,.any,.any,x9,x10,x11,x12,x13,x14,.any,x16,.any,x18,x19,.any,.any,.any,.any,.any,.any,.any,.any,.any,.any,.any,.any,.any,.any,.any,.any,.any,.any,.any,.any,.any,.any,.any,.any,.any,.any,.any,.any,.any,.any,.any,.any,.any,.any,.any,.any,.any,.any,.any,.any,.any,.any,.any,.any,.any,.any,.any,.any,.any,.any,.any,.any,.any,.any,.any,.any,.any,.any,.any,.any,.any,.any,.any,.any,.any,.any,.any,.any,.any,.any,.any,.any,.any,.any,.any,.any,.any,.any,.any,.any,.any,.any,.any,.any,.any,.any,.any,.any,.any,.any,.any,.any,.any,.any,.any,.any,.any,.any,.any,.any,.any,.any,.any,.any,.any,.any,.any,.any,.any,.any,.any,.any,.any,.any,.any,.any,.any,.any,.any,.any,.any,.any,.any,.any,.any,.any,.any,.any,.any,.any,.any,.any,.any,.any,.any,.any,.any,.any,x158,x159,.any,.any,.any,.any,.any,.any,.any,.any,.any,.any,.any,.any,.any,.any,.any,.any,.any,.any,.any,.any,.any,.any,.any,.any,.any,.any,.any,.any,.any,.any,.any,.any,.any,.any,.any,.any,.any,.any,.any,.any,.any,.any,.any,.any,.any,.any,.any,.any,.any,.any,.any,.any,.any,.any,.any,.any,.any,.any,.any,.any,.any,.any,.any,.any,.any,.any,.any,.any,.any,.any,.any,.any,.any,.any,.any,.any,.any,.any,.any,.any,.any,.any,.any,.any,.any,.any,.any,.any,.any,.any,.any,.any,.any,.any,.any,.any,.any,.any,.any,.any,.any,.any,.any,.any,.any,.any,.any,.any,.any,.any,.any,.any,.any,.any,.any,.any,.any,.any,.any,.any,.any,.any,.any,.any,.any,.any,.any,.any,.any,.any,.any,.any,.any,.any,.any,.any,.any,.any,.any,.any,.any,.any,.any,.any,.any,.any,.any,.any,.any,.any,.any,.any,.any,.any,.any],m⟩ K
def O125_41 (x9 x10 x11 x12 x13 x14 x16 x19:AV) (m:Mem):St:=⟨[.any,.any,.any,.any,.any,.any,.any,.any,.any,x9,x10,x11,x12,x13,x14,.any,x16,.any,.any,x19,.any,.any,.any,.any,.any,.any,.any,.any,.any,.any,.any,.any,.any,.any,.any,.any,.any,.any,.any,.any,.any,.any,.any,.any,.any,.any,.any,.any,.any,.any,.any,.any,.any,.any,.any,.any,.any,.any,.any,.any,.any,.any,.any,.any,.any,.any,.any,.any,.any,.any,.any,.any,.any,.any,.any,.any,.any,.any,.any,.any,.any,.any,.any,.any,.any,.any,.any,.any,.any,.any,.any,.any,.any,.any,.any,.any,.any,.any,.any,.any,.any,.any,.any,.any,.any,.any,.any,.any,.any,.any,.any,.any,.any,.any,.any,.any,.any,.any,.any,.any,.any,.any,.any,.any,.any,.any,.any,.any,.any,.any,.any,.any,.any,.any,.any,.any,.any,.any,.any,.any,.any,.any,.any,.any,.any,.any,.any,.any,.any,.any,.any,.any,.any,.any,.any,.any,.any,.any,.any,.any,.any,.any,.any,.any,.any,.any,.any,.any,.any,.any,.any,.any,.any,.any,.any,.any,.any,.any,.any,.any,.any,.any,.any,.any,.any,.any,.any,.any,.any,.any,.any,.any,.any,.any,.any,.any,.any,.any,.any,.any,.any,.any,.any,.any,.any,.any,.any,.any,.any,.any,.any,.any,.any,.any,.any,.any,.any,.any,.any,.any,.any,.any,.any,.any,.any,.any,.any,.any,.any,.any,.any,.any,.any,.any,.any,.any,.any,.any,.any,.any,.any,.any,.any,.any,.any,.any,.any,.any,.any,.any,.any,.any,.any,.any,.any,.any,.any,.any,.any,.any,.any,.any,.any,.any,.any,.any,.any,.any,.any,.any,.any,.any,.any,.any,.any,.any,.any,.any,.any,.any,.any,.any,.any,.any,.any,.any,.any,.any,.any,.any,.any,.any,.any,.any,.any,.any,.any,.any,.any,.any,.any,.any,.any,.any,.any,.any,.any,.any,.any,.any,.any,.any,.any,.any,.any],m⟩
noncomputable def L125_41 (x9 x10 x11 x12 x13 x14 x16 x19 x235 x236:AV) (m:Mem) (K:KT):OM:=loopW (execW cfg 125 (AP cfg) (AC cfg) (c1 (c1 (c2 (c1 (c2 (c2 (c1 (c2 (c1 (c2 (c2 (c2 (c2 (c2 (c2 (c2 (c2 (c1 (c1 (c2 (c1 (c1 (c2 (c1 (c2 (c2 (c2 (c2 (c2 (c2 (c2 (bodyOf f125))))))))))))))))))))))))))))))))) (cfg.mask 125 (some 41)) ⟨[.any,.any,.any,.any,.any,.any,.any,.any,.any,x9,x10,x11,x12,x13,x14,.any,x16,.any,.any,x19,.any,.any,.any,.any,.any,.any,.any,.any,.any,.any,.any,.any,.any,.any,.any,.any,.any,.any,.any,.any,.any,.any,.any,.any,.any,.any,.any,.any,.any,.any,.any,.any,.any,.any,.any,.any,.any,.any,.any,.any,.any,.any,.any,.any,.any,.any,.any,.any,.any,.any,.any,.any,.any,.any,.any,.any,.any,.any,.any,.any,.any,.any,.any,.any,.any,.any,.any,.any,.any,.any,.any,.any,.any,.any,.any,.any,.any,.any,.any,.any,.any,.any,.any,.any,.any,.any,.any,.any,.any,.any,.any,.any,.any,.any,.any,.any,.any,.any,.any,.any,.any,.any,.any,.any,.any,.any,.any,.any,.any,.any,.any,.any,.any,.any,.any,.any,.any,.any,.any,.any,.any,.any,.any,.any,.any,.any,.any,.any,.any,.any,.any,.any,.any,.any,.any,.any,.any,.any,.any,.any,.any,.any,.any,.any,.any,.any,.any,.any,.any,.any,.any,.any,.any,.any,.any,.any,.any,.any,.any,.any,.any,.any,.any,.any,.any,.any,.any,.any,.any,.any,.any,.any,.any,.any,.any,.any,.any,.any,.any,.any,.any,.any,.any,.any,.any,.any,.any,.any,.any,.any,.any,.any,.any,.any,.any,.any,.any,.any,.any,.any,.any,.any,.any,.any,.any,.any,.any,.any,.any,.any,.any,.any,.any,.any,.any,x235,x236,.any,.any,.any,.any,.any,.any,.any,.any,.any,.any,.any,.any,.any,.any,.any,.any,.any,.any,.any,.any,.any,.any,.any,.any,.any,.any,.any,.any,.any,.any,.any,.any,.any,.any,.any,.any,.any,.any,.any,.any,.any,.any,.any,.any,.any,.any,.any,.any,.any,.any,.any,.any,.any,.any,.any,.any,.any,.any,.any,.any,.any,.any,.any,.any,.any,.any,.any,.any,.any,.any,.any,.any,.any,.any,.any,.any,.any,.any],m⟩ K
def O125_51 (x13 x25:AV) (m:Mem):St:=⟨[.any,.any,.any,.any,.any,.any,.any,.any,.any,.any,.any,.any,.any,x13,.any,.any,.any,.any,.any,.any,.any,.any,.any,.any,.any,x25,.any,.any,.any,.any,.any,.any,.any,.any,.any,.any,.any,.any,.any,.any,.any,.any,.any,.any,.any,.any,.any,.any,.any,.any,.any,.any,.any,.any,.any,.any,.any,.any,.any,.any,.any,.any,.any,.any,.any,.any,.any,.any,.any,.any,.any,.any,.any,.any,.any,.any,.any,.any,.any,.any,.any,.any,.any,.any,.any,.any,.any,.any,.any,.any,.any,.any,.any,.any,.any,.any,.any,.any,.any,.any,.any,.any,.any,.any,.any,.any,.any,.any,.any,.any,.any,.any,.any,.any,.any,.any,.any,.any,.any,.any,.any,.any,.any,.any,.any,.any,.any,.any,.any,.any,.any,.any,.any,.any,.any,.any,.any,.any,.any,.any,.any,.any,.any,.any,.any,.any,.any,.any,.any,.any,.any,.any,.any,.any,.any,.any,.any,.any,.any,.any,.any,.any,.any,.any,.any,.any,.any,.any,.any,.any,.any,.any,.any,.any,.any,.any,.any,.any,.any,.any,.any,.any,.any,.any,.any,.any,.any,.any,.any,.any,.any,.any,.any,.any,.any,.any,.any,.any,.any,.any,.any,.any,.any,.any,.any,.any,.any,.any,.any,.any,.any,.any,.any,.any,.any,.any,.any,.any,.any,.any,.any,.any,.any,.any,.any,.any,.any,.any,.any,.any,.any,.any,.any,.any,.any,.any,.any,.any,.any,.any,.any,.any,.any,.any,.any,.any,.any,.any,.any,.any,.any,.any,.any,.any,.any,.any,.any,.any,.any,.any,.any,.any,.any,.any,.any,.any,.any,.any,.any,.any,.any,.any,.any,.any,.any,.any,.any,.any,.any,.any,.any,.any,.any,.any,.any,.any,.any,.any,.any,.any,.any,.any,.any,.any,.any,.any,.any,.any,.any,.any,.any,.any,.any,.any,.any,.any,.any,.any,.any,.any,.any,.any,.any,.any,.any],m⟩
noncomputable def L125_51 (x9 x10 x13 x25 x281 x282:AV) (m:Mem) (K:KT):OM:=loopW (execW cfg 125 (AP cfg) (AC cfg) (c1 (c1 (c2 (c1 (c2 (c2 (c2 (c2 (c2 (c2 (c2 (c2 (c2 (bodyOf f125))))))))))))))) (cfg.mask 125 (some 51)) ⟨[.any,.any,.any,.any,.any,.any,.any,.any,.any,x9,x10,.any,.any,x13,.any,.any,.any,.any,.any,.any,.any,.any,.any,.any,.any,x25,.any,.any,.any,.any,.any,.any,.any,.any,.any,.any,.any,.any,.any,.any,.any,.any,.any,.any,.any,.any,.any,.any,.any,.any,.any,.any,.any,.any,.any,.any,.any,.any,.any,.any,.any,.any,.any,.any,.any,.any,.any,.any,.any,.any,.any,.any,.any,.any,.any,.any,.any,.any,.any,.any,.any,.any,.any,.any,.any,.any,.any,.any,.any,.any,.any,.any,.any,.any,.any,.any,.any,.any,.any,.any,.any,.any,.any,.any,.any,.any,.any,.any,.any,.any,.any,.any,.any,.any,.any,.any,.any,.any,.any,.any,.any,.any,.any,.any,.any,.any,.any,.any,.any,.any,.any,.any,.any,.any,.any,.any,.any,.any,.any,.any,.any,.any,.any,.any,.any,.any,.any,.any,.any,.any,.any,.any,.any,.any,.any,.any,.any,.any,.any,.any,.any,.any,.any,.any,.any,.any,.any,.any,.any,.any,.any,.any,.any,.any,.any,.any,.any,.any,.any,.any,.any,.any,.any,.any,.any,.any,.any,.any,.any,.any,.any,.any,.any,.any,.any,.any,.any,.any,.any,.any,.any,.any,.any,.any,.any,.any,.any,.any,.any,.any,.any,.any,.any,.any,.any,.any,.any,.any,.any,.any,.any,.any,.any,.any,.any,.any,.any,.any,.any,.any,.any,.any,.any,.any,.any,.any,.any,.any,.any,.any,.any,.any,.any,.any,.any,.any,.any,.any,.any,.any,.any,.any,.any,.any,.any,.any,.any,.any,.any,.any,.any,.any,.any,.any,.any,.any,.any,.any,.any,.any,.any,.any,.any,.any,.any,.any,.any,.any,.any,.any,.any,x281,x282,.any,.any,.any,.any,.any,.any,.any,.any,.any,.any,.any,.any,.any,.any,.any,.any,.any,.any,.any,.any,.any,.any,.any,.any,.any,.any,.any,.any,.any,.any,.any,.any],m⟩ K
noncomputable abbrev K125_14_0 (K:KT):KT:=seqK (fun st=>execW cfg 125 (AP cfg) (AC cfg) (c2 (c2 (c2 (c2 (c2 (c2 (c2 (c2 (bodyOf f125))))))))) st K) K
noncomputable abbrev K125_14_1 (K:KT):KT:=blockK 1 (K125_14_0 K)
noncomputable abbrev K125_14 (K:KT):KT:=(K125_14_1 K)
noncomputable abbrev K125_18_0 (K:KT):KT:=seqK (fun st=>execW cfg 125 (AP cfg) (AC cfg) (c2 (c2 (c1 (c1 (c2 (c1 (c2 (c2 (c2 (c2 (c2 (c2 (c2 (bodyOf f125)))))))))))))) st (roundG (fun st=>loopW (execW cfg 125 (AP cfg) (AC cfg) (c1 (c1 (c2 (c1 (c2 (c2 (c2 (c2 (c2 (c2 (c2 (bodyOf f125))))))))))))) (cfg.mask 125 (some 14)) st K) (cfg.mask 125 (some 14)) K)) (roundG (fun st=>loopW (execW cfg 125 (AP cfg) (AC cfg) (c1 (c1 (c2 (c1 (c2 (c2 (c2 (c2 (c2 (c2 (c2 (bodyOf f125))))))))))))) (cfg.mask 125 (some 14)) st K) (cfg.mask 125 (some 14)) K)
noncomputable abbrev K125_18_1 (K:KT):KT:=blockK 2 (K125_18_0 K)
noncomputable abbrev K125_18_2 (K:KT):KT:=seqK (fun st=>execW cfg 125 (AP cfg) (AC cfg) (c2 (c2 (c2 (c1 (c1 (c2 (c1 (c1 (c2 (c1 (c2 (c2 (c2 (c2 (c2 (c2 (c2 (bodyOf f125)))))))))))))))))) st (K125_18_1 K)) (K125_18_1 K)
noncomputable abbrev K125_18_3 (K:KT):KT:=blockK 3 (K125_18_2 K)
noncomputable abbrev K125_18 (K:KT):KT:=(K125_18_3 K)
noncomputable abbrev K125_51_0 (K:KT):KT:=seqK (fun st=>execW cfg 125 (AP cfg) (AC cfg) (c2 (c2 (c2 (c2 (c2 (c2 (c2 (c2 (c2 (c2 (bodyOf f125))))))))))) st K) K
noncomputable abbrev K125_51_1 (K:KT):KT:=blockK 9 (K125_51_0 K)
noncomputable abbrev K125_51 (K:KT):KT:=(K125_51_1 K)
noncomputable abbrev K125_24_0 (K:KT):KT:=seqK (fun st=>execW cfg 125 (AP cfg) (AC cfg) (c2 (c2 (c1 (c1 (c2 (c1 (c2 (c2 (c2 (c2 (c2 (c2 (c2 (bodyOf f125)))))))))))))) st (roundG (fun st=>loopW (execW cfg 125 (AP cfg) (AC cfg) (c1 (c1 (c2 (c1 (c2 (c2 (c2 (c2 (c2 (c2 (c2 (bodyOf f125))))))))))))) (cfg.mask 125 (some 14)) st K) (cfg.mask 125 (some 14)) K)) (roundG (fun st=>loopW (execW cfg 125 (AP cfg) (AC cfg) (c1 (c1 (c2 (c1 (c2 (c2 (c2 (c2 (c2 (c2 (c2 (bodyOf f125))))))))))))) (cfg.mask 125 (some 14)) st K) (cfg.mask 125 (some 14)) K)
noncomputable abbrev K125_24_1 (K:KT):KT:=blockK 2 (K125_24_0 K)
noncomputable abbrev K125_24_2 (K:KT):KT:=seqK (fun st=>execW cfg 125 (AP cfg) (AC cfg) (c2 (c2 (c2 (c2 (c2 (c1 (c1 (c2 (c1 (c1 (c2 (c1 (c2 (c2 (c2 (c2 (c2 (c2 (c2 (bodyOf f125)))))))))))))))))))) st (K125_24_1 K)) (K125_24_1 K)
noncomputable abbrev K125_24_3 (K:KT):KT:=blockK 5 (K125_24_2 K)
noncomputable abbrev K125_24 (K:KT):KT:=(K125_24_3 K)
noncomputable abbrev K125_41_0 (K:KT):KT:=seqK (fun st=>execW cfg 125 (AP cfg) (AC cfg) (c2 (c2 (c1 (c1 (c2 (c1 (c2 (c2 (c2 (c2 (c2 (c2 (c2 (bodyOf f125)))))))))))))) st (roundG (fun st=>loopW (execW cfg 125 (AP cfg) (AC cfg) (c1 (c1 (c2 (c1 (c2 (c2 (c2 (c2 (c2 (c2 (c2 (bodyOf f125))))))))))))) (cfg.mask 125 (some 14)) st K) (cfg.mask 125 (some 14)) K)) (roundG (fun st=>loopW (execW cfg 125 (AP cfg) (AC cfg) (c1 (c1 (c2 (c1 (c2 (c2 (c2 (c2 (c2 (c2 (c2 (bodyOf f125))))))))))))) (cfg.mask 125 (some 14)) st K) (cfg.mask 125 (some 14)) K)
noncomputable abbrev K125_41_1 (K:KT):KT:=blockK 2 (K125_41_0 K)
noncomputable abbrev K125_41_2 (K:KT):KT:=seqK (fun st=>execW cfg 125 (AP cfg) (AC cfg) (c2 (c2 (c2 (c2 (c2 (c2 (c2 (c2 (c2 (c1 (c1 (c2 (c1 (c1 (c2 (c1 (c2 (c2 (c2 (c2 (c2 (c2 (c2 (bodyOf f125)))))))))))))))))))))))) st (K125_41_1 K)) (K125_41_1 K)
noncomputable abbrev K125_41_3 (K:KT):KT:=seqK (fun st=>execW cfg 125 (AP cfg) (AC cfg) (c2 (c2 (c2 (c1 (c2 (c1 (c2 (c2 (c2 (c2 (c2 (c2 (c2 (c2 (c1 (c1 (c2 (c1 (c1 (c2 (c1 (c2 (c2 (c2 (c2 (c2 (c2 (c2 (bodyOf f125))))))))))))))))))))))))))))) st (K125_41_2 K)) (K125_41_2 K)
noncomputable abbrev K125_41_4 (K:KT):KT:=blockK 7 (K125_41_3 K)
noncomputable abbrev K125_41 (K:KT):KT:=(K125_41_4 K)
theorem T125 (a0 a1:AV) (m:Mem):AC cfg 125 [a0,a1] m =
 (pcall (AP cfg) none m 124 [a0]).bind fun r1=>
 (pcall (AP cfg) none r1.2 124 [a1]).bind fun r2=>
 (lenA false r2.1).bind fun v3=>
 (binA .other .eql v3 (.int .i64 0)).bind fun v4=>
 ifA v4 (
 some ((.tup [(.lst none true .full []),(.lst none true .full []),(.int .i64 31)]),r2.2)) (
 (pcall (AP cfg) none r2.2 109 [r1.1,r2.1]).bind fun r5=>
 (binA .other .lss r5.1 (.int .i64 0)).bind fun v6=>
 ifA v6 (
 (pcall (AP cfg) none r5.2 123 [r1.1]).bind fun r7=>
 some ((.tup [(.lst none true .full []),r7.1,(.int .i64 0)]),r7.2)) (
 (lenA false r2.1).bind fun v8=>
 (binA .other .eql v8 (.int .i64 1)).bind fun v9=>
 ifA v9 (
 (indexAddrA none r2.1 (.int .i64 0)).bind fun v10=>
 (loadA none r5.2 v10).bind fun v11=>
 (pcall (AP cfg) none r5.2 136 [r1.1,v11]).bind fun r12=>
 (extractA r12.1 0).bind fun v13=>
 (extractA r12.1 1).bind fun v14=>
 (convA .u64 v14).bind fun v15=>
 (pcall (AP cfg) none r12.2 93 [v15]).bind fun r16=>
 some ((.tup [v13,r16.1,(.int .i64 0)]),r16.2)) (
 (lenA false r2.1).bind fun v17=>
 (binA .other .sub v17 (.int .i64 1)).bind fun v18=>
 (indexAddrA none r2.1 v18).bind fun v19=>
 (loadA none r5.2 v19).bind fun v20=>
 (pcall (AP cfg) none r5.2 137 [v20]).bind fun r21=>
 (convA .u64 r21.1).bind fun v22=>
 (AC cfg 138 [r1.1,v22] r21.2).bind fun r23=>
 (AC cfg 138 [r2.1,v22] r23.2).bind fun r24=>
 (pcall (AP cfg) none r24.2 124 [r24.1]).bind fun r25=>
 (lenA false r25.1).bind fun v26=>
 (lenA false r23.1).bind fun v27=>
 (binA .other .sub v27 v26).bind fun v28=>
 (makeA none 116 none (.int .u32 0) 4 r25.2 v28 v28).bind fun r29=>
 (lenA false r23.1).bind fun v30=>
 (binA .other .sub v30 v26).bind fun v31=>
 (binA .other .sub v31 (.int .i64 1)).bind fun v32=>
 L125_14 v22 r23.1 r25.1 v26 r29.1 v32 r29.2 (K125_14 (finK cfg.P f125.results.toList))))):=
(AC_eq cfg 125 [a0,a1] m (fn:=f125) (c:=bodyOf f125) at125 rfl).trans (by kernel_rfl)
theorem L125_14_eq (x9 x10 x11 x12 x13 x14:AV) (m:Mem) (K:KT):L125_14 x9 x10 x11 x12 x13 x14 m K =
 (binA .other .geq x14 (.int .i64 0)).bind fun v1=>
 ifA v1 (
 (binA .other .add x14 x12).bind fun v2=>
 (indexAddrA none x10 v2).bind fun v3=>
 (loadA none m v3).bind fun v4=>
 (convA .u64 v4).bind fun v5=>
 (binA .other .shl v5 (.int .u64 32)).bind fun v6=>
 (binA .other .add x14 x12).bind fun v7=>
 (binA .other .sub v7 (.int .i64 1)).bind fun v8=>
 (indexAddrA none x10 v8).bind fun v9=>
 (loadA none m v9).bind fun v10=>
 (convA .u64 v10).bind fun v11=>
 (binA .other .or v6 v11).bind fun v12=>
 (binA .other .sub x12 (.int .i64 1)).bind fun v13=>
 (indexAddrA none x11 v13).bind fun v14=>
 (loadA none m v14).bind fun v15=>
 (convA .u64 v15).bind fun v16=>
 (binA .other .quo v12 v16).bind fun v17=>
 (binA .other .sub x12 (.int .i64 1)).bind fun v18=>
 (indexAddrA none x11 v18).bind fun v19=>
 (loadA none m v19).bind fun v20=>
 (convA .u64 v20).bind fun v21=>
 (binA .other .rem v12 v21).bind fun v22=>
 L125_18 x9 x10 x11 x12 x13 x14 v17 v22 m (K125_18 K)) (
 K (.exit 1) (O125_14 x9 x10 x12 x13 m)):=
(loopW_eq (execW_lin _) _ _ _).trans (by kernel_rfl)
theorem L125_18_eq (x9 x10 x11 x12 x13 x14 x16 x17:AV) (m:Mem) (K:KT):L125_18 x9 x10 x11 x12 x13 x14 x16 x17 m K =
 (binA .other .geq x16 (.int .u64 4294967296)).bind fun v1=>
 ifA v1 (
 (binA .other .sub x16 (.int .u64 1)).bind fun v2=>
 (binA .other .sub x12 (.int .i64 1)).bind fun v3=>
 (indexAddrA none x11 v3).bind fun v4=>
 (loadA none m v4).bind fun v5=>
 (convA .u64 v5).bind fun v6=>
 (binA .other .add x17 v6).bind fun v7=>
 (binA .other .geq v7 (.int .u64 4294967296)).bind fun v8=>
 ifA v8 (
 K (.exit 3) (O125_18 x9 x10 x11 x12 x13 x14 v2 m)) (
 L125_18 x9 x10 x11 x12 x13 x14 v2 v7 m K)) (
 (binA .other .sub x12 (.int .i64 2)).bind fun v9=>
 (indexAddrA none x11 v9).bind fun v10=>
 (loadA none m v10).bind fun v11=>
 (convA .u64 v11).bind fun v12=>
 (binA .other .mul x16 v12).bind fun v13=>
 (binA .other .shl x17 (.int .u64 32)).bind fun v14=>
 (binA .other .add x14 x12).bind fun v15=>
 (binA .other .sub v15 (.int .i64 2)).bind fun v16=>
 (indexAddrA none x10 v16).bind fun v17=>
 (loadA none m v17).bind fun v18=>
 (convA .u64 v18).bind fun v19=>
 (binA .other .or v14 v19).bind fun v20=>
 (binA .other .gtr v13 v20).bind fun v21=>
 ifA v21 (
 (binA .other .sub x16 (.int .u64 1)).bind fun v22=>
 (binA .other .sub x12 (.int .i64 1)).bind fun v23=>
 (indexAddrA none x11 v23).bind fun v24=>
 (loadA none m v24).bind fun v25=>
 (convA .u64 v25).bind fun v26=>
 (binA .other .add x17 v26).bind fun v27=>
 (binA .other .geq v27 (.int .u64 4294967296)).bind fun v28=>
 ifA v28 (
 K (.exit 3) (O125_18 x9 x10 x11 x12 x13 x14 v22 m)) (
 L125_18 x9 x10 x11 x12 x13 x14 v22 v27 m K)) (
 K (.exit 3) (O125_18 x9 x10 x11 x12 x13 x14 x16 m))):=
(loopW_eq (execW_lin _) _ _ _).trans (by kernel_rfl)
theorem L125_24_eq (x9 x10 x11 x12 x13 x14 x16 x18 x19 x158 x159:AV) (m:Mem) (K:KT):L125_24 x9 x10 x11 x12 x13 x14 x16 x18 x19 x158 x159 m K =
 (binA .other .lss x159 x158).bind fun v1=>
 ifA v1 (
 (indexAddrA none x11 x159).bind fun v2=>
 (loadA none m v2).bind fun v3=>
 (convA .u64 v3).bind fun v4=>
 (binA .other .mul x16 v4).bind fun v5=>
 (binA .other .add x19 v5).bind fun v6=>
 (binA .other .and v6 (.int .u64 4294967295)).bind fun v7=>
 (binA .other .add v7 x18).bind fun v8=>
 (binA .other .add x159 x14).bind fun v9=>
 (indexAddrA none x10 v9).bind fun v10=>
 (loadA none m v10).bind fun v11=>
 (convA .u64 v11).bind fun v12=>
 (binA .other .lss v12 v8).bind fun v13=>
 ifA v13 (
 (binA .other .add x159 x14).bind fun v14=>
 (binA .other .add x159 x14).bind fun v15=>
 (indexAddrA none x10 v15).bind fun v16=>
 (loadA none m v16).bind fun v17=>
 (convA .u64 v17).bind fun v18=>
 (binA .other .shl (.int .u64 1) (.int .u64 32)).bind fun v19=>
 (binA .other .add v18 v19).bind fun v20=>
 (binA .other .sub v20 v8).bind fun v21=>
 (convA .u32 v21).bind fun v22=>
 (indexAddrA none x10 v14).bind fun v23=>
 (storeA none m v23 v22).bind fun m24=>
 (binA .other .shr v6 (.int .u64 32)).bind fun v25=>
 (binA .other .add x159 (.int .i64 1)).bind fun v26=>
 L125_24 x9 x10 x11 x12 x13 x14 x16 (.int .u64 1) v25 x158 v26 m24 K) (
 (binA .other .add x159 x14).bind fun v27=>
 (binA .other .add x159 x14).bind fun v28=>
 (indexAddrA none x10 v28).bind fun v29=>
 (loadA none m v29).bind fun v30=>
 (convA .u64 v30).bind fun v31=>
 (binA .other .shl (.int .u64 0) (.int .u64 32)).bind fun v32=>
 (binA .other .add v31 v32).bind fun v33=>
 (binA .other .sub v33 v8).bind fun v34=>
 (convA .u32 v34).bind fun v35=>
 (indexAddrA none x10 v27).bind fun v36=>
 (storeA none m v36 v35).bind fun m37=>
 (binA .other .shr v6 (.int .u64 32)).bind fun v38=>
 (binA .other .add x159 (.int .i64 1)).bind fun v39=>
 L125_24 x9 x10 x11 x12 x13 x14 x16 (.int .u64 0) v38 x158 v39 m37 K)) (
 K (.exit 5) (O125_24 x9 x10 x11 x12 x13 x14 x16 x18 x19 m)):=
(loopW_eq (execW_lin _) _ _ _).trans (by kernel_rfl)
theorem L125_41_eq (x9 x10 x11 x12 x13 x14 x16 x19 x235 x236:AV) (m:Mem) (K:KT):L125_41 x9 x10 x11 x12 x13 x14 x16 x19 x235 x236 m K =
 (binA .other .lss x236 x235).bind fun v1=>
 ifA v1 (
 (binA .other .add x236 x14).bind fun v2=>
 (indexAddrA none x10 v2).bind fun v3=>
 (loadA none m v3).bind fun v4=>
 (convA .u64 v4).bind fun v5=>
 (indexAddrA none x11 x236).bind fun v6=>
 (loadA none m v6).bind fun v7=>
 (convA .u64 v7).bind fun v8=>
 (binA .other .add v5 v8).bind fun v9=>
 (binA .other .add x19 v9).bind fun v10=>
 (binA .other .add x236 x14).bind fun v11=>
 (convA .u32 v10).bind fun v12=>
 (indexAddrA none x10 v11).bind fun v13=>
 (storeA none m v13 v12).bind fun m14=>
 (binA .other .shr v10 (.int .u64 32)).bind fun v15=>
 (binA .other .add x236 (.int .i64 1)).bind fun v16=>
 L125_41 x9 x10 x11 x12 x13 x14 x16 v15 x235 v16 m14 K) (
 K (.exit 7) (O125_41 x9 x10 x11 x12 x13 x14 x16 x19 m)):=
(loopW_eq (execW_lin _) _ _ _).trans (by kernel_rfl)
theorem L125_51_eq (x9 x10 x13 x25 x281 x282:AV) (m:Mem) (K:KT):L125_51 x9 x10 x13 x25 x281 x282 m K =
 (binA .other .lss x282 x281).bind fun v1=>
 ifA v1 (
 (indexAddrA none x10 x282).bind fun v2=>
 (loadA none m v2).bind fun v3=>
 (binA .other .shr v3 x9).bind fun v4=>
 (indexAddrA none x25 x282).bind fun v5=>
 (storeA none m v5 v4).bind fun m6=>
 (binA .other .gtr x9 (.int .u64 0)).bind fun v7=>
 ifA v7 (
 (indexAddrA none x25 x282).bind fun v8=>
 (loadA none m6 v8).bind fun v9=>
 (binA .other .add x282 (.int .i64 1)).bind fun v10=>
 (indexAddrA none x10 v10).bind fun v11=>
 (loadA none m6 v11).bind fun v12=>
 (binA .other .sub (.int .u64 32) x9).bind fun v13=>
 (binA .other .shl v12 v13).bind fun v14=>
 (binA .other .or v9 v14).bind fun v15=>
 (indexAddrA none x25 x282).bind fun v16=>
 (storeA none m6 v16 v15).bind fun m17=>
 (binA .other .add x282 (.int .i64 1)).bind fun v18=>
 L125_51 x9 x10 x13 x25 x281 v18 m17 K) (
 (binA .other .add x282 (.int .i64 1)).bind fun v19=>
 L125_51 x9 x10 x13 x25 x281 v19 m6 K)) (
 K (.exit 9) (O125_51 x13 x25 m)):=
(loopW_eq (execW_lin _) _ _ _).trans (by kernel_rfl)
theorem K125_14_x1 (x9 x10 x12 x13:AV) (m:Mem):K125_14 (finK cfg.P f125.results.toList) (.exit 1) (O125_14 x9 x10 x12 x13 m) =
 (makeA none 116 none (.int .u32 0) 4 m x12 x12).bind fun r1=>
 L125_51 x9 x10 x13 r1.1 x12 (.int .i64 0) r1.2 (K125_51 (finK cfg.P f125.results.toList)):=by kernel_rfl
theorem K125_18_x3 (x9 x10 x11 x12 x13 x14 x16:AV) (m:Mem) (K:KT):K125_18 K (.exit 3) (O125_18 x9 x10 x11 x12 x13 x14 x16 m) =
 L125_24 x9 x10 x11 x12 x13 x14 x16 (.int .u64 0) (.int .u64 0) x12 (.int .i64 0) m (K125_24 K):=by kernel_rfl
theorem K125_51_x9 (x13 x25:AV) (m:Mem):K125_51 (finK cfg.P f125.results.toList) (.exit 9) (O125_51 x13 x25 m) =
 (pcall (AP cfg) none m 124 [x13]).bind fun r1=>
 (pcall (AP cfg) none r1.2 124 [x25]).bind fun r2=>
 some ((.tup [r1.1,r2.1,(.int .i64 0)]),r2.2):=by kernel_rfl
theorem K125_24_x5 (x9 x10 x11 x12 x13 x14 x16 x18 x19:AV) (m:Mem) (K:KT):K125_24 K (.exit 5) (O125_24 x9 x10 x11 x12 x13 x14 x16 x18 x19 m) =
 (binA .other .add x19 x18).bind fun v1=>
 (binA .other .add x14 x12).bind fun v2=>
 (indexAddrA none x10 v2).bind fun v3=>
 (loadA none m v3).bind fun v4=>
 (convA .u64 v4).bind fun v5=>
 (binA .other .lss v5 v1).bind fun v6=>
 (binA .other .add x14 x12).bind fun v7=>
 (binA .other .add x14 x12).bind fun v8=>
 (indexAddrA none x10 v8).bind fun v9=>
 (loadA none m v9).bind fun v10=>
 (convA .u64 v10).bind fun v11=>
 (binA .other .sub v11 v1).bind fun v12=>
 (convA .u32 v12).bind fun v13=>
 (indexAddrA none x10 v7).bind fun v14=>
 (storeA none m v14 v13).bind fun m15=>
 ifA v6 (
 (binA .other .sub x16 (.int .u64 1)).bind fun v16=>
 L125_41 x9 x10 x11 x12 x13 x14 v16 (.int .u64 0) x12 (.int .i64 0) m15 (K125_41 K)) (
 (convA .u32 x16).bind fun v17=>
 (indexAddrA none x13 x14).bind fun v18=>
 (storeA none m15 v18 v17).bind fun m19=>
 (binA .other .sub x14 (.int .i64 1)).bind fun v20=>
 L125_14 x9 x10 x11 x12 x13 v20 m19 K):=by kernel_rfl
theorem K125_41_x7 (x9 x10 x11 x12 x13 x14 x16 x19:AV) (m:Mem) (K:KT):K125_41 K (.exit 7) (O125_41 x9 x10 x11 x12 x13 x14 x16 x19 m) =
 (binA .other .add x14 x12).bind fun v1=>
 (indexAddrA none x10 v1).bind fun v2=>
 (loadA none m v2).bind fun v3=>
 (convA .u32 x19).bind fun v4=>
 (binA .other .add v3 v4).bind fun v5=>
 (indexAddrA none x10 v1).bind fun v6=>
 (storeA none m v6 v5).bind fun m7=>
 (convA .u32 x16).bind fun v8=>
 (indexAddrA none x13 x14).bind fun v9=>
 (storeA none m7 v9 v8).bind fun m10=>
 (binA .other .sub x14 (.int .i64 1)).bind fun v11=>
 L125_14 x9 x10 x11 x12 x13 v11 m10 K:=by kernel_rfl
def O136_4 (x6 x7:AV) (m:Mem):St:=⟨[.any,.any,.any,.any,.any,.any,x6,x7,.any,.any,.any,.any,.any,.any,.any,.any,.any,.any,.any,.any,.any,.any,.any,.any,.any,.any,.any,.any,.any,.any,.any,.any,.any,.any,.any,.any,.any,.any,.any,.any,.any,.any,.any],m⟩
noncomputable def L136_4 (x0 x1 x6 x7 x8:AV) (m:Mem) (K:KT):OM:=loopW (execW cfg 136 (AP cfg) (AC cfg) (c1 (c1 (c2 (c1 (c2 (c2 (c2 (bodyOf f136))))))))) (cfg.mask 136 (some 4)) ⟨[x0,x1,.any,.any,.any,.any,x6,x7,x8,.any,.any,.any,.any,.any,.any,.any,.any,.any,.any,.any,.any,.any,.any,.any,.any,.any,.any,.any,.any,.any,.any,.any,.any,.any,.any,.any,.any,.any,.any,.any,.any,.any,.any],m⟩ K
noncomputable abbrev K136_4_0 (K:KT):KT:=seqK (fun st=>execW cfg 136 (AP cfg) (AC cfg) (c2 (c2 (c2 (c2 (bodyOf f136))))) st K) K
noncomputable abbrev K136_4_1 (K:KT):KT:=blockK 0 (K136_4_0 K)
noncomputable abbrev K136_4 (K:KT):KT:=(K136_4_1 K)
theorem T136 (a0 a1:AV) (m:Mem):AC cfg 136 [a0,a1] m =
 (lenA false a0).bind fun v1=>
 (makeA none 116 none (.int .u32 0) 4 m v1 v1).bind fun r2=>
 (lenA false a0).bind fun v3=>
 (binA .other .sub v3 (.int .i64 1)).bind fun v4=>
 L136_4 a0 a1 r2.1 (.int .u64 0) v4 r2.2 (K136_4 (finK cfg.P f136.results.toList)):=
(AC_eq cfg 136 [a0,a1] m (fn:=f136) (c:=bodyOf f136) at136 rfl).trans (by kernel_rfl)
theorem L136_4_eq (x0 x1 x6 x7 x8:AV) (m:Mem) (K:KT):L136_4 x0 x1 x6 x7 x8 m K =
 (binA .other .geq x8 (.int .i64 0)).bind fun v1=>
 ifA v1 (
 (binA .other .shl x7 (.int .u64 32)).bind fun v2=>
 (indexAddrA none x0 x8).bind fun v3=>
 (loadA none m v3).bind fun v4=>
 (convA .u64 v4).bind fun v5=>
 (binA .other .or v2 v5).bind fun v6=>
 (convA .u64 x1).bind fun v7=>
 (binA .other .quo v6 v7).bind fun v8=>
 (convA .u32 v8).bind fun v9=>
 (indexAddrA none x6 x8).bind fun v10=>
 (storeA none m v10 v9).bind fun m11=>
 (convA .u64 x1).bind fun v12=>
 (binA .other .rem v6 v12).bind fun v13=>
 (binA .other .sub x8 (.int .i64 1)).bind fun v14=>
 L136_4 x0 x1 x6 v13 v14 m11 K) (
 K (.exit 0) (O136_4 x6 x7 m)):=
(loopW_eq (execW_lin _) _ _ _).trans (by kernel_rfl)
theorem K136_4_x0 (x6 x7:AV) (m:Mem):K136_4 (finK cfg.P f136.results.toList) (.exit 0) (O136_4 x6 x7 m) =
 (pcall (AP cfg) none m 124 [x6]).bind fun r1=>
 (convA .u32 x7).bind fun v2=>
 some ((.tup [r1.1,v2]),r1.2):=by kernel_rfl
theorem T137 (a0:AV) (m:Mem):AC cfg 137 [a0] m =
 (pcall (AP cfg) none m 140 [a0]).bind fun r1=>
 (binA .other .sub (.int .i64 32) r1.1).bind fun v2=>
 some (v2,r1.2):=
(AC_eq cfg 137 [a0] m (fn:=f137) (c:=bodyOf f137) at137 rfl).trans (by kernel_rfl)
def O138_3 (x5:AV) (m:Mem):St:=⟨[.any,.any,.any,.any,.any,x5,.any,.any,.any,.any,.any,.any,.any,.any,.any,.any,.any,.any,.any,.any,.any,.any,.any,.any,.any,.any,.any,.any,.any,.any,.any,.any,.any,.any,.any,.any,.any,.any,.any,.any],m⟩
noncomputable def L138_3 (x1 x5 x12 x13 x14:AV) (m:Mem) (K:KT):OM:=loopW (execW cfg 138 (AP cfg) (AC cfg) (c1 (c1 (c2 (c1 (c2 (c2 (bodyOf f138)))))))) (cfg.mask 138 (some 3)) ⟨[.any,x1,.any,.any,.any,x5,.any,.any,.any,.any,.any,.any,x12,x13,x14,.any,.any,.any,.any,.any,.any,.any,.any,.any,.any,.any,.any,.any,.any,.any,.any,.any,.any,.any,.any,.any,.any,.any,.any,.any],m⟩ K
noncomputable abbrev K138_3_0 (K:KT):KT:=seqK (fun st=>execW cfg 138 (AP cfg) (AC cfg) (c2 (c2 (c2 (bodyOf f138)))) st K) K
noncomputable abbrev K138_3_1 (K:KT):KT:=blockK 0 (K138_3_0 K)
noncomputable abbrev K138_3 (K:KT):KT:=(K138_3_1 K)
theorem T138 (a0 a1:AV) (m:Mem):AC cfg 138 [a0,a1] m =
 (lenA false a0).bind fun v1=>
 (binA .other .add v1 (.int .i64 1)).bind fun v2=>
 (makeA none 116 none (.int .u32 0) 4 m v2 v2).bind fun r3=>
 (lenA false a0).bind fun v4=>
 L138_3 a1 r3.1 a0 v4 (.int .i64 0) r3.2 (K138_3 (finK cfg.P f138.results.toList)):=
(AC_eq cfg 138 [a0,a1] m (fn:=f138) (c:=bodyOf f138) at138 rfl).trans (by kernel_rfl)
theorem L138_3_eq (x1 x5 x12 x13 x14:AV) (m:Mem) (K:KT):L138_3 x1 x5 x12 x13 x14 m K =
 (binA .other .lss x14 x13).bind fun v1=>
 ifA v1 (
 (indexAddrA none x12 x14).bind fun v2=>
 (loadA none m v2).bind fun v3=>
 (indexAddrA none x5 x14).bind fun v4=>
 (loadA none m v4).bind fun v5=>
 (binA .other .shl v3 x1).bind fun v6=>
 (binA .other .or v5 v6).bind fun v7=>
 (indexAddrA none x5 x14).bind fun v8=>
 (storeA none m v8 v7).bind fun m9=>
 (binA .other .add x14 (.int .i64 1)).bind fun v10=>
 (convA .u64 v3).bind fun v11=>
 (binA .other .shl v11 x1).bind fun v12=>
 (binA .other .shr v12 (.int .u64 32)).bind fun v13=>
 (convA .u32 v13).bind fun v14=>
 (indexAddrA none x5 v10).bind fun v15=>
 (storeA none m9 v15 v14).bind fun m16=>
 (binA .other .add x14 (.int .i64 1)).bind fun v17=>
 L138_3 x1 x5 x12 x13 v17 m16 K) (
 K (.exit 0) (O138_3 x5 m)):=
(loopW_eq (execW_lin _) _ _ _).trans (by kernel_rfl)
theorem K138_3_x0 (x5:AV) (m:Mem):K138_3 (finK cfg.P f138.results.toList) (.exit 0) (O138_3 x5 m) =
 some (x5,m):=by kernel_rfl
theorem T139 (a0:AV) (m:Mem):AC cfg 139 [a0] m =
 (pcall (AP cfg) none m 124 [a0]).bind fun r1=>
 (lenA false r1.1).bind fun v2=>
 (binA .other .eql v2 (.int .i64 0)).bind fun v3=>
 ifA v3 (
 some ((.int .i64 0),r1.2)) (
 (lenA false r1.1).bind fun v4=>
 (binA .other .sub v4 (.int .i64 1)).bind fun v5=>
 (binA .other .mul (.int .i64 32) v5).bind fun v6=>
 (lenA false r1.1).bind fun v7=>
 (binA .other .sub v7 (.int .i64 1)).bind fun v8=>
 (indexAddrA none r1.1 v8).bind fun v9=>
 (loadA none r1.2 v9).bind fun v10=>
 (pcall (AP cfg) none r1.2 140 [v10]).bind fun r11=>
 (binA .other .add v6 r11.1).bind fun v12=>
 some (v12,r11.2)):=
(AC_eq cfg 139 [a0] m (fn:=f139) (c:=bodyOf f139) at139 rfl).trans (by kernel_rfl)
theorem T140 (a0:AV) (m:Mem):AC cfg 140 [a0] m =
 (binA .other .geq a0 (.int .u32 65536)).bind fun v1=>
 ifA v1 (
 (binA .other .shr a0 (.int .u64 16)).bind fun v2=>
 (binA .other .geq v2 (.int .u32 256)).bind fun v3=>
 ifA v3 (
 (binA .other .shr v2 (.int .u64 8)).bind fun v4=>
 (binA .other .add (.int .i64 16) (.int .i64 8)).bind fun v5=>
 (convA .u8 v4).bind fun v6=>
 (indexStrA (.str ⟨⟨[0,1,2,2,3,3,3,3,4,4,4,4,4,4,4,4,5,5,5,5,5,5,5,5,5,5,5,5,5,5,5,5,6,6,6,6,6,6,6,6,6,6,6,6,6,6,6,6,6,6,6,6,6,6,6,6,6,6,6,6,6,6,6,6,7,7,7,7,7,7,7,7,7,7,7,7,7,7,7,7,7,7,7,7,7,7,7,7,7,7,7,7,7,7,7,7,7,7,7,7,7,7,7,7,7,7,7,7,7,7,7,7,7,7,7,7,7,7,7,7,7,7,7,7,7,7,7,7,8,8,8,8,8,8,8,8,8,8,8,8,8,8,8,8,8,8,8,8,8,8,8,8,8,8,8,8,8,8,8,8,8,8,8,8,8,8,8,8,8,8,8,8,8,8,8,8,8,8,8,8,8,8,8,8,8,8,8,8,8,8,8,8,8,8,8,8,8,8,8,8,8,8,8,8,8,8,8,8,8,8,8,8,8,8,8,8,8,8,8,8,8,8,8,8,8,8,8,8,8,8,8,8,8,8,8,8,8,8,8,8,8,8,8,8,8,8,8,8,8,8,8,8,8,8,8,8]⟩⟩) v6).bind fun v7=>
 (convA .i64 v7).bind fun v8=>
 (binA .other .add v5 v8).bind fun v9=>
 some (v9,m)) (
 (convA .u8 v2).bind fun v10=>
 (indexStrA (.str ⟨⟨[0,1,2,2,3,3,3,3,4,4,4,4,4,4,4,4,5,5,5,5,5,5,5,5,5,5,5,5,5,5,5,5,6,6,6,6,6,6,6,6,6,6,6,6,6,6,6,6,6,6,6,6,6,6,6,6,6,6,6,6,6,6,6,6,7,7,7,7,7,7,7,7,7,7,7,7,7,7,7,7,7,7,7,7,7,7,7,7,7,7,7,7,7,7,7,7,7,7,7,7,7,7,7,7,7,7,7,7,7,7,7,7,7,7,7,7,7,7,7,7,7,7,7,7,7,7,7,7,8,8,8,8,8,8,8,8,8,8,8,8,8,8,8,8,8,8,8,8,8,8,8,8,8,8,8,8,8,8,8,8,8,8,8,8,8,8,8,8,8,8,8,8,8,8,8,8,8,8,8,8,8,8,8,8,8,8,8,8,8,8,8,8,8,8,8,8,8,8,8,8,8,8,8,8,8,8,8,8,8,8,8,8,8,8,8,8,8,8,8,8,8,8,8,8,8,8,8,8,8,8,8,8,8,8,8,8,8,8,8,8,8,8,8,8,8,8,8,8,8,8,8,8,8,8,8,8]⟩⟩) v10).bind fun v11=>
 (convA .i64 v11).bind fun v12=>
 (binA .other .add (.int .i64 16) v12).bind fun v13=>
 some (v13,m))) (
 (binA .other .geq a0 (.int .u32 256)).bind fun v14=>
 ifA v14 (
 (binA .other .shr a0 (.int .u64 8)).bind fun v15=>
 (binA .other .add (.int .i64 0) (.int .i64 8)).bind fun v16=>
 (convA .u8 v15).bind fun v17=>
 (indexStrA (.str ⟨⟨[0,1,2,2,3,3,3,3,4,4,4,4,4,4,4,4,5,5,5,5,5,5,5,5,5,5,5,5,5,5,5,5,6,6,6,6,6,6,6,6,6,6,6,6,6,6,6,6,6,6,6,6,6,6,6,6,6,6,6,6,6,6,6,6,7,7,7,7,7,7,7,7,7,7,7,7,7,7,7,7,7,7,7,7,7,7,7,7,7,7,7,7,7,7,7,7,7,7,7,7,7,7,7,7,7,7,7,7,7,7,7,7,7,7,7,7,7,7,7,7,7,7,7,7,7,7,7,7,8,8,8,8,8,8,8,8,8,8,8,8,8,8,8,8,8,8,8,8,8,8,8,8,8,8,8,8,8,8,8,8,8,8,8,8,8,8,8,8,8,8,8,8,8,8,8,8,8,8,8,8,8,8,8,8,8,8,8,8,8,8,8,8,8,8,8,8,8,8,8,8,8,8,8,8,8,8,8,8,8,8,8,8,8,8,8,8,8,8,8,8,8,8,8,8,8,8,8,8,8,8,8,8,8,8,8,8,8,8,8,8,8,8,8,8,8,8,8,8,8,8,8,8,8,8,8,8]⟩⟩) v17).bind fun v18=>
 (convA .i64 v18).bind fun v19=>
 (binA .other .add v16 v19).bind fun v20=>
 some (v20,m)) (
 (convA .u8 a0).bind fun v21=>
 (indexStrA (.str ⟨⟨[0,1,2,2,3,3,3,3,4,4,4,4,4,4,4,4,5,5,5,5,5,5,5,5,5,5,5,5,5,5,5,5,6,6,6,6,6,6,6,6,6,6,6,6,6,6,6,6,6,6,6,6,6,6,6,6,6,6,6,6,6,6,6,6,7,7,7,7,7,7,7,7,7,7,7,7,7,7,7,7,7,7,7,7,7,7,7,7,7,7,7,7,7,7,7,7,7,7,7,7,7,7,7,7,7,7,7,7,7,7,7,7,7,7,7,7,7,7,7,7,7,7,7,7,7,7,7,7,8,8,8,8,8,8,8,8,8,8,8,8,8,8,8,8,8,8,8,8,8,8,8,8,8,8,8,8,8,8,8,8,8,8,8,8,8,8,8,8,8,8,8,8,8,8,8,8,8,8,8,8,8,8,8,8,8,8,8,8,8,8,8,8,8,8,8,8,8,8,8,8,8,8,8,8,8,8,8,8,8,8,8,8,8,8,8,8,8,8,8,8,8,8,8,8,8,8,8,8,8,8,8,8,8,8,8,8,8,8,8,8,8,8,8,8,8,8,8,8,8,8,8,8,8,8,8,8]⟩⟩) v21).bind fun v22=>
 (convA .i64 v22).bind fun v23=>
 (binA .other .add (.int .i64 0) v23).bind fun v24=>
 some (v24,m))):=
(AC_eq cfg 140 [a0] m (fn:=f140) (c:=bodyOf f140) at140 rfl).trans (by kernel_rfl)
end Go.Ab
set_option linter.unusedVariables false
set_option linter.unusedSimpArgs false
set_option linter.unusedSectionVars false
namespace Go.Ab
theorem wrap_i64_eq (x:Int):IntKind.wrap .i64 x=if x%18446744073709551616≥9223372036854775808 then x%18446744073709551616-18446744073709551616 else x%18446744073709551616:=by
 show (if (true&&decide (x%18446744073709551616≥9223372036854775808))=true then x%18446744073709551616-18446744073709551616 else x%18446744073709551616)=_
 simp
theorem wrap_u64_eq (x:Int):IntKind.wrap .u64 x=x%18446744073709551616:=by
 rfl
theorem wrap_u32_eq (x:Int):IntKind.wrap .u32 x=x%4294967296:=by
 rfl
theorem wrap_i64 {x:Int} (h:-9223372036854775808≤x) (h':x<9223372036854775808):IntKind.wrap .i64 x=x:=by
 rw[wrap_i64_eq];split<;>omega
theorem wrap_u64 {x:Int} (h:0≤x) (h':x<18446744073709551616):IntKind.wrap .u64 x=x:=by
 rw[wrap_u64_eq];omega
theorem wrap_u32 {x:Int} (h:0≤x) (h':x<4294967296):IntKind.wrap .u32 x=x:=by
 rw[wrap_u32_eq];omega
structure NV where
 z:Bool
 o:Own
 ds:List Nat
def dg (d:Nat):AV:=.int .u32 d
def NV.av (x:NV):AV:=.lst none x.z x.o (x.ds.map dg)
section
variable {R:Type}
theorem binA_gtr (tk:TK) (k:IntKind) (a b:Int):binA tk .gtr (.int k a) (.int k b)=some (.bool (decide (a>b))):=by cases tk<;>simp[binA,binInt]
theorem binA_lss (tk:TK) (k:IntKind) (a b:Int):binA tk .lss (.int k a) (.int k b)=some (.bool (decide (a<b))):=by cases tk<;>simp[binA,binInt]
theorem binA_geq (tk:TK) (k:IntKind) (a b:Int):binA tk .geq (.int k a) (.int k b)=some (.bool (decide (a≥b))):=by cases tk<;>simp[binA,binInt]
theorem binA_leq (tk:TK) (k:IntKind) (a b:Int):binA tk .leq (.int k a) (.int k b)=some (.bool (decide (a≤b))):=by cases tk<;>simp[binA,binInt]
theorem binA_eql (tk:TK) (k:IntKind) (a b:Int):binA tk .eql (.int k a) (.int k b)=some (.bool (decide (a=b))):=by cases tk<;>simp[binA,binInt]<;>rfl
theorem binA_neq (tk:TK) (k:IntKind) (a b:Int):binA tk .neq (.int k a) (.int k b)=some (.bool (decide (a≠b))):=by cases tk<;>simp[binA,binInt]<;>by_cases h:a=b<;>simp[h]
theorem binA_add (tk:TK) (k:IntKind) (a b:Int):binA tk .add (.int k a) (.int k b)=some (.int k (k.wrap (a+b))):=by cases tk<;>simp[binA,binInt]
theorem binA_sub (tk:TK) (k:IntKind) (a b:Int):binA tk .sub (.int k a) (.int k b)=some (.int k (k.wrap (a-b))):=by cases tk<;>simp[binA,binInt]
theorem binA_mul (tk:TK) (k:IntKind) (a b:Int):binA tk .mul (.int k a) (.int k b)=some (.int k (k.wrap (a*b))):=by cases tk<;>simp[binA,binInt]
theorem lenA_lst (sh:Sh) (z:Bool) (o:Own) (es:List AV):lenA false (.lst sh z o es)=some (.int .i64 es.length):=rfl
theorem ifA_dec (p:Prop) [Decidable p] (x y:Option R):ifA (.bool (decide p)) x y=if p then x else y:=by
 by_cases h:p<;>simp[ifA,h]
theorem indexA_dg {z:Bool} {o:Own} {ds:List Nat} {k:IntKind} {i:Int} (h:0≤i) (h':i<ds.length):indexAddrA none (.lst none z o (ds.map dg)) (.int k i)=some (.vptr [dg (ds.getD i.toNat 0)]):=by
 have hi:i.toNat<ds.length:=by omega
 simp[indexAddrA,h,hi,AV.cells,dg,List.getD_eq_getElem?_getD]
theorem loadA_one (m:Mem) (x:AV):loadA none m (.vptr [x])=some x:=rfl
theorem sliceT_to {z:Bool} {o:Own} {ds:List Nat} {k:IntKind} {i:Int} (h:0≤i) (h':i≤ds.length):sliceT none (.lst none z o (ds.map dg)) none (some (.int k i)) none=some (.lst none z .no ((ds.take i.toNat).map dg)):=by
 simp[sliceT,sliceA,boundA,h,h',List.map_take]
end
def Own.fr:Own→Own
 | .tok ..=>.no
 | o=>o
def NV.fr (x:NV):NV:=⟨x.z,x.o.fr,x.ds⟩
def Fz (v v':AV):Prop:=∀ m,frz m fuelF v=some (v',[])
theorem fz_nv (x:NV):Fz x.av x.fr.av:=by
 intro m
 obtain ⟨z,o,ds⟩:=x
 cases o<;>rfl
theorem fz_int (k:IntKind) (n:Int):Fz (.int k n) (.int k n):=fun _=>rfl
theorem fz_bool (b:Bool):Fz (.bool b) (.bool b):=fun _=>rfl
section
variable {cp:Nat→List AV→Option AV} {d:Option Nat} {m:Mem} {g:Nat}
theorem pcall0:pcall cp d m g []=(cp g []).map fun v=>(v,m):=by
 simp[pcall,mapF,kill]
theorem pcall1 {a a':AV} (ha:Fz a a'):pcall cp d m g [a]=(cp g [a']).map fun v=>(v,m):=by
 simp[pcall,mapF,kill,ha m]
theorem pcall2 {a a' b b':AV} (ha:Fz a a') (hb:Fz b b'):pcall cp d m g [a,b]=(cp g [a',b']).map fun v=>(v,m):=by
 simp[pcall,mapF,kill,ha m,hb m]
theorem pcall3 {a a' b b' c c':AV} (ha:Fz a a') (hb:Fz b b') (hc:Fz c c'):pcall cp d m g [a,b,c]=(cp g [a',b',c']).map fun v=>(v,m):=by
 simp[pcall,mapF,kill,ha m,hb m,hc m]
end
theorem AP_of {C:Cfg} {f:Nat} {args:List AV} {v v':AV} {m:Mem} {l:List Nat} (h:AC C f args []=some (v,m)) (hf:frz m fuelF v=some (v',l)) (hv:(noVL args||noV v')=true):AP C f args=some v':=by
 unfold AP acallP
 rw[h]
 simp only[oBs,hf,if_pos hv]
theorem noV_nv (x:NV):noV x.av=true:=rfl
def tokM (m:Mem) (n:Nat):Mem:=m++[some (.tok n 1)]
theorem make_tok {e b:Nat} {z:AV} {m:Mem} {c:Int} (h:0<c) (h':c*b≤281474976710656) (h2:c≤9223372036854775807):makeA none e none z b m (.int .i64 0) (.int .i64 c)=some (.lst none false (.tok m.length e) [],tokM m 0):=by
 have h3:¬ (0:Int)=c:=by omega
 have h4:0≤c:=by omega
 simp[makeA,h3,h4,h',h2,newAt,tokM,Sh.size]
theorem app_tok {e b:Nat} {m:Mem} {es:List AV} {z:Bool} {o:Own} {y:AV} (h:(es.length+1)*b≤roomA):appA none false e none b (tokM m es.length) (.lst none false (.tok m.length e) es) (.lst none z o [y])=some (.lst none false (.tok m.length e) (es++[y]),tokM m (es.length+1)):=by
 simp[appA,tokM,Mem.get,Sh.size,h]
theorem build_int (k:IntKind) (n:Int):buildSliceA none [.int k n]=some (.lst none false .full [.int k n]):=rfl
theorem convA_int (k k':IntKind) (n:Int):convA k (.int k' n)=some (.int k (k.wrap n)):=rfl
theorem binA_shr (tk:TK) (k k':IntKind) (a b:Int) (h:0≤b):binA tk .shr (.int k a) (.int k' b)=some (.int k (a.fdiv (2^(min b.toNat k.bits)))):=by
 have:¬ b<0:=by omega
 cases tk<;>simp[binA,shiftA,this]
theorem binA_shr32 (tk:TK) (k':IntKind) (a:Int) (h:0≤a):binA tk .shr (.int .u64 a) (.int k' 32)=some (.int .u64 (a/4294967296)):=by
 rw[binA_shr tk .u64 k' a 32 (by omega)]
 show some (AV.int .u64 (a.fdiv 4294967296))=_
 rw[Int.fdiv_eq_ediv_of_nonneg _ (by omega)]
def objM (m:Mem) (ds:List Nat):Mem:=m++[some (.obj false (ds.map dg))]
theorem make_obj {e b:Nat} {m:Mem} {n:Nat} (h':n*b≤281474976710656) (h2:n≤9223372036854775807):makeA none e none (.int .u32 0) b m (.int .i64 n) (.int .i64 n)=some (.arr m.length 0 n none,objM m (List.replicate n 0)):=by
 have h3:(n:Int)*b≤281474976710656:=by
  have:=Int.ofNat_le.2 h'
  rw[Int.natCast_mul] at this
  exact this
 have h4:(n:Int)≤9223372036854775807:=by omega
 have h5:(0:Int)≤n:=by omega
 simp only[makeA,h3,h4,h5,newAt,objM,zeros,Int.le_refl,and_self,if_true,Int.toNat_natCast,List.map_replicate]
 rfl
theorem obj_get (m:Mem) (ds:List Nat):(objM m ds).obj? m.length=some (false,ds.map dg):=by
 simp[objM,Mem.obj?,Mem.get]
theorem index_arr {nm n:Nat} {k:IntKind} {i:Nat} (h:i<n):indexAddrA none (.arr nm 0 n none) (.int k i)=some (.ptr nm i):=by
 have:(i:Int)<n:=by omega
 simp[indexAddrA,this,Sh.size]
theorem load_obj {m:Mem} {ds:List Nat} {i:Nat} (h:i<ds.length):loadA none (objM m ds) (.ptr m.length i)=some (dg (ds.getD i 0)):=by
 simp[loadA,obj_get,cutSh,List.getD_eq_getElem?_getD,h]
theorem store_obj {m:Mem} {ds:List Nat} {i v:Nat} (h:i<ds.length):storeA none (objM m ds) (.ptr m.length i) (.int .u32 v)=some (objM m (ds.set i v)):=by
 have h1:i+1≤ds.length:=h
 simp only[storeA,obj_get,oBs,Sh.size,List.length_map,h1,if_true,shOk,atomOk,AV.cells]
 congr 1
 simp only[objM,putAt,List.length_cons,List.length_nil]
 rw[List.set_append_right _ _ (Nat.le_refl _)]
 simp only[Nat.sub_self,List.set_cons_zero]
 congr 4
 rw[List.map_set,List.set_eq_take_append_cons_drop]
 simp[h,dg,List.map_take,List.map_drop]
theorem mapF_dg (m:Mem) (k:Nat):∀ ds:List Nat,mapF (frz m (k+1)) (ds.map dg)=some (ds.map dg,[])
 | []=>rfl
 | d::ds=>by
  have:frz m (k+1) (dg d)=some (dg d,[]):=rfl
  simp[mapF,this,mapF_dg m k ds]
theorem plL_dg:∀ ds:List Nat,plL (ds.map dg)=true
 | []=>rfl
 | d::ds=>by
  have:pl (dg d)=true:=rfl
  simp[plL,this,plL_dg ds]
theorem frz_arr (m:Mem) (ds:List Nat):frz (objM m ds) fuelF (.arr m.length 0 ds.length none)=some (.lst none false .no (ds.map dg),[m.length]):=by
 have h1:((ds.map dg).all atomOk)=true:=by simp[List.all_map,dg,atomOk]
 show ((objM m ds).obj? m.length).bind _=_
 rw[obj_get]
 simp only[oBs,Sh.size,List.length_map,Nat.zero_add,Nat.mul_one,Nat.le_refl,decide_true,Bool.not_false,Bool.and_self,if_true,List.drop_zero,List.take_of_length_le (by simp:(ds.map dg).length≤ds.length)]
 rw[mapF_dg]
 simp only[oBs,h1,plL_dg,Bool.and_self,if_true,grp]
 rw[List.take_of_length_le (by simp)]
theorem pcall_arr {cp:Nat→List AV→Option AV} {m:Mem} {g:Nat} {ds:List Nat}:pcall cp none (objM m ds) g [.arr m.length 0 ds.length none]=(cp g [.lst none false .no (ds.map dg)]).map fun v=>(v,m++[none]):=by
 simp only[pcall,mapF,frz_arr,oBs,kill,Option.isSome_none,Bool.false_and,List.append_nil,List.foldl_cons,List.foldl_nil]
 simp[objM]
theorem binA_shl32 (tk:TK) (k':IntKind) (a:Nat) (h:a<4294967296):binA tk .shl (.int .u64 a) (.int k' 32)=some (.int .u64 (a*4294967296:Nat)):=by
 have e:binA tk .shl (.int .u64 a) (.int k' 32)=some (.int .u64 (IntKind.wrap .u64 ((a:Int)*4294967296))):=by cases tk<;>rfl
 rw[e,wrap_u64 (by omega) (by omega)]
 rfl
theorem binA_or (tk:TK) (lo hi:Nat) (h:lo<4294967296) (h':hi<4294967296):binA tk .or (.int .u64 lo) (.int .u64 (hi*4294967296:Nat))=some (.int .u64 (lo+hi*4294967296:Nat)):=by
 have e:binA tk .or (.int .u64 lo) (.int .u64 (hi*4294967296:Nat))=some (.int .u64 (IntKind.wrap .u64 ((BitVec.ofInt 64 lo ||| BitVec.ofInt 64 (hi*4294967296:Nat)).toNat:Nat))):=by cases tk<;>rfl
 have e2:(BitVec.ofInt 64 (lo:Int) ||| BitVec.ofInt 64 ((hi*4294967296:Nat):Int)).toNat=lo+hi*4294967296:=by
  rw[BitVec.toNat_or,BitVec.toNat_ofInt,BitVec.toNat_ofInt]
  have h1:(((lo:Nat):Int)%((2^64:Nat):Int)).toNat=lo:=by omega
  have h2:(((hi*4294967296:Nat):Int)%((2^64:Nat):Int)).toNat=hi*4294967296:=by omega
  rw[h1,h2,Nat.or_comm]
  have:=Nat.two_pow_add_eq_or_of_lt (i:=32) (b:=lo) (by omega) hi
  rw[show hi*4294967296=2^32*hi by omega,← this]
  omega
 rw[e,e2,wrap_u64 (by omega) (by omega)]
end Go.Ab
set_option linter.unusedVariables false
set_option linter.unusedSimpArgs false
set_option linter.unusedSectionVars false
namespace Go.Ab
def trN (ds:List Nat):Nat→Nat
 | 0=>0
 | n+1=>if ds.getD n 0=0 then trN ds n else n+1
theorem trN_le (ds:List Nat):∀ n,trN ds n≤n
 | 0=>Nat.le_refl _
 | n+1=>by
  rw[trN]
  split
  ·exact Nat.le_succ_of_le (trN_le ds n)
  ·exact Nat.le_refl _
def tr (ds:List Nat):List Nat:=ds.take (trN ds ds.length)
theorem tr_length (a:List Nat):(tr a).length≤a.length:=by simp only[tr,List.length_take];omega
def Dg (a:List Nat):Prop:=∀ i,a.getD i 0<4294967296
theorem Dg.take {a:List Nat} (h:Dg a) (n:Nat):Dg (a.take n):=by
 intro i
 have:=h i
 simp only[List.getD_eq_getElem?_getD,List.getElem?_take] at this ⊢
 split
 ·exact this
 ·simp
theorem Dg.set {a:List Nat} (h:Dg a) (n v:Nat) (hv:v<4294967296):Dg (a.set n v):=by
 intro i
 have:=h i
 simp only[List.getD_eq_getElem?_getD,List.getElem?_set] at this ⊢
 split
 ·split
  ·exact hv
  ·simp
 ·exact this
theorem tr_dg {a:List Nat} (h:Dg a):Dg (tr a):=h.take _
theorem getD_out {l:List Nat} {i:Nat} (h:¬ (i:Int)<(l.length:Int)):l.getD i 0=0:=by
 rw[List.getD_eq_getElem?_getD,List.getElem?_eq_none (by omega)];rfl
theorem dg_nil:Dg []:=by intro i;simp
theorem dg_cons {d:Nat} {ds:List Nat}:Dg (d::ds)↔d<4294967296∧Dg ds:=by
 constructor
 ·intro h
  exact ⟨h 0,fun i=>h (i+1)⟩
 ·intro h i
  cases i with
  | zero=>exact h.1
  | succ i=>exact h.2 i
theorem dg_app {a b:List Nat} (ha:Dg a) (hb:Dg b):Dg (a++b):=by
 induction a with
 | nil=>exact hb
 | cons d a ih=>exact dg_cons.2 ⟨(dg_cons.1 ha).1,ih (dg_cons.1 ha).2⟩
theorem dg_one {d:Nat} (h:d<4294967296):Dg [d]:=dg_cons.2 ⟨h,dg_nil⟩
theorem dg_rep (n:Nat):Dg (List.replicate n 0):=by
 induction n with
 | zero=>exact dg_nil
 | succ n ih=>exact dg_cons.2 ⟨by decide,ih⟩
theorem getD_set_ne {l:List Nat} {i j v:Nat} (h:i≠j):(l.set i v).getD j 0=l.getD j 0:=by
 simp only[List.getD_eq_getElem?_getD]
 rw[List.getElem?_set_ne h]
theorem getD_set_eq {l:List Nat} {i v:Nat} (h:i<l.length):(l.set i v).getD i 0=v:=by
 simp only[List.getD_eq_getElem?_getD]
 rw[List.getElem?_set_self h];rfl
theorem getD_rep (n i:Nat):(List.replicate n 0).getD i 0=0:=by
 simp only[List.getD_eq_getElem?_getD,List.getElem?_replicate]
 split<;>rfl
theorem pmd (p b c:Nat):p*c=p*(c%b)+p*b*(c/b):=by
 rw[Nat.mul_assoc,← Nat.mul_add,Nat.mod_add_div]
theorem psub (p b x s:Nat) (h:s≤x+b):p*(x+b-s)+p*s=p*x+p*b:=by
 rw[← Nat.mul_add,Nat.sub_add_cancel h,Nat.mul_add]
theorem psub0 (p x s:Nat) (h:s≤x):p*(x-s)+p*s=p*x:=by
 rw[← Nat.mul_add,Nat.sub_add_cancel h]
def val:List Nat→Nat
 | []=>0
 | d::ds=>d+4294967296*val ds
def digs (n:Nat):List Nat:=if h:n=0 then [] else n%4294967296::digs (n/4294967296)
 termination_by n
 decreasing_by exact Nat.div_lt_self (by omega) (by omega)
theorem digs_zero:digs 0=[]:=by rw[digs];rfl
theorem digs_pos {n:Nat} (h:n≠0):digs n=n%4294967296::digs (n/4294967296):=by rw[digs,dif_neg h]
theorem val_digs (n:Nat):val (digs n)=n:=by
 induction n using Nat.strongRecOn with
 | ind n ih=>
  by_cases h:n=0
  ·subst h;rw[digs_zero];rfl
  ·rw[digs_pos h,val,ih _ (Nat.div_lt_self (by omega) (by omega))]
   omega
theorem dg_digs (n:Nat):Dg (digs n):=by
 induction n using Nat.strongRecOn with
 | ind n ih=>
  by_cases h:n=0
  ·subst h;rw[digs_zero];exact dg_nil
  ·rw[digs_pos h]
   exact dg_cons.2 ⟨Nat.mod_lt _ (by omega),ih _ (Nat.div_lt_self (by omega) (by omega))⟩
theorem digs_length_le {k:Nat}:∀ {n:Nat},n<4294967296^k→(digs n).length≤k:=by
 induction k with
 | zero=>
   intro n h;have:n=0:=by simpa using h
   subst this;rw[digs_zero];exact Nat.le_refl _
 | succ k ih=>
  intro n h
  by_cases h0:n=0
  ·subst h0;rw[digs_zero];exact Nat.zero_le _
  ·rw[digs_pos h0,List.length_cons]
   refine Nat.succ_le_succ (ih ?_)
   rw[Nat.pow_succ] at h
   exact Nat.div_lt_of_lt_mul (by rw[Nat.mul_comm];exact h)
theorem val_lt {ds:List Nat} (h:Dg ds):val ds<4294967296^ds.length:=by
 induction ds with
 | nil=>exact Nat.one_pos
 | cons d ds ih=>
  have ih:=ih (dg_cons.1 h).2
  have hd:=(dg_cons.1 h).1
  rw[val,List.length_cons,Nat.pow_succ]
  omega
theorem digs_length_val {ds:List Nat} (h:Dg ds):(digs (val ds)).length≤ds.length:=digs_length_le (val_lt h)
theorem val_pos_digs {n:Nat}:digs n=[]↔n=0:=by
 constructor
 ·intro h
  have:=val_digs n
  rw[h] at this
  exact this.symm
 ·intro h;subst h;exact digs_zero
theorem digs_inj {a b:Nat} (h:digs a=digs b):a=b:=by
 have:=congrArg val h
 rwa [val_digs,val_digs] at this
theorem trN_cons (d:Nat) (ds:List Nat):∀ n,trN (d::ds) (n+1)=if trN ds n=0 then (if d=0 then 0 else 1) else trN ds n+1
 | 0=>by
  simp only[trN,List.getD_cons_zero,if_true]
 | n+1=>by
  rw[trN,trN_cons d ds n]
  simp only[List.getD_cons_succ]
  rw[trN]
  by_cases h:ds.getD n 0=0
  ·rw[if_pos h,if_pos h]
  ·rw[if_neg h,if_neg h,if_neg (by omega)]
theorem tr_cons (d:Nat) (ds:List Nat):tr (d::ds)=if tr ds=[] then (if d=0 then [] else [d]) else d::tr ds:=by
 have h0:tr ds=[]↔trN ds ds.length=0:=by
  have:=trN_le ds ds.length
  rw[tr,← List.length_eq_zero_iff,List.length_take]
  omega
 rw[tr,List.length_cons,trN_cons]
 by_cases h:trN ds ds.length=0
 ·rw[if_pos h,if_pos (h0.2 h)]
  split<;>rfl
 ·rw[if_neg h,if_neg (fun e=>h (h0.1 e))]
  rfl
theorem tr_eq {ds:List Nat} (h:Dg ds):tr ds=digs (val ds):=by
 induction ds with
 | nil=>rw[val,digs_zero];rfl
 | cons d ds ih=>
  have hd:=(dg_cons.1 h).1
  rw[tr_cons,ih (dg_cons.1 h).2,val]
  by_cases h0:val ds=0
  ·rw[if_pos (val_pos_digs.2 h0),h0]
   split
   ·subst d;exact digs_zero.symm
   ·rw[digs_pos (by omega),show (d+4294967296*0)%4294967296=d by omega,show (d+4294967296*0)/4294967296=0 by omega,digs_zero]
  ·rw[if_neg (fun e=>h0 (val_pos_digs.1 e)),digs_pos (n:=d+4294967296*val ds) (by omega),show (d+4294967296*val ds)%4294967296=d by omega,show (d+4294967296*val ds)/4294967296=val ds by omega]
theorem val_tr {ds:List Nat} (h:Dg ds):val (tr ds)=val ds:=by rw[tr_eq h,val_digs]
theorem val_app (a b:List Nat):val (a++b)=val a+4294967296^a.length*val b:=by
 induction a with
 | nil=>simp[val]
 | cons d a ih=>
  rw[List.cons_append,val,val,ih,List.length_cons,Nat.pow_succ,Nat.mul_add,Nat.add_assoc,Nat.mul_comm (4294967296^a.length) 4294967296,Nat.mul_assoc]
theorem val_set:∀ (l:List Nat) (i v:Nat),i<l.length→val (l.set i v)+4294967296^i*l.getD i 0=val l+4294967296^i*v
 | [],i,v,h=>by simp at h
 | d::l,0,v,h=>by simp[val];omega
 | d::l,i+1,v,h=>by
  have ih:=val_set l i v (by simpa using h)
  simp only[List.set_cons_succ,val,List.getD_cons_succ,Nat.pow_succ]
  rw[Nat.mul_comm (4294967296^i) 4294967296,Nat.mul_assoc,Nat.mul_assoc]
  omega
def vs (a:List Nat) (i:Nat):Nat:=val (a.take i)
theorem vs_zero (a:List Nat):vs a 0=0:=rfl
theorem vs_all {a:List Nat} {i:Nat} (h:a.length≤i):vs a i=val a:=by rw[vs,List.take_of_length_le h]
theorem vs_succ (a:List Nat) (i:Nat):vs a (i+1)=vs a i+4294967296^i*a.getD i 0:=by
 by_cases h:i<a.length
 ·rw[vs,List.take_succ_eq_append_getElem h,val_app,List.length_take,Nat.min_eq_left (by omega),List.getD_eq_getElem?_getD,List.getElem?_eq_getElem h,vs]
  simp[val]
 ·rw[vs_all (by omega),vs_all (by omega),List.getD_eq_getElem?_getD,List.getElem?_eq_none (by omega)]
  simp
theorem vs_lt {a:List Nat} (h:Dg a) (i:Nat):vs a i<4294967296^i:=by
 have h1:=val_lt (h.take i)
 refine Nat.lt_of_lt_of_le h1 (Nat.pow_le_pow_right (by omega) ?_)
 rw[List.length_take];omega
theorem val_rep (n:Nat):val (List.replicate n 0)=0:=by
 induction n with
 | zero=>rfl
 | succ n ih=>rw[List.replicate_succ,val,ih]
def cmpN (a b:List Nat):Nat→Int
 | 0=>0
 | n+1=>if a.getD n 0<b.getD n 0 then -1 else if a.getD n 0>b.getD n 0 then 1 else cmpN a b n
def cmpL (a b:List Nat):Int:=if a.length<b.length then -1 else if a.length>b.length then 1 else cmpN a b a.length
def cmpV (a b:Nat):Int:=if a<b then -1 else if a>b then 1 else 0
theorem cmpN_eq {a b:List Nat} (ha:Dg a) (hb:Dg b):∀ n,cmpN a b n=cmpV (vs a n) (vs b n)
 | 0=>by simp[cmpN,vs_zero,cmpV]
 | n+1=>by
  have ih:=cmpN_eq ha hb n
  have h1:=vs_lt ha n
  have h2:=vs_lt hb n
  rw[cmpN,vs_succ,vs_succ,ih]
  generalize 4294967296^n=p at *
  generalize a.getD n 0=x
  generalize b.getD n 0=y
  unfold cmpV
  by_cases h:x<y
  ·have:p*(x+1)≤p*y:=Nat.mul_le_mul_left _ h
   rw[Nat.mul_add] at this
   rw[if_pos h,if_pos (by omega)]
  ·by_cases h':x>y
   ·have:p*(y+1)≤p*x:=Nat.mul_le_mul_left _ h'
    rw[Nat.mul_add] at this
    rw[if_neg h,if_pos h',if_neg (by omega),if_pos (by omega)]
   ·have:x=y:=by omega
    subst this
    rw[if_neg h,if_neg h']
    simp only[Nat.add_lt_add_iff_right,gt_iff_lt]
theorem digs_length_pos {n k:Nat} (h:k<(digs n).length):4294967296^k≤n:=by
 apply Classical.byContradiction
 intro hn
 have:=digs_length_le (Nat.lt_of_not_le hn)
 omega
theorem cmpL_digs (a b:Nat):cmpL (digs a) (digs b)=cmpV a b:=by
 have ha:=val_lt (dg_digs a)
 have hb:=val_lt (dg_digs b)
 rw[val_digs] at ha hb
 unfold cmpL
 by_cases h:(digs a).length<(digs b).length
 ·have:=digs_length_pos h
  rw[if_pos h,cmpV,if_pos (by omega)]
 ·rw[if_neg h]
  by_cases h':(digs a).length>(digs b).length
  ·have:=digs_length_pos h'
   rw[if_pos h',cmpV,if_neg (by omega),if_pos (by omega)]
  ·rw[if_neg h',cmpN_eq (dg_digs a) (dg_digs b),vs_all (Nat.le_refl _),vs_all (by omega),val_digs,val_digs]
theorem cmpL_tr {a b:List Nat} (ha:Dg a) (hb:Dg b):cmpL (tr a) (tr b)=cmpV (val a) (val b):=by rw[tr_eq ha,tr_eq hb,cmpL_digs]
def addS (a b:List Nat):Nat→List Nat×Nat
 | 0=>([],0)
 | i+1=>((addS a b i).1++[((addS a b i).2+a.getD i 0+b.getD i 0)%4294967296],((addS a b i).2+a.getD i 0+b.getD i 0)/4294967296)
theorem addS_length (a b:List Nat):∀ i,(addS a b i).1.length=i
 | 0=>rfl
 | i+1=>by simp[addS,addS_length a b i]
theorem addS_carry {a b:List Nat} (ha:Dg a) (hb:Dg b):∀ i,(addS a b i).2≤1
 | 0=>by simp[addS]
 | i+1=>by
  have:=addS_carry ha hb i
  have h1:=ha i
  have h2:=hb i
  simp only[addS]
  omega
theorem addS_dg (a b:List Nat):∀ i,Dg (addS a b i).1
 | 0=>dg_nil
 | i+1=>dg_app (addS_dg a b i) (dg_one (Nat.mod_lt _ (by omega)))
theorem addS_val (a b:List Nat):∀ i,val (addS a b i).1+4294967296^i*(addS a b i).2=vs a i+vs b i
 | 0=>by simp[addS,val,vs_zero]
 | i+1=>by
  have ih:=addS_val a b i
  simp only[addS,val_app,addS_length,val,vs_succ,Nat.pow_succ]
  have h1:=pmd (4294967296^i) 4294967296 ((addS a b i).2+a.getD i 0+b.getD i 0)
  generalize hs:(addS a b i).2+a.getD i 0+b.getD i 0=s at *
  rw[← hs,Nat.mul_add,Nat.mul_add,hs] at h1
  rw[Nat.mul_zero,Nat.add_zero]
  omega
def addL1 (a b:List Nat):List Nat:=tr ((addS a b a.length).1++[(addS a b a.length).2])
def addL (a b:List Nat):List Nat:=if a.length<b.length then addL1 b a else addL1 a b
theorem addL1_eq {a b:List Nat} (ha:Dg a) (hb:Dg b) (h:b.length≤a.length):addL1 a b=digs (val a+val b):=by
 have hc:=addS_carry ha hb a.length
 rw[addL1,tr_eq (dg_app (addS_dg _ _ _) (dg_one (by omega))),val_app,addS_length]
 have:=addS_val a b a.length
 rw[vs_all (Nat.le_refl _),vs_all h] at this
 simp only[val,Nat.mul_zero,Nat.add_zero,this]
theorem addL_eq {a b:List Nat} (ha:Dg a) (hb:Dg b):addL a b=digs (val a+val b):=by
 unfold addL
 split
 ·rw[addL1_eq hb ha (by omega),Nat.add_comm]
 ·rw[addL1_eq ha hb (by omega)]
theorem addL_tr {a b:List Nat} (ha:Dg a) (hb:Dg b):addL (tr a) (tr b)=digs (val a+val b):=by
 rw[addL_eq (tr_dg ha) (tr_dg hb),val_tr ha,val_tr hb]
def mulS (b:List Nat) (x i:Nat):Nat→List Nat×Nat→List Nat×Nat
 | 0,s=>s
 | k+1,s=>let t:=mulS b x i k s
  (t.1.set (i+k) ((t.2+(t.1.getD (i+k) 0+x*b.getD k 0))%4294967296),(t.2+(t.1.getD (i+k) 0+x*b.getD k 0))/4294967296)
theorem mulS_length (b:List Nat) (x i:Nat) (s:List Nat×Nat):∀ k,(mulS b x i k s).1.length=s.1.length
 | 0=>rfl
 | k+1=>by simp[mulS,mulS_length b x i s k]
theorem mulS_bound {b:List Nat} {x i:Nat} {s:List Nat×Nat} (hb:Dg b) (hx:x<4294967296) (hs:Dg s.1) (hc:s.2<4294967296):∀ k,Dg (mulS b x i k s).1∧(mulS b x i k s).2<4294967296
 | 0=>⟨hs,hc⟩
 | k+1=>by
  obtain ⟨h1,h2⟩:=mulS_bound hb hx hs hc k
  have h3:=h1 (i+k)
  have h4:=hb k
  have h5:x*b.getD k 0≤4294967295*4294967295:=Nat.mul_le_mul (by omega) (by omega)
  refine ⟨h1.set _ _ (Nat.mod_lt _ (by omega)),?_⟩
  simp only[mulS]
  omega
theorem mulS_val (b:List Nat) (x i:Nat) (s:List Nat×Nat):∀ k,i+k≤s.1.length→val (mulS b x i k s).1+4294967296^(i+k)*(mulS b x i k s).2=val s.1+4294967296^i*(s.2+x*vs b k)
 | 0,_=>by simp[mulS,vs_zero]
 | k+1,h=>by
  have ih:=mulS_val b x i s k (by omega)
  have hl:=mulS_length b x i s k
  simp only[mulS,vs_succ]
  generalize mulS b x i k s=t at *
  have h1:=val_set t.1 (i+k) ((t.2+(t.1.getD (i+k) 0+x*b.getD k 0))%4294967296) (by omega)
  have h2:=pmd (4294967296^(i+k)) 4294967296 (t.2+(t.1.getD (i+k) 0+x*b.getD k 0))
  have h3:4294967296^i*(s.2+x*(vs b k+4294967296^k*b.getD k 0))=4294967296^i*(s.2+x*vs b k)+4294967296^(i+k)*(x*b.getD k 0):=by
   rw[Nat.pow_add]
   simp only[Nat.mul_add,Nat.add_assoc]
   congr 2
   simp only[← Nat.mul_assoc]
   congr 1
   rw[Nat.mul_right_comm]
  rw[h3]
  generalize hw:t.2+(t.1.getD (i+k) 0+x*b.getD k 0)=w at *
  rw[← hw,Nat.mul_add,Nat.mul_add,hw] at h2
  rw[← Nat.add_assoc,Nat.pow_succ]
  omega
def mulO (a b:List Nat):Nat→List Nat
 | 0=>List.replicate (a.length+b.length) 0
 | i+1=>(mulS b (a.getD i 0) i b.length (mulO a b i,0)).1.set (i+b.length) (mulS b (a.getD i 0) i b.length (mulO a b i,0)).2
def mulL (a b:List Nat):List Nat:=tr (mulO a b a.length)
theorem mulO_length (a b:List Nat):∀ i,(mulO a b i).length=a.length+b.length
 | 0=>by simp[mulO]
 | i+1=>by simp[mulO,mulS_length,mulO_length a b i]
theorem mulO_dg {a b:List Nat} (ha:Dg a) (hb:Dg b):∀ i,Dg (mulO a b i)
 | 0=>dg_rep _
 | i+1=>by
  have ih:=mulO_dg ha hb i
  obtain ⟨h1,h2⟩:=mulS_bound (i:=i) (s:=(mulO a b i,0)) hb (ha i) ih (by simp) b.length
  exact h1.set _ _ h2
theorem mulS_keep (b:List Nat) (x i:Nat) (s:List Nat×Nat) (j:Nat):∀ k,i+k≤j→(mulS b x i k s).1.getD j 0=s.1.getD j 0
 | 0,_=>rfl
 | k+1,h=>by
  have ih:=mulS_keep b x i s j k (by omega)
  rw[← ih]
  simp only[mulS,List.getD_eq_getElem?_getD]
  rw[List.getElem?_set_ne (by omega)]
theorem mulO_keep (a b:List Nat) (j:Nat):∀ i,i+b.length≤j→(mulO a b i).getD j 0=0
 | 0,h=>by
  simp only[mulO,List.getD_eq_getElem?_getD,List.getElem?_replicate]
  split<;>rfl
 | i+1,h=>by
  have ih:=mulO_keep a b j i (by omega)
  rw[mulO,getD_set_ne (by omega),mulS_keep b (a.getD i 0) i (mulO a b i,0) j b.length (by omega)]
  exact ih
theorem mulO_val (a b:List Nat):∀ i,i≤a.length→val (mulO a b i)=vs a i*val b
 | 0,_=>by simp[mulO,val_rep,vs_zero]
 | i+1,h=>by
  have ih:=mulO_val a b i (by omega)
  have hl:=mulO_length a b i
  have h1:=mulS_val b (a.getD i 0) i (mulO a b i,0) b.length (by simp only[hl];omega)
  have h0:(mulS b (a.getD i 0) i b.length (mulO a b i,0)).1.getD (i+b.length) 0=0:=by
   rw[mulS_keep _ _ _ _ _ _ (Nat.le_refl _)]
   exact mulO_keep a b _ i (Nat.le_refl _)
  have h2:=val_set (mulS b (a.getD i 0) i b.length (mulO a b i,0)).1 (i+b.length) (mulS b (a.getD i 0) i b.length (mulO a b i,0)).2 (by rw[mulS_length];simp only[hl];omega)
  rw[h0,Nat.mul_zero,Nat.add_zero] at h2
  rw[mulO,h2,h1,ih,vs_all (Nat.le_refl _),vs_succ,Nat.add_mul,Nat.zero_add,Nat.mul_assoc]
theorem mulL_eq {a b:List Nat} (ha:Dg a) (hb:Dg b):mulL a b=digs (val a*val b):=by
 rw[mulL,tr_eq (mulO_dg ha hb _),mulO_val _ _ _ (Nat.le_refl _),vs_all (Nat.le_refl _)]
theorem mulL_tr {a b:List Nat} (ha:Dg a) (hb:Dg b):mulL (tr a) (tr b)=digs (val a*val b):=by
 rw[mulL_eq (tr_dg ha) (tr_dg hb),val_tr ha,val_tr hb]
def subS (a b:List Nat):Nat→List Nat×Nat
 | 0=>(List.replicate a.length 0,0)
 | i+1=>if a.getD i 0<(subS a b i).2+b.getD i 0 then ((subS a b i).1.set i (a.getD i 0+4294967296-((subS a b i).2+b.getD i 0)),1)
  else ((subS a b i).1.set i (a.getD i 0-((subS a b i).2+b.getD i 0)),0)
def subL (a b:List Nat):List Nat:=tr (subS a b a.length).1
theorem subS_length (a b:List Nat):∀ i,(subS a b i).1.length=a.length
 | 0=>by simp[subS]
 | i+1=>by simp only[subS];split<;>simp[subS_length a b i]
theorem subS_borrow (a b:List Nat):∀ i,(subS a b i).2≤1
 | 0=>by simp[subS]
 | i+1=>by simp only[subS];split<;>simp
theorem subS_dg {a b:List Nat} (ha:Dg a) (hb:Dg b):∀ i,Dg (subS a b i).1
 | 0=>dg_rep _
 | i+1=>by
  have:=subS_borrow a b i
  have h1:=ha i
  have h2:=hb i
  simp only[subS]
  split
  ·exact (subS_dg ha hb i).set _ _ (by omega)
  ·exact (subS_dg ha hb i).set _ _ (by omega)
theorem subS_keep (a b:List Nat) (j:Nat):∀ i,i≤j→(subS a b i).1.getD j 0=0
 | 0,_=>by
  simp only[subS,List.getD_eq_getElem?_getD,List.getElem?_replicate]
  split<;>rfl
 | i+1,h=>by
  have ih:=subS_keep a b j i (by omega)
  simp only[subS]
  split<;>simp only[]<;>rw[getD_set_ne (by omega),ih]
theorem subS_step {p x y b v1:Nat} {va vb r:Nat} (ih:r+vb=va+p*b) :
  (x<b+y→b+y≤x+v1→r+p*(x+v1-(b+y))+(vb+p*y)=va+p*x+p*v1*1)∧(¬ x<b+y→r+p*(x-(b+y))+(vb+p*y)=va+p*x+p*v1*0):=by
 constructor
 ·intro h h'
  have e:=psub p v1 x (b+y) h'
  rw[Nat.mul_add _ b] at e
  rw[Nat.mul_one]
  omega
 ·intro h
  have e:=psub0 p x (b+y) (by omega)
  rw[Nat.mul_add _ b] at e
  rw[Nat.mul_zero]
  omega
theorem subS_val {a b:List Nat} (ha:Dg a) (hb:Dg b) (i:Nat):i≤a.length→val (subS a b i).1+vs b i=vs a i+4294967296^i*(subS a b i).2:=by
 induction i with
 | zero=>
  intro _
  rw[subS,val_rep,vs_zero,vs_zero]
  rfl
 | succ i ih=>
  intro h
  have ih:=ih (by omega)
  have hl:=subS_length a b i
  have h0:=subS_keep a b i i (Nat.le_refl _)
  have hc:=subS_borrow a b i
  have h1:=ha i
  have h2:=hb i
  rw[vs_succ,vs_succ,Nat.pow_succ,subS]
  obtain ⟨s1,s2⟩:=subS_step (x:=a.getD i 0) (y:=b.getD i 0) (v1:=4294967296) ih
  have hs:∀ v,val ((subS a b i).1.set i v)=val (subS a b i).1+4294967296^i*v:=by
   intro v
   have:=val_set (subS a b i).1 i v (by omega)
   rwa [h0,Nat.mul_zero,Nat.add_zero] at this
  split
  ·rename_i hlt
   rw[hs]
   exact s1 hlt (by omega)
  ·rename_i hlt
   rw[hs]
   exact s2 hlt
theorem vs_mono (a:List Nat) (i:Nat):∀ k,vs a i≤vs a (i+k)
 | 0=>Nat.le_refl _
 | k+1=>by rw[← Nat.add_assoc,vs_succ];exact Nat.le_trans (vs_mono a i k) (Nat.le_add_right _ _)
theorem vs_le (a:List Nat) (i:Nat):vs a i≤val a:=by
 have:=vs_mono a i a.length
 rwa [vs_all (by omega:a.length≤i+a.length)] at this
theorem vs_cut {a b:List Nat} (ha:Dg a) (h:val b≤val a):vs b a.length=val b:=by
 have h1:=val_lt ha
 apply Classical.byContradiction
 intro hn
 have hlt:vs b a.length<val b:=Nat.lt_of_le_of_ne (vs_le _ _) hn
 have:∀ k,vs b a.length<vs b (a.length+k)→4294967296^a.length≤vs b (a.length+k):=by
  intro k
  induction k with
  | zero=>intro h;exact absurd h (Nat.lt_irrefl _)
  | succ k ih=>
   intro hk
   rw[← Nat.add_assoc,vs_succ] at hk ⊢
   by_cases h0:vs b a.length<vs b (a.length+k)
   ·exact Nat.le_trans (ih h0) (Nat.le_add_right _ _)
   ·have:b.getD (a.length+k) 0≠0:=by
     intro e
     rw[e] at hk
     omega
    have h3:4294967296^a.length≤4294967296^(a.length+k):=Nat.pow_le_pow_right (by omega) (by omega)
    have h4:4294967296^(a.length+k)*1≤4294967296^(a.length+k)*b.getD (a.length+k) 0:=Nat.mul_le_mul_left _ (by omega)
    omega
 have:=this b.length (by rwa [vs_all (by omega:b.length≤a.length+b.length)])
 rw[vs_all (by omega:b.length≤a.length+b.length)] at this
 omega
theorem subL_eq {a b:List Nat} (ha:Dg a) (hb:Dg b) (h:val b≤val a):subL a b=digs (val a-val b):=by
 rw[subL,tr_eq (subS_dg ha hb _)]
 have h1:=subS_val ha hb a.length (Nat.le_refl _)
 rw[vs_all (Nat.le_refl _),vs_cut ha h] at h1
 have h2:=val_lt (subS_dg ha hb a.length)
 rw[subS_length] at h2
 have h3:=val_lt ha
 have hc:=subS_borrow a b a.length
 congr 1
 have:(subS a b a.length).2=0:=by
  apply Classical.byContradiction
  intro hn
  have e:(subS a b a.length).2=1:=by omega
  rw[e,Nat.mul_one] at h1
  omega
 rw[this,Nat.mul_zero,Nat.add_zero] at h1
 omega
theorem subL_tr {a b:List Nat} (ha:Dg a) (hb:Dg b) (h:val b≤val a):subL (tr a) (tr b)=digs (val a-val b):=by
 rw[subL_eq (tr_dg ha) (tr_dg hb) (by rwa [val_tr ha,val_tr hb]),val_tr ha,val_tr hb]
end Go.Ab
set_option linter.unusedVariables false
set_option linter.unusedSimpArgs false
set_option linter.unusedSectionVars false
namespace Go.Ab
section
variable {tk:TK} {k k':IntKind} {a b:Nat}
theorem n_gtr:binA tk .gtr (.int k a) (.int k b)=some (.bool (decide (a>b))):=by rw[binA_gtr];congr 2;exact decide_eq_decide.2 (by omega)
theorem n_lss:binA tk .lss (.int k a) (.int k b)=some (.bool (decide (a<b))):=by rw[binA_lss];congr 2;exact decide_eq_decide.2 (by omega)
theorem n_geq:binA tk .geq (.int k a) (.int k b)=some (.bool (decide (a≥b))):=by rw[binA_geq];congr 2;exact decide_eq_decide.2 (by omega)
theorem n_eql:binA tk .eql (.int k a) (.int k b)=some (.bool (decide (a=b))):=by rw[binA_eql];congr 2;exact decide_eq_decide.2 (by omega)
theorem n_neq:binA tk .neq (.int k a) (.int k b)=some (.bool (decide (a≠b))):=by rw[binA_neq];congr 2;exact decide_eq_decide.2 (by omega)
theorem n_gtr0:binA tk .gtr (.int k a) (.int k 0)=some (.bool (decide (a>0))):=n_gtr (b:=0)
theorem n_geq0:binA tk .geq (.int k a) (.int k 0)=some (.bool true):=by rw[binA_geq];congr 2
theorem n_eql0:binA tk .eql (.int k a) (.int k 0)=some (.bool (decide (a=0))):=n_eql (b:=0)
theorem n_neq0:binA tk .neq (.int k a) (.int k 0)=some (.bool (decide (a≠0))):=n_neq (b:=0)
theorem n_eql1:binA tk .eql (.int k a) (.int k 1)=some (.bool (decide (a=1))):=n_eql (b:=1)
theorem n_eql2:binA tk .eql (.int k a) (.int k 2)=some (.bool (decide (a=2))):=n_eql (b:=2)
theorem n_geqB:binA tk .geq (.int k a) (.int k 4294967296)=some (.bool (decide (a≥4294967296))):=n_geq (b:=4294967296)
theorem n_lssB:binA tk .lss (.int k a) (.int k 4294967296)=some (.bool (decide (a<4294967296))):=n_lss (b:=4294967296)
theorem u_add (h:a+b<18446744073709551616):binA tk .add (.int .u64 a) (.int .u64 b)=some (.int .u64 (a+b:Nat)):=by
 rw[binA_add,wrap_u64 (by omega) (by omega)];rfl
theorem u_mul (h:a*b<18446744073709551616):binA tk .mul (.int .u64 a) (.int .u64 b)=some (.int .u64 (a*b:Nat)):=by
 rw[binA_mul,← Int.natCast_mul,wrap_u64 (by omega) (by omega)]
theorem u_sub (h:b≤a) (h':a<18446744073709551616):binA tk .sub (.int .u64 a) (.int .u64 b)=some (.int .u64 (a-b:Nat)):=by
 rw[binA_sub,wrap_u64 (by omega) (by omega)]
 congr 2
 omega
theorem u_sub1 (h:1≤a) (h':a<18446744073709551616):binA tk .sub (.int .u64 a) (.int .u64 1)=some (.int .u64 (a-1:Nat)):=u_sub (b:=1) h h'
theorem u_quo (h:b≠0) (h':a<18446744073709551616):binA tk .quo (.int .u64 a) (.int .u64 b)=some (.int .u64 (a/b:Nat)):=by
 have e:binA tk .quo (.int .u64 a) (.int .u64 b)=if (b:Int)=0 then none else some (.int .u64 (IntKind.wrap .u64 ((a:Int).tdiv b))):=by cases tk<;>rfl
 rw[e,if_neg (by omega)]
 have e2:(a:Int).tdiv b=((a/b:Nat):Int):=rfl
 have:=Nat.div_le_self a b
 rw[e2]
 generalize a/b=q at *
 rw[wrap_u64 (by omega) (by omega)]
theorem u_rem (h:b≠0) (h':a<18446744073709551616):binA tk .rem (.int .u64 a) (.int .u64 b)=some (.int .u64 (a%b:Nat)):=by
 have e:binA tk .rem (.int .u64 a) (.int .u64 b)=if (b:Int)=0 then none else some (.int .u64 ((a:Int).tmod b)):=by cases tk<;>rfl
 rw[e,if_neg (by omega)]
 rfl
theorem u_and (h':a<18446744073709551616):binA tk .and (.int .u64 a) (.int .u64 4294967295)=some (.int .u64 (a%4294967296:Nat)):=by
 have e:binA tk .and (.int .u64 a) (.int .u64 4294967295)=some (.int .u64 (IntKind.wrap .u64 ((BitVec.ofInt 64 a &&& BitVec.ofInt 64 4294967295).toNat:Nat))):=by cases tk<;>rfl
 have e2:(BitVec.ofInt 64 (a:Int) &&& BitVec.ofInt 64 4294967295).toNat=a%4294967296:=by
  rw[BitVec.toNat_and,BitVec.toNat_ofInt,BitVec.toNat_ofInt]
  have h1:(((a:Nat):Int)%((2^64:Nat):Int)).toNat=a:=by omega
  have h2:((4294967295:Int)%((2^64:Nat):Int)).toNat=2^32-1:=by omega
  rw[h1,h2,Nat.and_two_pow_sub_one_eq_mod]
 rw[e,e2,wrap_u64 (by omega) (by omega)]
theorem u_shl32 (h:a<4294967296):binA tk .shl (.int .u64 a) (.int k' 32)=some (.int .u64 (a*4294967296:Nat)):=binA_shl32 tk k' a h
theorem u_shr32:binA tk .shr (.int .u64 a) (.int k' 32)=some (.int .u64 (a/4294967296:Nat)):=by
 rw[binA_shr32 tk k' a (by omega)];rfl
theorem u_orlo (h:a<4294967296) (h':b<4294967296):binA tk .or (.int .u64 (a*4294967296:Nat)) (.int .u64 b)=some (.int .u64 (a*4294967296+b:Nat)):=by
 have e:binA tk .or (.int .u64 (a*4294967296:Nat)) (.int .u64 b)=some (.int .u64 (IntKind.wrap .u64 ((BitVec.ofInt 64 (a*4294967296:Nat) ||| BitVec.ofInt 64 b).toNat:Nat))):=by cases tk<;>rfl
 have e2:(BitVec.ofInt 64 ((a*4294967296:Nat):Int) ||| BitVec.ofInt 64 (b:Int)).toNat=a*4294967296+b:=by
  rw[BitVec.toNat_or,BitVec.toNat_ofInt,BitVec.toNat_ofInt]
  have h1:(((b:Nat):Int)%((2^64:Nat):Int)).toNat=b:=by omega
  have h2:(((a*4294967296:Nat):Int)%((2^64:Nat):Int)).toNat=a*4294967296:=by omega
  rw[h1,h2]
  have:=Nat.two_pow_add_eq_or_of_lt (i:=32) (b:=b) (by omega) a
  rw[show a*4294967296=2^32*a by omega,← this]
 rw[e,e2,wrap_u64 (by omega) (by omega)]
theorem i_add (h:a+b<9223372036854775808):binA tk .add (.int .i64 a) (.int .i64 b)=some (.int .i64 (a+b:Nat)):=by
 rw[binA_add,wrap_i64 (by omega) (by omega)];rfl
theorem i_add1 (h:a+1<9223372036854775808):binA tk .add (.int .i64 a) (.int .i64 1)=some (.int .i64 (a+1:Nat)):=i_add (b:=1) h
theorem i_sub (h:b≤a) (h':a<9223372036854775808):binA tk .sub (.int .i64 a) (.int .i64 b)=some (.int .i64 (a-b:Nat)):=by
 rw[binA_sub,wrap_i64 (by omega) (by omega)]
 congr 2
 omega
theorem i_sub1 (h:1≤a) (h':a<9223372036854775808):binA tk .sub (.int .i64 a) (.int .i64 1)=some (.int .i64 (a-1:Nat)):=i_sub (b:=1) h h'
theorem i_sub2 (h:2≤a) (h':a<9223372036854775808):binA tk .sub (.int .i64 a) (.int .i64 2)=some (.int .i64 (a-2:Nat)):=i_sub (b:=2) h h'
theorem i_sub1z (h':a<9223372036854775808):binA tk .sub (.int .i64 a) (.int .i64 1)=some (.int .i64 ((a:Int)-1)):=by
 rw[binA_sub,wrap_i64 (by omega) (by omega)]
theorem c_up (h:a<18446744073709551616):convA .u64 (.int k a)=some (.int .u64 a):=by rw[convA_int,wrap_u64 (by omega) (by omega)]
theorem c_dn:convA .u32 (.int k a)=some (.int .u32 (a%4294967296:Nat)):=by rw[convA_int,wrap_u32_eq];rfl
theorem c_dg (d:Nat) (h:d<4294967296):convA .u64 (dg d)=some (.int .u64 d):=c_up (by omega)
theorem u32_shl {s:Nat} (hs:s<32) (h:a<4294967296):binA tk .shl (.int .u32 a) (.int .u64 s)=some (.int .u32 (a*2^s%4294967296:Nat)):=by
 have e:binA tk .shl (.int .u32 a) (.int .u64 s)=shiftA true .u32 a s:=by cases tk<;>rfl
 have e3:IntKind.bits .u32=32:=rfl
 rw[e,shiftA,if_neg (by omega),if_pos rfl,e3,Int.toNat_natCast,Nat.min_eq_left (by omega),wrap_u32_eq]
 congr 2
theorem u32_shr {s:Nat} (hs:s<32):binA tk .shr (.int .u32 a) (.int .u64 s)=some (.int .u32 (a/2^s:Nat)):=by
 have e:binA tk .shr (.int .u32 a) (.int .u64 s)=shiftA false .u32 a s:=by cases tk<;>rfl
 have e3:IntKind.bits .u32=32:=rfl
 rw[e,shiftA,if_neg (by omega),if_neg (by decide),e3,Int.toNat_natCast,Nat.min_eq_left (by omega),Int.fdiv_eq_ediv_of_nonneg _ (by exact Int.le_of_lt (Int.pow_pos (by omega)))]
 congr 2
theorem u64_shl {s:Nat} (hs:s<32) (h:a<4294967296):binA tk .shl (.int .u64 a) (.int .u64 s)=some (.int .u64 (a*2^s:Nat)):=by
 have e:binA tk .shl (.int .u64 a) (.int .u64 s)=shiftA true .u64 a s:=by cases tk<;>rfl
 have e3:IntKind.bits .u64=64:=rfl
 have h1:2^s≤2^31:=Nat.pow_le_pow_right (by omega) (by omega)
 have h2:a*2^s≤a*2^31:=Nat.mul_le_mul_left _ h1
 have h3:(a:Int)*2^s=((a*2^s:Nat):Int):=by rw[Int.natCast_mul,Int.natCast_pow];rfl
 rw[e,shiftA,if_neg (by omega),if_pos rfl,e3,Int.toNat_natCast,Nat.min_eq_left (by omega),h3,wrap_u64 (by omega) (by omega)]
theorem or_disj {x y s:Nat} (h:x<2^s) (hy:y%2^s=0):x ||| y=x+y:=by
 have e:y=2^s*(y/2^s):=by have:=Nat.div_add_mod y (2^s);omega
 rw[e,Nat.or_comm,← Nat.two_pow_add_eq_or_of_lt h,Nat.add_comm]
theorem u32_or {s:Nat} (h:a<2^s) (hb:b%2^s=0) (hs:a+b<4294967296):binA tk .or (.int .u32 a) (.int .u32 b)=some (.int .u32 (a+b:Nat)):=by
 have e:binA tk .or (.int .u32 a) (.int .u32 b)=some (.int .u32 (IntKind.wrap .u32 ((BitVec.ofInt 32 a ||| BitVec.ofInt 32 b).toNat:Nat))):=by cases tk<;>rfl
 have e2:(BitVec.ofInt 32 (a:Int) ||| BitVec.ofInt 32 (b:Int)).toNat=a+b:=by
  rw[BitVec.toNat_or,BitVec.toNat_ofInt,BitVec.toNat_ofInt]
  have h1:(((a:Nat):Int)%((2^32:Nat):Int)).toNat=a:=by omega
  have h2:(((b:Nat):Int)%((2^32:Nat):Int)).toNat=b:=by omega
  rw[h1,h2,or_disj h hb]
 rw[e,e2,wrap_u32 (by omega) (by omega)]
theorem u32_add:binA tk .add (.int .u32 a) (.int .u32 b)=some (.int .u32 ((a+b)%4294967296:Nat)):=by
 rw[binA_add,wrap_u32_eq];rfl
end
theorem index_nv {x:NV} {k:IntKind} {i:Nat} (h:i<x.ds.length):indexAddrA none x.av (.int k i)=some (.vptr [dg (x.ds.getD i 0)]):=by
 rw[NV.av,indexA_dg (by omega) (by omega)];simp
theorem index_nv0 {x:NV} {k:IntKind} (h:0<x.ds.length):indexAddrA none x.av (.int k 0)=some (.vptr [dg (x.ds.getD 0 0)]):=index_nv (i:=0) h
theorem len_nv (x:NV):lenA false x.av=some (.int .i64 x.ds.length):=by simp[NV.av,lenA]
theorem load_v {m:Mem} {x:AV}:loadA none m (.vptr [x])=some x:=rfl
def oc (ds:List Nat):Option Ent:=some (.obj false (ds.map dg))
theorem oc_get {m:Mem} {n:Nat} {ds:List Nat} (h:m[n]?=some (oc ds)):m.obj? n=some (false,ds.map dg):=by
 simp[Mem.obj?,Mem.get,h,oc]
theorem load_at {m:Mem} {n:Nat} {ds:List Nat} {i:Nat} (h:m[n]?=some (oc ds)) (hi:i<ds.length):loadA none m (.ptr n i)=some (dg (ds.getD i 0)):=by
 simp[loadA,oc_get h,cutSh,List.getD_eq_getElem?_getD,hi]
theorem store_at {m:Mem} {n:Nat} {ds:List Nat} {i v:Nat} (h:m[n]?=some (oc ds)) (hi:i<ds.length):storeA none m (.ptr n i) (.int .u32 v)=some (m.set n (oc (ds.set i v))):=by
 have h1:i+1≤ds.length:=hi
 simp only[storeA,oc_get h,oBs,Sh.size,List.length_map,h1,if_true,shOk,atomOk,AV.cells,oc]
 congr 4
 simp only[putAt,List.length_cons,List.length_nil]
 rw[List.map_set,List.set_eq_take_append_cons_drop]
 simp[hi,dg,List.map_take,List.map_drop]
theorem make_oc {e b:Nat} {m:Mem} {n:Nat} (h':n*b≤281474976710656) (h2:n≤9223372036854775807):makeA none e none (.int .u32 0) b m (.int .i64 n) (.int .i64 n)=some (.arr m.length 0 n none,m++[oc (List.replicate n 0)]):=make_obj h' h2
theorem len_arr (nm n:Nat):lenA false (.arr nm 0 n none)=some (.int .i64 n):=rfl
theorem frz_at {m:Mem} {nm:Nat} {ds:List Nat} (h:m[nm]?=some (oc ds)):frz m fuelF (.arr nm 0 ds.length none)=some (.lst none false .no (ds.map dg),[nm]):=by
 have h1:((ds.map dg).all atomOk)=true:=by simp[List.all_map,dg,atomOk]
 show (m.obj? nm).bind _=_
 rw[oc_get h]
 simp only[oBs,Sh.size,List.length_map,Nat.zero_add,Nat.mul_one,Nat.le_refl,decide_true,Bool.not_false,Bool.and_self,if_true,List.drop_zero,List.take_of_length_le (by simp:(ds.map dg).length≤ds.length)]
 rw[mapF_dg]
 simp only[oBs,h1,plL_dg,Bool.and_self,if_true,grp]
 rw[List.take_of_length_le (by simp)]
theorem pcall_at {cp:Nat→List AV→Option AV} {m:Mem} {g nm:Nat} {ds:List Nat} (h:m[nm]?=some (oc ds)):pcall cp none m g [.arr nm 0 ds.length none]=(cp g [(NV.mk false .no ds).av]).map fun v=>(v,m.set nm none):=by
 simp only[pcall,mapF,frz_at h,oBs,kill,Option.isSome_none,Bool.false_and,List.append_nil,List.foldl_cons,List.foldl_nil]
 rfl
end Go.Ab
set_option linter.unusedVariables false
set_option linter.unusedSimpArgs false
namespace Go.Ab
open Go.Proofs.Try
theorem L124 (x:NV) (m:Mem) (K:KT):∀ n:Nat,n≤x.ds.length→x.ds.length<2^62→L124_2 x.av (.int .i64 n) m K=K (.exit 0) (O124_2 x.av (.int .i64 (trN x.ds n)) m):=by
 intro n
 induction n with
 | zero=>
  intro _ _
  rw[L124_2_eq]
  simp[binA_gtr,ifA,trN]
 | succ n ih=>
  intro hn hl
  have ih:=ih (by omega) hl
  rw[L124_2_eq]
  have h1:((n+1:Nat):Int)>0:=by omega
  have h2:IntKind.wrap .i64 (((n+1:Nat):Int)-1)=n:=by rw[wrap_i64]<;>omega
  simp only[binA_gtr,oBs,ifA_dec,if_pos h1,binA_sub,h2]
  rw[NV.av,indexA_dg (by omega) (by omega)]
  simp only[oBs,loadA_one,dg,binA_eql,ifA_dec,Int.toNat_natCast]
  rw[trN]
  by_cases h:x.ds.getD n 0=0
  ·rw[if_pos (by omega),if_pos h]
   exact ih
  ·rw[if_neg (by omega),if_neg h]
theorem T124' (x:NV) (m:Mem) (hl:x.ds.length<2^62):AC cfg 124 [x.av] m=some (NV.av ⟨x.z,.no,tr x.ds⟩,m):=by
 rw[T124]
 simp only[NV.av,lenA_lst,oBs,List.length_map]
 have:=L124 x m (K124_2 (finK cfg.P f124.results.toList)) x.ds.length (Nat.le_refl _) hl
 rw[NV.av] at this
 rw[this,K124_2_x0,sliceT_to (by omega) (by have:=trN_le x.ds x.ds.length;omega)]
 simp[tr]
theorem P124 (x:NV) (hl:x.ds.length<2^62):AP cfg 124 [x.av]=some (NV.av ⟨x.z,.no,tr x.ds⟩):=
 AP_of (T124' x [] hl) (fz_nv _ _) (by simp[noV_nv])
theorem L109 (x y:NV) (m:Mem) (K:KT) (hl:x.ds.length<2^62):∀ n:Nat,n≤x.ds.length→n≤y.ds.length →
  L109_7 x.av y.av (.int .i64 ((n:Int)-1)) m K=if cmpN x.ds y.ds n=0 then K (.exit 1) (O109_7 m) else K .ret (R109_7 (.int .i64 (cmpN x.ds y.ds n)) m):=by
 intro n
 induction n with
 | zero=>
  intro _ _
  rw[L109_7_eq]
  simp[binA_geq,ifA,cmpN]
 | succ n ih=>
  intro hx hy
  have ih:=ih (by omega) (by omega)
  rw[L109_7_eq]
  have h1:((n+1:Nat):Int)-1=n:=by omega
  have h0:(n:Int)≥0:=by omega
  have h2:IntKind.wrap .i64 ((n:Int)-1)=(n:Int)-1:=by rw[wrap_i64]<;>omega
  simp only[h1,binA_geq,oBs,ifA_dec,if_pos h0]
  simp only[NV.av] at ih ⊢
  rw[indexA_dg (by omega) (by omega),indexA_dg (by omega) (by omega)]
  simp only[oBs,loadA_one,dg,binA_lss,binA_gtr,ifA_dec,Int.toNat_natCast,binA_sub,h2]
  rw[cmpN]
  by_cases h:x.ds.getD n 0<y.ds.getD n 0
  ·rw[if_pos (by omega),if_pos h]
   rfl
  ·rw[if_neg (by omega),if_neg h]
   by_cases h':x.ds.getD n 0>y.ds.getD n 0
   ·rw[if_pos (by omega),if_pos h']
    rfl
   ·rw[if_neg (by omega),if_neg h']
    exact ih
theorem T109' (x y:NV) (m:Mem) (hx:x.ds.length<2^62) (hy:y.ds.length<2^62):AC cfg 109 [x.av,y.av] m=some (.int .i64 (cmpL (tr x.ds) (tr y.ds)),m):=by
 have ha:(tr x.ds).length<2^62:=by simp only[tr,List.length_take];omega
 rw[T109,pcall1 (fz_nv x),P124 x.fr hx]
 simp only[Option.map_some,oBs,pcall1 (fz_nv y),P124 y.fr hy]
 simp only[NV.av,lenA_lst,List.length_map,oBs,binA_lss,binA_gtr,ifA_dec,binA_sub,NV.fr]
 unfold cmpL
 by_cases h:(tr x.ds).length<(tr y.ds).length
 ·rw[if_pos (by omega),if_pos h]
 ·rw[if_neg (by omega),if_neg h]
  by_cases h':(tr x.ds).length>(tr y.ds).length
  ·rw[if_pos (by omega),if_pos h']
  ·rw[if_neg (by omega),if_neg h',wrap_i64 (by omega) (by omega)]
   have:=L109 ⟨x.z,.no,tr x.ds⟩ ⟨y.z,.no,tr y.ds⟩ m (K109_7 (finK cfg.P f109.results.toList)) ha (tr x.ds).length (Nat.le_refl _) (by simp only;omega)
   simp only[NV.av] at this
   rw[this,K109_7_x1,K109_7_ret]
   split
   ·rename_i h0;rw[h0]
   ·rfl
theorem P109 (x y:NV) (hx:x.ds.length<2^62) (hy:y.ds.length<2^62):AP cfg 109 [x.av,y.av]=some (.int .i64 (cmpL (tr x.ds) (tr y.ds))):=
 AP_of (T109' x y [] hx hy) (fz_int _ _ _) (by simp[noV])
theorem L108 (x y:NV) (m:Mem) (K:KT) (hl:x.ds.length<2^40) (hy:y.ds.length≤x.ds.length) (dx:Dg x.ds) (dy:Dg y.ds):∀ j i:Nat,i+j=x.ds.length →
  L108_7 y.av (.lst none false (.tok m.length 116) ((addS x.ds y.ds i).1.map dg)) (.int .u64 (addS x.ds y.ds i).2) x.av (.int .i64 x.ds.length) (.int .i64 i) (tokM m i) K
   = K (.exit 0) (O108_7 (.lst none false (.tok m.length 116) ((addS x.ds y.ds x.ds.length).1.map dg)) (.int .u64 (addS x.ds y.ds x.ds.length).2) (tokM m x.ds.length)):=by
 intro j
 induction j with
 | zero=>
  intro i hi
  have:i=x.ds.length:=by omega
  subst this
  rw[L108_7_eq]
  simp[binA_lss,ifA]
 | succ j ih=>
  intro i hi
  have ih:=ih (i+1) (by omega)
  have hc:=addS_carry dx dy i
  have h1:=dx i
  have h2:=dy i
  rw[L108_7_eq]
  have hi':((i:Nat):Int)<(x.ds.length:Int):=by omega
  have hw:IntKind.wrap .i64 ((i:Int)+1)=((i+1:Nat):Int):=by rw[wrap_i64]<;>omega
  simp only[binA_lss,oBs,ifA_dec,if_pos hi']
  simp only[NV.av] at ih ⊢
  have hidx:indexAddrA none (.lst none x.z x.o (x.ds.map dg)) (.int .i64 i)=some (.vptr [dg (x.ds.getD i 0)]):=by
   rw[indexA_dg (by omega) (by omega)];simp
  rw[hidx]
  have e1:IntKind.wrap .u64 ((x.ds.getD i 0:Nat):Int)=(x.ds.getD i 0:Nat):=by rw[wrap_u64]<;>omega
  have e2:IntKind.wrap .u64 (((addS x.ds y.ds i).2:Int)+(x.ds.getD i 0:Nat))=(((addS x.ds y.ds i).2+x.ds.getD i 0:Nat):Int):=by rw[wrap_u64]<;>omega
  simp only[oBs,loadA_one,dg,convA_int,e1,binA_add,e2,lenA_lst,List.length_map,binA_lss,ifA_dec,hw]
  have fin:∀ s:Nat,s=(addS x.ds y.ds i).2+x.ds.getD i 0+y.ds.getD i 0→(appA none false 116 none 4 (tokM m i) (.lst none false (.tok m.length 116) ((addS x.ds y.ds i).1.map dg)) (.lst none false .full [.int .u32 (IntKind.wrap .u32 s)]))=some (.lst none false (.tok m.length 116) ((addS x.ds y.ds (i+1)).1.map dg),tokM m (i+1)):=by
   intro s hs
   have hlen:((addS x.ds y.ds i).1.map dg).length=i:=by rw[List.length_map,addS_length]
   have:=app_tok (e:=116) (b:=4) (m:=m) (es:=(addS x.ds y.ds i).1.map dg) (z:=false) (o:=.full) (y:=.int .u32 (IntKind.wrap .u32 s)) (by rw[hlen];simp only[roomA];omega)
   rw[hlen] at this
   rw[this]
   congr 3
   simp only[addS,List.map_append,List.map_cons,List.map_nil,dg,wrap_u32_eq,← hs]
   rfl
  by_cases h:(i:Int)<(y.ds.length:Int)
  ·rw[if_pos h]
   have hidy:indexAddrA none (.lst none y.z y.o (y.ds.map dg)) (.int .i64 i)=some (.vptr [dg (y.ds.getD i 0)]):=by
    rw[indexA_dg (by omega) (by omega)];simp
   have e3:IntKind.wrap .u64 ((y.ds.getD i 0:Nat):Int)=(y.ds.getD i 0:Nat):=by rw[wrap_u64]<;>omega
   have e4:IntKind.wrap .u64 ((((addS x.ds y.ds i).2+x.ds.getD i 0:Nat):Int)+(y.ds.getD i 0:Nat))=(((addS x.ds y.ds i).2+x.ds.getD i 0+y.ds.getD i 0:Nat):Int):=by rw[wrap_u64]<;>omega
   have hidy':=hidy
   simp only[dg] at hidy'
   rw[hidy']
   simp only[oBs,loadA_one,convA_int,e3,binA_add,e4,build_int]
   have f:=fin _ rfl
   rw[f]
   simp only[oBs,binA_shr32 _ _ _ (Int.natCast_nonneg _),hw]
   exact ih
  ·rw[if_neg h]
   have h0:y.ds.getD i 0=0:=by
    rw[List.getD_eq_getElem?_getD,List.getElem?_eq_none (by omega)];rfl
   simp only[oBs,convA_int,build_int]
   have f:=fin ((addS x.ds y.ds i).2+x.ds.getD i 0) (by omega)
   rw[f]
   simp only[oBs,binA_shr32 _ _ _ (Int.natCast_nonneg _),binA_add,hw]
   have:(addS x.ds y.ds (i+1)).2=((addS x.ds y.ds i).2+x.ds.getD i 0)/4294967296:=by simp only[addS,h0,Nat.add_zero]
   rw[this] at ih
   exact ih
theorem K108 (a b:List Nat) (m:Mem) (hl:a.length<2^40) (da:Dg a) (db:Dg b):K108_7 (finK cfg.P f108.results.toList) (.exit 0) (O108_7 (.lst none false (.tok m.length 116) ((addS a b a.length).1.map dg)) (.int .u64 (addS a b a.length).2) (tokM m a.length))=some (NV.av ⟨false,.no,addL1 a b⟩,tokM m (a.length+1)):=by
 have hc:=addS_carry da db a.length
 have hlen:((addS a b a.length).1.map dg).length=a.length:=by rw[List.length_map,addS_length]
 rw[K108_7_x0]
 simp only[convA_int,oBs,build_int,wrap_u32 (Int.natCast_nonneg _) (by omega:(((addS a b a.length).2:Nat):Int)<4294967296)]
 have:=app_tok (e:=116) (b:=4) (m:=m) (es:=(addS a b a.length).1.map dg) (z:=false) (o:=.full) (y:=.int .u32 (addS a b a.length).2) (by rw[hlen];simp only[roomA];omega)
 rw[hlen] at this
 rw[this]
 simp only[oBs]
 have e:(AV.lst none false (.tok m.length 116) ((addS a b a.length).1.map dg++[.int .u32 (addS a b a.length).2]))=NV.av ⟨false,.tok m.length 116,(addS a b a.length).1++[(addS a b a.length).2]⟩:=by simp[NV.av,dg]
 rw[e,pcall1 (fz_nv _),P124 _ (by simp only[NV.fr,List.length_append,addS_length,List.length_cons,List.length_nil];omega)]
 rfl
theorem T108' (x y:NV) (m:Mem) (hx:x.ds.length<2^40) (hy:y.ds.length<2^40) (dx:Dg x.ds) (dy:Dg y.ds):∃ m',AC cfg 108 [x.av,y.av] m=some (NV.av ⟨false,.no,addL (tr x.ds) (tr y.ds)⟩,m'):=by
 have hx':=tr_length x.ds
 have hy':=tr_length y.ds
 have dx':=tr_dg dx
 have dy':=tr_dg dy
 rw[T108,pcall1 (fz_nv x),P124 x.fr (by simp only[NV.fr];omega)]
 simp only[Option.map_some,oBs,pcall1 (fz_nv y),P124 y.fr (by simp only[NV.fr];omega)]
 simp only[NV.av,lenA_lst,List.length_map,oBs,binA_lss,ifA_dec,binA_add,NV.fr]
 unfold addL
 by_cases h:(tr x.ds).length<(tr y.ds).length
 ·rw[if_pos (by omega),if_pos h,wrap_i64 (by omega) (by omega),make_tok (by omega) (by omega) (by omega)]
  simp only[oBs]
  have:=L108 ⟨y.z,.no,tr y.ds⟩ ⟨x.z,.no,tr x.ds⟩ m (K108_7 (finK cfg.P f108.results.toList)) (by simp only;omega) (by simp only;omega) dy' dx' (tr y.ds).length 0 (by simp)
  simp only[NV.av,addS,List.map_nil] at this
  refine ⟨_,this.trans (K108 (tr y.ds) (tr x.ds) m (by omega) dy' dx')⟩
 ·rw[if_neg (by omega),if_neg h,wrap_i64 (by omega) (by omega),make_tok (by omega) (by omega) (by omega)]
  simp only[oBs]
  have:=L108 ⟨x.z,.no,tr x.ds⟩ ⟨y.z,.no,tr y.ds⟩ m (K108_7 (finK cfg.P f108.results.toList)) (by simp only;omega) (by simp only;omega) dx' dy' (tr x.ds).length 0 (by simp)
  simp only[NV.av,addS,List.map_nil] at this
  refine ⟨_,this.trans (K108 (tr x.ds) (tr y.ds) m (by omega) dx' dy')⟩
theorem P108 (x y:NV) (hx:x.ds.length<2^40) (hy:y.ds.length<2^40) (dx:Dg x.ds) (dy:Dg y.ds):AP cfg 108 [x.av,y.av]=some (NV.av ⟨false,.no,addL (tr x.ds) (tr y.ds)⟩):=by
 obtain ⟨m',h⟩:=T108' x y [] hx hy dx dy
 exact AP_of h (fz_nv _ _) (by simp[noV_nv])
theorem L107b (y:NV) (m:Mem) (K:KT) (x i n:Nat) (s:List Nat×Nat) (v21 v22 v23:AV) (hl:n<2^42) (hn:s.1.length=n) (hi:i+y.ds.length≤n) (dy:Dg y.ds) (hx:x<4294967296) (hs:Dg s.1) (hc:s.2<4294967296):∀ j k:Nat,k+j=y.ds.length →
  L107_8 y.av (.arr m.length 0 n none) (.int .i64 i) (dg x) (.int .u64 (mulS y.ds x i k s).2) v21 v22 v23 y.av (.int .i64 y.ds.length) (.int .i64 k) (objM m (mulS y.ds x i k s).1) K
   = K (.exit 2) (O107_8 y.av (.arr m.length 0 n none) (.int .i64 i) (.int .u64 (mulS y.ds x i y.ds.length s).2) v21 v22 v23 (objM m (mulS y.ds x i y.ds.length s).1)):=by
 intro j
 induction j with
 | zero=>
  intro k hk
  have:k=y.ds.length:=by omega
  subst this
  rw[L107_8_eq]
  simp[binA_lss,ifA]
 | succ j ih=>
  intro k hk
  have ih:=ih (k+1) (by omega)
  obtain ⟨h1,h2⟩:=mulS_bound (i:=i) dy hx hs hc k
  have h3:=h1 (i+k)
  have h4:=dy k
  have h5:x*y.ds.getD k 0≤4294967295*4294967295:=Nat.mul_le_mul (by omega) (by omega)
  have hlen:=mulS_length y.ds x i s k
  rw[L107_8_eq]
  have hk':((k:Nat):Int)<(y.ds.length:Int):=by omega
  have hw:IntKind.wrap .i64 ((k:Int)+1)=((k+1:Nat):Int):=by rw[wrap_i64]<;>omega
  have hw2:IntKind.wrap .i64 ((i:Int)+k)=((i+k:Nat):Int):=by rw[wrap_i64]<;>omega
  simp only[binA_lss,oBs,ifA_dec,if_pos hk']
  have hidx:indexAddrA none y.av (.int .i64 k)=some (.vptr [dg (y.ds.getD k 0)]):=by
   rw[NV.av,indexA_dg (by omega) (by omega)];simp
  rw[hidx]
  simp only[oBs,loadA_one,binA_add,hw2]
  rw[index_arr (by omega),oBs,load_obj (by omega)]
  have e1:IntKind.wrap .u64 (((mulS y.ds x i k s).1.getD (i+k) 0:Nat):Int)=((mulS y.ds x i k s).1.getD (i+k) 0:Nat):=by rw[wrap_u64]<;>omega
  have e2:IntKind.wrap .u64 ((x:Nat):Int)=x:=by rw[wrap_u64]<;>omega
  have e3:IntKind.wrap .u64 ((y.ds.getD k 0:Nat):Int)=(y.ds.getD k 0:Nat):=by rw[wrap_u64]<;>omega
  have e4:IntKind.wrap .u64 ((x:Int)*(y.ds.getD k 0:Nat))=((x*y.ds.getD k 0:Nat):Int):=by rw[← Int.natCast_mul,wrap_u64]<;>omega
  have e5:IntKind.wrap .u64 ((((mulS y.ds x i k s).1.getD (i+k) 0:Nat):Int)+(x*y.ds.getD k 0:Nat))=(((mulS y.ds x i k s).1.getD (i+k) 0+x*y.ds.getD k 0:Nat):Int):=by rw[wrap_u64]<;>omega
  have e6:IntKind.wrap .u64 (((mulS y.ds x i k s).2:Int)+((mulS y.ds x i k s).1.getD (i+k) 0+x*y.ds.getD k 0:Nat))=(((mulS y.ds x i k s).2+((mulS y.ds x i k s).1.getD (i+k) 0+x*y.ds.getD k 0):Nat):Int):=by rw[wrap_u64]<;>omega
  have e7:IntKind.wrap .u32 (((mulS y.ds x i k s).2+((mulS y.ds x i k s).1.getD (i+k) 0+x*y.ds.getD k 0):Nat):Int)=((((mulS y.ds x i k s).2+((mulS y.ds x i k s).1.getD (i+k) 0+x*y.ds.getD k 0))%4294967296:Nat):Int):=by rw[wrap_u32_eq];rfl
  simp only[dg,oBs,convA_int,e1,e2,e3,binA_mul,e4,e5,e6,e7,binA_add,hw2]
  rw[store_obj (by omega)]
  simp only[oBs,binA_shr32 _ _ _ (Int.natCast_nonneg _),hw]
  exact ih
theorem L107 (x y:NV) (m:Mem) (K:KT) (hx:x.ds.length<2^40) (hy:y.ds.length<2^40) (dx:Dg x.ds) (dy:Dg y.ds):∀ j i:Nat,i+j=x.ds.length →
  L107_4 y.av (.arr m.length 0 (x.ds.length+y.ds.length) none) x.av (.int .i64 x.ds.length) (.int .i64 i) (objM m (mulO x.ds y.ds i)) K
   = K (.exit 0) (O107_4 (.arr m.length 0 (x.ds.length+y.ds.length) none) (objM m (mulO x.ds y.ds x.ds.length))):=by
 intro j
 induction j with
 | zero=>
  intro i hi
  have:i=x.ds.length:=by omega
  subst this
  rw[L107_4_eq]
  simp[binA_lss,ifA]
 | succ j ih=>
  intro i hi
  have ih:=ih (i+1) (by omega)
  rw[L107_4_eq]
  have hi':((i:Nat):Int)<(x.ds.length:Int):=by omega
  have hw:IntKind.wrap .i64 ((i:Int)+1)=((i+1:Nat):Int):=by rw[wrap_i64]<;>omega
  have hw2:IntKind.wrap .i64 ((i:Int)+y.ds.length)=((i+y.ds.length:Nat):Int):=by rw[wrap_i64]<;>omega
  simp only[binA_lss,oBs,ifA_dec,if_pos hi']
  have hidx:indexAddrA none x.av (.int .i64 i)=some (.vptr [dg (x.ds.getD i 0)]):=by
   rw[NV.av,indexA_dg (by omega) (by omega)];simp
  have hlen:lenA false y.av=some (.int .i64 y.ds.length):=by simp[NV.av,lenA]
  rw[hidx]
  simp only[oBs,loadA_one,hlen]
  have hb:=L107b y m (K107_8 K) (x.ds.getD i 0) i (x.ds.length+y.ds.length) (mulO x.ds y.ds i,0) x.av (.int .i64 x.ds.length) (.int .i64 i) (by omega) (mulO_length ..) (by omega) dy (dx i) (mulO_dg dx dy i) (by simp) y.ds.length 0 (by omega)
  simp only[mulS] at hb
  refine hb.trans ?_
  obtain ⟨h1,h2⟩:=mulS_bound (i:=i) (s:=(mulO x.ds y.ds i,0)) dy (dx i) (mulO_dg dx dy i) (by simp) y.ds.length
  have hl:=mulS_length y.ds (x.ds.getD i 0) i (mulO x.ds y.ds i,0) y.ds.length
  simp only[mulO_length] at hl
  rw[K107_8_x2]
  simp only[hlen,oBs,binA_add,hw2,convA_int,wrap_u32 (Int.natCast_nonneg _) (by omega:(((mulS y.ds (x.ds.getD i 0) i y.ds.length (mulO x.ds y.ds i,0)).2:Nat):Int)<4294967296)]
  rw[index_arr (by omega),oBs,store_obj (by omega)]
  simp only[oBs,hw]
  exact ih
theorem T107' (x y:NV) (m:Mem) (hx:x.ds.length<2^40) (hy:y.ds.length<2^40) (dx:Dg x.ds) (dy:Dg y.ds):AC cfg 107 [x.av,y.av] m=some (NV.av ⟨false,.no,mulL (tr x.ds) (tr y.ds)⟩,m++[none]):=by
 have hx':=tr_length x.ds
 have hy':=tr_length y.ds
 rw[T107,pcall1 (fz_nv x),P124 x.fr (by simp only[NV.fr];omega)]
 simp only[Option.map_some,oBs,pcall1 (fz_nv y),P124 y.fr (by simp only[NV.fr];omega)]
 have hl:∀ x:NV,lenA false x.av=some (.int .i64 x.ds.length):=fun x=>by simp[NV.av,lenA]
 have hw:IntKind.wrap .i64 (((tr x.ds).length:Int)+(tr y.ds).length)=(((tr x.ds).length+(tr y.ds).length:Nat):Int):=by rw[wrap_i64]<;>omega
 simp only[hl,oBs,binA_add,NV.fr,hw]
 rw[make_obj (by omega) (by omega)]
 simp only[oBs]
 have:=L107 ⟨x.z,.no,tr x.ds⟩ ⟨y.z,.no,tr y.ds⟩ m (K107_4 (finK cfg.P f107.results.toList)) (by simp only;omega) (by simp only;omega) (tr_dg dx) (tr_dg dy) (tr x.ds).length 0 (by simp)
 refine this.trans ?_
 rw[K107_4_x0]
 have hlen:=mulO_length (tr x.ds) (tr y.ds) (tr x.ds).length
 have hp:=pcall_arr (cp:=AP cfg) (m:=m) (g:=124) (ds:=mulO (tr x.ds) (tr y.ds) (tr x.ds).length)
 rw[hlen] at hp
 rw[hp]
 have:=P124 ⟨false,.no,mulO (tr x.ds) (tr y.ds) (tr x.ds).length⟩ (by simp only[hlen];omega)
 simp only[NV.av] at this
 rw[this]
 rfl
theorem P107 (x y:NV) (hx:x.ds.length<2^40) (hy:y.ds.length<2^40) (dx:Dg x.ds) (dy:Dg y.ds):AP cfg 107 [x.av,y.av]=some (NV.av ⟨false,.no,mulL (tr x.ds) (tr y.ds)⟩):=
 AP_of (T107' x y [] hx hy dx dy) (fz_nv _ _) (by simp[noV_nv])
def NV.ok (x:NV):Prop:=x.z=true→x.ds=[]
def cloneV (x:NV):NV:=⟨x.z,if x.ds=[] then .full else .no,x.ds⟩
theorem P123 (x:NV) (hz:x.ok) (hx:x.ds.length<2^40):AP cfg 123 [x.av]=some (cloneV x).av:=by
 have h0:binA .sl .eql x.av (.lst none true .full [])=some (.bool x.z):=rfl
 obtain ⟨z,o,ds⟩:=x
 cases z with
 | true=>
  have:ds=[]:=hz rfl
  subst this
  refine AP_of (v:=NV.av ⟨true,.full,[]⟩) (m:=[]) ?_ (fz_nv _ _) (by simp[noV_nv])
  rw[T123,h0]
  rfl
 | false=>
  cases ds with
  | nil=>
   refine AP_of (v:=NV.av ⟨false,.full,[]⟩) (m:=[]) ?_ (fz_nv _ _) (by simp[noV_nv])
   rw[T123,h0]
   rfl
  | cons d ds=>
   refine AP_of (v:=NV.av ⟨false,.tok 0 116,d::ds⟩) (m:=[some (.tok (d::ds).length 1)]) ?_ (fz_nv _ _) (by simp[noV_nv])
   rw[T123,h0]
   have hl:(ds.length+1)*4≤140737488355328:=by simp only[List.length_cons] at hx;omega
   simp only[oBs,ifA,buildSliceA,List.all_nil,if_true,List.map_nil,NV.av,List.map_cons,appA,List.length_nil,List.length_cons,List.length_map,Nat.zero_add,roomA,hl,true_or,Bool.false_eq_true,if_false,newAt,List.nil_append,Sh.size]
theorem cloneV_fr (x:NV):(cloneV x).fr=cloneV x:=by
 unfold cloneV NV.fr
 simp only[]
 split<;>rfl
theorem fz_clone (x:NV):Fz (cloneV x).av (cloneV x).av:=by
 have:=fz_nv (cloneV x)
 rwa [cloneV_fr] at this
def ofL (n:Nat):List Nat:=tr [n%4294967296,n/4294967296]
theorem P93 (n:Nat) (hn:n<18446744073709551616):AP cfg 93 [.int .u64 n]=some (cloneV ⟨false,.no,ofL n⟩).av:=by
 have e1:IntKind.wrap .u32 (n:Int)=((n%4294967296:Nat):Int):=by rw[wrap_u32_eq];rfl
 have e2:IntKind.wrap .u32 ((n:Int)/4294967296)=((n/4294967296:Nat):Int):=by rw[wrap_u32]<;>omega
 have hb:buildSliceA none [.int .u32 ((n%4294967296:Nat):Int),.int .u32 ((n/4294967296:Nat):Int)]=some (NV.av ⟨false,.full,[n%4294967296,n/4294967296]⟩):=rfl
 have hl:(tr [n%4294967296,n/4294967296]).length≤2:=tr_length _
 refine AP_of (m:=[]) ?_ (fz_clone _ _) (by simp[noV_nv])
 rw[T93]
 simp only[convA_int,oBs,e1,binA_shr32 _ _ _ (Int.natCast_nonneg _),e2,hb]
 rw[pcall1 (fz_nv _),P124 _ (by simp[NV.fr])]
 simp only[Option.map_some,oBs]
 rw[pcall1 (fz_nv _),P123 _ (by simp[NV.ok,NV.fr]) (by simp only[NV.fr];omega)]
 rfl
def rightL (a:List Nat):Bool:=decide (a.length=0)||decide (a.getD (a.length-1) 0≠0)
theorem P94 (x:NV) (hx:x.ds.length<2^40):AP cfg 94 [x.av]=some (.bool (rightL x.ds)):=by
 refine AP_of (m:=[]) ?_ (fz_bool _ _) (by simp[noV])
 have hl:lenA false x.av=some (.int .i64 x.ds.length):=by simp[NV.av,lenA]
 rw[T94]
 simp only[hl,oBs,binA_eql,ifA_dec]
 by_cases h:x.ds.length=0
 ·rw[if_pos (by omega)];simp[rightL,h]
 ·rw[if_neg (by omega)]
  have hw:IntKind.wrap .i64 ((x.ds.length:Int)-1)=((x.ds.length-1:Nat):Int):=by rw[wrap_i64]<;>omega
  simp only[binA_sub,oBs,hw]
  have hidx:indexAddrA none x.av (.int .i64 ((x.ds.length-1:Nat):Int))=some (.vptr [dg (x.ds.getD (x.ds.length-1) 0)]):=by
   rw[NV.av,indexA_dg (by omega) (by omega)];simp
  rw[hidx]
  simp only[oBs,loadA_one,dg,binA_neq]
  congr 2
  simp only[rightL,h,decide_false,Bool.false_or,AV.bool.injEq,decide_eq_decide]
  omega
def smallL (a:List Nat):AV:=match a with
 | []=>.tup [.int .u64 0,.bool true]
 | [d]=>.tup [.int .u64 d,.bool true]
 | [d,e]=>.tup [.int .u64 (d+e*4294967296:Nat),.bool true]
 | _=>.tup [.int .u64 0,.bool false]
theorem fz_small (a:List Nat):Fz (smallL a) (smallL a)∧noV (smallL a)=true:=by
 unfold smallL
 split<;>exact ⟨fun _=>rfl,rfl⟩
theorem P95 (x:NV) (hx:x.ds.length<2^40) (dx:Dg x.ds):AP cfg 95 [x.av]=some (smallL (tr x.ds)):=by
 refine AP_of (m:=[]) ?_ ((fz_small _).1 _) (by simp[(fz_small _).2])
 have hl:∀ x:NV,lenA false x.av=some (.int .i64 x.ds.length):=fun x=>by simp[NV.av,lenA]
 rw[T95,pcall1 (fz_nv x),P124 x.fr (by simp only[NV.fr];omega)]
 have dt:=tr_dg dx
 simp only[Option.map_some,oBs,hl,binA_eql,ifA_dec,NV.fr]
 generalize tr x.ds=a at dt
 match a,dt with
 | [],_=>rfl
 | [d],dt=>
  have h0:=dt 0
  simp only[List.getD_cons_zero] at h0
  rw[if_neg (by simp),if_pos (by simp)]
  simp only[NV.av]
  rw[show indexAddrA none (.lst none x.z .no ([d].map dg)) (.int .i64 0)=some (.vptr [dg d]) from rfl]
  simp only[oBs,loadA_one,dg,convA_int,wrap_u64 (Int.natCast_nonneg d) (by omega)]
  rfl
 | [d,e],dt=>
  have h0:=dt 0
  have h1:=dt 1
  simp only[List.getD_cons_zero,List.getD_cons_succ] at h0 h1
  rw[if_neg (by simp),if_neg (by simp),if_pos (by simp)]
  simp only[NV.av]
  rw[show indexAddrA none (.lst none x.z .no ([d,e].map dg)) (.int .i64 0)=some (.vptr [dg d]) from rfl,show indexAddrA none (.lst none x.z .no ([d,e].map dg)) (.int .i64 1)=some (.vptr [dg e]) from rfl]
  simp only[oBs,loadA_one,dg,convA_int,wrap_u64 (Int.natCast_nonneg d) (by omega),wrap_u64 (Int.natCast_nonneg e) (by omega),binA_shl32 _ _ e h1,binA_or _ d e h0 h1]
  rfl
 | d::e::f::l,_=>
  rw[if_neg (by simp only[List.length_cons];omega),if_neg (by simp only[List.length_cons];omega),if_neg (by simp only[List.length_cons];omega)]
  rfl
theorem L110 (x y:NV) (m:Mem) (K:KT) (hl:x.ds.length<2^40) (dx:Dg x.ds) (dy:Dg y.ds):∀ j i:Nat,i+j=x.ds.length →
  L110_7 y.av (.arr m.length 0 x.ds.length none) (.int .u64 (subS x.ds y.ds i).2) x.av (.int .i64 x.ds.length) (.int .i64 i) (objM m (subS x.ds y.ds i).1) K
   = K (.exit 0) (O110_7 (.arr m.length 0 x.ds.length none) (objM m (subS x.ds y.ds x.ds.length).1)):=by
 intro j
 induction j with
 | zero=>
  intro i hi
  have:i=x.ds.length:=by omega
  subst this
  rw[L110_7_eq]
  simp[binA_lss,ifA]
 | succ j ih=>
  intro i hi
  have ih:=ih (i+1) (by omega)
  have hc:=subS_borrow x.ds y.ds i
  have hlen:=subS_length x.ds y.ds i
  have h1:=dx i
  have h2:=dy i
  rw[L110_7_eq]
  have hi':((i:Nat):Int)<(x.ds.length:Int):=by omega
  have hw:IntKind.wrap .i64 ((i:Int)+1)=((i+1:Nat):Int):=by rw[wrap_i64]<;>omega
  have e1:IntKind.wrap .u64 ((x.ds.getD i 0:Nat):Int)=(x.ds.getD i 0:Nat):=by rw[wrap_u64]<;>omega
  have e2:IntKind.wrap .u64 ((y.ds.getD i 0:Nat):Int)=(y.ds.getD i 0:Nat):=by rw[wrap_u64]<;>omega
  have e3:IntKind.wrap .u64 (((subS x.ds y.ds i).2:Int)+(y.ds.getD i 0:Nat))=(((subS x.ds y.ds i).2+y.ds.getD i 0:Nat):Int):=by rw[wrap_u64]<;>omega
  have s1:binA .other .shl (.int .u64 1) (.int .u64 32)=some (.int .u64 4294967296):=rfl
  have s0:binA .other .shl (.int .u64 0) (.int .u64 32)=some (.int .u64 0):=rfl
  simp only[binA_lss,oBs,ifA_dec,if_pos hi',index_nv (by omega:i<x.ds.length),loadA_one,len_nv]
  have big:∀ t:Nat,t=(subS x.ds y.ds i).2+y.ds.getD i 0→x.ds.getD i 0<t→
    IntKind.wrap .u32 (IntKind.wrap .u64 (IntKind.wrap .u64 ((x.ds.getD i 0:Nat)+4294967296:Int)-(t:Nat)))=((x.ds.getD i 0+4294967296-t:Nat):Int)∧subS x.ds y.ds (i+1)=((subS x.ds y.ds i).1.set i (x.ds.getD i 0+4294967296-t),1):=by
   intro t ht hlt
   refine ⟨?_,by simp only[subS,← ht,if_pos hlt]⟩
   rw[wrap_u64 (x:=((x.ds.getD i 0:Nat):Int)+4294967296) (by omega) (by omega),wrap_u64 (by omega) (by omega),wrap_u32 (by omega) (by omega)]
   omega
  have small:∀ t:Nat,t=(subS x.ds y.ds i).2+y.ds.getD i 0→¬ x.ds.getD i 0<t→
    IntKind.wrap .u32 (IntKind.wrap .u64 (IntKind.wrap .u64 ((x.ds.getD i 0:Nat)+0:Int)-(t:Nat)))=((x.ds.getD i 0-t:Nat):Int)∧subS x.ds y.ds (i+1)=((subS x.ds y.ds i).1.set i (x.ds.getD i 0-t),0):=by
   intro t ht hlt
   refine ⟨?_,by simp only[subS,← ht,if_neg hlt]⟩
   rw[wrap_u64 (x:=((x.ds.getD i 0:Nat):Int)+0) (by omega) (by omega),wrap_u64 (by omega) (by omega),wrap_u32 (by omega) (by omega)]
   omega
  by_cases h:(i:Int)<(y.ds.length:Int)
  ·rw[if_pos h,index_nv (by omega:i<y.ds.length)]
   simp only[oBs,loadA_one,dg,convA_int,e1,e2,e3,binA_add,binA_lss,ifA_dec]
   by_cases h3:x.ds.getD i 0<(subS x.ds y.ds i).2+y.ds.getD i 0
   ·obtain ⟨b1,b2⟩:=big _ rfl h3
    rw[if_pos (by omega),s1]
    simp only[oBs,binA_add,binA_sub,convA_int,b1,hw]
    rw[index_arr (by omega),oBs,store_obj (by omega)]
    rw[b2] at ih
    exact ih
   ·obtain ⟨b1,b2⟩:=small _ rfl h3
    rw[if_neg (by omega),s0]
    simp only[oBs,binA_add,binA_sub,convA_int,b1,hw]
    rw[index_arr (by omega),oBs,store_obj (by omega)]
    rw[b2] at ih
    exact ih
  ·rw[if_neg h]
   have h0:=getD_out h
   simp only[oBs,loadA_one,dg,convA_int,e1,binA_lss,ifA_dec]
   by_cases h3:x.ds.getD i 0<(subS x.ds y.ds i).2
   ·obtain ⟨b1,b2⟩:=big (subS x.ds y.ds i).2 (by omega) h3
    rw[if_pos (by omega),s1]
    simp only[oBs,binA_add,binA_sub,convA_int,b1,hw]
    rw[index_arr (by omega),oBs,store_obj (by omega)]
    rw[b2] at ih
    exact ih
   ·obtain ⟨b1,b2⟩:=small (subS x.ds y.ds i).2 (by omega) h3
    rw[if_neg (by omega),s0]
    simp only[oBs,binA_add,binA_sub,convA_int,b1,hw]
    rw[index_arr (by omega),oBs,store_obj (by omega)]
    rw[b2] at ih
    exact ih
end Go.Ab
set_option linter.unusedVariables false
set_option linter.unusedSimpArgs false
set_option linter.unusedSectionVars false
namespace Go.Ab
def shS (a:List Nat) (d:Nat):Nat→List Nat×Nat
 | 0=>(List.replicate a.length 0,0)
 | k+1=>((shS a d k).1.set (a.length-1-k) (((shS a d k).2*4294967296+a.getD (a.length-1-k) 0)/d),((shS a d k).2*4294967296+a.getD (a.length-1-k) 0)%d)
theorem shS_length (a:List Nat) (d:Nat):∀ k,(shS a d k).1.length=a.length
 | 0=>by simp[shS]
 | k+1=>by simp[shS,shS_length a d k]
theorem shS_rest {a:List Nat} {d:Nat} (hd:0<d):∀ k,(shS a d k).2<d
 | 0=>hd
 | k+1=>Nat.mod_lt _ hd
theorem shS_quo {a:List Nat} {d:Nat} (ha:Dg a) (hd:0<d) (k i:Nat):((shS a d k).2*4294967296+a.getD i 0)/d<4294967296:=by
 have h1:=shS_rest (a:=a) hd k
 have h2:=ha i
 rw[Nat.div_lt_iff_lt_mul hd]
 have:((shS a d k).2+1)*4294967296≤d*4294967296:=Nat.mul_le_mul_right _ h1
 rw[Nat.mul_comm 4294967296 d]
 omega
theorem shS_dg {a:List Nat} {d:Nat} (ha:Dg a) (hd:0<d):∀ k,Dg (shS a d k).1
 | 0=>dg_rep _
 | k+1=>(shS_dg ha hd k).set _ _ (shS_quo ha hd k _)
theorem shS_keep (a:List Nat) (d j:Nat):∀ k,j+k<a.length→(shS a d k).1.getD j 0=0
 | 0,_=>getD_rep _ _
 | k+1,h=>by
  rw[shS]
  simp only[]
  rw[getD_set_ne (by omega)]
  exact shS_keep a d j k (by omega)
theorem shS_val {a:List Nat} {d:Nat} (hd:0<d):∀ k,k≤a.length→val (shS a d k).1*d+4294967296^(a.length-k)*(shS a d k).2+vs a (a.length-k)=val a
 | 0,_=>by simp[shS,val_rep,vs_all]
 | k+1,h=>by
  have ih:=shS_val (a:=a) hd k (by omega)
  obtain ⟨i,hi⟩:∃ i,i=a.length-1-k:=⟨_,rfl⟩
  have e1:a.length-k=i+1:=by omega
  have e2:a.length-(k+1)=i:=by omega
  have hk:=shS_keep a d i k (by omega)
  have hl:=shS_length a d k
  rw[e1,vs_succ,Nat.pow_succ] at ih
  rw[e2,shS,← hi]
  generalize shS a d k=t at *
  simp only[]
  have h1:=val_set t.1 i ((t.2*4294967296+a.getD i 0)/d) (by omega)
  rw[hk,Nat.mul_zero,Nat.add_zero] at h1
  rw[h1,Nat.add_mul,Nat.mul_assoc,Nat.add_assoc (val t.1*d),← Nat.mul_add,Nat.mul_comm (_/_) d,Nat.div_add_mod]
  rw[← ih,Nat.mul_add]
  have:4294967296^i*(t.2*4294967296)=4294967296^i*4294967296*t.2:=by rw[Nat.mul_comm t.2,Nat.mul_assoc]
  omega
def shortL (a:List Nat) (d:Nat):List Nat:=tr (shS a d a.length).1
theorem short_eq {a:List Nat} {d:Nat} (ha:Dg a) (hd:0<d):shortL a d=digs (val a/d)∧(shS a d a.length).2=val a%d:=by
 have h:=shS_val (a:=a) hd a.length (Nat.le_refl _)
 have h2:=shS_rest (a:=a) hd a.length
 simp only[Nat.sub_self,Nat.pow_zero,Nat.one_mul,vs_zero,Nat.add_zero] at h
 rw[shortL,tr_eq (shS_dg ha hd _)]
 have e:val a/d=val (shS a d a.length).1∧val a%d=(shS a d a.length).2:=by
  rw[← h]
  constructor
  ·rw[Nat.mul_comm,Nat.mul_add_div hd,Nat.div_eq_of_lt h2];rfl
  ·rw[Nat.mul_comm,Nat.mul_add_mod,Nat.mod_eq_of_lt h2]
 exact ⟨by rw[e.1],e.2.symm⟩
def wn (u:List Nat) (j:Nat):Nat→Nat
 | 0=>0
 | i+1=>wn u j i+4294967296^i*u.getD (j+i) 0
theorem wn_vs (u:List Nat):∀ i,wn u 0 i=vs u i
 | 0=>rfl
 | i+1=>by rw[wn,wn_vs u i,vs_succ,Nat.zero_add]
theorem wn_lt {u:List Nat} (h:Dg u) (j:Nat):∀ i,wn u j i<4294967296^i
 | 0=>by simp[wn]
 | i+1=>by
  have ih:=wn_lt h j i
  have h1:=h (j+i)
  rw[wn,Nat.pow_succ]
  have:4294967296^i*(u.getD (j+i) 0+1)≤4294967296^i*4294967296:=Nat.mul_le_mul_left _ h1
  rw[Nat.mul_add] at this
  omega
theorem wn_congr {u w:List Nat} {j:Nat}:∀ i,(∀ k,k<i→u.getD (j+k) 0=w.getD (j+k) 0)→wn u j i=wn w j i
 | 0,_=>rfl
 | i+1,h=>by rw[wn,wn,wn_congr i (fun k hk=>h k (by omega)),h i (by omega)]
theorem wn_set_out {u:List Nat} {j i p x:Nat} (h:p<j∨j+i≤p):wn (u.set p x) j i=wn u j i:=by
 apply wn_congr
 intro k hk
 exact getD_set_ne (by omega)
theorem wn_split (u:List Nat) (j i:Nat):∀ k,wn u j (i+k)=wn u j i+4294967296^i*wn u (j+i) k
 | 0=>by simp[wn]
 | k+1=>by
  rw[← Nat.add_assoc,wn,wn_split u j i k,wn,Nat.mul_add,Nat.pow_add,Nat.mul_assoc,Nat.add_assoc j,Nat.add_assoc]
theorem wn_first (u:List Nat) (j i:Nat):wn u j (i+1)=u.getD j 0+4294967296*wn u (j+1) i:=by
 rw[Nat.add_comm i 1,wn_split u j 1 i]
 simp[wn]
theorem wn_zero {u:List Nat} {j:Nat}:∀ i,(∀ k,k<i→u.getD (j+k) 0=0)→wn u j i=0
 | 0,_=>rfl
 | i+1,h=>by rw[wn,wn_zero i (fun k hk=>h k (by omega)),h i (by omega)];simp
def sfS (a:List Nat) (s:Nat):Nat→List Nat
 | 0=>List.replicate (a.length+1) 0
 | i+1=>((sfS a s i).set i ((sfS a s i).getD i 0+a.getD i 0*2^s%4294967296)).set (i+1) (a.getD i 0*2^s/4294967296)
theorem sfS_length (a:List Nat) (s:Nat):∀ i,(sfS a s i).length=a.length+1
 | 0=>by simp[sfS]
 | i+1=>by simp[sfS,sfS_length a s i]
theorem pow_split {s:Nat} (hs:s<32):2^s*2^(32-s)=4294967296:=by
 rw[← Nat.pow_add,show s+(32-s)=32 by omega]
theorem hi_lt {x s:Nat} (hx:x<4294967296):x*2^s/4294967296<2^s:=by
 rw[Nat.div_lt_iff_lt_mul (by omega)]
 rw[Nat.mul_comm]
 exact Nat.mul_lt_mul_of_pos_left hx (Nat.two_pow_pos s)
theorem lo_le {x s:Nat} (hs:s<32):x*2^s%4294967296+2^s≤4294967296:=by
 have h:=pow_split hs
 have:x*2^s%4294967296=x%2^(32-s)*2^s:=by
  rw[← h,Nat.mul_comm (2^s) (2^(32-s)),Nat.mul_mod_mul_right]
 rw[this]
 have h2:x%2^(32-s)<2^(32-s):=Nat.mod_lt _ (Nat.two_pow_pos _)
 have h3:(x%2^(32-s)+1)*2^s≤2^(32-s)*2^s:=Nat.mul_le_mul_right _ h2
 rw[Nat.mul_comm (2^(32-s)),h,Nat.add_mul] at h3
 omega
theorem sfS_top {a:List Nat} {s:Nat} (ha:Dg a):∀ i,i≤a.length→(sfS a s i).getD i 0<2^s
 | 0,_=>by rw[sfS,getD_rep];exact Nat.two_pow_pos s
 | i+1,h=>by
  have hl:=sfS_length a s i
  rw[sfS,getD_set_eq (by rw[List.length_set];omega)]
  exact hi_lt (ha i)
theorem sfS_dg {a:List Nat} {s:Nat} (ha:Dg a) (hs:s<32):∀ i,i≤a.length→Dg (sfS a s i)
 | 0,_=>dg_rep _
 | i+1,h=>by
  have h1:=sfS_top (s:=s) ha i (by omega)
  have h2:=lo_le (x:=a.getD i 0) hs
  have h3:=hi_lt (x:=a.getD i 0) (s:=s) (ha i)
  have h4:2^s≤2^31:=Nat.pow_le_pow_right (by omega) (by omega)
  exact ((sfS_dg ha hs i (by omega)).set _ _ (by omega)).set _ _ (by omega)
theorem sfS_wn {a:List Nat} {s:Nat}:∀ i,i≤a.length→wn (sfS a s i) 0 (i+1)=2^s*vs a i
 | 0,_=>by rw[sfS,wn_zero];rfl;intro k _;exact getD_rep _ _
 | i+1,h=>by
  have ih:=sfS_wn (a:=a) (s:=s) i (by omega)
  have hl:=sfS_length a s i
  rw[wn,sfS,wn_set_out (by omega),Nat.zero_add,getD_set_eq (by rw[List.length_set];omega),wn,wn_set_out (by omega),Nat.zero_add,getD_set_eq (by omega)]
  rw[wn,Nat.zero_add] at ih
  have e:=pmd (4294967296^i) 4294967296 (a.getD i 0*2^s)
  rw[vs_succ,Nat.mul_add (2^s),← ih,Nat.pow_succ,Nat.mul_left_comm (2^s),Nat.mul_comm (2^s),Nat.mul_add]
  omega
theorem sf_val {a:List Nat} {s:Nat}:val (sfS a s a.length)=2^s*val a:=by
 have h:=sfS_wn (a:=a) (s:=s) a.length (Nat.le_refl _)
 rw[wn_vs,vs_all (by rw[sfS_length];omega),vs_all (Nat.le_refl _)] at h
 exact h
theorem guess_ge {g r top v1 v2 u0 lo vlo p q:Nat} (h:g*v1+r=top) (hc:r*4294967296+u0<g*v2) (hlo:lo<p)
  (hq:q*((v1*4294967296+v2)*p+vlo)≤(top*4294967296+u0)*p+lo):q<g:=by
 apply Classical.byContradiction
 intro hn
 have hg:g≤q:=Nat.le_of_not_lt hn
 have h1:g*((v1*4294967296+v2)*p+vlo)≤q*((v1*4294967296+v2)*p+vlo):=Nat.mul_le_mul_right _ hg
 have h2:(top*4294967296+u0+1)*p≤g*(v1*4294967296+v2)*p:=by
  apply Nat.mul_le_mul_right
  rw[Nat.mul_add,← Nat.mul_assoc,← h]
  omega
 rw[Nat.mul_add,← Nat.mul_assoc] at h1
 rw[Nat.add_mul _ 1,Nat.one_mul] at h2
 omega
theorem guess_le {g r top v1 v2 u0 lo vlo p U V:Nat} (h:g*v1+r=top) (hc:g*v2≤r*4294967296+u0) (hg:g<4294967296) (hv:vlo<p) (hv1:0<v1)
  (hU:U=(top*4294967296+u0)*p+lo) (hV:V=(v1*4294967296+v2)*p+vlo):g*V<U+V:=by
 have h2:g*(v1*4294967296+v2)*p≤(top*4294967296+u0)*p:=by
  apply Nat.mul_le_mul_right
  rw[Nat.mul_add,← Nat.mul_assoc,← h]
  omega
 have h3:g*vlo≤4294967296*p:=Nat.mul_le_mul (by omega) (by omega)
 have h4:g*vlo<4294967296*p:=by
  rcases Nat.eq_zero_or_pos g with h0|h0
  ·subst h0;rw[Nat.zero_mul];omega
  ·exact Nat.mul_lt_mul'' hg hv
 have h5:1*4294967296*p≤v1*4294967296*p:=Nat.mul_le_mul_right _ (Nat.mul_le_mul_right _ hv1)
 rw[hV,Nat.mul_add,← Nat.mul_assoc,Nat.add_mul (v1*4294967296)]
 omega
def msS (v:List Nat) (g j:Nat):Nat→List Nat→List Nat×Nat×Nat
 | 0,u=>(u,0,0)
 | i+1,u=>
  let t:=msS v g j i u
  let c:=t.2.2+g*v.getD i 0
  let y:=c%4294967296+t.2.1
  if t.1.getD (i+j) 0<y then (t.1.set (i+j) (t.1.getD (i+j) 0+4294967296-y),1,c/4294967296)
  else (t.1.set (i+j) (t.1.getD (i+j) 0-y),0,c/4294967296)
theorem msS_length (v:List Nat) (g j:Nat) (u:List Nat):∀ i,(msS v g j i u).1.length=u.length
 | 0=>rfl
 | i+1=>by
  rw[msS]
  split<;>simp[msS_length v g j u i]
theorem msS_borrow (v:List Nat) (g j:Nat) (u:List Nat):∀ i,(msS v g j i u).2.1≤1
 | 0=>by simp[msS]
 | i+1=>by
  rw[msS]
  split<;>simp
theorem msS_carry {v:List Nat} {g:Nat} (hv:Dg v) (hg:g<4294967296) (j:Nat) (u:List Nat):∀ i,(msS v g j i u).2.2<4294967296
 | 0=>by simp[msS]
 | i+1=>by
  have ih:=msS_carry hv hg j u i
  have h4:=hv i
  have h5:g*v.getD i 0≤4294967295*4294967295:=Nat.mul_le_mul (by omega) (by omega)
  rw[msS]
  split<;>(simp only[];omega)
theorem msS_dg {v u:List Nat} {g:Nat} (hu:Dg u) (j:Nat):∀ i,Dg (msS v g j i u).1
 | 0=>hu
 | i+1=>by
  have ih:=msS_dg (v:=v) (g:=g) hu j i
  have hb:=msS_borrow v g j u i
  have h1:=ih (i+j)
  rw[msS]
  split
  ·exact ih.set _ _ (by omega)
  ·exact ih.set _ _ (by omega)
theorem msS_keep (v:List Nat) (g j:Nat) (u:List Nat) (k:Nat):∀ i,k<j∨i+j≤k→(msS v g j i u).1.getD k 0=u.getD k 0
 | 0,_=>rfl
 | i+1,h=>by
  have ih:=msS_keep v g j u k i (by omega)
  rw[msS]
  split<;>simp only[]<;>rw[getD_set_ne (by omega),ih]
theorem msS_wn {v u:List Nat} {g:Nat} (hu:Dg u) (j:Nat):∀ i,i+j≤u.length→wn (msS v g j i u).1 j i+g*vs v i=wn u j i+4294967296^i*((msS v g j i u).2.2+(msS v g j i u).2.1)
 | 0,_=>by simp[msS,wn,vs_zero]
 | i+1,h=>by
  have ih:=msS_wn (v:=v) (g:=g) hu j i (by omega)
  have hk:=msS_keep v g j u (i+j) i (by omega)
  have hl:=msS_length v g j u i
  have hb:=msS_borrow v g j u i
  have hd:=hu (i+j)
  rw[wn.eq_2 u,vs_succ,Nat.pow_succ,Nat.mul_add,← Nat.mul_assoc g,Nat.mul_comm g (4294967296^i),Nat.mul_assoc]
  rw[msS]
  generalize msS v g j i u=t at *
  obtain ⟨t,b,c⟩:=t
  simp only[] at *
  rw[hk,Nat.add_comm j i]
  have e:=pmd (4294967296^i) 4294967296 (c+g*v.getD i 0)
  generalize hc:c+g*v.getD i 0=C at *
  rw[← hc,Nat.mul_add,hc] at e
  rw[Nat.mul_add] at ih
  split
  ·rename_i hlt
   simp only[]
   rw[wn,wn_set_out (by omega),Nat.add_comm j i,getD_set_eq (by omega)]
   have e2:=psub (4294967296^i) 4294967296 (u.getD (i+j) 0) (C%4294967296+b) (by omega)
   rw[Nat.mul_add _ (C%4294967296)] at e2
   rw[Nat.mul_add _ (C/4294967296),Nat.mul_one]
   omega
  ·rename_i hlt
   simp only[]
   rw[wn,wn_set_out (by omega),Nat.add_comm j i,getD_set_eq (by omega)]
   have e2:=psub0 (4294967296^i) (u.getD (i+j) 0) (C%4294967296+b) (by omega)
   rw[Nat.mul_add _ (C%4294967296)] at e2
   rw[Nat.add_zero]
   omega
def abS (v:List Nat) (j:Nat):Nat→List Nat→List Nat×Nat
 | 0,u=>(u,0)
 | i+1,u=>
  let t:=abS v j i u
  let c:=t.2+(t.1.getD (i+j) 0+v.getD i 0)
  (t.1.set (i+j) (c%4294967296),c/4294967296)
theorem abS_length (v:List Nat) (j:Nat) (u:List Nat):∀ i,(abS v j i u).1.length=u.length
 | 0=>rfl
 | i+1=>by simp[abS,abS_length v j u i]
theorem abS_carry {v u:List Nat} (hv:Dg v) (hu:Dg u) (j:Nat):∀ i,Dg (abS v j i u).1∧(abS v j i u).2≤1
 | 0=>⟨hu,by simp[abS]⟩
 | i+1=>by
  obtain ⟨h1,h2⟩:=abS_carry hv hu j i
  have h3:=h1 (i+j)
  have h4:=hv i
  refine ⟨h1.set _ _ (Nat.mod_lt _ (by omega)),?_⟩
  simp only[abS]
  omega
theorem abS_keep (v:List Nat) (j:Nat) (u:List Nat) (k:Nat):∀ i,k<j∨i+j≤k→(abS v j i u).1.getD k 0=u.getD k 0
 | 0,_=>rfl
 | i+1,h=>by
  have ih:=abS_keep v j u k i (by omega)
  rw[abS]
  simp only[]
  rw[getD_set_ne (by omega),ih]
theorem abS_wn (v:List Nat) (j:Nat) (u:List Nat):∀ i,i+j≤u.length→wn (abS v j i u).1 j i+4294967296^i*(abS v j i u).2=wn u j i+vs v i
 | 0,_=>by simp[abS,wn,vs_zero]
 | i+1,h=>by
  have ih:=abS_wn v j u i (by omega)
  have hk:=abS_keep v j u (i+j) i (by omega)
  have hl:=abS_length v j u i
  rw[wn.eq_2 u,vs_succ,Nat.pow_succ]
  rw[abS]
  simp only[]
  generalize abS v j i u=t at *
  rw[wn,wn_set_out (by omega),Nat.add_comm j i,getD_set_eq (by omega),hk]
  have e:=pmd (4294967296^i) 4294967296 (t.2+(u.getD (i+j) 0+v.getD i 0))
  generalize hc:t.2+(u.getD (i+j) 0+v.getD i 0)=C at *
  rw[← hc,Nat.mul_add,Nat.mul_add,hc] at e
  omega
def kdU (v:List Nat) (n j g:Nat) (u:List Nat):List Nat×Nat:=
 let t:=msS v g j n u
 let y:=t.2.2+t.2.1
 if t.1.getD (j+n) 0<y then
  let w:=abS v j n (t.1.set (j+n) (t.1.getD (j+n) 0+4294967296-y))
  (w.1.set (j+n) ((w.1.getD (j+n) 0+w.2)%4294967296),g-1)
 else (t.1.set (j+n) (t.1.getD (j+n) 0-y),g)
theorem div_of {q r U V:Nat} (h:U=q*V+r) (hr:r<V):U/V=q∧U%V=r:=by
 subst h
 constructor
 ·rw[Nat.mul_comm,Nat.mul_add_div (by omega),Nat.div_eq_of_lt hr];rfl
 ·rw[Nat.mul_comm,Nat.mul_add_mod,Nat.mod_eq_of_lt hr]
theorem kdU_spec {v u:List Nat} {n j g:Nat} (hv:Dg v) (hu:Dg u) (hn:v.length=n) (hL:j+n<u.length) (hg:g<4294967296) (hVp:0<val v)
  (h1:wn u j (n+1)/val v≤g) (h2:g*val v<wn u j (n+1)+val v) :
  Dg (kdU v n j g u).1∧(kdU v n j g u).1.length=u.length∧(∀ k,k<j∨j+n<k→(kdU v n j g u).1.getD k 0=u.getD k 0) ∧
  wn (kdU v n j g u).1 j (n+1)=wn u j (n+1)%val v∧(kdU v n j g u).2=wn u j (n+1)/val v:=by
 have hV:vs v n=val v:=vs_all (by omega)
 have hVP:val v<4294967296^n:=by rw[← hn];exact val_lt hv
 have hw:=msS_wn (v:=v) (g:=g) hu j n (by omega)
 have hk:∀ k,k<j∨j+n≤k→(msS v g j n u).1.getD k 0=u.getD k 0:=fun k h=>msS_keep v g j u k n (by omega)
 have hl:=msS_length v g j u n
 have hb:=msS_borrow v g j u n
 have hc:=msS_carry hv hg j u n
 have hd:=msS_dg (v:=v) (g:=g) hu j n
 have hd1:=wn_lt hd j n
 have ht:=hk (j+n) (by omega)
 have htd:=hu (j+n)
 have hUp:=wn_lt hu j n
 have hUe:wn u j (n+1)=wn u j n+4294967296^n*u.getD (j+n) 0:=rfl
 rw[hUe] at h1 h2 ⊢
 rw[hV] at hw
 unfold kdU
 simp only[]
 generalize msS v g j n u=t at *
 obtain ⟨t,b,c⟩:=t
 simp only[] at *
 rw[ht]
 have hU1:wn u j n+4294967296^n*u.getD (j+n) 0<(g+1)*val v:=by
  have:=Nat.lt_succ_of_le h1
  rwa [Nat.div_lt_iff_lt_mul hVp] at this
 rw[Nat.add_mul,Nat.one_mul] at hU1
 generalize u.getD (j+n) 0=top at *
 by_cases h:top<c+b
 ·rw[if_pos h]
  simp only[]
  have hd2:Dg (t.set (j+n) (top+4294967296-(c+b))):=hd.set _ _ (by omega)
  have ha:=abS_wn v j (t.set (j+n) (top+4294967296-(c+b))) n (by rw[List.length_set];omega)
  have hak:∀ k,k<j∨j+n≤k→(abS v j n (t.set (j+n) (top+4294967296-(c+b)))).1.getD k 0=(t.set (j+n) (top+4294967296-(c+b))).getD k 0:=fun k h=>abS_keep v j _ k n (by omega)
  obtain ⟨had,hac⟩:=abS_carry hv hd2 j n
  have hal:=abS_length v j (t.set (j+n) (top+4294967296-(c+b))) n
  rw[wn_set_out (by omega),hV] at ha
  have htop:=hak (j+n) (by omega)
  rw[getD_set_eq (by omega)] at htop
  have hwn:=wn_lt had j n
  have hset:∀ k,k<j∨j+n<k→(abS v j n (t.set (j+n) (top+4294967296-(c+b)))).1.getD k 0=u.getD k 0:=by
   intro k hk'
   rw[hak k (by omega),getD_set_ne (by omega),hk k (by omega)]
  rw[List.length_set] at hal
  generalize abS v j n (t.set (j+n) (top+4294967296-(c+b)))=w at *
  obtain ⟨w,x⟩:=w
  simp only[] at *
  rw[htop]
  have hgU:wn u j n+4294967296^n*top<g*val v:=by
   have:4294967296^n*(top+1)≤4294967296^n*(c+b):=Nat.mul_le_mul_left _ h
   rw[Nat.mul_add] at this
   omega
  have hg1:1≤g:=by
   apply Nat.pos_of_ne_zero
   intro e
   rw[e,Nat.zero_mul] at hgU
   omega
  obtain ⟨g',hg'⟩:∃ g',g=g'+1:=⟨g-1,by omega⟩
  subst hg'
  rw[Nat.add_mul,Nat.one_mul] at hgU h2 hw
  obtain ⟨r,hr⟩:∃ r,wn u j n+4294967296^n*top=g'*val v+r:=⟨_,(Nat.add_sub_cancel' (by omega)).symm⟩
  obtain ⟨hq,hm⟩:=div_of hr (by omega)
  have key:wn w j n+4294967296^n*x=r+4294967296^n*(c+b-top):=by
   have:=psub0 (4294967296^n) (c+b) top (by omega)
   omega
  have hx:x=c+b-top∧wn w j n=r:=by
   have h3:=div_of (q:=x) (r:=wn w j n) (V:=4294967296^n) (by rw[Nat.mul_comm x,Nat.add_comm]) hwn
   have h4:=div_of (q:=c+b-top) (r:=r) (U:=wn w j n+4294967296^n*x) (V:=4294967296^n) (by rw[key,Nat.mul_comm (c+b-top),Nat.add_comm]) (by omega)
   exact ⟨h3.1.symm.trans h4.1,h3.2.symm.trans h4.2⟩
  refine ⟨had.set _ _ (Nat.mod_lt _ (by omega)),by rw[List.length_set,hal,hl],?_,?_,by rw[hq];rfl⟩
  ·intro k hk'
   rw[getD_set_ne (by omega)]
   exact hset k hk'
  ·rw[wn,wn_set_out (by omega),getD_set_eq (by omega),hx.2,hm,hx.1]
   rw[show (top+4294967296-(c+b)+(c+b-top))%4294967296=0 by omega]
   rfl
 ·rw[if_neg h]
  simp only[]
  have e:=psub0 (4294967296^n) top (c+b) (by omega)
  have hr:wn u j n+4294967296^n*top=g*val v+(wn t j n+4294967296^n*(top-(c+b))):=by omega
  obtain ⟨hq,hm⟩:=div_of hr (by omega)
  refine ⟨hd.set _ _ (by omega),by rw[List.length_set,hl],?_,?_,by rw[hq]⟩
  ·intro k hk'
   rw[getD_set_ne (by omega)]
   exact hk k (by omega)
  ·rw[wn,wn_set_out (by omega),getD_set_eq (by omega),hm]
structure KInv (v u0:List Nat) (n m j:Nat) (u q:List Nat):Prop where
 du:Dg u
 lu:u.length=m+n
 dq:Dg q
 lq:q.length=m
 hi:∀ k,j+n≤k→u.getD k 0=0
 lo:∀ k,k<j→u.getD k 0=u0.getD k 0
 lt:wn u j n<val v
 eq:wn q j (m-j)*val v+wn u j n=wn u0 j (m+n-j)
theorem KInv.step {v u0 u q:List Nat} {n m j:Nat} (hv:Dg v) (hn:v.length=n) (hj:j<m) (h:KInv v u0 n m (j+1) u q) {u':List Nat} {d:Nat}
  (du:Dg u') (lu:u'.length=u.length) (hk:∀ k,k<j∨j+n<k→u'.getD k 0=u.getD k 0)
  (hw:wn u' j (n+1)=wn u j (n+1)%val v) (hd:d=wn u j (n+1)/val v) (hVp:0<val v):KInv v u0 n m j u' (q.set j d):=by
 have hU:wn u j (n+1)=u.getD j 0+4294967296*wn u (j+1) n:=wn_first u j n
 have hlt:wn u j (n+1)%val v<val v:=Nat.mod_lt _ hVp
 have hVP:val v<4294967296^n:=by rw[← hn];exact val_lt hv
 have htop:u'.getD (j+n) 0=0:=by
  rw[wn] at hw
  apply Classical.byContradiction
  intro hne
  have:4294967296^n*1≤4294967296^n*u'.getD (j+n) 0:=Nat.mul_le_mul_left _ (by omega)
  omega
 have hwn:wn u' j n=wn u j (n+1)%val v:=by
  rw[wn,htop,Nat.mul_zero,Nat.add_zero] at hw
  exact hw
 have hdB:d<4294967296:=by
  rw[hd,Nat.div_lt_iff_lt_mul hVp,hU]
  have h1:=h.lt
  have h2:=h.du j
  omega
 refine ⟨du,by rw[lu,h.lu],h.dq.set _ _ hdB,by rw[List.length_set,h.lq],?_,?_,by rw[hwn];exact hlt,?_⟩
 ·intro k hk'
  by_cases e:k=j+n
  ·rw[e,htop]
  ·rw[hk k (by omega)]
   exact h.hi k (by omega)
 ·intro k hk'
  rw[hk k (by omega)]
  exact h.lo k (by omega)
 ·have e:=h.eq
  obtain ⟨r,hr⟩:∃ r,m-j=r+1:=⟨m-j-1,by omega⟩
  rw[hr,wn_first,getD_set_eq (by rw[h.lq];exact hj),wn_set_out (by omega),hwn]
  rw[show m+n-j=(m+n-(j+1))+1 by omega,wn_first u0,← h.lo j (by omega),← e,show m-(j+1)=r by omega]
  have h2:wn u j (n+1)=val v*d+wn u j (n+1)%val v:=by rw[hd,Nat.div_add_mod]
  rw[Nat.add_mul,Nat.mul_add,Nat.mul_comm d,Nat.mul_assoc]
  omega
def unS (u:List Nat) (s:Nat):Nat→List Nat
 | 0=>[]
 | i+1=>unS u s i++[u.getD i 0/2^s+u.getD (i+1) 0*2^(32-s)%4294967296]
theorem unS_length (u:List Nat) (s:Nat):∀ i,(unS u s i).length=i
 | 0=>rfl
 | i+1=>by simp[unS,unS_length u s i]
theorem un_lo {x s:Nat} (hs:s<32):x*2^(32-s)%4294967296=x%2^s*2^(32-s):=by
 rw[← pow_split hs,Nat.mul_mod_mul_right]
theorem un_hi {x s:Nat} (hs:s<32) (hx:x<4294967296):x/2^s<2^(32-s):=by
 rw[Nat.div_lt_iff_lt_mul (Nat.two_pow_pos s),Nat.mul_comm,pow_split hs]
 exact hx
theorem un_dig {x y s:Nat} (hs:s<32) (hx:x<4294967296):x/2^s+y*2^(32-s)%4294967296<4294967296:=by
 have h1:=un_hi hs hx
 have h2:y%2^s<2^s:=Nat.mod_lt _ (Nat.two_pow_pos s)
 have h3:(y%2^s+1)*2^(32-s)≤2^s*2^(32-s):=Nat.mul_le_mul_right _ h2
 rw[pow_split hs,Nat.add_mul] at h3
 rw[un_lo hs]
 omega
theorem unS_dg {u:List Nat} {s:Nat} (hu:Dg u) (hs:s<32):∀ i,Dg (unS u s i)
 | 0=>dg_nil
 | i+1=>dg_app (unS_dg hu hs i) (dg_one (un_dig hs (hu i)))
theorem unS_val {u:List Nat} {s:Nat} (hs:s<32):∀ i,2^s*val (unS u s i)+u.getD 0 0%2^s=wn u 0 i+4294967296^i*(u.getD i 0%2^s)
 | 0=>by simp[unS,val,wn]
 | i+1=>by
  have ih:=unS_val (u:=u) hs i
  rw[unS,val_app,unS_length,val,val,Nat.mul_zero,Nat.add_zero,un_lo hs,Nat.mul_add,wn,Nat.zero_add,Nat.pow_succ]
  have e1:4294967296^i*u.getD i 0=4294967296^i*(2^s*(u.getD i 0/2^s)+u.getD i 0%2^s):=by rw[Nat.div_add_mod]
  have e2:2^s*(4294967296^i*(u.getD i 0/2^s+u.getD (i+1) 0%2^s*2^(32-s)))=4294967296^i*(2^s*(u.getD i 0/2^s))+4294967296^i*4294967296*(u.getD (i+1) 0%2^s):=by
   rw[← pow_split hs]
   generalize (2^s*2^(32-s))^i=p
   generalize u.getD (i+1) 0%2^s=y
   generalize u.getD i 0/2^s=z
   generalize 2^(32-s)=b
   generalize 2^s=a
   simp only[Nat.mul_add]
   congr 1
   ·simp only[Nat.mul_left_comm,Nat.mul_comm]
   ·simp only[Nat.mul_left_comm,Nat.mul_comm]
  rw[e2,e1,Nat.mul_add]
  omega
theorem KInv.done {v u0 u q a b:List Nat} {n m s:Nat} (hs:s<32) (hu:u0.length=m+n) (h0:val u0=2^s*val a) (hv:val v=2^s*val b) (h:KInv v u0 n m 0 u q) :
  tr q=digs (val a/val b)∧tr (unS u s n)=digs (val a%val b):=by
 have hp:=Nat.two_pow_pos s
 have e:=h.eq
 have hlt:=h.lt
 rw[Nat.sub_zero,Nat.sub_zero,wn_vs u0,vs_all (by omega),wn_vs q,vs_all (by rw[h.lq];omega),h0] at e
 have hd:2^s*val a/(2^s*val b)=val q∧2^s*val a%(2^s*val b)=wn u 0 n:=by
  rw[← hv]
  exact div_of e.symm hlt
 rw[Nat.mul_div_mul_left _ _ hp] at hd
 rw[Nat.mul_mod_mul_left] at hd
 rw[tr_eq h.dq,tr_eq (unS_dg h.du hs n),hd.1]
 refine ⟨rfl,?_⟩
 have hr:=unS_val (u:=u) hs n
 have htop:=h.hi n (by omega)
 rw[htop,Nat.zero_mod,Nat.mul_zero,Nat.add_zero,← hd.2] at hr
 have hm:u.getD 0 0%2^s<2^s:=Nat.mod_lt _ hp
 have:=(div_of (q:=val a%val b) (r:=0) (U:=2^s*(val a%val b)) (V:=2^s) (by rw[Nat.mul_comm];rfl) hp).1
 have h3:=(div_of (q:=val (unS u s n)) (r:=u.getD 0 0%2^s) (U:=2^s*(val a%val b)) (V:=2^s) (by rw[← hr,Nat.mul_comm]) hm).1
 rw[← this,h3]
end Go.Ab
set_option linter.unusedVariables false
set_option linter.unusedSimpArgs false
namespace Go.Ab
open Go.Proofs.Try
structure NOk (x:NV):Prop where
 dg:Dg x.ds
 len:x.ds.length<2^40
 nil:x.z=true→x.ds=[]
def NV.v (x:NV):Nat:=val x.ds
theorem NOk.fr {x:NV} (h:NOk x):NOk x.fr:=⟨h.dg,h.len,h.nil⟩
theorem nok_digs {o:Own} {n:Nat} (h:(digs n).length<2^40):NOk ⟨false,o,digs n⟩:=⟨dg_digs n,h,by simp⟩
theorem V124 {x:NV} (h:NOk x):AP cfg 124 [x.av]=some (NV.av ⟨x.z,.no,digs x.v⟩):=by
 rw[P124 x (by have:=h.len;omega),tr_eq h.dg];rfl
theorem V109 {x y:NV} (hx:NOk x) (hy:NOk y):AP cfg 109 [x.av,y.av]=some (.int .i64 (cmpV x.v y.v)):=by
 rw[P109 x y (by have:=hx.len;omega) (by have:=hy.len;omega),cmpL_tr hx.dg hy.dg];rfl
theorem V108 {x y:NV} (hx:NOk x) (hy:NOk y):AP cfg 108 [x.av,y.av]=some (NV.av ⟨false,.no,digs (x.v+y.v)⟩):=by
 rw[P108 x y hx.len hy.len hx.dg hy.dg,addL_tr hx.dg hy.dg];rfl
theorem V107 {x y:NV} (hx:NOk x) (hy:NOk y):AP cfg 107 [x.av,y.av]=some (NV.av ⟨false,.no,digs (x.v*y.v)⟩):=by
 rw[P107 x y hx.len hy.len hx.dg hy.dg,mulL_tr hx.dg hy.dg];rfl
def ownD (n:Nat):Own:=if n=0 then .full else .no
theorem cloneV_digs (z:Bool) (o:Own) (n:Nat):cloneV ⟨z,o,digs n⟩=⟨z,ownD n,digs n⟩:=by
 unfold cloneV ownD
 simp only[val_pos_digs]
theorem V123 {z:Bool} {o:Own} {n:Nat} (h:NOk ⟨z,o,digs n⟩):AP cfg 123 [NV.av ⟨z,o,digs n⟩]=some (NV.av ⟨z,ownD n,digs n⟩):=by
 rw[P123 _ h.nil h.len,cloneV_digs]
theorem ofL_eq {n:Nat} (h:n<18446744073709551616):ofL n=digs n:=by
 rw[ofL,tr_eq (dg_cons.2 ⟨Nat.mod_lt _ (by omega),dg_one (by omega)⟩)]
 congr 1
 simp only[val]
 omega
theorem V93 {n:Nat} (h:n<18446744073709551616):AP cfg 93 [.int .u64 n]=some (NV.av ⟨false,ownD n,digs n⟩):=by
 rw[P93 n h,ofL_eq h,cloneV_digs]
def canB (ds:List Nat):Bool:=decide (ds=digs (val ds))
theorem tr_getD {ds:List Nat} (h:ds.length≠0) (h':ds.getD (ds.length-1) 0≠0):tr ds=ds:=by
 obtain ⟨n,hn⟩:∃ n,ds.length=n+1:=⟨ds.length-1,by omega⟩
 rw[hn,Nat.add_sub_cancel] at h'
 rw[tr,hn,trN,if_neg h',← hn,List.take_length]
theorem rightL_eq {ds:List Nat} (h:Dg ds):rightL ds=canB ds:=by
 unfold rightL canB
 rw[← tr_eq h]
 by_cases h0:ds.length=0
 ·have:ds=[]:=List.length_eq_zero_iff.1 h0
  subst this
  rfl
 ·by_cases h1:ds.getD (ds.length-1) 0=0
  ·have hlt:(tr ds).length<ds.length:=by
    obtain ⟨n,hn⟩:∃ n,ds.length=n+1:=⟨ds.length-1,by omega⟩
    rw[hn,Nat.add_sub_cancel] at h1
    have:=trN_le ds n
    rw[tr,List.length_take,hn,trN,if_pos h1]
    omega
   have hne:¬ ds=tr ds:=fun e=>by rw[← e] at hlt;omega
   rw[decide_eq_false h0,decide_eq_false hne,h1];rfl
  ·have:=tr_getD h0 h1
   rw[decide_eq_true this.symm,decide_eq_true h1,Bool.or_true]
theorem V94 {x:NV} (h:NOk x):AP cfg 94 [x.av]=some (.bool (canB x.ds)):=by
 rw[P94 x h.len,rightL_eq h.dg]
def smallV (n:Nat):AV:=if n<18446744073709551616 then .tup [.int .u64 n,.bool true] else .tup [.int .u64 0,.bool false]
theorem smallL_eq (n:Nat):smallL (digs n)=smallV n:=by
 have hv:=val_digs n
 have hd:=dg_digs n
 unfold smallV
 generalize he:digs n=l at *
 match l,hv,hd with
 | [],hv,_=>
  simp only[val] at hv
  subst hv
  rfl
 | [d],hv,hd=>
  have:=(dg_cons.1 hd).1
  simp only[val] at hv
  rw[if_pos (by omega),smallL,← hv]
  rfl
 | [d,e],hv,hd=>
  have:=(dg_cons.1 hd).1
  have:=(dg_cons.1 (dg_cons.1 hd).2).1
  simp only[val] at hv
  rw[if_pos (by omega),smallL,← hv]
  congr 4
  omega
 | d::e::f::l,hv,hd=>
  have hl:2<(digs n).length:=by rw[he];simp
  have:=digs_length_pos hl
  rw[if_neg (by omega),smallL]
  ·intro h;cases h
  ·intro x h;cases h
  ·intro x y h;cases h
theorem V95 {x:NV} (h:NOk x):AP cfg 95 [x.av]=some (smallV x.v):=by
 rw[P95 x h.len h.dg,tr_eq h.dg,smallL_eq];rfl
theorem fza_lst (sh:Sh) (z:Bool) (o:Own) (es:List AV):∀ m k,frz m (k+1) (.lst sh z o es)=some (.lst sh z o.fr es,[]):=by
 intro m k
 cases o<;>rfl
theorem fza_int (k:IntKind) (n:Int):∀ m j,frz m (j+1) (.int k n)=some (.int k n,[]):=fun _ _=>rfl
theorem fza_bool (b:Bool):∀ m j,frz m (j+1) (.bool b)=some (.bool b,[]):=fun _ _=>rfl
theorem fz_tup2 {a a' b b':AV} (ha:∀ m k,frz m (k+1) a=some (a',[])) (hb:∀ m k,frz m (k+1) b=some (b',[])):Fz (.tup [a,b]) (.tup [a',b']):=by
 intro m
 show (mapF (frz m 8) [a,b]).map _=_
 simp[mapF,ha m 7,hb m 7]
theorem fz_tup3 {a a' b b' c c':AV} (ha:∀ m k,frz m (k+1) a=some (a',[])) (hb:∀ m k,frz m (k+1) b=some (b',[])) (hc:∀ m k,frz m (k+1) c=some (c',[])):Fz (.tup [a,b,c]) (.tup [a',b',c']):=by
 intro m
 show (mapF (frz m 8) [a,b,c]).map _=_
 simp[mapF,ha m 7,hb m 7,hc m 7]
theorem AP_ofz {C:Cfg} {f:Nat} {args:List AV} {m:Mem} (v v':AV) (hf:Fz v v') (hv:noV v'=true) (h:AC C f args []=some (v,m)):AP C f args=some v':=
 AP_of h (hf m) (by rw[hv,Bool.or_true])
theorem fza_nv (x:NV):∀ m k,frz m (k+1) x.av=some (x.fr.av,[]):=fza_lst _ _ _ _
theorem fza_nil:∀ m k,frz m (k+1) (.lst none true .full [])=some (.lst none true .full [],[]):=fza_lst _ _ _ _
def nilN:AV:=.lst none true .full []
def subV (x y:NV):AV:=if x.v<y.v then .tup [nilN,.int .i64 1] else .tup [NV.av ⟨false,.no,digs (x.v-y.v)⟩,.int .i64 0]
theorem V110 {x y:NV} (hx:NOk x) (hy:NOk y):AP cfg 110 [x.av,y.av]=some (subV x y):=by
 have hx':=tr_length x.ds
 have lx:=hx.len
 have e1:=V124 hx.fr
 have e2:=V124 hy.fr
 rw[show x.fr.v=x.v from rfl] at e1
 rw[show y.fr.v=y.v from rfl] at e2
 have hxl:(digs x.v).length<2^40:=by rw[NV.v,← tr_eq hx.dg];omega
 unfold subV
 by_cases h:x.v<y.v
 ·rw[if_pos h]
  refine AP_ofz _ _ (fz_tup2 fza_nil (fza_int _ _)) rfl (m:=[]) ?_
  rw[T110,pcall2 (fz_nv x) (fz_nv y),V109 hx.fr hy.fr]
  simp only[Option.map_some,oBs,binA_lss,ifA_dec,cmpV]
  rw[show x.fr.v=x.v from rfl,show y.fr.v=y.v from rfl,if_pos h,if_pos (by omega)]
 ·rw[if_neg h]
  have key:=subL_tr hx.dg hy.dg (Nat.le_of_not_lt h)
  rw[tr_eq hx.dg,tr_eq hy.dg,subL] at key
  refine AP_ofz _ _ (fz_tup2 (fza_nv ⟨false,.no,digs (x.v-y.v)⟩) (fza_int _ _)) rfl (m:=[none]) ?_
  rw[T110,pcall2 (fz_nv x) (fz_nv y),V109 hx.fr hy.fr]
  simp only[Option.map_some,oBs,binA_lss,ifA_dec,cmpV]
  rw[show x.fr.v=x.v from rfl,show y.fr.v=y.v from rfl,if_neg h,if_neg (by split<;>omega),pcall1 (fz_nv x),e1]
  simp only[Option.map_some,oBs,pcall1 (fz_nv y),e2,len_nv]
  rw[make_oc (by omega) (by omega)]
  simp only[oBs]
  have:=L110 ⟨x.z,.no,digs x.v⟩ ⟨y.z,.no,digs y.v⟩ [] (K110_7 (finK cfg.P f110.results.toList)) hxl (dg_digs _) (dg_digs _) (digs x.v).length 0 (by simp)
  refine this.trans ?_
  rw[K110_7_x0]
  have hm:(objM [] (subS (digs x.v) (digs y.v) (digs x.v).length).1)[0]?=some (oc (subS (digs x.v) (digs y.v) (digs x.v).length).1):=rfl
  have hp:=pcall_at (cp:=AP cfg) (g:=124) hm
  rw[subS_length] at hp
  rw[show ([]:Mem).length=0 from rfl,hp,V124 ⟨subS_dg (dg_digs _) (dg_digs _) _,by simp only[subS_length];exact hxl,by simp⟩]
  simp only[Option.map_some,oBs,NV.v]
  rw[tr_eq (subS_dg (dg_digs _) (dg_digs _) _)] at key
  rw[key]
  rfl
theorem L136 (x:NV) (d:Nat) (m:Mem) (K:KT) (hl:x.ds.length<2^40) (dx:Dg x.ds) (hd:0<d) (hd':d<4294967296):∀ j k:Nat,k+j=x.ds.length →
  L136_4 x.av (dg d) (.arr m.length 0 x.ds.length none) (.int .u64 (shS x.ds d k).2) (.int .i64 ((j:Int)-1)) (m++[oc (shS x.ds d k).1]) K
   = K (.exit 0) (O136_4 (.arr m.length 0 x.ds.length none) (.int .u64 (shS x.ds d x.ds.length).2) (m++[oc (shS x.ds d x.ds.length).1])):=by
 intro j
 induction j with
 | zero=>
  intro k hk
  have:k=x.ds.length:=by omega
  subst this
  rw[L136_4_eq]
  simp[binA_geq,ifA]
 | succ j ih=>
  intro k hk
  have ih:=ih (k+1) (by omega)
  have hr:=shS_rest (a:=x.ds) hd k
  have hq:=shS_quo (a:=x.ds) dx hd k j
  have hlen:=shS_length x.ds d k
  have hj:=dx j
  have ej:x.ds.length-1-k=j:=by omega
  rw[L136_4_eq,show ((j+1:Nat):Int)-1=(j:Nat) by omega]
  simp only[shS,ej] at ih
  generalize shS x.ds d k=t at *
  simp (disch:=omega) only[n_geq0,oBs,ifA,u_shl32,index_nv,load_v,c_dg,u_orlo,u_quo,u_rem,c_dn]
  rw[index_arr (by omega),oBs,Nat.mod_eq_of_lt hq,store_at (List.getElem?_concat_length ..) (by omega)]
  simp (disch:=omega) only[oBs,i_sub1z]
  rw[List.set_append_right _ _ (Nat.le_refl _)]
  simp only[Nat.sub_self,List.set_cons_zero]
  exact ih
theorem V136 {x:NV} {d:Nat} (hx:NOk x) (hd:0<d) (hd':d<4294967296):AP cfg 136 [x.av,dg d]=some (.tup [NV.av ⟨false,.no,digs (x.v/d)⟩,dg (x.v%d)]):=by
 have lx:=hx.len
 obtain ⟨k1,k2⟩:=short_eq hx.dg hd
 have hlt:val x.ds%d<d:=Nat.mod_lt _ hd
 refine AP_ofz _ _ (fz_tup2 (fza_nv ⟨false,.no,digs (x.v/d)⟩) (fza_int _ _)) rfl (m:=[none]) ?_
 rw[T136]
 simp only[len_nv,oBs]
 rw[make_oc (by omega) (by omega)]
 simp only[oBs]
 rw[i_sub1z (by omega)]
 simp only[oBs]
 have:=L136 x d [] (K136_4 (finK cfg.P f136.results.toList)) lx hx.dg hd hd' x.ds.length 0 (by omega)
 refine this.trans ?_
 rw[K136_4_x0]
 have hm:(([]:Mem)++[oc (shS x.ds d x.ds.length).1])[0]?=some (oc (shS x.ds d x.ds.length).1):=rfl
 have hp:=pcall_at (cp:=AP cfg) (g:=124) hm
 rw[shS_length] at hp
 rw[shortL,tr_eq (shS_dg hx.dg hd _)] at k1
 rw[show ([]:Mem).length=0 from rfl,hp,V124 ⟨shS_dg hx.dg hd _,by simp only[shS_length];exact lx,by simp⟩,k2]
 simp only[Option.map_some,oBs,NV.v,c_dn]
 rw[k1,Nat.mod_eq_of_lt (Nat.lt_trans hlt hd')]
 rfl
theorem L138 (x:NV) (s:Nat) (m:Mem) (K:KT) (hl:x.ds.length<2^40) (dx:Dg x.ds) (hs:s<32):∀ j i:Nat,i+j=x.ds.length →
  L138_3 (.int .u64 s) (.arr m.length 0 (x.ds.length+1) none) x.av (.int .i64 x.ds.length) (.int .i64 i) (m++[oc (sfS x.ds s i)]) K
   = K (.exit 0) (O138_3 (.arr m.length 0 (x.ds.length+1) none) (m++[oc (sfS x.ds s x.ds.length)])):=by
 intro j
 induction j with
 | zero=>
  intro i hi
  have:i=x.ds.length:=by omega
  subst this
  rw[L138_3_eq]
  simp[binA_lss,ifA]
 | succ j ih=>
  intro i hi
  have ih:=ih (i+1) (by omega)
  have hlen:=sfS_length x.ds s i
  have hd:=dx i
  have h1:=sfS_top (s:=s) dx i (by omega)
  have h2:=lo_le (x:=x.ds.getD i 0) hs
  have h3:=hi_lt (x:=x.ds.getD i 0) (s:=s) hd
  have h4:2^s≤2^31:=Nat.pow_le_pow_right (by omega) (by omega)
  have h6:x.ds.getD i 0*2^s%4294967296%2^s=0:=by
   rw[← pow_split hs,Nat.mul_comm (2^s),Nat.mul_mod_mul_right,Nat.mul_mod_left]
  rw[L138_3_eq]
  simp only[sfS] at ih
  generalize sfS x.ds s i=t at *
  simp (disch:=omega) only[n_lss,oBs,ifA_dec,if_pos,index_nv,load_v,index_arr]
  rw[load_at (List.getElem?_concat_length ..) (by omega)]
  simp only[dg,oBs]
  rw[u32_shl hs hd,oBs,u32_or h1 h6 (by omega),oBs,store_at (List.getElem?_concat_length ..) (by omega)]
  simp (disch:=omega) only[oBs,i_add1,c_up,u64_shl hs,u_shr32,c_dn,index_arr]
  rw[List.set_append_right _ _ (Nat.le_refl _)]
  simp only[Nat.sub_self,List.set_cons_zero]
  rw[store_at (List.getElem?_concat_length ..) (by rw[List.length_set];omega),List.set_append_right _ _ (Nat.le_refl _)]
  simp only[Nat.sub_self,List.set_cons_zero,oBs]
  rw[Nat.mod_eq_of_lt (by omega:x.ds.getD i 0*2^s/4294967296<4294967296)]
  exact ih
theorem V138 {x:NV} {s:Nat} (m:Mem) (hx:NOk x) (hs:s<32):AC cfg 138 [x.av,.int .u64 s] m=some (.arr m.length 0 (x.ds.length+1) none,m++[oc (sfS x.ds s x.ds.length)]):=by
 have lx:=hx.len
 rw[T138]
 simp only[len_nv,oBs]
 rw[i_add1 (by omega),oBs,make_oc (by omega) (by omega)]
 simp only[oBs]
 refine (L138 x s m _ lx hx.dg hs x.ds.length 0 (by omega)).trans ?_
 rw[K138_3_x0]
def lz (x:Nat):Nat:=31-Nat.log2 x
theorem log2_eq {x k:Nat} (h:2^k≤x) (h':x<2^(k+1)):Nat.log2 x=k:=by
 have hx:x≠0:=by have:=Nat.two_pow_pos k;omega
 exact (Nat.log2_eq_iff hx).2 ⟨h,h'⟩
def len8t:ByteArray:=⟨⟨[0,1,2,2,3,3,3,3,4,4,4,4,4,4,4,4,5,5,5,5,5,5,5,5,5,5,5,5,5,5,5,5,6,6,6,6,6,6,6,6,6,6,6,6,6,6,6,6,6,6,6,6,6,6,6,6,6,6,6,6,6,6,6,6,7,7,7,7,7,7,7,7,7,7,7,7,7,7,7,7,7,7,7,7,7,7,7,7,7,7,7,7,7,7,7,7,7,7,7,7,7,7,7,7,7,7,7,7,7,7,7,7,7,7,7,7,7,7,7,7,7,7,7,7,7,7,7,7,8,8,8,8,8,8,8,8,8,8,8,8,8,8,8,8,8,8,8,8,8,8,8,8,8,8,8,8,8,8,8,8,8,8,8,8,8,8,8,8,8,8,8,8,8,8,8,8,8,8,8,8,8,8,8,8,8,8,8,8,8,8,8,8,8,8,8,8,8,8,8,8,8,8,8,8,8,8,8,8,8,8,8,8,8,8,8,8,8,8,8,8,8,8,8,8,8,8,8,8,8,8,8,8,8,8,8,8,8,8,8,8,8,8,8,8,8,8,8,8,8,8,8,8,8,8,8,8]⟩⟩
theorem len8t_eq (v:AV):indexStrA (.str ⟨⟨[0,1,2,2,3,3,3,3,4,4,4,4,4,4,4,4,5,5,5,5,5,5,5,5,5,5,5,5,5,5,5,5,6,6,6,6,6,6,6,6,6,6,6,6,6,6,6,6,6,6,6,6,6,6,6,6,6,6,6,6,6,6,6,6,7,7,7,7,7,7,7,7,7,7,7,7,7,7,7,7,7,7,7,7,7,7,7,7,7,7,7,7,7,7,7,7,7,7,7,7,7,7,7,7,7,7,7,7,7,7,7,7,7,7,7,7,7,7,7,7,7,7,7,7,7,7,7,7,8,8,8,8,8,8,8,8,8,8,8,8,8,8,8,8,8,8,8,8,8,8,8,8,8,8,8,8,8,8,8,8,8,8,8,8,8,8,8,8,8,8,8,8,8,8,8,8,8,8,8,8,8,8,8,8,8,8,8,8,8,8,8,8,8,8,8,8,8,8,8,8,8,8,8,8,8,8,8,8,8,8,8,8,8,8,8,8,8,8,8,8,8,8,8,8,8,8,8,8,8,8,8,8,8,8,8,8,8,8,8,8,8,8,8,8,8,8,8,8,8,8,8,8,8,8,8,8]⟩⟩) v=indexStrA (.str len8t) v:=rfl
theorem len8_all:∀ x:Fin 256,(len8t[x.1]?).map (fun b=>b.toNat)=some (if x.1=0 then 0 else Nat.log2 x.1+1):=by decide +kernel
theorem len8 {x:Nat} (h:0<x) (h':x<256):indexStrA (.str len8t) (.int .u8 x)=some (.int .u8 (Nat.log2 x+1:Nat)):=by
 have:=len8_all ⟨x,h'⟩
 simp only[if_neg (Nat.pos_iff_ne_zero.1 h)] at this
 rw[indexStrA,if_pos (by omega),Int.toNat_natCast]
 cases he:len8t[x]? with
 | none=>rw[he] at this;cases this
 | some b=>
  rw[he] at this
  simp only[Option.map_some,Option.some.injEq] at this ⊢
  rw[this]
theorem c_u8 {a:Nat} {k:IntKind} (h:a<256):convA .u8 (.int k a)=some (.int .u8 a):=by
 rw[convA_int,show IntKind.wrap .u8 (a:Int)=(a:Int)%256 from rfl,Int.emod_eq_of_lt (by omega) (by omega)]
theorem c_i64 {a:Nat} {k:IntKind} (h:a<9223372036854775808):convA .i64 (.int k a)=some (.int .i64 a):=by
 rw[convA_int,wrap_i64 (by omega) (by omega)]
theorem log2_shr {x k:Nat} (h:2^k≤x):Nat.log2 x=Nat.log2 (x/2^k)+k:=by
 have hp:=Nat.two_pow_pos k
 have hy:x/2^k≠0:=by
  have:0<x/2^k:=Nat.div_pos h hp
  omega
 have h1:=Nat.log2_self_le hy
 have h2:=Nat.lt_log2_self (n:=x/2^k)
 apply log2_eq
 ·rw[Nat.pow_add]
  exact (Nat.le_div_iff_mul_le hp).1 h1
 ·rw[show Nat.log2 (x/2^k)+k+1=Nat.log2 (x/2^k)+1+k by omega,Nat.pow_add]
  exact (Nat.div_lt_iff_lt_mul hp).1 h2
theorem u32_shr16 {tk:TK} {a:Nat}:binA tk .shr (.int .u32 a) (.int .u64 16)=some (.int .u32 (a/65536:Nat)):=u32_shr (s:=16) (by omega)
theorem u32_shr8 {tk:TK} {a:Nat}:binA tk .shr (.int .u32 a) (.int .u64 8)=some (.int .u32 (a/256:Nat)):=u32_shr (s:=8) (by omega)
theorem log2_lt_8 {x:Nat} (h:x<256):Nat.log2 x<8:=by
 by_cases h0:x=0
 ·subst h0;decide
 ·exact (Nat.log2_lt h0).2 h
theorem T140' {x:Nat} (m:Mem) (h:0<x) (h':x<4294967296):AC cfg 140 [dg x] m=some (.int .i64 (Nat.log2 x+1:Nat),m):=by
 have g1:binA .other .geq (dg x) (.int .u32 65536)=some (.bool (decide (x≥65536))):=n_geq (b:=65536)
 have g2:∀ y:Nat,binA .other .geq (.int .u32 y) (.int .u32 256)=some (.bool (decide (y≥256))):=fun y=>n_geq (b:=256)
 have g3:binA .other .geq (dg x) (.int .u32 256)=some (.bool (decide (x≥256))):=n_geq (b:=256)
 have a1:binA .other .add (.int .i64 16) (.int .i64 8)=some (.int .i64 24):=rfl
 have a2:binA .other .add (.int .i64 0) (.int .i64 8)=some (.int .i64 8):=rfl
 have b1:∀ y:Nat,y<300→binA .other .add (.int .i64 24) (.int .i64 y)=some (.int .i64 (24+y:Nat)):=fun y h=>i_add (a:=24) (by omega)
 have b2:∀ y:Nat,y<300→binA .other .add (.int .i64 16) (.int .i64 y)=some (.int .i64 (16+y:Nat)):=fun y h=>i_add (a:=16) (by omega)
 have b3:∀ y:Nat,y<300→binA .other .add (.int .i64 8) (.int .i64 y)=some (.int .i64 (8+y:Nat)):=fun y h=>i_add (a:=8) (by omega)
 have b4:∀ y:Nat,y<300→binA .other .add (.int .i64 0) (.int .i64 y)=some (.int .i64 (0+y:Nat)):=fun y h=>i_add (a:=0) (by omega)
 have s1:binA .other .shr (dg x) (.int .u64 16)=some (.int .u32 (x/65536:Nat)):=u32_shr16
 have s2:binA .other .shr (dg x) (.int .u64 8)=some (.int .u32 (x/256:Nat)):=u32_shr8
 have k0:convA .u8 (dg x)=if x<256 then some (.int .u8 x) else convA .u8 (dg x):=by
  split
  ·rename_i h;exact c_u8 h
  ·rfl
 rw[T140]
 simp only[len8t_eq,g1,g2,g3,a1,a2,s1,s2,oBs,ifA_dec,u32_shr8]
 by_cases c1:x≥65536
 ·rw[if_pos c1]
  have e1:=log2_shr (x:=x) (k:=16) (by omega)
  rw[show 2^16=65536 from rfl] at e1
  by_cases c2:x/65536≥256
  ·rw[if_pos c2]
   have e2:=log2_shr (x:=x/65536) (k:=8) (by omega)
   rw[show 2^8=256 from rfl] at e2
   have l8:=log2_lt_8 (x:=x/65536/256) (by omega)
   rw[c_u8 (by omega),oBs,len8 (by omega) (by omega),oBs,c_i64 (by omega),oBs,b1 _ (by omega),oBs]
   congr 4
   omega
  ·rw[if_neg c2]
   have l8:=log2_lt_8 (x:=x/65536) (by omega)
   rw[c_u8 (by omega),oBs,len8 (by omega) (by omega),oBs,c_i64 (by omega),oBs,b2 _ (by omega),oBs]
   congr 4
   omega
 ·rw[if_neg c1]
  by_cases c2:x≥256
  ·rw[if_pos c2]
   have e2:=log2_shr (x:=x) (k:=8) (by omega)
   rw[show 2^8=256 from rfl] at e2
   have l8:=log2_lt_8 (x:=x/256) (by omega)
   rw[c_u8 (by omega),oBs,len8 (by omega) (by omega),oBs,c_i64 (by omega),oBs,b3 _ (by omega),oBs]
   congr 4
   omega
  ·rw[if_neg c2]
   have l8:=log2_lt_8 (x:=x) (by omega)
   rw[k0,if_pos (by omega),oBs,len8 (by omega) (by omega),oBs,c_i64 (by omega),oBs,b4 _ (by omega),oBs]
   congr 4
   omega
theorem V140 {x:Nat} (h:0<x) (h':x<4294967296):AP cfg 140 [dg x]=some (.int .i64 (Nat.log2 x+1:Nat)):=
 AP_of (T140' [] h h') (fz_int _ _ _) (by simp[noV])
theorem V137 {x:Nat} (h:0<x) (h':x<4294967296):AP cfg 137 [dg x]=some (.int .i64 (lz x:Nat)):=by
 have hl:Nat.log2 x<32:=(Nat.log2_lt (by omega)).2 h'
 refine AP_of (m:=[]) ?_ (fz_int _ _ _) (by simp[noV])
 rw[T137,pcall1 (a:=dg x) (a':=dg x) (fz_int .u32 x),V140 h h']
 simp only[Option.map_some,oBs]
 have e:binA .other .sub (.int .i64 32) (.int .i64 (Nat.log2 x+1:Nat))=some (.int .i64 (32-(Nat.log2 x+1):Nat)):=i_sub (a:=32) (by omega) (by omega)
 have e2:32-(Nat.log2 x+1)=lz x:=by rw[lz];omega
 rw[e,e2]
 rfl
end Go.Ab
set_option linter.unusedVariables false
set_option linter.unusedSimpArgs false
namespace Go.Ab
open Go.Proofs.Try
theorem W125_18 (v:NV) (u:List Nat) (m:Mem) (K:KT) (x9 x13:AV) (nu L n j top v1 v2 u0 p lo vlo q:Nat)
  (hn:v.ds.length=n) (hn2:2≤n) (hm:m[nu]?=some (oc u)) (hL:u.length=L) (hL':L<2^42) (hjn:j+n<L) (du:Dg u) (dv:Dg v.ds)
  (e1:v.ds.getD (n-1) 0=v1) (e2:v.ds.getD (n-2) 0=v2) (e3:u.getD (j+n-2) 0=u0)
  (hv1:2147483648≤v1) (htop:top≤v1*4294967296+4294967295) (hlo:lo<p) (hvlo:vlo<p)
  (hq:q=((top*4294967296+u0)*p+lo)/((v1*4294967296+v2)*p+vlo)) (hqB:q<4294967296) :
  ∀ k g r:Nat,4294967296≤r+k*v1→r<4294967296→g*v1+r=top→q≤g →
  ∃ g',q≤g'∧g'<4294967296∧g'*((v1*4294967296+v2)*p+vlo)<((top*4294967296+u0)*p+lo)+((v1*4294967296+v2)*p+vlo) ∧
   L125_18 x9 (.arr nu 0 L none) v.av (.int .i64 n) x13 (.int .i64 j) (.int .u64 g) (.int .u64 r) m K
    = K (.exit 3) (O125_18 x9 (.arr nu 0 L none) v.av (.int .i64 n) x13 (.int .i64 j) (.int .u64 g') m):=by
 have hv1':v1<4294967296:=e1▸dv (n-1)
 have hv2':v2<4294967296:=e2▸dv (n-2)
 have hu0':u0<4294967296:=e3▸du (j+n-2)
 intro k
 induction k with
 | zero=>intro g r h1 h2;omega
 | succ k ih=>
  intro g r h1 h2 h3 h4
  have hgB:g<4294967296+2:=by
   have:g*v1<(4294967296+2)*v1:=by omega
   exact Nat.lt_of_mul_lt_mul_right this
  have hgv:g*v2≤4294967297*4294967295:=Nat.mul_le_mul (by omega) (by omega)
  have dec:q<g→∃ g',q≤g'∧g'<4294967296∧g'*((v1*4294967296+v2)*p+vlo)<((top*4294967296+u0)*p+lo)+((v1*4294967296+v2)*p+vlo) ∧
    (if r+v1≥4294967296 then K (.exit 3) (O125_18 x9 (.arr nu 0 L none) v.av (.int .i64 n) x13 (.int .i64 j) (.int .u64 (g-1:Nat)) m)
     else L125_18 x9 (.arr nu 0 L none) v.av (.int .i64 n) x13 (.int .i64 j) (.int .u64 (g-1:Nat)) (.int .u64 (r+v1:Nat)) m K)
    = K (.exit 3) (O125_18 x9 (.arr nu 0 L none) v.av (.int .i64 n) x13 (.int .i64 j) (.int .u64 g') m):=by
   intro hqg
   obtain ⟨g1,hg1⟩:∃ g1,g=g1+1:=⟨g-1,by omega⟩
   subst hg1
   rw[Nat.add_mul,Nat.one_mul] at h3
   rw[Nat.add_sub_cancel]
   by_cases hb:r+v1≥4294967296
   ·rw[if_pos hb]
    have hlt:g1<4294967296:=by
     have:g1*v1<4294967296*v1:=by omega
     exact Nat.lt_of_mul_lt_mul_right this
    refine ⟨g1,by omega,hlt,?_,rfl⟩
    have h5:g1*v2≤4294967296*4294967295:=Nat.mul_le_mul (by omega) (by omega)
    exact guess_le (r:=r+v1) (top:=top) (u0:=u0) (by omega) (by omega) hlt hvlo (by omega) rfl rfl
   ·rw[if_neg hb]
    rw[Nat.add_mul] at h1
    exact ih g1 (r+v1) (by omega) (by omega) (by omega) (by omega)
  rw[L125_18_eq]
  simp (disch:=omega) only[n_geqB,oBs,ifA_dec,u_sub1,i_sub1,index_nv,load_v,c_dg,u_add,e1]
  by_cases c1:g≥4294967296
  ·rw[if_pos c1]
   exact dec (by omega)
  ·rw[if_neg c1]
   simp (disch:=omega) only[i_sub2,oBs,index_nv,load_v,e2]
   rw[c_dg v2 hv2',oBs,u_mul (by omega),oBs,u_shl32 (by omega),oBs,i_add (by omega),oBs,i_sub2 (by omega) (by omega),oBs,index_arr (by omega),oBs,
    load_at hm (by omega),oBs,e3,c_dg u0 hu0',oBs,u_orlo (by omega) (by omega),oBs,n_gtr,oBs,ifA_dec]
   by_cases c2:g*v2>r*4294967296+u0
   ·have hqg:=guess_ge (q:=q) (vlo:=vlo) h3 c2 hlo (by rw[hq];exact Nat.div_mul_le_self _ _)
    rw[if_pos c2,u_sub1 (by omega) (by omega),oBs]
    exact dec hqg
   ·rw[if_neg c2]
    exact ⟨g,h4,by omega,guess_le h3 (Nat.le_of_not_lt c2) (by omega) hvlo (by omega) rfl rfl,rfl⟩
theorem W125_24 (v:NV) (u:List Nat) (m0:Mem) (K:KT) (x9 x13:AV) (nu L n j g:Nat)
  (hn:v.ds.length=n) (hm:m0[nu]?=some (oc u)) (hL:u.length=L) (hL':L<2^42) (hjn:j+n<L) (du:Dg u) (dv:Dg v.ds) (hg:g<4294967296):∀ r i:Nat,i+r=n →
  L125_24 x9 (.arr nu 0 L none) v.av (.int .i64 n) x13 (.int .i64 j) (.int .u64 g) (.int .u64 (msS v.ds g j i u).2.1) (.int .u64 (msS v.ds g j i u).2.2) (.int .i64 n) (.int .i64 i) (m0.set nu (oc (msS v.ds g j i u).1)) K
   = K (.exit 5) (O125_24 x9 (.arr nu 0 L none) v.av (.int .i64 n) x13 (.int .i64 j) (.int .u64 g) (.int .u64 (msS v.ds g j n u).2.1) (.int .u64 (msS v.ds g j n u).2.2) (m0.set nu (oc (msS v.ds g j n u).1))):=by
 have hnu:nu<m0.length:=by
  apply Classical.byContradiction
  intro h
  rw[List.getElem?_eq_none (by omega)] at hm
  cases hm
 intro r
 induction r with
 | zero=>
  intro i hi
  have:i=n:=by omega
  subst this
  rw[L125_24_eq]
  simp[binA_lss,ifA]
 | succ r ih=>
  intro i hi
  have ih:=ih (i+1) (by omega)
  have hlen:=msS_length v.ds g j u i
  have hb:=msS_borrow v.ds g j u i
  have hc:=msS_carry dv hg j u i
  have hd:=msS_dg (v:=v.ds) (g:=g) du j i (i+j)
  have hvd:=dv i
  have hgv:g*v.ds.getD i 0≤4294967295*4294967295:=Nat.mul_le_mul (by omega) (by omega)
  have s1:binA .other .shl (.int .u64 1) (.int .u64 32)=some (.int .u64 (4294967296:Nat)):=rfl
  have s0:binA .other .shl (.int .u64 0) (.int .u64 32)=some (.int .u64 (0:Nat)):=rfl
  rw[L125_24_eq]
  simp only[msS] at ih
  generalize msS v.ds g j i u=t at *
  obtain ⟨t,b,c⟩:=t
  simp only[] at *
  have hget:(m0.set nu (oc t))[nu]?=some (oc t):=List.getElem?_set_self hnu
  simp (disch:=omega) only[n_lss,oBs,ifA_dec,if_pos,index_nv,load_v,c_dg,u_mul,u_add,u_and,i_add,index_arr,load_at hget,u_shr32,i_add1]
  by_cases h:t.getD (i+j) 0<(c+g*v.ds.getD i 0)%4294967296+b
  ·rw[if_pos h]
   rw[if_pos h] at ih
   rw[s1,oBs,u_add (by omega),oBs,u_sub (by omega) (by omega),oBs,c_dn,oBs,Nat.mod_eq_of_lt (by omega),store_at hget (by omega),List.set_set]
   exact ih
  ·rw[if_neg h]
   rw[if_neg h] at ih
   rw[s0,oBs,u_add (by omega),oBs,u_sub (by omega) (by omega),oBs,c_dn,oBs,Nat.mod_eq_of_lt (by omega),store_at hget (by omega),List.set_set]
   exact ih
theorem W125_41 (v:NV) (u:List Nat) (m0:Mem) (K:KT) (x9 x13 x16:AV) (nu L n j:Nat)
  (hn:v.ds.length=n) (hm:m0[nu]?=some (oc u)) (hL:u.length=L) (hL':L<2^42) (hjn:j+n<L) (du:Dg u) (dv:Dg v.ds):∀ r i:Nat,i+r=n →
  L125_41 x9 (.arr nu 0 L none) v.av (.int .i64 n) x13 (.int .i64 j) x16 (.int .u64 (abS v.ds j i u).2) (.int .i64 n) (.int .i64 i) (m0.set nu (oc (abS v.ds j i u).1)) K
   = K (.exit 7) (O125_41 x9 (.arr nu 0 L none) v.av (.int .i64 n) x13 (.int .i64 j) x16 (.int .u64 (abS v.ds j n u).2) (m0.set nu (oc (abS v.ds j n u).1))):=by
 have hnu:nu<m0.length:=by
  apply Classical.byContradiction
  intro h
  rw[List.getElem?_eq_none (by omega)] at hm
  cases hm
 intro r
 induction r with
 | zero=>
  intro i hi
  have:i=n:=by omega
  subst this
  rw[L125_41_eq]
  simp[binA_lss,ifA]
 | succ r ih=>
  intro i hi
  have ih:=ih (i+1) (by omega)
  have hlen:=abS_length v.ds j u i
  obtain ⟨hd,hc⟩:=abS_carry dv du j i
  have hd:=hd (i+j)
  have hvd:=dv i
  rw[L125_41_eq]
  simp only[abS] at ih
  generalize abS v.ds j i u=t at *
  obtain ⟨t,c⟩:=t
  simp only[] at *
  have hget:(m0.set nu (oc t))[nu]?=some (oc t):=List.getElem?_set_self hnu
  simp (disch:=omega) only[n_lss,oBs,ifA_dec,if_pos,index_nv,load_v,c_dg,u_add,i_add,index_arr,load_at hget,u_shr32,i_add1,c_dn,store_at hget,List.set_set]
  exact ih
theorem u_sub_dn {tk:TK} {t y:Nat} (ht:t<4294967296) (hy:y≤4294967296):∃ w,binA tk .sub (.int .u64 t) (.int .u64 y)=some w∧convA .u32 w=some (.int .u32 ((t+4294967296-y)%4294967296:Nat)):=by
 refine ⟨_,binA_sub _ _ _ _,?_⟩
 rw[convA_int,wrap_u32_eq,wrap_u64_eq]
 congr 2
 omega
theorem kd_top {v u:List Nat} {n j:Nat} (hv:Dg v) (hu:Dg u) (hn:v.length=n) (hn2:2≤n) :
  val v=(v.getD (n-1) 0*4294967296+v.getD (n-2) 0)*4294967296^(n-2)+vs v (n-2) ∧
  wn u j (n+1)=((u.getD (j+n) 0*4294967296+u.getD (j+n-1) 0)*4294967296+u.getD (j+n-2) 0)*4294967296^(n-2)+wn u j (n-2):=by
 obtain ⟨k,rfl⟩:∃ k,n=k+2:=⟨n-2,by omega⟩
 have e1:k+2-1=k+1:=by omega
 have e2:k+2-2=k:=by omega
 have e3:j+(k+2)-1=j+(k+1):=by omega
 have e4:j+(k+2)-2=j+k:=by omega
 rw[e1,e2,e3,e4]
 constructor
 ·rw[← vs_all (Nat.le_of_eq hn),vs_succ,vs_succ,Nat.pow_succ,Nat.add_mul,Nat.mul_comm (4294967296^k) (v.getD k 0),Nat.mul_comm (4294967296^k*4294967296),Nat.mul_comm (4294967296^k),Nat.mul_assoc]
  omega
 ·rw[wn,wn,wn,Nat.pow_succ (m:=k+1),Nat.pow_succ]
  rw[Nat.add_mul,Nat.add_mul,Nat.add_mul,Nat.mul_comm (4294967296^k) (u.getD (j+k) 0),Nat.mul_comm (4294967296^k*4294967296) (u.getD (j+(k+1)) 0),Nat.mul_comm (4294967296^k*4294967296*4294967296),Nat.mul_comm (4294967296^k),]
  generalize 4294967296^k=p
  have h1:u.getD (j+(k+1)) 0*(4294967296*p)=u.getD (j+(k+1)) 0*4294967296*p:=(Nat.mul_assoc _ _ _).symm
  have h2:u.getD (j+(k+2)) 0*(4294967296*p*4294967296)=u.getD (j+(k+2)) 0*4294967296*4294967296*p:=by
   rw[Nat.mul_right_comm 4294967296 p,← Nat.mul_assoc,← Nat.mul_assoc]
  rw[h1,h2]
  omega
theorem kd_pre {v u0 u q:List Nat} {n m j:Nat} (hv:Dg v) (hn:v.length=n) (hn2:2≤n) (h:KInv v u0 n m (j+1) u q) :
  u.getD (j+n) 0≤v.getD (n-1) 0∧wn u j (n+1)/val v<4294967296∧0<val v:=by
 have hlt:=h.lt
 have hp:0<val v:=by omega
 obtain ⟨k,rfl⟩:∃ k,n=k+1:=⟨n-1,by omega⟩
 have hV:val v=vs v k+4294967296^k*v.getD k 0:=by rw[← vs_all (Nat.le_of_eq hn),vs_succ]
 have h1:=vs_lt hv k
 refine ⟨?_,?_,hp⟩
 ·rw[Nat.add_sub_cancel]
  rw[wn,show j+1+k=j+(k+1) by omega] at hlt
  apply Nat.le_of_not_lt
  intro hc
  have:4294967296^k*(v.getD k 0+1)≤4294967296^k*u.getD (j+(k+1)) 0:=Nat.mul_le_mul_left _ hc
  rw[Nat.mul_add] at this
  omega
 ·rw[Nat.div_lt_iff_lt_mul hp,wn_first]
  have h2:=h.du j
  omega
theorem first_ge {top u0 v1 v2 p lo vlo:Nat} (hv1:0<v1) (hlo:lo<p) (hu:u0<4294967296) :
  ((top*4294967296+u0)*p+lo)/((v1*4294967296+v2)*p+vlo)≤top/v1:=by
 have h:=Nat.div_mul_le_self ((top*4294967296+u0)*p+lo) ((v1*4294967296+v2)*p+vlo)
 generalize ((top*4294967296+u0)*p+lo)/((v1*4294967296+v2)*p+vlo)=q at *
 rw[Nat.le_div_iff_mul_le hv1]
 have h1:(top*4294967296+u0)*p+lo<(top+1)*4294967296*p:=by
  have:(top*4294967296+u0+1)*p≤(top+1)*4294967296*p:=Nat.mul_le_mul_right _ (by omega)
  rw[Nat.add_mul _ 1,Nat.one_mul] at this
  omega
 have h2:q*v1*4294967296*p≤q*((v1*4294967296+v2)*p+vlo):=by
  rw[Nat.mul_assoc q,Nat.mul_assoc q]
  exact Nat.mul_le_mul_left _ (Nat.le_trans (Nat.mul_le_mul_right _ (Nat.le_add_right _ _)) (Nat.le_add_right _ _))
 have h3:q*v1*4294967296*p<(top+1)*4294967296*p:=by omega
 have h4:=Nat.lt_of_mul_lt_mul_right (Nat.lt_of_mul_lt_mul_right h3)
 omega
def M3 (u q:List Nat):Mem:=[oc u,none,oc q]
theorem W125_14 (v:NV) (u0:List Nat) (K:KT) (x9:AV) (L n mm:Nat)
  (hn:v.ds.length=n) (hn2:2≤n) (dv:Dg v.ds) (hL:L=mm+n) (hL':L<2^42) (hv1:2147483648≤v.ds.getD (n-1) 0):∀ (j:Nat) (u q:List Nat),j≤mm→KInv v.ds u0 n mm j u q →
  ∃ u' q',KInv v.ds u0 n mm 0 u' q'∧L125_14 x9 (.arr 0 0 L none) v.av (.int .i64 n) (.arr 2 0 mm none) (.int .i64 ((j:Int)-1)) (M3 u q) K
   = K (.exit 1) (O125_14 x9 (.arr 0 0 L none) (.int .i64 n) (.arr 2 0 mm none) (M3 u' q')):=by
 intro j
 induction j with
 | zero=>
  intro u q _ hI
  refine ⟨u,q,hI,?_⟩
  rw[L125_14_eq]
  simp[binA_geq,ifA]
 | succ j ih=>
  intro u q hj hI
  have hu:=hI.du
  have hlu:=hI.lu
  have hlq:=hI.lq
  obtain ⟨p1,p2,p3⟩:=kd_pre dv hn hn2 hI
  obtain ⟨t1,t2⟩:=kd_top (j:=j) dv hu hn hn2
  have d1:=hu (j+n)
  have d2:=hu (j+n-1)
  have d3:=dv (n-1)
  have hget:(M3 u q)[0]?=some (oc u):=rfl
  have hVp:=p3
  rw[L125_14_eq,show ((j+1:Nat):Int)-1=(j:Nat) by omega]
  simp (disch:=omega) only[n_geq0,oBs,ifA,i_add,index_arr,load_at hget,c_dg,u_shl32,i_sub1,u_orlo,index_nv,load_v,u_quo,u_rem]
  have hvs:=vs_lt dv (n-2)
  have hws:=wn_lt hu j (n-2)
  have hdm:=Nat.div_add_mod (u.getD (j+n) 0*4294967296+u.getD (j+n-1) 0) (v.ds.getD (n-1) 0)
  have hrm:(u.getD (j+n) 0*4294967296+u.getD (j+n-1) 0)%v.ds.getD (n-1) 0<v.ds.getD (n-1) 0:=Nat.mod_lt _ (by omega)
  have hq:wn u j (n+1)/val v.ds=(((u.getD (j+n) 0*4294967296+u.getD (j+n-1) 0)*4294967296+u.getD (j+n-2) 0)*4294967296^(n-2)+wn u j (n-2))/((v.ds.getD (n-1) 0*4294967296+v.ds.getD (n-2) 0)*4294967296^(n-2)+vs v.ds (n-2)):=by rw[t1,t2]
  have hle:u.getD (j+n) 0*4294967296+u.getD (j+n-1) 0≤v.ds.getD (n-1) 0*4294967296+4294967295:=by omega
  have h0:4294967296≤(u.getD (j+n) 0*4294967296+u.getD (j+n-1) 0)%v.ds.getD (n-1) 0+2*v.ds.getD (n-1) 0:=by omega
  have h1:(u.getD (j+n) 0*4294967296+u.getD (j+n-1) 0)%v.ds.getD (n-1) 0<4294967296:=by omega
  have h2:(u.getD (j+n) 0*4294967296+u.getD (j+n-1) 0)/v.ds.getD (n-1) 0*v.ds.getD (n-1) 0+(u.getD (j+n) 0*4294967296+u.getD (j+n-1) 0)%v.ds.getD (n-1) 0=u.getD (j+n) 0*4294967296+u.getD (j+n-1) 0:=by rw[Nat.mul_comm];exact hdm
  have h3:wn u j (n+1)/val v.ds≤(u.getD (j+n) 0*4294967296+u.getD (j+n-1) 0)/v.ds.getD (n-1) 0:=by
   rw[t1,t2]
   exact first_ge (by omega) hws (hu _)
  obtain ⟨g,g1,g2,g3,g4⟩:=W125_18 v u (M3 u q) (K125_18 K) x9 (.arr 2 0 mm none) 0 L n j (u.getD (j+n) 0*4294967296+u.getD (j+n-1) 0) (v.ds.getD (n-1) 0) (v.ds.getD (n-2) 0) (u.getD (j+n-2) 0) (4294967296^(n-2)) (wn u j (n-2)) (vs v.ds (n-2))
   (wn u j (n+1)/val v.ds) hn hn2 hget (by omega) hL' (by omega) hu dv rfl rfl rfl hv1 hle hws hvs hq p2 2 ((u.getD (j+n) 0*4294967296+u.getD (j+n-1) 0)/v.ds.getD (n-1) 0) ((u.getD (j+n) 0*4294967296+u.getD (j+n-1) 0)%v.ds.getD (n-1) 0) h0 h1 h2 h3
  rw[← t1,← t2] at g3
  obtain ⟨s1,s2,s3,s4,s5⟩:=kdU_spec dv hu hn (by omega) g2 p3 g1 g3
  have hI':=KInv.step dv hn (by omega) hI s1 s2 s3 s4 s5 p3
  have hdB:=hI'.dq j
  have hlq':=hI'.lq
  rw[getD_set_eq (by omega)] at hdB
  obtain ⟨u',q',i1,i2⟩:=ih _ _ (by omega) hI'
  refine ⟨u',q',i1,g4.trans ?_⟩
  rw[K125_18_x3]
  have m0:=W125_24 v u (M3 u q) (K125_24 K) x9 (.arr 2 0 mm none) 0 L n j g hn hget (by omega) hL' (by omega) hu dv g2 n 0 (by omega)
  refine Eq.trans ?_ (m0.trans ?_)
  ·rfl
  rw[K125_24_x5]
  have hb:=msS_borrow v.ds g j u n
  have hc:=msS_carry dv g2 j u n
  have hd:=msS_dg (v:=v.ds) (g:=g) hu j n
  have hl:=msS_length v.ds g j u n
  have hwn0:=msS_wn (v:=v.ds) (g:=g) hu j n (by omega)
  unfold kdU at i2 hdB
  simp only[] at i2 hdB
  generalize msS v.ds g j n u=t at *
  obtain ⟨t,b,c⟩:=t
  simp only[] at *
  have hM:(M3 u q).set 0 (oc t)=M3 t q:=rfl
  have hget2:(M3 t q)[0]?=some (oc t):=rfl
  have hset2:∀ l r:List Nat,(M3 l q).set 0 (oc r)=M3 r q:=fun _ _=>rfl
  have hget3:∀ l r:List Nat,(M3 l r)[2]?=some (oc r):=fun _ _=>rfl
  have hset3:∀ l r p:List Nat,(M3 l r).set 2 (oc p)=M3 l p:=fun _ _ _=>rfl
  rw[hM]
  have hd4:=hd (j+n)
  obtain ⟨w,w1,w2⟩:=u_sub_dn (tk:=.other) (t:=t.getD (j+n) 0) (y:=c+b) hd4 (by omega)
  simp (disch:=omega) only[u_add,oBs,i_add,index_arr,load_at hget2,c_dg,n_lss,w1,w2,store_at hget2,hset2]
  rw[ifA_dec]
  by_cases hc1:t.getD (j+n) 0<c+b
  ·rw[if_pos hc1]
   rw[if_pos hc1] at i2 hdB
   have hd5:Dg (t.set (j+n) (t.getD (j+n) 0+4294967296-(c+b))):=hd.set _ _ (by omega)
   have m1:=W125_41 v (t.set (j+n) (t.getD (j+n) 0+4294967296-(c+b))) (M3 (t.set (j+n) (t.getD (j+n) 0+4294967296-(c+b))) q) (K125_41 K) x9 (.arr 2 0 mm none) (.int .u64 (g-1:Nat)) 0 L n j hn rfl (by rw[List.length_set];omega) hL' (by omega) hd5 dv n 0 (by omega)
   have ha:=abS_carry dv hd5 j n
   have hal:=abS_length v.ds j (t.set (j+n) (t.getD (j+n) 0+4294967296-(c+b))) n
   have hg0:0<g:=by
    apply Nat.pos_of_ne_zero
    intro e0
    rw[e0,Nat.zero_mul,Nat.add_zero] at hwn0
    have hlt:=wn_lt hd j n
    have h9:4294967296^n*1≤4294967296^n*(c+b):=Nat.mul_le_mul_left _ (by omega)
    omega
   rw[show (t.getD (j+n) 0+4294967296-(c+b))%4294967296=t.getD (j+n) 0+4294967296-(c+b) by omega,u_sub1 (by omega) (by omega),oBs]
   rw[List.length_set] at hal
   refine Eq.trans ?_ (m1.trans ?_)
   ·rfl
   generalize abS v.ds j n (t.set (j+n) (t.getD (j+n) 0+4294967296-(c+b)))=w at *
   obtain ⟨w,x⟩:=w
   simp only[] at *
   obtain ⟨a1,a2⟩:=ha
   rw[hset2,K125_41_x7]
   have hget4:(M3 w q)[0]?=some (oc w):=rfl
   rw[i_add (by omega),oBs,index_arr (by omega),oBs,load_at hget4 (by omega),oBs,c_dn,oBs,Nat.mod_eq_of_lt (by omega:x<4294967296),dg,u32_add,oBs,oBs,
    store_at hget4 (by omega),hset2,oBs,c_dn,oBs,index_arr (by omega),oBs,store_at (hget3 _ _) (by omega),hset3,oBs,i_sub1z (by omega),oBs]
   rw[Nat.mod_eq_of_lt (by omega:g-1<4294967296)]
   exact i2
  ·rw[if_neg hc1]
   rw[if_neg hc1] at i2 hdB
   rw[c_dn,oBs,store_at (hget3 _ _) (by omega),hset3,oBs,i_sub1z (by omega),oBs]
   rw[show (t.getD (j+n) 0+4294967296-(c+b))%4294967296=t.getD (j+n) 0-(c+b) by omega,Nat.mod_eq_of_lt g2]
   exact i2
theorem W125_51 (u q:List Nat) (K:KT) (x13:AV) (s L n:Nat) (du:Dg u) (hL:u.length=L) (hL':L<2^42) (hn:n<L) (hs:s<32):∀ r i:Nat,i+r=n →
  L125_51 (.int .u64 s) (.arr 0 0 L none) x13 (.arr 3 0 n none) (.int .i64 n) (.int .i64 i) (M3 u q++[oc (unS u s i++List.replicate r 0)]) K
   = K (.exit 9) (O125_51 x13 (.arr 3 0 n none) (M3 u q++[oc (unS u s n)])):=by
 intro r
 induction r with
 | zero=>
  intro i hi
  have:i=n:=by omega
  subst this
  rw[L125_51_eq]
  simp[binA_lss,ifA]
 | succ r ih=>
  intro i hi
  have ih:=ih (i+1) (by omega)
  have hlen:=unS_length u s i
  have hd1:=du i
  have hd2:=du (i+1)
  have b1:=un_hi hs hd1
  have b2:=un_dig (y:=u.getD (i+1) 0) hs hd1
  have b3:u.getD (i+1) 0*2^(32-s)%4294967296%2^(32-s)=0:=by rw[un_lo hs,Nat.mul_mod_left]
  have hget0:∀ l,(M3 u q++[oc l])[0]?=some (oc u):=fun _=>rfl
  have hget3:∀ l,(M3 u q++[oc l])[3]?=some (oc l):=fun _=>rfl
  have hset3:∀ l l',(M3 u q++[oc l]).set 3 (oc l')=M3 u q++[oc l']:=fun _ _=>rfl
  have hrow:∀ x,(unS u s i++List.replicate (r+1) 0).set i x=unS u s i++x::List.replicate r 0:=by
   intro x
   rw[List.set_append_right _ _ (by omega),hlen,Nat.sub_self,List.replicate_succ,List.set_cons_zero]
  have hrow2:∀ x y,(unS u s i++x::List.replicate r 0).set i y=unS u s i++y::List.replicate r 0:=by
   intro x y
   rw[List.set_append_right _ _ (by omega),hlen,Nat.sub_self,List.set_cons_zero]
  have hrow3:∀ x,(unS u s i++x::List.replicate r 0).getD i 0=x:=by
   intro x
   rw[List.getD_eq_getElem?_getD,List.getElem?_append_right (by omega),hlen,Nat.sub_self]
   rfl
  have hl1:i<(unS u s i++List.replicate (r+1) 0).length:=by rw[List.length_append,hlen,List.length_replicate];omega
  have hl2:∀ x,i<(unS u s i++x::List.replicate r 0).length:=by intro x;rw[List.length_append,hlen,List.length_cons,List.length_replicate];omega
  rw[unS,List.append_assoc,List.cons_append,List.nil_append] at ih
  rw[L125_51_eq,n_lss,oBs,ifA_dec,if_pos (by omega),index_arr (by omega),oBs,load_at (hget0 _) (by omega),oBs,dg,u32_shr hs,oBs,index_arr (by omega),oBs,
   store_at (hget3 _) hl1,hset3,hrow,oBs,n_gtr0,oBs,ifA_dec]
  by_cases h0:s>0
  ·rw[if_pos h0]
   have e32:binA .other .sub (.int .u64 32) (.int .u64 s)=some (.int .u64 (32-s:Nat)):=u_sub (a:=32) (by omega) (by omega)
   rw[oBs,load_at (hget3 _) (hl2 _),oBs,hrow3,i_add1 (by omega),oBs,index_arr (by omega),oBs,load_at (hget0 _) (by omega),oBs,e32,oBs,dg,dg,u32_shl (by omega) hd2,oBs,
    u32_or b1 b3 b2,oBs,oBs,store_at (hget3 _) (hl2 _),hset3,hrow2,oBs,oBs]
   exact ih
  ·rw[if_neg h0,i_add1 (by omega),oBs]
   have hs0:s=0:=by omega
   subst hs0
   rw[show u.getD (i+1) 0*2^(32-0)%4294967296=0 from Nat.mul_mod_left _ _,Nat.add_zero] at ih
   exact ih
end Go.Ab
