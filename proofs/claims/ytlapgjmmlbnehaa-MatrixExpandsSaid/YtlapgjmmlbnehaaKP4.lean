/- Lowest terms in the reference; sums and products of ratio, in values. -/
import Derived.Test.YtlapgjmmlbnehaaKP3
import Derived.Test.YtlapgjmmlbnehaaKP2
set_option maxRecDepth 100000
set_option linter.unusedVariables false
set_option linter.unusedSimpArgs false
set_option linter.unusedSectionVars false
set_option linter.unusedVariables false
set_option linter.unusedSimpArgs false
namespace Go.Ab
open Go.Proofs.Try
theorem V65 {r:RV} {k:Nat} (h:ROk k r) (hk:k<2^38):AP cfg 65 [r.av]=some (.bool (rightR r)):=by
 have ln:=Nat.le_trans h.num.v_len h.ln
 have ld:=Nat.le_trans h.den.v_len h.ld
 have e1:=V97 h.num.fr
 have e2:=V97 h.den.fr
 have e3:=V99 h.num.fr h.den.fr (by show (digs r.num.v).length<_;omega) (by show (digs r.den.v).length<_;omega)
 have v1:r.num.fr.v=r.num.v:=rfl
 have v2:r.den.fr.v=r.den.v:=rfl
 rw[v1,v2] at e3
 have lg:(digs (Nat.gcd r.num.v r.den.v)).length<2^40:=digs_gcd_len (by omega) (by omega)
 have o1:NOk (refN 1):=refN_ok ln1'
 have e5:=V98 (refN_ok lg) o1
 have e6:=V98 h.den.fr o1
 rw[refN_v,refN_v] at e5
 rw[refN_v,v2] at e6
 have d1:r.num.fr.ds=r.num.ds:=rfl
 have d2:r.den.fr.ds=r.den.ds:=rfl
 rw[d1] at e1
 rw[d2] at e2
 have cm:∀ n:Nat,(binA .other .eql (.int .i64 (cmpV n 1)) (.int .i64 0))=some (.bool (decide (n=1))):=by
  intro n
  rw[binA_eql]
  congr 2
  refine decide_eq_decide.2 ?_
  unfold cmpV
  constructor<;>intro h<;>(repeat' split at *)<;>omega
 refine AP_ofz _ _ (fz_bool _) rfl (m:=[cR r]) ?_
 rw[T65]
 simp only[Nat.reduceAdd,oBs,Option.map_some,box_rv,new_z,new_r,new_zs,new_rs,fld0,fld1,fld2,res1,res2,ld0neg,ld0num,ld0den,ld0all,st0all,st0neg,ld1neg,ld1num,ld1den,ld1all,st1all,st1neg,ld2neg,ld2num,ld2den,ld2all,st2all,st2neg,ld3neg,ld3num,ld3den,ld3all,st3all,st3neg,ld4neg,ld4num,ld4den,ld4all,st4all,st4neg,ex0,ex1,ex2,bld0,bld2,bld12,bld012,nil_av,not_b,bl_neq,bl_eql,List.length_cons,List.length_nil,List.length_append,List.nil_append,List.cons_append,List.append_nil,Nat.zero_add,List.set_cons_zero,List.set_cons_succ,List.set_nil,pcN,pcI,pcNN,pcBNN,pcR,pcRR,pc0,e1]
 unfold rightR
 cases h1:canB r.num.ds with
 | false=>rfl
 | true=>
  simp only[Nat.reduceAdd,oBs,Option.map_some,box_rv,new_z,new_r,new_zs,new_rs,fld0,fld1,fld2,res1,res2,ld0neg,ld0num,ld0den,ld0all,st0all,st0neg,ld1neg,ld1num,ld1den,ld1all,st1all,st1neg,ld2neg,ld2num,ld2den,ld2all,st2all,st2neg,ld3neg,ld3num,ld3den,ld3all,st3all,st3neg,ld4neg,ld4num,ld4den,ld4all,st4all,st4neg,ex0,ex1,ex2,bld0,bld2,bld12,bld012,nil_av,not_b,bl_neq,bl_eql,List.length_cons,List.length_nil,List.length_append,List.nil_append,List.cons_append,List.append_nil,Nat.zero_add,List.set_cons_zero,List.set_cons_succ,List.set_nil,pcN,pcI,pcNN,pcBNN,pcR,pcRR,pc0,Bool.not_true,ifA_false,e2,Bool.true_and]
  cases h2:canB r.den.ds with
  | false=>rfl
  | true=>
   simp only[Nat.reduceAdd,oBs,Option.map_some,box_rv,new_z,new_r,new_zs,new_rs,fld0,fld1,fld2,res1,res2,ld0neg,ld0num,ld0den,ld0all,st0all,st0neg,ld1neg,ld1num,ld1den,ld1all,st1all,st1neg,ld2neg,ld2num,ld2den,ld2all,st2all,st2neg,ld3neg,ld3num,ld3den,ld3all,st3all,st3neg,ld4neg,ld4num,ld4den,ld4all,st4all,st4neg,ex0,ex1,ex2,bld0,bld2,bld12,bld012,nil_av,not_b,bl_neq,bl_eql,List.length_cons,List.length_nil,List.length_append,List.nil_append,List.cons_append,List.append_nil,Nat.zero_add,List.set_cons_zero,List.set_cons_succ,List.set_nil,pcN,pcI,pcNN,pcBNN,pcR,pcRR,pc0,Bool.not_true,ifA_false,len_nv,n_eql0,Bool.true_and,canB_len h2]
   rw[ifA_dec]
   by_cases h3:r.den.v=0
   ·rw[if_pos h3];simp[h3]
   ·rw[if_neg h3]
    simp only[Nat.reduceAdd,oBs,Option.map_some,box_rv,new_z,new_r,new_zs,new_rs,fld0,fld1,fld2,res1,res2,ld0neg,ld0num,ld0den,ld0all,st0all,st0neg,ld1neg,ld1num,ld1den,ld1all,st1all,st1neg,ld2neg,ld2num,ld2den,ld2all,st2all,st2neg,ld3neg,ld3num,ld3den,ld3all,st3all,st3neg,ld4neg,ld4num,ld4den,ld4all,st4all,st4neg,ex0,ex1,ex2,bld0,bld2,bld12,bld012,nil_av,not_b,bl_neq,bl_eql,List.length_cons,List.length_nil,List.length_append,List.nil_append,List.cons_append,List.append_nil,Nat.zero_add,List.set_cons_zero,List.set_cons_succ,List.set_nil,pcN,pcI,pcNN,pcBNN,pcR,pcRR,pc0,len_nv,n_eql0,canB_len h1]
    rw[ifA_dec]
    by_cases h4:r.num.v=0
    ·rw[if_pos h4]
     cases hn:r.neg with
     | true=>simp only[Nat.reduceAdd,oBs,Option.map_some,box_rv,new_z,new_r,new_zs,new_rs,fld0,fld1,fld2,res1,res2,ld0neg,ld0num,ld0den,ld0all,st0all,st0neg,ld1neg,ld1num,ld1den,ld1all,st1all,st1neg,ld2neg,ld2num,ld2den,ld2all,st2all,st2neg,ld3neg,ld3num,ld3den,ld3all,st3all,st3neg,ld4neg,ld4num,ld4den,ld4all,st4all,st4neg,ex0,ex1,ex2,bld0,bld2,bld12,bld012,nil_av,not_b,bl_neq,bl_eql,List.length_cons,List.length_nil,List.length_append,List.nil_append,List.cons_append,List.append_nil,Nat.zero_add,List.set_cons_zero,List.set_cons_succ,List.set_nil,pcN,pcI,pcNN,pcBNN,pcR,pcRR,pc0,Bool.not_true,ifA_false];simp[h4]
     | false=>
      simp only[Nat.reduceAdd,oBs,Option.map_some,box_rv,new_z,new_r,new_zs,new_rs,fld0,fld1,fld2,res1,res2,ld0neg,ld0num,ld0den,ld0all,st0all,st0neg,ld1neg,ld1num,ld1den,ld1all,st1all,st1neg,ld2neg,ld2num,ld2den,ld2all,st2all,st2neg,ld3neg,ld3num,ld3den,ld3all,st3all,st3neg,ld4neg,ld4num,ld4den,ld4all,st4all,st4neg,ex0,ex1,ex2,bld0,bld2,bld12,bld012,nil_av,not_b,bl_neq,bl_eql,List.length_cons,List.length_nil,List.length_append,List.nil_append,List.cons_append,List.append_nil,Nat.zero_add,List.set_cons_zero,List.set_cons_succ,List.set_nil,pcN,pcI,pcNN,pcBNN,pcR,pcRR,pc0,Bool.not_false,ifA_true,V70one,refN_fr,e6,cm]
      simp[h3,h4]
    ·rw[if_neg h4]
     simp only[Nat.reduceAdd,oBs,Option.map_some,box_rv,new_z,new_r,new_zs,new_rs,fld0,fld1,fld2,res1,res2,ld0neg,ld0num,ld0den,ld0all,st0all,st0neg,ld1neg,ld1num,ld1den,ld1all,st1all,st1neg,ld2neg,ld2num,ld2den,ld2all,st2all,st2neg,ld3neg,ld3num,ld3den,ld3all,st3all,st3neg,ld4neg,ld4num,ld4den,ld4all,st4all,st4neg,ex0,ex1,ex2,bld0,bld2,bld12,bld012,nil_av,not_b,bl_neq,bl_eql,List.length_cons,List.length_nil,List.length_append,List.nil_append,List.cons_append,List.append_nil,Nat.zero_add,List.set_cons_zero,List.set_cons_succ,List.set_nil,pcN,pcI,pcNN,pcBNN,pcR,pcRR,pc0,V70one,e3,refN_fr,e5,cm]
     simp[h3,h4]
theorem V29 {a b:RV} {k:Nat} (ha:ROk k a) (hb:ROk k b) (hk1:1≤k) (hk:k<2^36):∃ s:RV,AP cfg 29 [a.av,b.av]=some s.av∧Can s (a.q*b.q)∧s.fr=s:=by
 obtain ⟨s,e1,e2,e3⟩:=V71 ha.fr (by omega)
 obtain ⟨t,f1,f2,f3⟩:=V71 hb.fr (by omega)
 rw[RV.fr_q] at e2 f2
 have os:=e2.ok (ha.bd hk1) (by omega)
 have ot:=f2.ok (hb.bd hk1) (by omega)
 have hs1:s.num.fr=s.num:=congrArg RV.num e3
 have hs2:s.den.fr=s.den:=congrArg RV.den e3
 have ht1:t.num.fr=t.num:=congrArg RV.num f3
 have ht2:t.den.fr=t.den:=congrArg RV.den f3
 have ln:=ln_mul (Nat.le_trans os.num.v_len os.ln) (Nat.le_trans ot.num.v_len ot.ln)
 have ld:=ln_mul (Nat.le_trans os.den.v_len os.ld) (Nat.le_trans ot.den.v_len ot.ld)
 have g1:=V72 os.num ot.num
 have g3:=V72 os.den ot.den
 have on:NOk (refN (s.num.v*t.num.v)):=refN_ok (by omega)
 have od:NOk (refN (s.den.v*t.den.v)):=refN_ok (by omega)
 have hd0:s.den.v*t.den.v≠0:=Nat.mul_ne_zero e2.den0 f2.den0
 have hq:qOf (s.neg != t.neg) (s.num.v*t.num.v) (s.den.v*t.den.v)=a.q*b.q:=by rw[← qOf_mul,← e2.q,← f2.q];rfl
 rcases V69 (s.neg != t.neg) on od (by rw[refN_v];omega) (by rw[refN_v];omega) with ⟨h0,_⟩|⟨_,r,h1,h2,h3⟩
 ·rw[refN_v] at h0;exact absurd h0 hd0
 ·rw[refN_v,refN_v,hq] at h2
  refine ⟨r,(AP_ofz _ _ (fz_rv r) (noV_rv _) (m:=[cR s,cR t,cR r,cR r]) ?_).trans (by rw[h3]),h2,h3⟩
  rw[T29]
  simp only[Nat.reduceAdd,oBs,Option.map_some,box_rv,new_z,new_r,new_zs,new_rs,fld0,fld1,fld2,res1,res2,ld0neg,ld0num,ld0den,ld0all,st0all,st0neg,ld1neg,ld1num,ld1den,ld1all,st1all,st1neg,ld2neg,ld2num,ld2den,ld2all,st2all,st2neg,ld3neg,ld3num,ld3den,ld3all,st3all,st3neg,ld4neg,ld4num,ld4den,ld4all,st4all,st4neg,ex0,ex1,ex2,bld0,bld2,bld12,bld012,nil_av,not_b,bl_neq,bl_eql,List.length_cons,List.length_nil,List.length_append,List.nil_append,List.cons_append,List.append_nil,Nat.zero_add,List.set_cons_zero,List.set_cons_succ,List.set_nil,pcN,pcI,pcNN,pcBNN,pcR,pcRR,pc0,e1,f1,hs1,hs2,ht1,ht2,g1,g3,refN_fr,h1]
theorem V78 {a b:RV} {k:Nat} (ha:ROk k a) (hb:ROk k b) (hk1:1≤k) (hk:k<2^36):∃ s:RV,AP cfg 78 [a.av,b.av]=some s.av∧Can s (a.q*b.q)∧s.fr=s:=by
 have g1:=V107 ha.num.fr hb.num.fr
 have g2:=V107 ha.den.fr hb.den.fr
 have v1:a.num.fr.v=a.num.v:=rfl
 have v2:a.den.fr.v=a.den.v:=rfl
 have v3:b.num.fr.v=b.num.v:=rfl
 have v4:b.den.fr.v=b.den.v:=rfl
 rw[v1,v3] at g1
 rw[v2,v4] at g2
 have ln:=ln_mul (Nat.le_trans ha.num.v_len ha.ln) (Nat.le_trans hb.num.v_len hb.ln)
 have ld:=ln_mul (Nat.le_trans ha.den.v_len ha.ld) (Nat.le_trans hb.den.v_len hb.ld)
 have on:NOk ⟨false,.no,digs (a.num.v*b.num.v)⟩:=nok_digs (by omega)
 have od:NOk ⟨false,.no,digs (a.den.v*b.den.v)⟩:=nok_digs (by omega)
 have nf:∀ n:Nat,(NV.mk false .no (digs n)).fr=⟨false,.no,digs n⟩:=fun _=>rfl
 have nv:∀ n:Nat,(NV.mk false .no (digs n)).v=n:=fun n=>val_digs n
 obtain ⟨r,h1,h2,h3⟩:=V106 (a.neg != b.neg) on od
 rw[nv,nv,← qOf_mul] at h2
 refine ⟨r,(AP_ofz _ _ (fz_rv r) (noV_rv _) (m:=[cR a,cR b,cR r]) ?_).trans (by rw[h3]),h2,h3⟩
 rw[T78]
 simp only[Nat.reduceAdd,oBs,Option.map_some,box_rv,new_z,new_r,new_zs,new_rs,fld0,fld1,fld2,res1,res2,ld0neg,ld0num,ld0den,ld0all,st0all,st0neg,ld1neg,ld1num,ld1den,ld1all,st1all,st1neg,ld2neg,ld2num,ld2den,ld2all,st2all,st2neg,ld3neg,ld3num,ld3den,ld3all,st3all,st3neg,ld4neg,ld4num,ld4den,ld4all,st4all,st4neg,ex0,ex1,ex2,bld0,bld2,bld12,bld012,nil_av,not_b,bl_neq,bl_eql,List.length_cons,List.length_nil,List.length_append,List.nil_append,List.cons_append,List.append_nil,Nat.zero_add,List.set_cons_zero,List.set_cons_succ,List.set_nil,pcN,pcI,pcNN,pcBNN,pcR,pcRR,pc0,g1,g2,nf,h1]
theorem signR_zero {r:RV}:signR r=0↔r.q=0:=by
 unfold signR
 by_cases h:r.num.v=0∨r.den.v=0
 ·rw[if_pos h]
  refine ⟨fun _=>?_,fun _=>rfl⟩
  rcases h with h|h
  ·rw[RV.q,h,qOf_num0]
  ·rw[RV.q,h,qOf_den0]
 ·rw[if_neg h]
  constructor
  ·intro h';split at h'<;>omega
  ·intro h'
   have hd:r.den.v≠0:=fun e=>h (.inr e)
   exact absurd (.inl ((qOf_eq0 hd).1 h')) h
theorem V75 {a b:RV} {k:Nat} (ha:ROk k a) (hb:ROk k b) (hk1:1≤k) (hk:k<2^36):∃ s:RV,AP cfg 75 [a.av,b.av]=some s.av∧Can s (a.q+b.q)∧s.fr=s:=by
 have e1:=V105 ha.fr
 have e2:=V105 hb.fr
 have s1:signR a.fr=signR a:=rfl
 have s2:signR b.fr=signR b:=rfl
 rw[s1] at e1
 rw[s2] at e2
 have v1:a.num.fr.v=a.num.v:=rfl
 have v2:a.den.fr.v=a.den.v:=rfl
 have v3:b.num.fr.v=b.num.v:=rfl
 have v4:b.den.fr.v=b.den.v:=rfl
 by_cases ha0:signR a=0
 ·obtain ⟨r,h1,h2,h3⟩:=V106 b.neg hb.num.fr hb.den.fr
  rw[v3,v4] at h2
  refine ⟨r,(AP_ofz _ _ (fz_rv r) (noV_rv _) (m:=[cR a,cR b,cR r]) ?_).trans (by rw[h3]),?_,h3⟩
  ·rw[T75]
   simp only[Nat.reduceAdd,oBs,Option.map_some,box_rv,new_z,new_r,new_zs,new_rs,fld0,fld1,fld2,res1,res2,ld0neg,ld0num,ld0den,ld0all,st0all,st0neg,ld1neg,ld1num,ld1den,ld1all,st1all,st1neg,ld2neg,ld2num,ld2den,ld2all,st2all,st2neg,ld3neg,ld3num,ld3den,ld3all,st3all,st3neg,ld4neg,ld4num,ld4den,ld4all,st4all,st4neg,ex0,ex1,ex2,bld0,bld2,bld12,bld012,nil_av,not_b,bl_neq,bl_eql,List.length_cons,List.length_nil,List.length_append,List.nil_append,List.cons_append,List.append_nil,Nat.zero_add,List.set_cons_zero,List.set_cons_succ,List.set_nil,pcN,pcI,pcNN,pcBNN,pcR,pcRR,pc0,e1,binA_eql,ifA_dec]
   rw[if_pos ha0]
   simp only[Nat.reduceAdd,oBs,Option.map_some,box_rv,new_z,new_r,new_zs,new_rs,fld0,fld1,fld2,res1,res2,ld0neg,ld0num,ld0den,ld0all,st0all,st0neg,ld1neg,ld1num,ld1den,ld1all,st1all,st1neg,ld2neg,ld2num,ld2den,ld2all,st2all,st2neg,ld3neg,ld3num,ld3den,ld3all,st3all,st3neg,ld4neg,ld4num,ld4den,ld4all,st4all,st4neg,ex0,ex1,ex2,bld0,bld2,bld12,bld012,nil_av,not_b,bl_neq,bl_eql,List.length_cons,List.length_nil,List.length_append,List.nil_append,List.cons_append,List.append_nil,Nat.zero_add,List.set_cons_zero,List.set_cons_succ,List.set_nil,pcN,pcI,pcNN,pcBNN,pcR,pcRR,pc0,h1]
  ·rw[signR_zero.1 ha0,Rat.zero_add];exact h2
 ·by_cases hb0:signR b=0
  ·obtain ⟨r,h1,h2,h3⟩:=V106 a.neg ha.num.fr ha.den.fr
   rw[v1,v2] at h2
   refine ⟨r,(AP_ofz _ _ (fz_rv r) (noV_rv _) (m:=[cR a,cR b,cR r]) ?_).trans (by rw[h3]),?_,h3⟩
   ·rw[T75]
    simp only[Nat.reduceAdd,oBs,Option.map_some,box_rv,new_z,new_r,new_zs,new_rs,fld0,fld1,fld2,res1,res2,ld0neg,ld0num,ld0den,ld0all,st0all,st0neg,ld1neg,ld1num,ld1den,ld1all,st1all,st1neg,ld2neg,ld2num,ld2den,ld2all,st2all,st2neg,ld3neg,ld3num,ld3den,ld3all,st3all,st3neg,ld4neg,ld4num,ld4den,ld4all,st4all,st4neg,ex0,ex1,ex2,bld0,bld2,bld12,bld012,nil_av,not_b,bl_neq,bl_eql,List.length_cons,List.length_nil,List.length_append,List.nil_append,List.cons_append,List.append_nil,Nat.zero_add,List.set_cons_zero,List.set_cons_succ,List.set_nil,pcN,pcI,pcNN,pcBNN,pcR,pcRR,pc0,e1,binA_eql,ifA_dec]
    rw[if_neg ha0]
    simp only[Nat.reduceAdd,oBs,Option.map_some,box_rv,new_z,new_r,new_zs,new_rs,fld0,fld1,fld2,res1,res2,ld0neg,ld0num,ld0den,ld0all,st0all,st0neg,ld1neg,ld1num,ld1den,ld1all,st1all,st1neg,ld2neg,ld2num,ld2den,ld2all,st2all,st2neg,ld3neg,ld3num,ld3den,ld3all,st3all,st3neg,ld4neg,ld4num,ld4den,ld4all,st4all,st4neg,ex0,ex1,ex2,bld0,bld2,bld12,bld012,nil_av,not_b,bl_neq,bl_eql,List.length_cons,List.length_nil,List.length_append,List.nil_append,List.cons_append,List.append_nil,Nat.zero_add,List.set_cons_zero,List.set_cons_succ,List.set_nil,pcN,pcI,pcNN,pcBNN,pcR,pcRR,pc0,e2,binA_eql,ifA_dec]
    rw[if_pos hb0]
    simp only[Nat.reduceAdd,oBs,Option.map_some,box_rv,new_z,new_r,new_zs,new_rs,fld0,fld1,fld2,res1,res2,ld0neg,ld0num,ld0den,ld0all,st0all,st0neg,ld1neg,ld1num,ld1den,ld1all,st1all,st1neg,ld2neg,ld2num,ld2den,ld2all,st2all,st2neg,ld3neg,ld3num,ld3den,ld3all,st3all,st3neg,ld4neg,ld4num,ld4den,ld4all,st4all,st4neg,ex0,ex1,ex2,bld0,bld2,bld12,bld012,nil_av,not_b,bl_neq,bl_eql,List.length_cons,List.length_nil,List.length_append,List.nil_append,List.cons_append,List.append_nil,Nat.zero_add,List.set_cons_zero,List.set_cons_succ,List.set_nil,pcN,pcI,pcNN,pcBNN,pcR,pcRR,pc0,h1]
   ·rw[signR_zero.1 hb0,Rat.add_zero];exact h2
  ·have da:a.den.v≠0:=fun e=>ha0 (by unfold signR;rw[if_pos (.inr e)])
   have db:b.den.v≠0:=fun e=>hb0 (by unfold signR;rw[if_pos (.inr e)])
   have g1:=V107 ha.num.fr hb.den.fr
   have g2:=V107 hb.num.fr ha.den.fr
   have g3:=V107 ha.den.fr hb.den.fr
   rw[v1,v4] at g1
   rw[v3,v2] at g2
   rw[v2,v4] at g3
   have lx:=ln_mul (Nat.le_trans ha.num.v_len ha.ln) (Nat.le_trans hb.den.v_len hb.ld)
   have ly:=ln_mul (Nat.le_trans hb.num.v_len hb.ln) (Nat.le_trans ha.den.v_len ha.ld)
   have ld:=ln_mul (Nat.le_trans ha.den.v_len ha.ld) (Nat.le_trans hb.den.v_len hb.ld)
   have lxy:=ln_add lx ly
   have ox:NOk ⟨false,.no,digs (a.num.v*b.den.v)⟩:=nok_digs (by omega)
   have oy:NOk ⟨false,.no,digs (b.num.v*a.den.v)⟩:=nok_digs (by omega)
   have od:NOk ⟨false,.no,digs (a.den.v*b.den.v)⟩:=nok_digs (by omega)
   have nf:∀ n:Nat,(NV.mk false .no (digs n)).fr=⟨false,.no,digs n⟩:=fun _=>rfl
   have nv:∀ n:Nat,(NV.mk false .no (digs n)).v=n:=fun n=>val_digs n
   have g4:=V108 ox oy
   have g5:=V109 ox oy
   have g6:=V110 ox oy
   have g7:=V110 oy ox
   rw[nv,nv] at g4 g5
   unfold subV at g6 g7
   rw[nv,nv] at g6 g7
   have hsum:a.q+b.q=mkRat (sgn a.neg (a.num.v*b.den.v)+sgn b.neg (b.num.v*a.den.v)) (a.den.v*b.den.v):=qOf_add da db
   have fin:∀ (neg:Bool) (n:Nat),(digs n).length<2^38→mkRat (sgn a.neg (a.num.v*b.den.v)+sgn b.neg (b.num.v*a.den.v)) (a.den.v*b.den.v)=qOf neg n (a.den.v*b.den.v)→∃ r:RV,AP cfg 106 [.bool neg,(NV.mk false .no (digs n)).av,(NV.mk false .no (digs (a.den.v*b.den.v))).av]=some r.av∧Can r (a.q+b.q)∧r.fr=r:=by
    intro neg n hn he
    obtain ⟨r,h1,h2,h3⟩:=V106 neg (x:=⟨false,.no,digs n⟩) (nok_digs (by omega)) od
    rw[nv,nv,← he,← hsum] at h2
    exact ⟨r,h1,h2,h3⟩
   by_cases hn:a.neg=b.neg
   ·obtain ⟨r,h1,h2,h3⟩:=fin a.neg (a.num.v*b.den.v+b.num.v*a.den.v) (by omega) (by rw[← hn,sgn_same];rfl)
    refine ⟨r,(AP_ofz _ _ (fz_rv r) (noV_rv _) (m:=[cR a,cR b,cR r]) ?_).trans (by rw[h3]),h2,h3⟩
    rw[T75]
    simp only[Nat.reduceAdd,oBs,Option.map_some,box_rv,new_z,new_r,new_zs,new_rs,fld0,fld1,fld2,res1,res2,ld0neg,ld0num,ld0den,ld0all,st0all,st0neg,ld1neg,ld1num,ld1den,ld1all,st1all,st1neg,ld2neg,ld2num,ld2den,ld2all,st2all,st2neg,ld3neg,ld3num,ld3den,ld3all,st3all,st3neg,ld4neg,ld4num,ld4den,ld4all,st4all,st4neg,ex0,ex1,ex2,bld0,bld2,bld12,bld012,nil_av,not_b,bl_neq,bl_eql,List.length_cons,List.length_nil,List.length_append,List.nil_append,List.cons_append,List.append_nil,Nat.zero_add,List.set_cons_zero,List.set_cons_succ,List.set_nil,pcN,pcI,pcNN,pcBNN,pcR,pcRR,pc0,e1,binA_eql,ifA_dec]
    rw[if_neg ha0]
    simp only[Nat.reduceAdd,oBs,Option.map_some,box_rv,new_z,new_r,new_zs,new_rs,fld0,fld1,fld2,res1,res2,ld0neg,ld0num,ld0den,ld0all,st0all,st0neg,ld1neg,ld1num,ld1den,ld1all,st1all,st1neg,ld2neg,ld2num,ld2den,ld2all,st2all,st2neg,ld3neg,ld3num,ld3den,ld3all,st3all,st3neg,ld4neg,ld4num,ld4den,ld4all,st4all,st4neg,ex0,ex1,ex2,bld0,bld2,bld12,bld012,nil_av,not_b,bl_neq,bl_eql,List.length_cons,List.length_nil,List.length_append,List.nil_append,List.cons_append,List.append_nil,Nat.zero_add,List.set_cons_zero,List.set_cons_succ,List.set_nil,pcN,pcI,pcNN,pcBNN,pcR,pcRR,pc0,e2,binA_eql,ifA_dec]
    rw[if_neg hb0]
    rw[hn] at h1
    simp only[Nat.reduceAdd,oBs,Option.map_some,box_rv,new_z,new_r,new_zs,new_rs,fld0,fld1,fld2,res1,res2,ld0neg,ld0num,ld0den,ld0all,st0all,st0neg,ld1neg,ld1num,ld1den,ld1all,st1all,st1neg,ld2neg,ld2num,ld2den,ld2all,st2all,st2neg,ld3neg,ld3num,ld3den,ld3all,st3all,st3neg,ld4neg,ld4num,ld4den,ld4all,st4all,st4neg,ex0,ex1,ex2,bld0,bld2,bld12,bld012,nil_av,not_b,bl_neq,bl_eql,List.length_cons,List.length_nil,List.length_append,List.nil_append,List.cons_append,List.append_nil,Nat.zero_add,List.set_cons_zero,List.set_cons_succ,List.set_nil,pcN,pcI,pcNN,pcBNN,pcR,pcRR,pc0,g1,g2,g3,nf,hn,BEq.rfl,ifA_true,g4,h1]
   ·have hne:(a.neg==b.neg)=false:=by simpa using hn
    by_cases hlt:a.num.v*b.den.v<b.num.v*a.den.v
    ·obtain ⟨r,h1,h2,h3⟩:=fin b.neg (b.num.v*a.den.v-a.num.v*b.den.v) (Nat.lt_of_le_of_lt (digs_mono (Nat.sub_le _ _)) (by omega)) (by rw[sgn_lt hn hlt];rfl)
     refine ⟨r,(AP_ofz _ _ (fz_rv r) (noV_rv _) (m:=[cR b,cR b,cR r]) ?_).trans (by rw[h3]),h2,h3⟩
     have hc:cmpV (a.num.v*b.den.v) (b.num.v*a.den.v)<0:=by unfold cmpV;rw[if_pos hlt];omega
     rw[if_neg (by omega)] at g7
     rw[T75]
     simp only[Nat.reduceAdd,oBs,Option.map_some,box_rv,new_z,new_r,new_zs,new_rs,fld0,fld1,fld2,res1,res2,ld0neg,ld0num,ld0den,ld0all,st0all,st0neg,ld1neg,ld1num,ld1den,ld1all,st1all,st1neg,ld2neg,ld2num,ld2den,ld2all,st2all,st2neg,ld3neg,ld3num,ld3den,ld3all,st3all,st3neg,ld4neg,ld4num,ld4den,ld4all,st4all,st4neg,ex0,ex1,ex2,bld0,bld2,bld12,bld012,nil_av,not_b,bl_neq,bl_eql,List.length_cons,List.length_nil,List.length_append,List.nil_append,List.cons_append,List.append_nil,Nat.zero_add,List.set_cons_zero,List.set_cons_succ,List.set_nil,pcN,pcI,pcNN,pcBNN,pcR,pcRR,pc0,e1,binA_eql,ifA_dec]
     rw[if_neg ha0]
     simp only[Nat.reduceAdd,oBs,Option.map_some,box_rv,new_z,new_r,new_zs,new_rs,fld0,fld1,fld2,res1,res2,ld0neg,ld0num,ld0den,ld0all,st0all,st0neg,ld1neg,ld1num,ld1den,ld1all,st1all,st1neg,ld2neg,ld2num,ld2den,ld2all,st2all,st2neg,ld3neg,ld3num,ld3den,ld3all,st3all,st3neg,ld4neg,ld4num,ld4den,ld4all,st4all,st4neg,ex0,ex1,ex2,bld0,bld2,bld12,bld012,nil_av,not_b,bl_neq,bl_eql,List.length_cons,List.length_nil,List.length_append,List.nil_append,List.cons_append,List.append_nil,Nat.zero_add,List.set_cons_zero,List.set_cons_succ,List.set_nil,pcN,pcI,pcNN,pcBNN,pcR,pcRR,pc0,e2,binA_eql,ifA_dec]
     rw[if_neg hb0]
     simp only[Nat.reduceAdd,oBs,Option.map_some,box_rv,new_z,new_r,new_zs,new_rs,fld0,fld1,fld2,res1,res2,ld0neg,ld0num,ld0den,ld0all,st0all,st0neg,ld1neg,ld1num,ld1den,ld1all,st1all,st1neg,ld2neg,ld2num,ld2den,ld2all,st2all,st2neg,ld3neg,ld3num,ld3den,ld3all,st3all,st3neg,ld4neg,ld4num,ld4den,ld4all,st4all,st4neg,ex0,ex1,ex2,bld0,bld2,bld12,bld012,nil_av,not_b,bl_neq,bl_eql,List.length_cons,List.length_nil,List.length_append,List.nil_append,List.cons_append,List.append_nil,Nat.zero_add,List.set_cons_zero,List.set_cons_succ,List.set_nil,pcN,pcI,pcNN,pcBNN,pcR,pcRR,pc0,g1,g2,g3,nf,hne,ifA_false,g5,binA_lss,ifA_dec]
     rw[if_pos hc]
     simp only[Nat.reduceAdd,oBs,Option.map_some,box_rv,new_z,new_r,new_zs,new_rs,fld0,fld1,fld2,res1,res2,ld0neg,ld0num,ld0den,ld0all,st0all,st0neg,ld1neg,ld1num,ld1den,ld1all,st1all,st1neg,ld2neg,ld2num,ld2den,ld2all,st2all,st2neg,ld3neg,ld3num,ld3den,ld3all,st3all,st3neg,ld4neg,ld4num,ld4den,ld4all,st4all,st4neg,ex0,ex1,ex2,bld0,bld2,bld12,bld012,nil_av,not_b,bl_neq,bl_eql,List.length_cons,List.length_nil,List.length_append,List.nil_append,List.cons_append,List.append_nil,Nat.zero_add,List.set_cons_zero,List.set_cons_succ,List.set_nil,pcN,pcI,pcNN,pcBNN,pcR,pcRR,pc0,nf,g7,h1]
    ·obtain ⟨r,h1,h2,h3⟩:=fin a.neg (a.num.v*b.den.v-b.num.v*a.den.v) (Nat.lt_of_le_of_lt (digs_mono (Nat.sub_le _ _)) (by omega)) (by rw[sgn_gt hn hlt];rfl)
     refine ⟨r,(AP_ofz _ _ (fz_rv r) (noV_rv _) (m:=[cR a,cR b,cR r]) ?_).trans (by rw[h3]),h2,h3⟩
     have hc:¬ cmpV (a.num.v*b.den.v) (b.num.v*a.den.v)<0:=by unfold cmpV;rw[if_neg hlt];split<;>omega
     rw[if_neg hlt] at g6
     rw[T75]
     simp only[Nat.reduceAdd,oBs,Option.map_some,box_rv,new_z,new_r,new_zs,new_rs,fld0,fld1,fld2,res1,res2,ld0neg,ld0num,ld0den,ld0all,st0all,st0neg,ld1neg,ld1num,ld1den,ld1all,st1all,st1neg,ld2neg,ld2num,ld2den,ld2all,st2all,st2neg,ld3neg,ld3num,ld3den,ld3all,st3all,st3neg,ld4neg,ld4num,ld4den,ld4all,st4all,st4neg,ex0,ex1,ex2,bld0,bld2,bld12,bld012,nil_av,not_b,bl_neq,bl_eql,List.length_cons,List.length_nil,List.length_append,List.nil_append,List.cons_append,List.append_nil,Nat.zero_add,List.set_cons_zero,List.set_cons_succ,List.set_nil,pcN,pcI,pcNN,pcBNN,pcR,pcRR,pc0,e1,binA_eql,ifA_dec]
     rw[if_neg ha0]
     simp only[Nat.reduceAdd,oBs,Option.map_some,box_rv,new_z,new_r,new_zs,new_rs,fld0,fld1,fld2,res1,res2,ld0neg,ld0num,ld0den,ld0all,st0all,st0neg,ld1neg,ld1num,ld1den,ld1all,st1all,st1neg,ld2neg,ld2num,ld2den,ld2all,st2all,st2neg,ld3neg,ld3num,ld3den,ld3all,st3all,st3neg,ld4neg,ld4num,ld4den,ld4all,st4all,st4neg,ex0,ex1,ex2,bld0,bld2,bld12,bld012,nil_av,not_b,bl_neq,bl_eql,List.length_cons,List.length_nil,List.length_append,List.nil_append,List.cons_append,List.append_nil,Nat.zero_add,List.set_cons_zero,List.set_cons_succ,List.set_nil,pcN,pcI,pcNN,pcBNN,pcR,pcRR,pc0,e2,binA_eql,ifA_dec]
     rw[if_neg hb0]
     simp only[Nat.reduceAdd,oBs,Option.map_some,box_rv,new_z,new_r,new_zs,new_rs,fld0,fld1,fld2,res1,res2,ld0neg,ld0num,ld0den,ld0all,st0all,st0neg,ld1neg,ld1num,ld1den,ld1all,st1all,st1neg,ld2neg,ld2num,ld2den,ld2all,st2all,st2neg,ld3neg,ld3num,ld3den,ld3all,st3all,st3neg,ld4neg,ld4num,ld4den,ld4all,st4all,st4neg,ex0,ex1,ex2,bld0,bld2,bld12,bld012,nil_av,not_b,bl_neq,bl_eql,List.length_cons,List.length_nil,List.length_append,List.nil_append,List.cons_append,List.append_nil,Nat.zero_add,List.set_cons_zero,List.set_cons_succ,List.set_nil,pcN,pcI,pcNN,pcBNN,pcR,pcRR,pc0,g1,g2,g3,nf,hne,ifA_false,g5,binA_lss,ifA_dec]
     rw[if_neg hc]
     simp only[Nat.reduceAdd,oBs,Option.map_some,box_rv,new_z,new_r,new_zs,new_rs,fld0,fld1,fld2,res1,res2,ld0neg,ld0num,ld0den,ld0all,st0all,st0neg,ld1neg,ld1num,ld1den,ld1all,st1all,st1neg,ld2neg,ld2num,ld2den,ld2all,st2all,st2neg,ld3neg,ld3num,ld3den,ld3all,st3all,st3neg,ld4neg,ld4num,ld4den,ld4all,st4all,st4neg,ex0,ex1,ex2,bld0,bld2,bld12,bld012,nil_av,not_b,bl_neq,bl_eql,List.length_cons,List.length_nil,List.length_append,List.nil_append,List.cons_append,List.append_nil,Nat.zero_add,List.set_cons_zero,List.set_cons_succ,List.set_nil,pcN,pcI,pcNN,pcBNN,pcR,pcRR,pc0,nf,g6,h1]
end Go.Ab
set_option linter.unusedVariables false
namespace Go.Ab
open Go.Proofs.Try
theorem T18 (a0:AV) (m:Mem):AC cfg 18 [a0] m =
 (pcall (AP cfg) none (newAt none m (.obj true [(.int .i64 0),(.int .i64 0),(.lst none true .full [])])).2 57 [a0,a0]).bind fun r1=>
 (binA .other .neq r1.1 (.int .i64 0)).bind fun v2=>
 ifA v2 (
 (buildA (.agg [(.int .i64 0),(.int .i64 0),(.lst none true .full [])]) []).bind fun v3=>
 (storeA (some 3) r1.2 (.ptr (newAt none m .resv).1 0) v3).bind fun m4=>
 (loadA (some 3) m4 (.ptr (newAt none m .resv).1 0)).bind fun v5=>
 some ((.tup [v5,r1.1]),m4)) (
 (pcall (AP cfg) none r1.2 58 [a0,a0,(.fn 62 [])]).bind fun r6=>
 (storeA (some 3) r6.2 (.ptr (newAt none m .resv).1 0) r6.1).bind fun m7=>
 (loadA (some 3) m7 (.ptr (newAt none m .resv).1 0)).bind fun v8=>
 some ((.tup [v8,(.int .i64 0)]),m7)):=
(AC_eq cfg 18 [a0] m (fn:=f18) (c:=bodyOf f18) at18 rfl).trans (by kernel_rfl)
def O20_4 (m:Mem):St:=⟨[.any,.any,.any,.any,.any,.any,.any,.any,.any,.any,.any,.any,.any,.any,.any,.any,.any,.any,.any,.any,.any,.any,.any,.any,.any,.any,.any,.any,.any,.any,.any,.any,.any,.any,.any,.any,.any,.any,.any,.any,.any,.any,.any,.any,.any],m⟩
def R20_4 (x2:AV) (m:Mem):St:=⟨[.any,.any,x2,.any,.any,.any,.any,.any,.any,.any,.any,.any,.any,.any,.any,.any,.any,.any,.any,.any,.any,.any,.any,.any,.any,.any,.any,.any,.any,.any,.any,.any,.any,.any,.any,.any,.any,.any,.any,.any,.any,.any,.any,.any,.any],m⟩
noncomputable def L20_4 (x35 x36 x37:AV) (m:Mem) (K:KT):OM:=loopW (execW cfg 20 (AP cfg) (AC cfg) (c1 (c1 (c2 (c1 (c2 (c2 (bodyOf f20)))))))) (cfg.mask 20 (some 4)) ⟨[.any,.any,.any,.any,.any,.any,.any,.any,.any,.any,.any,.any,.any,.any,.any,.any,.any,.any,.any,.any,.any,.any,.any,.any,.any,.any,.any,.any,.any,.any,.any,.any,.any,.any,.any,x35,x36,x37,.any,.any,.any,.any,.any,.any,.any],m⟩ K
noncomputable abbrev K20_4_0 (K:KT):KT:=seqK (fun st=>execW cfg 20 (AP cfg) (AC cfg) (c2 (c2 (c2 (bodyOf f20)))) st K) K
noncomputable abbrev K20_4_1 (K:KT):KT:=blockK 0 (K20_4_0 K)
noncomputable abbrev K20_4 (K:KT):KT:=(K20_4_1 K)
theorem T20 (a0:AV) (m:Mem):AC cfg 20 [a0] m =
 (boxA none (some 3) m a0).bind fun r1=>
 (fieldAddrA 0 r1.1).bind fun v2=>
 (loadA none r1.2 v2).bind fun v3=>
 (binA .other .lss v3 (.int .i64 0)).bind fun v4=>
 ifA v4 (
 some ((.bool false),r1.2)) (
 (fieldAddrA 0 r1.1).bind fun v5=>
 (loadA none r1.2 v5).bind fun v6=>
 (binA .other .gtr v6 (.int .i64 60)).bind fun v7=>
 ifA v7 (
 some ((.bool false),r1.2)) (
 (fieldAddrA 1 r1.1).bind fun v8=>
 (loadA none r1.2 v8).bind fun v9=>
 (binA .other .lss v9 (.int .i64 0)).bind fun v10=>
 ifA v10 (
 some ((.bool false),r1.2)) (
 (fieldAddrA 1 r1.1).bind fun v11=>
 (loadA none r1.2 v11).bind fun v12=>
 (binA .other .gtr v12 (.int .i64 60)).bind fun v13=>
 ifA v13 (
 some ((.bool false),r1.2)) (
 (fieldAddrA 2 r1.1).bind fun v14=>
 (loadA none r1.2 v14).bind fun v15=>
 (lenA false v15).bind fun v16=>
 (fieldAddrA 0 r1.1).bind fun v17=>
 (loadA none r1.2 v17).bind fun v18=>
 (fieldAddrA 1 r1.1).bind fun v19=>
 (loadA none r1.2 v19).bind fun v20=>
 (binA .other .mul v18 v20).bind fun v21=>
 (binA .other .neq v16 v21).bind fun v22=>
 ifA v22 (
 some ((.bool false),r1.2)) (
 (fieldAddrA 2 r1.1).bind fun v23=>
 (loadA none r1.2 v23).bind fun v24=>
 (lenA false v24).bind fun v25=>
 L20_4 v24 v25 (.int .i64 0) r1.2 (K20_4 (finK cfg.P f20.results.toList))))))):=
(AC_eq cfg 20 [a0] m (fn:=f20) (c:=bodyOf f20) at20 rfl).trans (by kernel_rfl)
theorem L20_4_eq (x35 x36 x37:AV) (m:Mem) (K:KT):L20_4 x35 x36 x37 m K =
 (binA .other .lss x37 x36).bind fun v1=>
 ifA v1 (
 (indexAddrA (some 3) x35 x37).bind fun v2=>
 (loadA (some 3) m v2).bind fun v3=>
 (storeA (some 3) (newAt none m (.obj true [(.bool false),(.lst none true .full []),(.lst none true .full [])])).2 (.ptr (newAt none m .resv).1 0) v3).bind fun m4=>
 (loadA (some 3) m4 (.ptr (newAt none m .resv).1 0)).bind fun v5=>
 (pcall (AP cfg) none m4 64 [v5]).bind fun r6=>
 (unA .not r6.1).bind fun v7=>
 ifA v7 (
 K .ret (R20_4 (.bool false) r6.2)) (
 (binA .other .add x37 (.int .i64 1)).bind fun v8=>
 L20_4 x35 x36 v8 r6.2 K)) (
 K (.exit 0) (O20_4 m)):=
(loopW_eq (execW_lin _) _ _ _).trans (by kernel_rfl)
theorem K20_4_x0 (m:Mem):K20_4 (finK cfg.P f20.results.toList) (.exit 0) (O20_4  m) =
 some ((.bool true),m):=by kernel_rfl
theorem K20_4_ret (x2:AV) (m:Mem):K20_4 (finK cfg.P f20.results.toList) .ret (R20_4 x2 m) =
 some (x2,m):=by kernel_rfl
def O56_3 (x2 x3:AV) (m:Mem):St:=⟨[.any,.any,x2,x3,.any,.any,.any,.any,.any,.any,.any,.any,.any,.any,.any,.any,.any,.any,.any,.any,.any,.any,.any,.any,.any,.any,.any],m⟩
noncomputable def L56_3 (x2 x3 x12 x13 x14:AV) (m:Mem) (K:KT):OM:=loopW (execW cfg 56 (AP cfg) (AC cfg) (c1 (c1 (c2 (c1 (c2 (c2 (bodyOf f56)))))))) (cfg.mask 56 (some 3)) ⟨[.any,.any,x2,x3,.any,.any,.any,.any,.any,.any,.any,.any,x12,x13,x14,.any,.any,.any,.any,.any,.any,.any,.any,.any,.any,.any,.any],m⟩ K
noncomputable abbrev K56_3_0 (K:KT):KT:=seqK (fun st=>execW cfg 56 (AP cfg) (AC cfg) (c2 (c2 (c2 (bodyOf f56)))) st K) K
noncomputable abbrev K56_3_1 (K:KT):KT:=blockK 0 (K56_3_0 K)
noncomputable abbrev K56_3 (K:KT):KT:=(K56_3_1 K)
theorem T56 (a0:AV) (m:Mem):AC cfg 56 [a0] m =
 (boxA none (some 3) m a0).bind fun r1=>
 (fieldAddrA 0 r1.1).bind fun v2=>
 (loadA none (newAt none r1.2 (.obj true [(.int .i64 0),(.int .i64 0),(.lst none true .full [])])).2 v2).bind fun v3=>
 (fieldAddrA 1 r1.1).bind fun v4=>
 (loadA none (newAt none r1.2 (.obj true [(.int .i64 0),(.int .i64 0),(.lst none true .full [])])).2 v4).bind fun v5=>
 (buildA (.agg [(.int .i64 0),(.int .i64 0),(.lst none true .full [])]) [(0,none,v3),(1,none,v5)]).bind fun v6=>
 (storeA (some 3) (newAt none (newAt none r1.2 (.obj true [(.int .i64 0),(.int .i64 0),(.lst none true .full [])])).2 (.obj true [(.int .i64 0),(.int .i64 0),(.lst none true .full [])])).2 (.ptr (newAt none (newAt none r1.2 (.obj true [(.int .i64 0),(.int .i64 0),(.lst none true .full [])])).2 .resv).1 0) v6).bind fun m7=>
 (fieldAddrA 2 r1.1).bind fun v8=>
 (loadA none m7 v8).bind fun v9=>
 (lenA false v9).bind fun v10=>
 L56_3 (.ptr (newAt none r1.2 .resv).1 0) (.ptr (newAt none (newAt none r1.2 (.obj true [(.int .i64 0),(.int .i64 0),(.lst none true .full [])])).2 .resv).1 0) v9 v10 (.int .i64 0) m7 (K56_3 (finK cfg.P f56.results.toList)):=
(AC_eq cfg 56 [a0] m (fn:=f56) (c:=bodyOf f56) at56 rfl).trans (by kernel_rfl)
theorem L56_3_eq (x2 x3 x12 x13 x14:AV) (m:Mem) (K:KT):L56_3 x2 x3 x12 x13 x14 m K =
 (binA .other .lss x14 x13).bind fun v1=>
 ifA v1 (
 (indexAddrA (some 3) x12 x14).bind fun v2=>
 (loadA (some 3) m v2).bind fun v3=>
 (storeA (some 3) (newAt none m (.obj true [(.bool false),(.lst none true .full []),(.lst none true .full [])])).2 (.ptr (newAt none m .resv).1 0) v3).bind fun m4=>
 (fieldAddrA 2 x3).bind fun v5=>
 (loadA none (reserve m4 1) v5).bind fun v6=>
 (loadA (some 3) (reserve m4 1) (.ptr (newAt none m .resv).1 0)).bind fun v7=>
 (pcall (AP cfg) (some m4.length) (reserve m4 1) 67 [v7]).bind fun r8=>
 (buildSliceA (some 3) [r8.1]).bind fun v9=>
 (appA (some m4.length) false 43 (some 3) 56 r8.2 v6 v9).bind fun r10=>
 (fieldAddrA 2 x3).bind fun v11=>
 (storeA none r10.2 v11 r10.1).bind fun m12=>
 (binA .other .add x14 (.int .i64 1)).bind fun v13=>
 L56_3 x2 x3 x12 x13 v13 m12 K) (
 K (.exit 0) (O56_3 x2 x3 m)):=
(loopW_eq (execW_lin _) _ _ _).trans (by kernel_rfl)
theorem K56_3_x0 (x2 x3:AV) (m:Mem):K56_3 (finK cfg.P f56.results.toList) (.exit 0) (O56_3 x2 x3 m) =
 (loadA (some 3) m x3).bind fun v1=>
 (storeA (some 3) m x2 v1).bind fun m2=>
 (loadA (some 3) m2 x2).bind fun v3=>
 some (v3,m2):=by kernel_rfl
theorem T57 (a0 a1:AV) (m:Mem):AC cfg 57 [a0,a1] m =
 (binA .other .lss a0 (.int .i64 0)).bind fun v1=>
 ifA v1 (
 some ((.int .i64 1),m)) (
 (binA .other .lss a1 (.int .i64 0)).bind fun v2=>
 ifA v2 (
 some ((.int .i64 1),m)) (
 (binA .other .gtr a0 (.int .i64 60)).bind fun v3=>
 ifA v3 (
 some ((.int .i64 2),m)) (
 (binA .other .gtr a1 (.int .i64 60)).bind fun v4=>
 ifA v4 (
 some ((.int .i64 2),m)) (
 some ((.int .i64 0),m))))):=
(AC_eq cfg 57 [a0,a1] m (fn:=f57) (c:=bodyOf f57) at57 rfl).trans (by kernel_rfl)
def O58_3 (x6 x7:AV) (m:Mem):St:=⟨[.any,.any,.any,.any,.any,.any,x6,x7,.any,.any,.any,.any,.any,.any,.any,.any,.any,.any,.any,.any,.any,.any,.any,.any,.any,.any,.any,.any,.any,.any,.any,.any,.any],m⟩
noncomputable def L58_3 (x1 x2 x6 x7 x13 x14:AV) (m:Mem) (K:KT):OM:=loopW (execW cfg 58 (AP cfg) (AC cfg) (c1 (c1 (c2 (c1 (c2 (c2 (bodyOf f58)))))))) (cfg.mask 58 (some 3)) ⟨[.any,x1,x2,.any,.any,.any,x6,x7,.any,.any,.any,.any,.any,x13,x14,.any,.any,.any,.any,.any,.any,.any,.any,.any,.any,.any,.any,.any,.any,.any,.any,.any,.any],m⟩ K
def O58_6 (x1 x2 x6 x7 x13 x14:AV) (m:Mem):St:=⟨[.any,x1,x2,.any,.any,.any,x6,x7,.any,.any,.any,.any,.any,x13,x14,.any,.any,.any,.any,.any,.any,.any,.any,.any,.any,.any,.any,.any,.any,.any,.any,.any,.any],m⟩
noncomputable def L58_6 (x1 x2 x6 x7 x8 x13 x14 x17 x18:AV) (m:Mem) (K:KT):OM:=loopW (execW cfg 58 (AP cfg) (AC cfg) (c1 (c1 (c2 (c2 (c1 (c1 (c2 (c2 (c1 (c1 (c2 (c1 (c2 (c2 (bodyOf f58)))))))))))))))) (cfg.mask 58 (some 6)) ⟨[.any,x1,x2,.any,.any,.any,x6,x7,x8,.any,.any,.any,.any,x13,x14,.any,.any,x17,x18,.any,.any,.any,.any,.any,.any,.any,.any,.any,.any,.any,.any,.any,.any],m⟩ K
noncomputable abbrev K58_3_0 (K:KT):KT:=seqK (fun st=>execW cfg 58 (AP cfg) (AC cfg) (c2 (c2 (c2 (bodyOf f58)))) st K) K
noncomputable abbrev K58_3_1 (K:KT):KT:=blockK 0 (K58_3_0 K)
noncomputable abbrev K58_3 (K:KT):KT:=(K58_3_1 K)
noncomputable abbrev K58_6_0 (K:KT):KT:=seqK (fun st=>execW cfg 58 (AP cfg) (AC cfg) (c2 (c2 (c2 (c1 (c1 (c2 (c1 (c2 (c2 (bodyOf f58)))))))))) st (roundG (fun st=>loopW (execW cfg 58 (AP cfg) (AC cfg) (c1 (c1 (c2 (c1 (c2 (c2 (bodyOf f58)))))))) (cfg.mask 58 (some 3)) st K) (cfg.mask 58 (some 3)) K)) (roundG (fun st=>loopW (execW cfg 58 (AP cfg) (AC cfg) (c1 (c1 (c2 (c1 (c2 (c2 (bodyOf f58)))))))) (cfg.mask 58 (some 3)) st K) (cfg.mask 58 (some 3)) K)
noncomputable abbrev K58_6_1 (K:KT):KT:=blockK 1 (K58_6_0 K)
noncomputable abbrev K58_6_2 (K:KT):KT:=blockK 2 (K58_6_1 K)
noncomputable abbrev K58_6 (K:KT):KT:=(K58_6_2 K)
theorem T58 (a0 a1 a2:AV) (m:Mem):AC cfg 58 [a0,a1,a2] m =
 (buildA (.agg [(.int .i64 0),(.int .i64 0),(.lst none true .full [])]) [(0,none,a0),(1,none,a1)]).bind fun v1=>
 (storeA (some 3) (newAt none (newAt none m (.obj true [(.int .i64 0),(.int .i64 0),(.lst none true .full [])])).2 (.obj true [(.int .i64 0),(.int .i64 0),(.lst none true .full [])])).2 (.ptr (newAt none (newAt none m (.obj true [(.int .i64 0),(.int .i64 0),(.lst none true .full [])])).2 .resv).1 0) v1).bind fun m2=>
 L58_3 a1 a2 (.ptr (newAt none m .resv).1 0) (.ptr (newAt none (newAt none m (.obj true [(.int .i64 0),(.int .i64 0),(.lst none true .full [])])).2 .resv).1 0) a0 (.int .i64 0) m2 (K58_3 (finK cfg.P f58.results.toList)):=
(AC_eq cfg 58 [a0,a1,a2] m (fn:=f58) (c:=bodyOf f58) at58 rfl).trans (by kernel_rfl)
theorem L58_3_eq (x1 x2 x6 x7 x13 x14:AV) (m:Mem) (K:KT):L58_3 x1 x2 x6 x7 x13 x14 m K =
 (binA .other .lss x14 x13).bind fun v1=>
 ifA v1 (
 L58_6 x1 x2 x6 x7 x14 x13 x14 x1 (.int .i64 0) m (K58_6 K)) (
 K (.exit 0) (O58_3 x6 x7 m)):=
(loopW_eq (execW_lin _) _ _ _).trans (by kernel_rfl)
theorem L58_6_eq (x1 x2 x6 x7 x8 x13 x14 x17 x18:AV) (m:Mem) (K:KT):L58_6 x1 x2 x6 x7 x8 x13 x14 x17 x18 m K =
 (binA .other .lss x18 x17).bind fun v1=>
 ifA v1 (
 (fieldAddrA 2 x7).bind fun v2=>
 (loadA none (reserve m 1) v2).bind fun v3=>
 (fnOf x2).bind fun g4=>
 callK cfg 58 (AP cfg) (AC cfg) (some m.length) g4.1 ([x8,x18]++g4.2) (reserve m 1) fun v5 m6=>
 (buildSliceA (some 3) [v5]).bind fun v7=>
 (appA (some m.length) false 43 (some 3) 56 m6 v3 v7).bind fun r8=>
 (fieldAddrA 2 x7).bind fun v9=>
 (storeA none r8.2 v9 r8.1).bind fun m10=>
 (binA .other .add x18 (.int .i64 1)).bind fun v11=>
 L58_6 x1 x2 x6 x7 x8 x13 x14 x17 v11 m10 K) (
 K (.exit 2) (O58_6 x1 x2 x6 x7 x13 x14 m)):=
(loopW_eq (execW_lin _) _ _ _).trans (by kernel_rfl)
theorem K58_3_x0 (x6 x7:AV) (m:Mem):K58_3 (finK cfg.P f58.results.toList) (.exit 0) (O58_3 x6 x7 m) =
 (loadA (some 3) m x7).bind fun v1=>
 (storeA (some 3) m x6 v1).bind fun m2=>
 (loadA (some 3) m2 x6).bind fun v3=>
 some (v3,m2):=by kernel_rfl
theorem K58_6_x2 (x1 x2 x6 x7 x13 x14:AV) (m:Mem) (K:KT):K58_6 K (.exit 2) (O58_6 x1 x2 x6 x7 x13 x14 m) =
 (binA .other .add x14 (.int .i64 1)).bind fun v1=>
 L58_3 x1 x2 x6 x7 x13 v1 m K:=by kernel_rfl
theorem T62 (a0 a1:AV) (m:Mem):AC cfg 62 [a0,a1] m =
 (binA .other .eql a0 a1).bind fun v1=>
 ifA v1 (
 (pcall (AP cfg) none (newAt none m (.obj true [(.bool false),(.lst none true .full []),(.lst none true .full [])])).2 84 []).bind fun r2=>
 (storeA (some 3) r2.2 (.ptr (newAt none m .resv).1 0) r2.1).bind fun m3=>
 (loadA (some 3) m3 (.ptr (newAt none m .resv).1 0)).bind fun v4=>
 some (v4,m3)) (
 (pcall (AP cfg) none (newAt none m (.obj true [(.bool false),(.lst none true .full []),(.lst none true .full [])])).2 60 []).bind fun r5=>
 (storeA (some 3) r5.2 (.ptr (newAt none m .resv).1 0) r5.1).bind fun m6=>
 (loadA (some 3) m6 (.ptr (newAt none m .resv).1 0)).bind fun v7=>
 some (v7,m6)):=
(AC_eq cfg 62 [a0,a1] m (fn:=f62) (c:=bodyOf f62) at62 rfl).trans (by kernel_rfl)
theorem T67 (a0:AV) (m:Mem):AC cfg 67 [a0] m =
 (boxA none (some 3) m a0).bind fun r1=>
 (fieldAddrA 0 r1.1).bind fun v2=>
 (loadA none (reserve (newAt none r1.2 (.obj true [(.bool false),(.lst none true .full []),(.lst none true .full [])])).2 2) v2).bind fun v3=>
 (fieldAddrA 1 r1.1).bind fun v4=>
 (loadA none (reserve (newAt none r1.2 (.obj true [(.bool false),(.lst none true .full []),(.lst none true .full [])])).2 2) v4).bind fun v5=>
 (fieldAddrA 2 r1.1).bind fun v6=>
 (loadA none (reserve (newAt none r1.2 (.obj true [(.bool false),(.lst none true .full []),(.lst none true .full [])])).2 2) v6).bind fun v7=>
 (appA (some (newAt none r1.2 (.obj true [(.bool false),(.lst none true .full []),(.lst none true .full [])])).2.length) false 116 none 4 (reserve (newAt none r1.2 (.obj true [(.bool false),(.lst none true .full []),(.lst none true .full [])])).2 2) (.lst none true .full []) v5).bind fun r8=>
 (appA (some ((newAt none r1.2 (.obj true [(.bool false),(.lst none true .full []),(.lst none true .full [])])).2.length+1)) false 116 none 4 r8.2 (.lst none true .full []) v7).bind fun r9=>
 (buildA (.agg [(.bool false),(.lst none true .full []),(.lst none true .full [])]) [(0,none,v3),(1,none,r8.1),(2,none,r9.1)]).bind fun v10=>
 (storeA (some 3) r9.2 (.ptr (newAt none r1.2 .resv).1 0) v10).bind fun m11=>
 (loadA (some 3) m11 (.ptr (newAt none r1.2 .resv).1 0)).bind fun v12=>
 some (v12,m11):=
(AC_eq cfg 67 [a0] m (fn:=f67) (c:=bodyOf f67) at67 rfl).trans (by kernel_rfl)
theorem T82 (a0:AV) (m:Mem):AC cfg 82 [a0] m =
 (boxA none (some 3) m a0).bind fun r1=>
 some ((.fn 114 [r1.1]),r1.2):=
(AC_eq cfg 82 [a0] m (fn:=f82) (c:=bodyOf f82) at82 rfl).trans (by kernel_rfl)
def O88_3 (x6 x7:AV) (m:Mem):St:=⟨[.any,.any,.any,.any,.any,.any,x6,x7,.any,.any,.any,.any,.any,.any,.any,.any,.any,.any,.any,.any,.any,.any,.any,.any,.any,.any,.any,.any,.any,.any,.any,.any,.any,.any,.any,.any,.any,.any,.any,.any,.any,.any,.any,.any,.any,.any,.any,.any,.any,.any,.any,.any,.any,.any],m⟩
noncomputable def L88_3 (x1 x2 x6 x7 x8:AV) (m:Mem) (K:KT):OM:=loopW (execW cfg 88 (AP cfg) (AC cfg) (c1 (c1 (c2 (c1 (c2 (c2 (bodyOf f88)))))))) (cfg.mask 88 (some 3)) ⟨[.any,x1,x2,.any,.any,.any,x6,x7,x8,.any,.any,.any,.any,.any,.any,.any,.any,.any,.any,.any,.any,.any,.any,.any,.any,.any,.any,.any,.any,.any,.any,.any,.any,.any,.any,.any,.any,.any,.any,.any,.any,.any,.any,.any,.any,.any,.any,.any,.any,.any,.any,.any,.any,.any],m⟩ K
def O88_11 (x1 x2 x6 x7 x8:AV) (m:Mem):St:=⟨[.any,x1,x2,.any,.any,.any,x6,x7,x8,.any,.any,.any,.any,.any,.any,.any,.any,.any,.any,.any,.any,.any,.any,.any,.any,.any,.any,.any,.any,.any,.any,.any,.any,.any,.any,.any,.any,.any,.any,.any,.any,.any,.any,.any,.any,.any,.any,.any,.any,.any,.any,.any,.any,.any],m⟩
noncomputable def L88_11 (x1 x2 x6 x7 x8 x10:AV) (m:Mem) (K:KT):OM:=loopW (execW cfg 88 (AP cfg) (AC cfg) (c1 (c1 (c2 (c1 (c2 (c2 (c2 (c1 (c1 (c2 (c1 (c1 (c2 (c1 (c2 (c2 (bodyOf f88)))))))))))))))))) (cfg.mask 88 (some 11)) ⟨[.any,x1,x2,.any,.any,.any,x6,x7,x8,.any,x10,.any,.any,.any,.any,.any,.any,.any,.any,.any,.any,.any,.any,.any,.any,.any,.any,.any,.any,.any,.any,.any,.any,.any,.any,.any,.any,.any,.any,.any,.any,.any,.any,.any,.any,.any,.any,.any,.any,.any,.any,.any,.any,.any],m⟩ K
noncomputable abbrev K88_3_0 (K:KT):KT:=seqK (fun st=>execW cfg 88 (AP cfg) (AC cfg) (c2 (c2 (c2 (bodyOf f88)))) st K) K
noncomputable abbrev K88_3_1 (K:KT):KT:=blockK 0 (K88_3_0 K)
noncomputable abbrev K88_3 (K:KT):KT:=(K88_3_1 K)
noncomputable abbrev K88_11_0 (K:KT):KT:=seqK (fun st=>execW cfg 88 (AP cfg) (AC cfg) (c2 (c2 (c1 (c1 (c2 (c1 (c2 (c2 (bodyOf f88))))))))) st (roundG (fun st=>loopW (execW cfg 88 (AP cfg) (AC cfg) (c1 (c1 (c2 (c1 (c2 (c2 (bodyOf f88)))))))) (cfg.mask 88 (some 3)) st K) (cfg.mask 88 (some 3)) K)) (roundG (fun st=>loopW (execW cfg 88 (AP cfg) (AC cfg) (c1 (c1 (c2 (c1 (c2 (c2 (bodyOf f88)))))))) (cfg.mask 88 (some 3)) st K) (cfg.mask 88 (some 3)) K)
noncomputable abbrev K88_11_1 (K:KT):KT:=blockK 1 (K88_11_0 K)
noncomputable abbrev K88_11_2 (K:KT):KT:=seqK (fun st=>execW cfg 88 (AP cfg) (AC cfg) (c2 (c2 (c2 (c2 (c1 (c1 (c2 (c1 (c1 (c2 (c1 (c2 (c2 (bodyOf f88)))))))))))))) st (K88_11_1 K)) (K88_11_1 K)
noncomputable abbrev K88_11_3 (K:KT):KT:=blockK 2 (K88_11_2 K)
noncomputable abbrev K88_11 (K:KT):KT:=(K88_11_3 K)
theorem T88 (a0 a1:AV) (m:Mem):AC cfg 88 [a0,a1] m =
 (boxA none (some 3) m a0).bind fun r1=>
 L88_3 a1 r1.1 (.int .i64 0) (.bool false) (.int .i64 0) r1.2 (K88_3 (finK cfg.P f88.results.toList)):=
(AC_eq cfg 88 [a0,a1] m (fn:=f88) (c:=bodyOf f88) at88 rfl).trans (by kernel_rfl)
theorem L88_3_eq (x1 x2 x6 x7 x8:AV) (m:Mem) (K:KT):L88_3 x1 x2 x6 x7 x8 m K =
 (binA .other .lss x8 x1).bind fun v1=>
 ifA v1 (
 (fieldAddrA 0 x2).bind fun v2=>
 (loadA none m v2).bind fun v3=>
 (binA .other .lss x6 v3).bind fun v4=>
 ifA v4 (
 (loadA (some 3) m x2).bind fun v5=>
 (AC cfg 115 [v5,x6,x8] m).bind fun r6=>
 (binA .other .lss r6.1 (.int .i64 0)).bind fun v7=>
 ifA v7 (
 (binA .other .add x8 (.int .i64 1)).bind fun v8=>
 L88_3 x1 x2 x6 x7 v8 r6.2 K) (
 (binA .other .neq r6.1 x6).bind fun v9=>
 ifA v9 (
 (loadA (some 3) r6.2 x2).bind fun v10=>
 (AC cfg 116 [v10,r6.1,x6] r6.2).bind fun r11=>
 (unA .not x7).bind fun v12=>
 (binA .other .add x6 (.int .i64 1)).bind fun v13=>
 L88_11 x1 x2 x6 v12 x8 v13 r11.2 (K88_11 K)) (
 (binA .other .add x6 (.int .i64 1)).bind fun v14=>
 L88_11 x1 x2 x6 x7 x8 v14 r6.2 (K88_11 K)))) (
 K (.exit 0) (O88_3 x6 x7 m))) (
 K (.exit 0) (O88_3 x6 x7 m)):=
(loopW_eq (execW_lin _) _ _ _).trans (by kernel_rfl)
theorem L88_11_eq (x1 x2 x6 x7 x8 x10:AV) (m:Mem) (K:KT):L88_11 x1 x2 x6 x7 x8 x10 m K =
 (fieldAddrA 0 x2).bind fun v1=>
 (loadA none m v1).bind fun v2=>
 (binA .other .lss x10 v2).bind fun v3=>
 ifA v3 (
 (loadA (some 3) m x2).bind fun v4=>
 (AC cfg 117 [v4,x6,x10,x8] m).bind fun r5=>
 (binA .other .add x10 (.int .i64 1)).bind fun v6=>
 L88_11 x1 x2 x6 x7 x8 v6 r5.2 K) (
 K (.exit 2) (O88_11 x1 x2 x6 x7 x8 m)):=
(loopW_eq (execW_lin _) _ _ _).trans (by kernel_rfl)
theorem K88_3_x0 (x6 x7:AV) (m:Mem):K88_3 (finK cfg.P f88.results.toList) (.exit 0) (O88_3 x6 x7 m) =
 some ((.tup [x6,x7]),m):=by kernel_rfl
theorem K88_11_x2 (x1 x2 x6 x7 x8:AV) (m:Mem) (K:KT):K88_11 K (.exit 2) (O88_11 x1 x2 x6 x7 x8 m) =
 (binA .other .add x6 (.int .i64 1)).bind fun v1=>
 (binA .other .add x8 (.int .i64 1)).bind fun v2=>
 L88_3 x1 x2 v1 x7 v2 m K:=by kernel_rfl
def O115_3 (x7:AV) (m:Mem):St:=⟨[.any,.any,.any,.any,.any,.any,.any,x7,.any,.any,.any,.any,.any,.any,.any,.any,.any,.any,.any,.any,.any,.any,.any,.any,.any,.any,.any,.any,.any,.any,.any,.any,.any,.any,.any,.any,.any,.any,.any,.any,.any,.any,.any,.any,.any,.any,.any,.any,.any,.any,.any,.any,.any],m⟩
noncomputable def L115_3 (x2 x3 x7 x8:AV) (m:Mem) (K:KT):OM:=loopW (execW cfg 115 (AP cfg) (AC cfg) (c1 (c1 (c2 (c1 (c2 (c2 (bodyOf f115)))))))) (cfg.mask 115 (some 3)) ⟨[.any,.any,x2,x3,.any,.any,.any,x7,x8,.any,.any,.any,.any,.any,.any,.any,.any,.any,.any,.any,.any,.any,.any,.any,.any,.any,.any,.any,.any,.any,.any,.any,.any,.any,.any,.any,.any,.any,.any,.any,.any,.any,.any,.any,.any,.any,.any,.any,.any,.any,.any,.any,.any],m⟩ K
noncomputable abbrev K115_3_0 (K:KT):KT:=seqK (fun st=>execW cfg 115 (AP cfg) (AC cfg) (c2 (c2 (c2 (bodyOf f115)))) st K) K
noncomputable abbrev K115_3_1 (K:KT):KT:=blockK 0 (K115_3_0 K)
noncomputable abbrev K115_3 (K:KT):KT:=(K115_3_1 K)
theorem T115 (a0 a1 a2:AV) (m:Mem):AC cfg 115 [a0,a1,a2] m =
 (boxA none (some 3) m a0).bind fun r1=>
 L115_3 a2 r1.1 (.int .i64 (-1)) a1 r1.2 (K115_3 (finK cfg.P f115.results.toList)):=
(AC_eq cfg 115 [a0,a1,a2] m (fn:=f115) (c:=bodyOf f115) at115 rfl).trans (by kernel_rfl)
theorem L115_3_eq (x2 x3 x7 x8:AV) (m:Mem) (K:KT):L115_3 x2 x3 x7 x8 m K =
 (fieldAddrA 0 x3).bind fun v1=>
 (loadA none m v1).bind fun v2=>
 (binA .other .lss x8 v2).bind fun v3=>
 ifA v3 (
 (fieldAddrA 2 x3).bind fun v4=>
 (loadA none m v4).bind fun v5=>
 (fieldAddrA 1 x3).bind fun v6=>
 (loadA none m v6).bind fun v7=>
 (binA .other .mul x8 v7).bind fun v8=>
 (binA .other .add v8 x2).bind fun v9=>
 (indexAddrA (some 3) v5 v9).bind fun v10=>
 (loadA (some 3) m v10).bind fun v11=>
 (storeA (some 3) (newAt none m (.obj true [(.bool false),(.lst none true .full []),(.lst none true .full [])])).2 (.ptr (newAt none m .resv).1 0) v11).bind fun m12=>
 (fieldAddrA 1 (.ptr (newAt none m .resv).1 0)).bind fun v13=>
 (loadA none m12 v13).bind fun v14=>
 (lenA false v14).bind fun v15=>
 (binA .other .gtr v15 (.int .i64 0)).bind fun v16=>
 ifA v16 (
 (binA .other .lss x7 (.int .i64 0)).bind fun v17=>
 ifA v17 (
 (binA .other .add x8 (.int .i64 1)).bind fun v18=>
 L115_3 x2 x3 x8 v18 m12 K) (
 (loadA (some 3) m12 (.ptr (newAt none m .resv).1 0)).bind fun v19=>
 (pcall (AP cfg) (some m12.length) m12 134 [v19]).bind fun r20=>
 (fieldAddrA 2 x3).bind fun v21=>
 (loadA none r20.2 v21).bind fun v22=>
 (fieldAddrA 1 x3).bind fun v23=>
 (loadA none r20.2 v23).bind fun v24=>
 (binA .other .mul x7 v24).bind fun v25=>
 (binA .other .add v25 x2).bind fun v26=>
 (indexAddrA (some 3) v22 v26).bind fun v27=>
 (loadA (some 3) r20.2 v27).bind fun v28=>
 (pcall (AP cfg) (some m12.length) r20.2 134 [v28]).bind fun r29=>
 (binA .other .lss r20.1 r29.1).bind fun v30=>
 ifA v30 (
 (binA .other .add x8 (.int .i64 1)).bind fun v31=>
 L115_3 x2 x3 x8 v31 r29.2 K) (
 (binA .other .add x8 (.int .i64 1)).bind fun v32=>
 L115_3 x2 x3 x7 v32 r29.2 K))) (
 (binA .other .add x8 (.int .i64 1)).bind fun v33=>
 L115_3 x2 x3 x7 v33 m12 K)) (
 K (.exit 0) (O115_3 x7 m)):=
(loopW_eq (execW_lin _) _ _ _).trans (by kernel_rfl)
theorem K115_3_x0 (x7:AV) (m:Mem):K115_3 (finK cfg.P f115.results.toList) (.exit 0) (O115_3 x7 m) =
 some (x7,m):=by kernel_rfl
def O116_2 (m:Mem):St:=⟨[.any,.any,.any,.any,.any,.any,.any,.any,.any,.any,.any,.any,.any,.any,.any,.any,.any,.any,.any,.any,.any,.any,.any,.any,.any,.any,.any,.any,.any,.any,.any,.any,.any,.any,.any,.any,.any,.any,.any,.any,.any,.any,.any,.any,.any,.any,.any,.any,.any,.any,.any],m⟩
noncomputable def L116_2 (x1 x2 x3 x8 x9:AV) (m:Mem) (K:KT):OM:=loopW (execW cfg 116 (AP cfg) (AC cfg) (c1 (c1 (c2 (c2 (bodyOf f116)))))) (cfg.mask 116 (some 2)) ⟨[.any,x1,x2,x3,.any,.any,.any,.any,x8,x9,.any,.any,.any,.any,.any,.any,.any,.any,.any,.any,.any,.any,.any,.any,.any,.any,.any,.any,.any,.any,.any,.any,.any,.any,.any,.any,.any,.any,.any,.any,.any,.any,.any,.any,.any,.any,.any,.any,.any,.any,.any],m⟩ K
noncomputable abbrev K116_2_0 (K:KT):KT:=blockK 0 K
noncomputable abbrev K116_2 (K:KT):KT:=(K116_2_0 K)
theorem T116 (a0 a1 a2:AV) (m:Mem):AC cfg 116 [a0,a1,a2] m =
 (boxA none (some 3) m a0).bind fun r1=>
 (fieldAddrA 1 r1.1).bind fun v2=>
 (loadA none r1.2 v2).bind fun v3=>
 L116_2 a1 a2 r1.1 v3 (.int .i64 0) r1.2 (K116_2 (finK cfg.P f116.results.toList)):=
(AC_eq cfg 116 [a0,a1,a2] m (fn:=f116) (c:=bodyOf f116) at116 rfl).trans (by kernel_rfl)
theorem L116_2_eq (x1 x2 x3 x8 x9:AV) (m:Mem) (K:KT):L116_2 x1 x2 x3 x8 x9 m K =
 (binA .other .lss x9 x8).bind fun v1=>
 ifA v1 (
 (fieldAddrA 2 x3).bind fun v2=>
 (loadA none m v2).bind fun v3=>
 (fieldAddrA 1 x3).bind fun v4=>
 (loadA none m v4).bind fun v5=>
 (binA .other .mul x1 v5).bind fun v6=>
 (binA .other .add v6 x9).bind fun v7=>
 (fieldAddrA 2 x3).bind fun v8=>
 (loadA none m v8).bind fun v9=>
 (fieldAddrA 1 x3).bind fun v10=>
 (loadA none m v10).bind fun v11=>
 (binA .other .mul x2 v11).bind fun v12=>
 (binA .other .add v12 x9).bind fun v13=>
 (fieldAddrA 2 x3).bind fun v14=>
 (loadA none m v14).bind fun v15=>
 (fieldAddrA 1 x3).bind fun v16=>
 (loadA none m v16).bind fun v17=>
 (binA .other .mul x2 v17).bind fun v18=>
 (binA .other .add v18 x9).bind fun v19=>
 (indexAddrA (some 3) v15 v19).bind fun v20=>
 (loadA (some 3) m v20).bind fun v21=>
 (fieldAddrA 2 x3).bind fun v22=>
 (loadA none m v22).bind fun v23=>
 (fieldAddrA 1 x3).bind fun v24=>
 (loadA none m v24).bind fun v25=>
 (binA .other .mul x1 v25).bind fun v26=>
 (binA .other .add v26 x9).bind fun v27=>
 (indexAddrA (some 3) v23 v27).bind fun v28=>
 (loadA (some 3) m v28).bind fun v29=>
 (indexAddrA (some 3) v3 v7).bind fun v30=>
 (storeA (some 3) m v30 v21).bind fun m31=>
 (indexAddrA (some 3) v9 v13).bind fun v32=>
 (storeA (some 3) m31 v32 v29).bind fun m33=>
 ifB (namesV v8 v30) (
 ifB (namesV v10 v30) (
 (binA .other .add x9 (.int .i64 1)).bind fun v34=>
 L116_2 x1 x2 x3 x8 v34 m33 K))) (
 K (.exit 0) (O116_2 m)):=
(loopW_eq (execW_lin _) _ _ _).trans (by kernel_rfl)
theorem K116_2_x0 (m:Mem):K116_2 (finK cfg.P f116.results.toList) (.exit 0) (O116_2  m) =
 some ((.tup []),m):=by kernel_rfl
def O117_4 (m:Mem):St:=⟨[.any,.any,.any,.any,.any,.any,.any,.any,.any,.any,.any,.any,.any,.any,.any,.any,.any,.any,.any,.any,.any,.any,.any,.any,.any,.any,.any,.any,.any,.any,.any,.any,.any,.any,.any,.any,.any,.any,.any,.any,.any,.any,.any,.any,.any,.any,.any,.any,.any,.any,.any,.any,.any,.any,.any,.any,.any,.any,.any,.any,.any,.any,.any,.any,.any,.any,.any,.any,.any,.any,.any,.any,.any,.any,.any,.any,.any,.any,.any,.any,.any,.any,.any],m⟩
noncomputable def L117_4 (x1 x2 x4 x8 x41 x42:AV) (m:Mem) (K:KT):OM:=loopW (execW cfg 117 (AP cfg) (AC cfg) (c1 (c1 (c2 (c2 (c2 (c2 (bodyOf f117)))))))) (cfg.mask 117 (some 4)) ⟨[.any,x1,x2,.any,x4,.any,.any,.any,x8,.any,.any,.any,.any,.any,.any,.any,.any,.any,.any,.any,.any,.any,.any,.any,.any,.any,.any,.any,.any,.any,.any,.any,.any,.any,.any,.any,.any,.any,.any,.any,.any,x41,x42,.any,.any,.any,.any,.any,.any,.any,.any,.any,.any,.any,.any,.any,.any,.any,.any,.any,.any,.any,.any,.any,.any,.any,.any,.any,.any,.any,.any,.any,.any,.any,.any,.any,.any,.any,.any,.any,.any,.any,.any],m⟩ K
noncomputable abbrev K117_4_0 (K:KT):KT:=blockK 0 K
noncomputable abbrev K117_4 (K:KT):KT:=(K117_4_0 K)
theorem T117 (a0 a1 a2 a3:AV) (m:Mem):AC cfg 117 [a0,a1,a2,a3] m =
 (boxA none (some 3) m a0).bind fun r1=>
 (fieldAddrA 2 r1.1).bind fun v2=>
 (loadA none (reserve r1.2 1) v2).bind fun v3=>
 (fieldAddrA 1 r1.1).bind fun v4=>
 (loadA none (reserve r1.2 1) v4).bind fun v5=>
 (binA .other .mul a2 v5).bind fun v6=>
 (binA .other .add v6 a3).bind fun v7=>
 (indexAddrA (some 3) v3 v7).bind fun v8=>
 (loadA (some 3) (reserve r1.2 1) v8).bind fun v9=>
 (fieldAddrA 2 r1.1).bind fun v10=>
 (loadA none (reserve r1.2 1) v10).bind fun v11=>
 (fieldAddrA 1 r1.1).bind fun v12=>
 (loadA none (reserve r1.2 1) v12).bind fun v13=>
 (binA .other .mul a1 v13).bind fun v14=>
 (binA .other .add v14 a3).bind fun v15=>
 (indexAddrA (some 3) v11 v15).bind fun v16=>
 (loadA (some 3) (reserve r1.2 1) v16).bind fun v17=>
 (pcall (AP cfg) (some r1.2.length) (reserve r1.2 1) 122 [v9,v17]).bind fun r18=>
 (extractA r18.1 0).bind fun v19=>
 (extractA r18.1 1).bind fun v20=>
 (storeA (some 3) (newAt (some r1.2.length) r18.2 (.obj true [(.bool false),(.lst none true .full []),(.lst none true .full [])])).2 (.ptr (newAt (some r1.2.length) r18.2 .resv).1 0) v19).bind fun m21=>
 (fieldAddrA 1 (.ptr (newAt (some r1.2.length) r18.2 .resv).1 0)).bind fun v22=>
 (loadA none m21 v22).bind fun v23=>
 (lenA false v23).bind fun v24=>
 (binA .other .eql v24 (.int .i64 0)).bind fun v25=>
 ifA v25 (
 some ((.tup []),m21)) (
 (fieldAddrA 1 r1.1).bind fun v26=>
 (loadA none m21 v26).bind fun v27=>
 L117_4 a1 a2 r1.1 (.ptr (newAt (some r1.2.length) r18.2 .resv).1 0) v27 (.int .i64 0) m21 (K117_4 (finK cfg.P f117.results.toList))):=
(AC_eq cfg 117 [a0,a1,a2,a3] m (fn:=f117) (c:=bodyOf f117) at117 rfl).trans (by kernel_rfl)
theorem L117_4_eq (x1 x2 x4 x8 x41 x42:AV) (m:Mem) (K:KT):L117_4 x1 x2 x4 x8 x41 x42 m K =
 (binA .other .lss x42 x41).bind fun v1=>
 ifA v1 (
 (fieldAddrA 2 x4).bind fun v2=>
 (loadA none m v2).bind fun v3=>
 (fieldAddrA 1 x4).bind fun v4=>
 (loadA none m v4).bind fun v5=>
 (binA .other .mul x1 v5).bind fun v6=>
 (binA .other .add v6 x42).bind fun v7=>
 (indexAddrA (some 3) v3 v7).bind fun v8=>
 (loadA (some 3) m v8).bind fun v9=>
 (storeA (some 3) (newAt none m (.obj true [(.bool false),(.lst none true .full []),(.lst none true .full [])])).2 (.ptr (newAt none m .resv).1 0) v9).bind fun m10=>
 (fieldAddrA 1 (.ptr (newAt none m .resv).1 0)).bind fun v11=>
 (loadA none m10 v11).bind fun v12=>
 (lenA false v12).bind fun v13=>
 (binA .other .gtr v13 (.int .i64 0)).bind fun v14=>
 ifA v14 (
 (fieldAddrA 2 x4).bind fun v15=>
 (loadA none m10 v15).bind fun v16=>
 (fieldAddrA 1 x4).bind fun v17=>
 (loadA none m10 v17).bind fun v18=>
 (binA .other .mul x2 v18).bind fun v19=>
 (binA .other .add v19 x42).bind fun v20=>
 (fieldAddrA 2 x4).bind fun v21=>
 (loadA none m10 v21).bind fun v22=>
 (fieldAddrA 1 x4).bind fun v23=>
 (loadA none m10 v23).bind fun v24=>
 (binA .other .mul x2 v24).bind fun v25=>
 (binA .other .add v25 x42).bind fun v26=>
 (indexAddrA (some 3) v22 v26).bind fun v27=>
 (loadA (some 3) m10 v27).bind fun v28=>
 (loadA (some 3) m10 x8).bind fun v29=>
 (loadA (some 3) m10 (.ptr (newAt none m .resv).1 0)).bind fun v30=>
 (pcall (AP cfg) (some m10.length) m10 78 [v29,v30]).bind fun r31=>
 (pcall (AP cfg) (some m10.length) r31.2 135 [v28,r31.1]).bind fun r32=>
 (indexAddrA (some 3) v16 v20).bind fun v33=>
 (storeA (some 3) r32.2 v33 r32.1).bind fun m34=>
 (binA .other .add x42 (.int .i64 1)).bind fun v35=>
 L117_4 x1 x2 x4 x8 x41 v35 m34 K) (
 (binA .other .add x42 (.int .i64 1)).bind fun v36=>
 L117_4 x1 x2 x4 x8 x41 v36 m10 K)) (
 K (.exit 0) (O117_4 m)):=
(loopW_eq (execW_lin _) _ _ _).trans (by kernel_rfl)
theorem K117_4_x0 (m:Mem):K117_4 (finK cfg.P f117.results.toList) (.exit 0) (O117_4  m) =
 some ((.tup []),m):=by kernel_rfl
theorem T134 (a0:AV) (m:Mem):AC cfg 134 [a0] m =
 (boxA none (some 3) m a0).bind fun r1=>
 (fieldAddrA 1 r1.1).bind fun v2=>
 (loadA none r1.2 v2).bind fun v3=>
 (pcall (AP cfg) (some r1.2.length) r1.2 139 [v3]).bind fun r4=>
 (fieldAddrA 2 r1.1).bind fun v5=>
 (loadA none r4.2 v5).bind fun v6=>
 (pcall (AP cfg) (some r1.2.length) r4.2 139 [v6]).bind fun r7=>
 (binA .other .add r4.1 r7.1).bind fun v8=>
 some (v8,r7.2):=
(AC_eq cfg 134 [a0] m (fn:=f134) (c:=bodyOf f134) at134 rfl).trans (by kernel_rfl)
end Go.Ab
set_option linter.unusedVariables false
namespace Go.Ab
open Go.Proofs.Try
def O21_4 (m:Mem):St:=⟨[.any,.any,.any,.any,.any,.any,.any,.any,.any,.any,.any,.any,.any,.any,.any,.any,.any,.any,.any,.any,.any,.any,.any,.any,.any,.any,.any,.any,.any,.any,.any,.any,.any,.any,.any,.any,.any,.any,.any,.any,.any,.any,.any,.any,.any],m⟩
def R21_4 (x2:AV) (m:Mem):St:=⟨[.any,.any,x2,.any,.any,.any,.any,.any,.any,.any,.any,.any,.any,.any,.any,.any,.any,.any,.any,.any,.any,.any,.any,.any,.any,.any,.any,.any,.any,.any,.any,.any,.any,.any,.any,.any,.any,.any,.any,.any,.any,.any,.any,.any,.any],m⟩
noncomputable def L21_4 (x35 x36 x37:AV) (m:Mem) (K:KT):OM:=loopW (execW cfg 21 (AP cfg) (AC cfg) (c1 (c1 (c2 (c1 (c2 (c2 (bodyOf f21)))))))) (cfg.mask 21 (some 4)) ⟨[.any,.any,.any,.any,.any,.any,.any,.any,.any,.any,.any,.any,.any,.any,.any,.any,.any,.any,.any,.any,.any,.any,.any,.any,.any,.any,.any,.any,.any,.any,.any,.any,.any,.any,.any,x35,x36,x37,.any,.any,.any,.any,.any,.any,.any],m⟩ K
noncomputable abbrev K21_4_0 (K:KT):KT:=seqK (fun st=>execW cfg 21 (AP cfg) (AC cfg) (c2 (c2 (c2 (bodyOf f21)))) st K) K
noncomputable abbrev K21_4_1 (K:KT):KT:=blockK 0 (K21_4_0 K)
noncomputable abbrev K21_4 (K:KT):KT:=(K21_4_1 K)
theorem T21 (a0:AV) (m:Mem):AC cfg 21 [a0] m =
 (boxA none (some 3) m a0).bind fun r1=>
 (fieldAddrA 0 r1.1).bind fun v2=>
 (loadA none r1.2 v2).bind fun v3=>
 (binA .other .lss v3 (.int .i64 0)).bind fun v4=>
 ifA v4 (
 some ((.bool false),r1.2)) (
 (fieldAddrA 0 r1.1).bind fun v5=>
 (loadA none r1.2 v5).bind fun v6=>
 (binA .other .gtr v6 (.int .i64 60)).bind fun v7=>
 ifA v7 (
 some ((.bool false),r1.2)) (
 (fieldAddrA 1 r1.1).bind fun v8=>
 (loadA none r1.2 v8).bind fun v9=>
 (binA .other .lss v9 (.int .i64 0)).bind fun v10=>
 ifA v10 (
 some ((.bool false),r1.2)) (
 (fieldAddrA 1 r1.1).bind fun v11=>
 (loadA none r1.2 v11).bind fun v12=>
 (binA .other .gtr v12 (.int .i64 60)).bind fun v13=>
 ifA v13 (
 some ((.bool false),r1.2)) (
 (fieldAddrA 2 r1.1).bind fun v14=>
 (loadA none r1.2 v14).bind fun v15=>
 (lenA false v15).bind fun v16=>
 (fieldAddrA 0 r1.1).bind fun v17=>
 (loadA none r1.2 v17).bind fun v18=>
 (fieldAddrA 1 r1.1).bind fun v19=>
 (loadA none r1.2 v19).bind fun v20=>
 (binA .other .mul v18 v20).bind fun v21=>
 (binA .other .neq v16 v21).bind fun v22=>
 ifA v22 (
 some ((.bool false),r1.2)) (
 (fieldAddrA 2 r1.1).bind fun v23=>
 (loadA none r1.2 v23).bind fun v24=>
 (lenA false v24).bind fun v25=>
 L21_4 v24 v25 (.int .i64 0) r1.2 (K21_4 (finK cfg.P f21.results.toList))))))):=
(AC_eq cfg 21 [a0] m (fn:=f21) (c:=bodyOf f21) at21 rfl).trans (by kernel_rfl)
theorem L21_4_eq (x35 x36 x37:AV) (m:Mem) (K:KT):L21_4 x35 x36 x37 m K =
 (binA .other .lss x37 x36).bind fun v1=>
 ifA v1 (
 (indexAddrA (some 3) x35 x37).bind fun v2=>
 (loadA (some 3) m v2).bind fun v3=>
 (storeA (some 3) (newAt none m (.obj true [(.bool false),(.lst none true .full []),(.lst none true .full [])])).2 (.ptr (newAt none m .resv).1 0) v3).bind fun m4=>
 (loadA (some 3) m4 (.ptr (newAt none m .resv).1 0)).bind fun v5=>
 (pcall (AP cfg) none m4 65 [v5]).bind fun r6=>
 (unA .not r6.1).bind fun v7=>
 ifA v7 (
 K .ret (R21_4 (.bool false) r6.2)) (
 (binA .other .add x37 (.int .i64 1)).bind fun v8=>
 L21_4 x35 x36 v8 r6.2 K)) (
 K (.exit 0) (O21_4 m)):=
(loopW_eq (execW_lin _) _ _ _).trans (by kernel_rfl)
theorem K21_4_x0 (m:Mem):K21_4 (finK cfg.P f21.results.toList) (.exit 0) (O21_4  m) =
 some ((.bool true),m):=by kernel_rfl
theorem K21_4_ret (x2:AV) (m:Mem):K21_4 (finK cfg.P f21.results.toList) .ret (R21_4 x2 m) =
 some (x2,m):=by kernel_rfl
end Go.Ab
set_option linter.unusedVariables false
set_option linter.unusedSimpArgs false
namespace Go.Ab
open Go.Proofs.Try
theorem st_last {m:Mem} {x r:RV}:storeA (some 3) (m++[cR x]) (.ptr m.length 0) r.av=some (m++[cR r]):=by
 rw[rstA (get_last:(m++[cR x])[m.length]?=some (cR x)),List.set_append_right _ _ (Nat.le_refl _),Nat.sub_self,List.set_cons_zero]
theorem ld_last {m:Mem} {r:RV}:loadA (some 3) (m++[cR r]) (.ptr m.length 0)=some r.av:=rldA get_last
theorem new_z' (m:Mem):newAt none m (.obj true [.bool false,.lst none true .full [],.lst none true .full []])=(m.length,m++[cR zR]):=rfl
def sizeB (x:MV):Bool:=decide (0≤x.rows∧x.rows≤60∧0≤x.cols∧x.cols≤60∧(x.lv.es.length:Int)=x.rows*x.cols)
def rightM (x:MV):Bool:=sizeB x&&x.lv.es.all rightR
theorem mul60 {a b:Int} (h1:0≤a) (h2:a≤60) (h3:0≤b) (h4:b≤60):0≤a*b∧a*b≤3600:=by
 obtain ⟨x,rfl⟩:=Int.eq_ofNat_of_zero_le h1
 obtain ⟨y,rfl⟩:=Int.eq_ofNat_of_zero_le h3
 have:x*y≤60*60:=Nat.mul_le_mul (by omega) (by omega)
 rw[← Int.natCast_mul]
 omega
theorem i_mul60 {a b:Int} (h1:0≤a) (h2:a≤60) (h3:0≤b) (h4:b≤60):binA .other .mul (.int .i64 a) (.int .i64 b)=some (.int .i64 (a*b)):=by
 obtain ⟨k1,k2⟩:=mul60 h1 h2 h3 h4
 rw[binA_mul,wrap_i64 (by omega) (by omega)]
theorem W20 (l:LV) (k:Nat) (hl:LOk k l) (hk:k<2^38) (hlen:l.es.length<2^40) (K:KT):∀ (j i:Nat) (m:Mem),i+j=l.es.length →
  ∃ m',L20_4 l.av (.int .i64 l.es.length) (.int .i64 i) m K=if (l.es.drop i).all rightR=true then K (.exit 0) (O20_4 m') else K .ret (R20_4 (.bool false) m'):=by
 intro j
 induction j with
 | zero=>
  intro i m hi
  refine ⟨m,?_⟩
  rw[L20_4_eq,n_lss,oBs,ifA_dec,if_neg (by omega),List.drop_of_length_le (by omega)]
  rfl
 | succ j ih=>
  intro i m hi
  have hil:i<l.es.length:=by omega
  have hr:=hl.ok l.es[i] (List.getElem_mem hil)
  have hf:=hl.fr l.es[i] (List.getElem_mem hil)
  obtain ⟨m',ih⟩:=ih (i+1) (m++[cR l.es[i]]) (by omega)
  have e1:=V64 hr
  have hd:l.es.drop i=l.es[i]::l.es.drop (i+1):=List.drop_eq_getElem_cons hil
  rw[hd,List.all_cons]
  rw[L20_4_eq,n_lss,oBs,ifA_dec,if_pos hil,index_lv hl hil,oBs,load_row,oBs,new_z',new_r,st_last,oBs,ld_last,oBs,pcR,hf,e1,Option.map_some,oBs,not_b,oBs]
  cases hb:rightR l.es[i] with
  | false=>exact ⟨_,rfl⟩
  | true=>
   refine ⟨m',?_⟩
   rw[Bool.not_true,ifA_false,i_add1 (by omega),oBs,ih,Bool.true_and]
theorem V20 {x:MV} {k:Nat} (h:LOk k x.lv) (hk:k<2^38) (hlen:x.lv.es.length<2^40):AP cfg 20 [x.av]=some (.bool (rightM x)):=by
 have g:([cM x]:Mem)[0]?=some (cM x):=rfl
 have key:∃ m',AC cfg 20 [x.av] []=some (.bool (rightM x),m'):=by
  rw[T20,box_mv]
  simp only[oBs,fld0,fld1,fld2,List.length_nil,List.nil_append]
  rw[mld0 g,oBs,binA_lss,oBs,ifA_dec]
  unfold rightM sizeB
  by_cases c1:x.rows<0
  ·rw[if_pos c1,decide_eq_false (by omega)];exact ⟨_,rfl⟩
  rw[if_neg c1,oBs,binA_gtr,oBs,ifA_dec]
  by_cases c2:x.rows>60
  ·rw[if_pos c2,decide_eq_false (by omega)];exact ⟨_,rfl⟩
  rw[if_neg c2,mld1 g,oBs,binA_lss,oBs,ifA_dec]
  by_cases c3:x.cols<0
  ·rw[if_pos c3,decide_eq_false (by omega)];exact ⟨_,rfl⟩
  rw[if_neg c3,oBs,binA_gtr,oBs,ifA_dec]
  by_cases c4:x.cols>60
  ·rw[if_pos c4,decide_eq_false (by omega)];exact ⟨_,rfl⟩
  rw[if_neg c4,mld2 g,oBs,len_lv,oBs,oBs,oBs,i_mul60 (by omega) (by omega) (by omega) (by omega),oBs,binA_neq,oBs,ifA_dec]
  by_cases c5:(x.lv.es.length:Int)=x.rows*x.cols
  ·obtain ⟨m',hw⟩:=W20 x.lv k h hk hlen (K20_4 (finK cfg.P f20.results.toList)) x.lv.es.length 0 [cM x] (by omega)
   rw[if_neg (fun hn=>hn c5),oBs,len_lv,oBs]
   refine ⟨m',hw.trans ?_⟩
   rw[decide_eq_true ⟨by omega,by omega,by omega,by omega,c5⟩,Bool.true_and,List.drop_zero,K20_4_x0,K20_4_ret]
   cases x.lv.es.all rightR<;>rfl
  ·rw[if_pos c5,decide_eq_false (fun hn=>c5 hn.2.2.2.2)];exact ⟨_,rfl⟩
 obtain ⟨m',hm⟩:=key
 exact AP_ofz _ _ (fz_bool _) rfl hm
theorem W21 (l:LV) (k:Nat) (hl:LOk k l) (hk:k<2^38) (hlen:l.es.length<2^40) (K:KT):∀ (j i:Nat) (m:Mem),i+j=l.es.length →
  ∃ m',L21_4 l.av (.int .i64 l.es.length) (.int .i64 i) m K=if (l.es.drop i).all rightR=true then K (.exit 0) (O21_4 m') else K .ret (R21_4 (.bool false) m'):=by
 intro j
 induction j with
 | zero=>
  intro i m hi
  refine ⟨m,?_⟩
  rw[L21_4_eq,n_lss,oBs,ifA_dec,if_neg (by omega),List.drop_of_length_le (by omega)]
  rfl
 | succ j ih=>
  intro i m hi
  have hil:i<l.es.length:=by omega
  have hr:=hl.ok l.es[i] (List.getElem_mem hil)
  have hf:=hl.fr l.es[i] (List.getElem_mem hil)
  obtain ⟨m',ih⟩:=ih (i+1) (m++[cR l.es[i]]) (by omega)
  have e1:=V65 hr hk
  have hd:l.es.drop i=l.es[i]::l.es.drop (i+1):=List.drop_eq_getElem_cons hil
  rw[hd,List.all_cons]
  rw[L21_4_eq,n_lss,oBs,ifA_dec,if_pos hil,index_lv hl hil,oBs,load_row,oBs,new_z',new_r,st_last,oBs,ld_last,oBs,pcR,hf,e1,Option.map_some,oBs,not_b,oBs]
  cases hb:rightR l.es[i] with
  | false=>exact ⟨_,rfl⟩
  | true=>
   refine ⟨m',?_⟩
   rw[Bool.not_true,ifA_false,i_add1 (by omega),oBs,ih,Bool.true_and]
theorem V21 {x:MV} {k:Nat} (h:LOk k x.lv) (hk:k<2^38) (hlen:x.lv.es.length<2^40):AP cfg 21 [x.av]=some (.bool (rightM x)):=by
 have g:([cM x]:Mem)[0]?=some (cM x):=rfl
 have key:∃ m',AC cfg 21 [x.av] []=some (.bool (rightM x),m'):=by
  rw[T21,box_mv]
  simp only[oBs,fld0,fld1,fld2,List.length_nil,List.nil_append]
  rw[mld0 g,oBs,binA_lss,oBs,ifA_dec]
  unfold rightM sizeB
  by_cases c1:x.rows<0
  ·rw[if_pos c1,decide_eq_false (by omega)];exact ⟨_,rfl⟩
  rw[if_neg c1,oBs,binA_gtr,oBs,ifA_dec]
  by_cases c2:x.rows>60
  ·rw[if_pos c2,decide_eq_false (by omega)];exact ⟨_,rfl⟩
  rw[if_neg c2,mld1 g,oBs,binA_lss,oBs,ifA_dec]
  by_cases c3:x.cols<0
  ·rw[if_pos c3,decide_eq_false (by omega)];exact ⟨_,rfl⟩
  rw[if_neg c3,oBs,binA_gtr,oBs,ifA_dec]
  by_cases c4:x.cols>60
  ·rw[if_pos c4,decide_eq_false (by omega)];exact ⟨_,rfl⟩
  rw[if_neg c4,mld2 g,oBs,len_lv,oBs,oBs,oBs,i_mul60 (by omega) (by omega) (by omega) (by omega),oBs,binA_neq,oBs,ifA_dec]
  by_cases c5:(x.lv.es.length:Int)=x.rows*x.cols
  ·obtain ⟨m',hw⟩:=W21 x.lv k h hk hlen (K21_4 (finK cfg.P f21.results.toList)) x.lv.es.length 0 [cM x] (by omega)
   rw[if_neg (fun hn=>hn c5),oBs,len_lv,oBs]
   refine ⟨m',hw.trans ?_⟩
   rw[decide_eq_true ⟨by omega,by omega,by omega,by omega,c5⟩,Bool.true_and,List.drop_zero,K21_4_x0,K21_4_ret]
   cases x.lv.es.all rightR<;>rfl
  ·rw[if_pos c5,decide_eq_false (fun hn=>c5 hn.2.2.2.2)];exact ⟨_,rfl⟩
 obtain ⟨m',hm⟩:=key
 exact AP_ofz _ _ (fz_bool _) rfl hm
end Go.Ab
set_option linter.unusedVariables false
set_option linter.unusedSimpArgs false
namespace Go.Ab
open Go.Proofs.Try
def copyR (r:RV):RV:=⟨r.neg,rowN r.num.ds,rowN r.den.ds⟩
theorem copyR_fr (r:RV):(copyR r).fr=copyR r:=by simp only[copyR,RV.fr,rowN_fr]
def tkV (k:Nat) (ds:List Nat):NV:=if ds=[] then nilV else ⟨false,.tok k 116,ds⟩
theorem tkV_fr (k:Nat) (ds:List Nat):(tkV k ds).fr=rowN ds:=by unfold tkV rowN;split<;>rfl
theorem app_nilk {m:Mem} {k:Nat} {x:NV} (hk:m[k]?=some (some .resv)) (h:x.ds.length*4≤roomA):∃ m',appA (some k) false 116 none 4 m (.lst none true .full []) x.av=some ((tkV k x.ds).av,m')∧(∀ j,j≠k→m'[j]?=m[j]?)∧m'.length=m.length:=by
 obtain ⟨z,o,ds⟩:=x
 cases ds with
 | nil=>exact ⟨m,rfl,fun _ _=>rfl,rfl⟩
 | cons d ds=>
  have h2:(ds.length+1)*4≤roomA:=by simpa using h
  refine ⟨m.set k (some (.tok (ds.length+1) 1)),?_,fun j hj=>List.getElem?_set_ne (fun e=>hj e.symm),by simp⟩
  simp only[tkV,NV.av,appA,List.map_cons,List.length_cons,List.length_nil,List.length_map,Nat.zero_add,h2,if_true,newAt,Sh.size,List.nil_append,reduceCtorEq,if_false,Bool.false_eq_true,or_true]
theorem V67 {r:RV} {k:Nat} (h:ROk k r):AP cfg 67 [r.av]=some (copyR r).av:=by
 have hn:=h.num.len
 have hd:=h.den.len
 obtain ⟨m1,a1,a2,a3⟩:=app_nilk (m:=[cR r,cR zR,some .resv,some .resv]) (k:=2) (x:=r.num) rfl (by simp only[roomA];omega)
 obtain ⟨m2,b1,b2,b3⟩:=app_nilk (m:=m1) (k:=3) (x:=r.den) (by rw[a2 3 (by omega)];rfl) (by simp only[roomA];omega)
 have g1:m2[1]?=some (cR zR):=by rw[b2 1 (by omega),a2 1 (by omega)];rfl
 have hfr:(RV.mk r.neg (tkV 2 r.num.ds) (tkV 3 r.den.ds)).fr=copyR r:=by simp only[RV.fr,tkV_fr,copyR]
 have hl:1<m2.length:=by rw[b3,a3];simp
 refine (AP_ofz _ _ (fz_rv ⟨r.neg,tkV 2 r.num.ds,tkV 3 r.den.ds⟩) (noV_rv _) (m:=m2.set 1 (cR ⟨r.neg,tkV 2 r.num.ds,tkV 3 r.den.ds⟩)) ?_).trans (by rw[hfr])
 rw[T67]
 simp only[oBs,box_rv,new_z',new_r,fld0,fld1,fld2,res2,List.length_nil,List.nil_append,List.length_cons,List.cons_append,Nat.zero_add,ld0neg,ld0num,ld0den,Nat.reduceAdd]
 rw[a1]
 simp only[oBs]
 rw[b1]
 simp only[oBs,nil_av,bld012]
 rw[rstA g1,oBs,rldA (by rw[List.getElem?_set_self hl])]
 rfl
def Kn (n:Nat) (m m':Mem):Prop:=m.length≤m'.length∧∀ (p:Nat) (bx:Bool) (cs:List AV),p≠n→m[p]?=some (some (Ent.obj bx cs))→m'[p]?=some (some (Ent.obj bx cs))
theorem Kn.trans {n:Nat} {a b c:Mem} (h:Kn n a b) (k:Kn n b c):Kn n a c:=⟨Nat.le_trans h.1 k.1,fun p bx cs hp hh=>k.2 p bx cs hp (h.2 p bx cs hp hh)⟩
theorem Kp.kn {a b:Mem} (h:Kp a b) (n:Nat):Kn n a b:=⟨h.1,fun p bx cs _ hh=>h.2 p bx cs hh⟩
theorem push {m:Mem} {n:Nat} {y:MV} {r:RV} (hb:m[n]?=some (cM y)) (hr:RowAt m y.lv) (hlen:y.lv.es.length<5000) :
  ∃ l' m' m'',appA (some m.length) false 43 (some 3) 56 (reserve m 1) y.lv.av (.lst (some 3) false .full [r.av])=some (l'.av,m')∧l'.es=y.lv.es++[r]∧storeA none m' (.ptr n 2) l'.av=some m''∧m''[n]?=some (cM ⟨y.rows,y.cols,l'⟩)∧RowAt m'' l'∧Kn n m m'':=by
 rw[res1]
 obtain ⟨l',m',h1,h2,h3,h4⟩:=app_mat (r:=r) (hr.app [some .resv]) (k:=m.length) get_last (by simp only[roomA];omega)
 have hk:=(Kp.app m [some .resv]).trans h4
 have hb':=hk.2 n true _ hb
 have hnl:n<m'.length:=by
  apply Classical.byContradiction
  intro hc
  rw[List.getElem?_eq_none (by omega)] at hb'
  cases hb'
 refine ⟨l',m',_,h1,h3,mst2 hb',by rw[List.getElem?_set_self hnl],h2.set hb' _,?_⟩
 refine ⟨by rw[List.length_set];exact hk.1,fun p bx cs hp hh=>?_⟩
 rw[List.getElem?_set_ne (fun e=>hp e.symm)]
 exact hk.2 p bx cs hh
theorem RowAt.mono {m m':Mem} {l:LV} (h:RowAt m l) {r:RV} (e:m'=m++[cR r]):RowAt m' l:=e▸h.app _
theorem rowAt_lok {m:Mem} {l:LV} {k:Nat} (h:RowAt m l) (hf:∀ r∈l.es,r.fr=r) (ho:∀ r∈l.es,ROk k r):LOk k l:=by
 rcases h with rfl|⟨h1,h2,h3,_⟩
 ·exact ⟨.inr rfl,fun _=>rfl,hf,ho⟩
 ·exact ⟨.inl h1,fun hz=>absurd (h2.symm.trans hz) (by decide),hf,ho⟩
theorem rowAt_fr {m:Mem} {l:LV} (h:RowAt m l):l.fr.fr=l.fr:=by
 rcases h with rfl|⟨h1,h2,h3,nm,h4,_⟩
 ·rfl
 ·obtain ⟨sh,z,o,es⟩:=l
  simp only at h4
  subst h4
  rfl
theorem bldM01 (a b:Int):buildA (.agg [.int .i64 0,.int .i64 0,.lst none true .full []]) [(0,none,.int .i64 a),(1,none,.int .i64 b)]=some (MV.av ⟨a,b,nilL⟩):=rfl
theorem bldM:buildA (.agg [.int .i64 0,.int .i64 0,.lst none true .full []]) []=some zM.av:=rfl
theorem W56 {x:MV} {k:Nat} (hx:LOk k x.lv) (hlen:x.lv.es.length<4500) (K:KT):∀ (j i:Nat) (m:Mem) (l:LV),i+j=x.lv.es.length→m[1]?=some (cM zM)→m[2]?=some (cM ⟨x.rows,x.cols,l⟩)→RowAt m l→l.es=(x.lv.es.take i).map copyR →
  ∃ m' l',m'[1]?=some (cM zM)∧m'[2]?=some (cM ⟨x.rows,x.cols,l'⟩)∧RowAt m' l'∧l'.es=x.lv.es.map copyR∧L56_3 (.ptr 1 0) (.ptr 2 0) x.lv.av (.int .i64 x.lv.es.length) (.int .i64 i) m K=K (.exit 0) (O56_3 (.ptr 1 0) (.ptr 2 0) m'):=by
 intro j
 induction j with
 | zero=>
  intro i m l hi h1 h2 h3 h4
  refine ⟨m,l,h1,h2,h3,by rw[h4,List.take_of_length_le (by omega)],?_⟩
  rw[L56_3_eq,n_lss,oBs,ifA_dec,if_neg (by omega)]
 | succ j ih=>
  intro i m l hi h1 h2 h3 h4
  have hil:i<x.lv.es.length:=by omega
  have hr:=hx.ok x.lv.es[i] (List.getElem_mem hil)
  have hf:=hx.fr x.lv.es[i] (List.getElem_mem hil)
  have kp:=Kp.app m [cR x.lv.es[i]]
  have hb:=kp.2 2 true _ h2
  have hll:l.es.length<5000:=by rw[h4];simp;omega
  obtain ⟨l',m1,m2,p1,p2,p3,p4,p5,p6⟩:=push (r:=copyR x.lv.es[i]) hb (h3.app [cR x.lv.es[i]]) hll
  have kq:=kp.trans (Kp.app (m++[cR x.lv.es[i]]) [some .resv])
  obtain ⟨m',l'',q1,q2,q3,q4,q5⟩:=ih (i+1) m2 l' (by omega) (p6.2 1 true _ (by omega) (kp.2 1 true _ h1)) p4 p5 (by
   rw[p2]
   show l.es++_=_
   rw[h4,List.take_succ_eq_append_getElem hil,List.map_append];rfl)
  refine ⟨m',l'',q1,q2,q3,q4,?_⟩
  have g2:=kq.2 2 true _ h2
  have gr:((m++[cR x.lv.es[i]])++[some Ent.resv])[m.length]?=some (cR x.lv.es[i]):=by
   rw[List.getElem?_append_left (by simp)];exact get_last
  rw[L56_3_eq,n_lss,oBs,ifA_dec,if_pos hil,index_lv hx hil,oBs,load_row,oBs,new_z',new_r,st_last,oBs,fld2,oBs]
  rw[res1] at p1 ⊢
  rw[mld2 g2,oBs,rldA gr,oBs,pcR,hf,V67 hr,Option.map_some,oBs,build_row (copyR_fr _),oBs,p1,oBs,oBs,p3,oBs,i_add1 (by omega),oBs]
  exact q5
end Go.Ab
set_option linter.unusedVariables false
namespace Go.Ab
open Go.Proofs.Try
end Go.Ab
set_option linter.unusedVariables false
set_option linter.unusedSimpArgs false
namespace Go.Ab
open Go.Proofs.Try
theorem pcM {m:Mem} {d:Option Nat} {g:Nat} (x:MV):pcall (AP cfg) d m g [x.av]=(AP cfg g [x.fr.av]).map fun v=>(v,m):=pcall1 (fz_mv x)
theorem pcII {m:Mem} {d:Option Nat} {g:Nat} (k k':IntKind) (a b:Int):pcall (AP cfg) d m g [.int k a,.int k' b]=(AP cfg g [.int k a,.int k' b]).map fun v=>(v,m):=pcall2 (fz_int k a) (fz_int k' b)
def sizeE (a b:Int):Int:=if a<0∨b<0 then 1 else if a>60∨b>60 then 2 else 0
theorem V57 (a b:Int):AP cfg 57 [.int .i64 a,.int .i64 b]=some (.int .i64 (sizeE a b)):=by
 refine AP_ofz _ _ (fz_int _ _) rfl (m:=[]) ?_
 rw[T57,binA_lss,oBs,ifA_dec]
 unfold sizeE
 by_cases c1:a<0
 ·rw[if_pos c1,if_pos (.inl c1)]
 ·rw[if_neg c1,binA_lss,oBs,ifA_dec]
  by_cases c2:b<0
  ·rw[if_pos c2,if_pos (.inr c2)]
  ·rw[if_neg c2,if_neg (fun h=>h.elim c1 c2),binA_gtr,oBs,ifA_dec]
   by_cases c3:a>60
   ·rw[if_pos c3,if_pos (.inl c3)]
   ·rw[if_neg c3,binA_gtr,oBs,ifA_dec]
    by_cases c4:b>60
    ·rw[if_pos c4,if_pos (.inr c4)]
    ·rw[if_neg c4,if_neg (fun h=>h.elim c3 c4)]
def rowF (F:Nat→Nat→RV) (cols i:Nat):List RV:=(List.range cols).map (F i)
def cellsF (F:Nat→Nat→RV) (cols:Nat):Nat→List RV
 | 0=>[]
 | i+1=>cellsF F cols i++rowF F cols i
theorem cellsF_length (F:Nat→Nat→RV) (cols:Nat):∀ i,(cellsF F cols i).length=i*cols
 | 0=>by simp[cellsF]
 | i+1=>by simp[cellsF,rowF,cellsF_length F cols i,Nat.succ_mul]
theorem cellsF_mem {F:Nat→Nat→RV} {cols:Nat} {r:RV}:∀ {i:Nat},r∈cellsF F cols i→∃ a b,a<i∧b<cols∧r=F a b
 | 0,h=>by simp[cellsF] at h
 | i+1,h=>by
  simp only[cellsF,List.mem_append] at h
  rcases h with h|h
  ·obtain ⟨a,b,h1,h2,h3⟩:=cellsF_mem h
   exact ⟨a,b,by omega,h2,h3⟩
  ·simp only[rowF,List.mem_map,List.mem_range] at h
   obtain ⟨b,hb,rfl⟩:=h
   exact ⟨i,b,by omega,hb,rfl⟩
theorem callK_p {fid g:Nat} {vs:List AV} {m:Mem} {d:Option Nat} {K:AV→Mem→OM} (hi:cfg.inl fid g=false) (hl:cfg.lib g=none):callK cfg fid (AP cfg) (AC cfg) d g vs m K=(pcall (AP cfg) d m g vs).bind fun r=>K r.1 r.2:=by
 unfold callK
 rw[show cfg.libm g=none from rfl]
 simp only[]
 rw[hl]
 simp only[]
 rw[hi]
structure FillOk (g:Nat) (cs:List AV) (F:Nat→Nat→RV) (rows cols k:Nat):Prop where
 inl:cfg.inl 58 g=false
 lib:cfg.lib g=none
 csz:∀ m,mapF (frz m fuelF) cs=some (cs,[])
 call:∀ i j:Nat,i<rows→j<cols→AP cfg g ([.int .i64 i,.int .i64 j]++cs)=some (F i j).av
 fr:∀ i j:Nat,i<rows→j<cols→(F i j).fr=F i j
 ok:∀ i j:Nat,i<rows→j<cols→ROk k (F i j)
theorem pc_fill {g:Nat} {cs:List AV} {F:Nat→Nat→RV} {rows cols k:Nat} (h:FillOk g cs F rows cols k) {i j:Nat} (hi:i<rows) (hj:j<cols) {m:Mem} {d:Option Nat}:pcall (AP cfg) d m g ([.int .i64 i,.int .i64 j]++cs)=some ((F i j).av,m):=by
 have e:mapF (frz m fuelF) ([.int .i64 i,.int .i64 j]++cs)=some ([.int .i64 i,.int .i64 j]++cs,[]):=by
  have h1:=h.csz m
  have f1:∀ n:Int,frz m fuelF (.int .i64 n)=some (.int .i64 n,[]):=fun _=>rfl
  simp[mapF,h1,f1]
 unfold pcall
 rw[e]
 have hc:=h.call i j hi hj
 simp only[List.cons_append,List.nil_append] at hc
 simp[hc,kill]
theorem W58_6 {g:Nat} {cs:List AV} {F:Nat→Nat→RV} {rows cols k:Nat} (h:FillOk g cs F rows cols k) (hr:rows≤60) (hc:cols≤60) (K:KT) {i:Nat} (hi:i<rows) (x13 x14:AV):∀ (j c:Nat) (m:Mem) (l:LV),c+j=cols→m[0]?=some (cM zM)→m[1]?=some (cM ⟨rows,cols,l⟩)→RowAt m l→l.es=cellsF F cols i++(List.range c).map (F i) →
  ∃ m' l',m'[0]?=some (cM zM)∧m'[1]?=some (cM ⟨rows,cols,l'⟩)∧RowAt m' l'∧l'.es=cellsF F cols (i+1)∧L58_6 (.int .i64 cols) (.fn g cs) (.ptr 0 0) (.ptr 1 0) (.int .i64 i) x13 x14 (.int .i64 cols) (.int .i64 c) m K=K (.exit 2) (O58_6 (.int .i64 cols) (.fn g cs) (.ptr 0 0) (.ptr 1 0) x13 x14 m'):=by
 intro j
 induction j with
 | zero=>
  intro c m l hcj h1 h2 h3 h4
  have:c=cols:=by omega
  subst this
  refine ⟨m,l,h1,h2,h3,h4,?_⟩
  rw[L58_6_eq,n_lss,oBs,ifA_dec,if_neg (by omega)]
 | succ j ih=>
  intro c m l hcj h1 h2 h3 h4
  have hcl:c<cols:=by omega
  have hle:i*cols≤60*60:=Nat.mul_le_mul (by omega) hc
  have hll:l.es.length<5000:=by rw[h4,List.length_append,cellsF_length,List.length_map,List.length_range];omega
  obtain ⟨l',m1,m2,p1,p2,p3,p4,p5,p6⟩:=push (r:=F i c) h2 h3 hll
  obtain ⟨m',l'',q1,q2,q3,q4,q5⟩:=ih (c+1) m2 l' (by omega) (p6.2 0 true _ (by omega) h1) p4 p5 (by
   rw[p2]
   show l.es++_=_
   rw[h4,List.range_succ,List.map_append,List.append_assoc];rfl)
  refine ⟨m',l'',q1,q2,q3,q4,?_⟩
  have g2:=(Kp.app m [some .resv]).2 1 true _ h2
  rw[L58_6_eq,n_lss,oBs,ifA_dec,if_pos hcl,fld2,oBs]
  have hfn:fnOf (.fn g cs)=some (g,cs):=rfl
  have p1':=p1
  rw[res1] at p1' ⊢
  rw[mld2 g2,oBs,hfn,oBs,callK_p h.inl h.lib,pc_fill h hi hcl,oBs,build_row (h.fr i c hi hcl),oBs,p1',oBs,oBs,p3,oBs,i_add1 (by omega),oBs]
  exact q5
theorem W58_3 {g:Nat} {cs:List AV} {F:Nat→Nat→RV} {rows cols k:Nat} (h:FillOk g cs F rows cols k) (hr:rows≤60) (hc:cols≤60) (K:KT):∀ (j i:Nat) (m:Mem) (l:LV),i+j=rows→m[0]?=some (cM zM)→m[1]?=some (cM ⟨rows,cols,l⟩)→RowAt m l→l.es=cellsF F cols i →
  ∃ m' l',m'[0]?=some (cM zM)∧m'[1]?=some (cM ⟨rows,cols,l'⟩)∧RowAt m' l'∧l'.es=cellsF F cols rows∧L58_3 (.int .i64 cols) (.fn g cs) (.ptr 0 0) (.ptr 1 0) (.int .i64 rows) (.int .i64 i) m K=K (.exit 0) (O58_3 (.ptr 0 0) (.ptr 1 0) m'):=by
 intro j
 induction j with
 | zero=>
  intro i m l hij h1 h2 h3 h4
  have:i=rows:=by omega
  subst this
  refine ⟨m,l,h1,h2,h3,h4,?_⟩
  rw[L58_3_eq,n_lss,oBs,ifA_dec,if_neg (by omega)]
 | succ j ih=>
  intro i m l hij h1 h2 h3 h4
  have hil:i<rows:=by omega
  obtain ⟨m1,l1,a1,a2,a3,a4,a5⟩:=W58_6 h hr hc (K58_6 K) hil (.int .i64 rows) (.int .i64 i) cols 0 m l (by omega) h1 h2 h3 (by rw[h4];simp)
  obtain ⟨m',l',q1,q2,q3,q4,q5⟩:=ih (i+1) m1 l1 (by omega) a1 a2 a3 a4
  refine ⟨m',l',q1,q2,q3,q4,?_⟩
  rw[L58_3_eq,n_lss,oBs,ifA_dec,if_pos hil]
  refine Eq.trans ?_ (a5.trans ?_)
  ·rfl
  rw[K58_6_x2,i_add1 (by omega),oBs]
  exact q5
theorem V58 {g:Nat} {cs:List AV} {F:Nat→Nat→RV} {rows cols k:Nat} (h:FillOk g cs F rows cols k) (hr:rows≤60) (hc:cols≤60):∃ y:MV,AP cfg 58 [.int .i64 rows,.int .i64 cols,.fn g cs]=some y.av∧y.rows=rows∧y.cols=cols∧y.lv.es=cellsF F cols rows∧LOk k y.lv∧y.fr=y:=by
 obtain ⟨m',l',q1,q2,q3,q4,q5⟩:=W58_3 h hr hc (K58_3 (finK cfg.P f58.results.toList)) rows 0 [cM zM,cM ⟨rows,cols,nilL⟩] nilL (by omega) rfl rfl (.inl rfl) rfl
 have hl1:0<m'.length:=by
  apply Classical.byContradiction
  intro hcc
  rw[List.getElem?_eq_none (by omega)] at q1
  cases q1
 have hlo:LOk k l':=rowAt_lok q3 (by rw[q4];intro r hr;obtain ⟨a,b,h1,h2,rfl⟩:=cellsF_mem hr;exact h.fr a b h1 h2) (by rw[q4];intro r hr;obtain ⟨a,b,h1,h2,rfl⟩:=cellsF_mem hr;exact h.ok a b h1 h2)
 refine ⟨⟨rows,cols,l'.fr⟩,AP_ofz _ _ (fz_mv ⟨rows,cols,l'⟩) (noV_mv _) (m:=m'.set 0 (cM ⟨rows,cols,l'⟩)) ?_,rfl,rfl,q4,hlo.fr',by simp only[MV.fr,rowAt_fr q3]⟩
 have e2:([cM zM,cM zM]:Mem)[1]?=some (cM zM):=rfl
 rw[T58,bldM01,oBs]
 simp only[new_m,new_r,List.length_nil,List.nil_append,List.length_cons,List.cons_append,Nat.zero_add]
 rw[mstA e2,oBs]
 simp only[List.set_cons_succ,List.set_cons_zero]
 refine q5.trans ?_
 rw[K58_3_x0,mldA q2,oBs,mstA q1,oBs,mldA (by rw[List.getElem?_set_self hl1])]
 rfl
def unitR (a b:Nat):RV:=if a=b then oneR else zeroR
theorem unitR_fr (a b:Nat):(unitR a b).fr=unitR a b:=by unfold unitR;split<;>rfl
theorem V62 (a b:Nat):AP cfg 62 [.int .i64 a,.int .i64 b]=some (unitR a b).av:=by
 unfold unitR
 by_cases h:a=b
 ·rw[if_pos h]
  refine AP_ofz _ _ (fz_rv oneR) (noV_rv _) (m:=[cR oneR]) ?_
  rw[T62,n_eql,oBs,ifA_dec,if_pos h]
  simp only[new_z',new_r,List.length_nil,List.nil_append]
  rw[pc0,V84,Option.map_some,oBs,rstA (x:=zR) rfl,oBs]
  simp only[List.set_cons_zero]
  rw[rldA (x:=oneR) rfl]
  rfl
 ·rw[if_neg h]
  refine AP_ofz _ _ (fz_rv zeroR) (noV_rv _) (m:=[cR zeroR]) ?_
  rw[T62,n_eql,oBs,ifA_dec,if_neg h]
  simp only[new_z',new_r,List.length_nil,List.nil_append]
  rw[pc0,V60,Option.map_some,oBs,rstA (x:=zR) rfl,oBs]
  simp only[List.set_cons_zero]
  rw[rldA (x:=zeroR) rfl]
  rfl
theorem zeroR_ok:ROk 1 zeroR:=can_zero.ok (Bd_zero (by omega)) (by omega)
theorem oneR_ok:ROk 1 oneR:=can_one.ok (Bd_one (by omega)) (by omega)
theorem fill62 (rows cols:Nat):FillOk 62 [] unitR rows cols 1:=⟨rfl,rfl,fun _=>rfl,fun i j _ _=>V62 i j,fun i j _ _=>unitR_fr i j,fun i j _ _=>by unfold unitR;split<;>first|exact oneR_ok|exact zeroR_ok⟩
theorem fz_fn0 (g:Nat):Fz (.fn g []) (.fn g []):=fun _=>rfl
theorem zM_ok (k:Nat):LOk k zM.lv:=⟨.inr rfl,fun _=>rfl,by simp[zM,nilL],by simp[zM,nilL]⟩
theorem V18 (a:Int):∃ y:MV,AP cfg 18 [.int .i64 a]=some (.tup [y.av,.int .i64 (sizeE a a)])∧y.fr=y∧LOk 1 y.lv ∧
  ((sizeE a a≠0∧y=zM)∨(sizeE a a=0∧y.rows=a∧y.cols=a∧y.lv.es=cellsF unitR a.toNat a.toNat)):=by
 by_cases h0:sizeE a a=0
 ·have hb:0≤a∧a≤60:=by unfold sizeE at h0;(repeat' split at h0)<;>omega
  obtain ⟨x,rfl⟩:=Int.eq_ofNat_of_zero_le hb.1
  obtain ⟨y,f1,f2,f3,f4,f5,f6⟩:=V58 (fill62 x x) (by omega) (by omega)
  refine ⟨y,(AP_ofz _ _ (fz_tupM2 y (fza_int _ _)) rfl (m:=[cM y]) ?_).trans (by rw[f6]),f6,f5,.inr ⟨h0,f2,f3,f4⟩⟩
  rw[T18]
  simp only[new_m,new_r,List.length_nil,List.nil_append]
  rw[pcII,V57,Option.map_some,oBs,binA_neq,oBs,ifA_dec,if_neg (fun hn=>hn h0),pcall3 (fz_int _ _) (fz_int _ _) (fz_fn0 62),f1,Option.map_some,oBs,mstA (x:=zM) rfl,oBs]
  simp only[List.set_cons_zero]
  rw[mldA (x:=y) rfl,h0]
  rfl
 ·refine ⟨zM,AP_ofz _ _ (fz_tupM2 zM (fza_int _ _)) rfl (m:=[cM zM]) ?_,rfl,zM_ok 1,.inl ⟨h0,rfl⟩⟩
  rw[T18]
  simp only[new_m,new_r,List.length_nil,List.nil_append]
  rw[pcII,V57,Option.map_some,oBs,binA_neq,oBs,ifA_dec,if_pos h0,bldM,oBs,mstA (x:=zM) rfl,oBs]
  simp only[List.set_cons_zero]
  rw[mldA (x:=zM) rfl]
  rfl
end Go.Ab
set_option linter.unusedVariables false
set_option linter.unusedSimpArgs false
namespace Go.Ab
open Go.Proofs.Try
def flatR (es:List RV):List AV:=es.flatMap fun r=>[.bool r.neg,r.num.av,r.den.av]
theorem flatR_eq (es:List RV):(es.map RV.av).flatMap AV.cells=flatR es:=by
 induction es with
 | nil=>rfl
 | cons r es ih=>rw[List.map_cons,List.flatMap_cons,ih];rfl
theorem flatR_length (es:List RV):(flatR es).length=es.length*3:=by
 induction es with
 | nil=>rfl
 | cons r es ih=>
  show (_::_::_::flatR es).length=_
  rw[List.length_cons,List.length_cons,List.length_cons,ih,List.length_cons];omega
theorem putAt_flat (r:RV):∀ (es:List RV) (i:Nat),i<es.length→putAt (flatR es) (i*3) r.av.cells=flatR (es.set i r)
 | [],i,h=>by simp at h
 | e::es,0,h=>rfl
 | e::es,i+1,h=>by
  have ih:=putAt_flat r es i (by simpa using h)
  have e1:(i+1)*3=i*3+1+1+1:=by omega
  show putAt (_::_::_::flatR es) ((i+1)*3) r.av.cells=_::_::_::flatR (es.set i r)
  rw[← ih,e1]
  unfold putAt
  have e2:i*3+1+1+1+r.av.cells.length=i*3+r.av.cells.length+1+1+1:=by omega
  rw[e2]
  simp only[List.take_succ_cons,List.drop_succ_cons,List.cons_append]
theorem grp_flat:∀ es:List RV,grp (some 3) es.length (flatR es)=es.map RV.av
 | []=>rfl
 | r::es=>by
  have ih:=grp_flat es
  show (groupBy 3 (es.length+1) (_::_::_::flatR es)).map AV.agg=_
  rw[groupBy]
  show AV.agg [.bool r.neg,r.num.av,r.den.av]::(groupBy 3 es.length (flatR es)).map AV.agg=_
  rw[show (groupBy 3 es.length (flatR es)).map AV.agg=es.map RV.av from ih]
  rfl
theorem mapF_flat (m:Mem) (k:Nat):∀ es:List RV,(∀ r∈es,r.fr=r)→mapF (frz m (k+1)) (flatR es)=some (flatR es,[])
 | [],_=>rfl
 | r::es,h=>by
  have ih:=mapF_flat m k es (fun r hr=>h r (by simp[hr]))
  have hf:=h r (by simp)
  have h1:r.num.fr=r.num:=congrArg RV.num hf
  have h2:r.den.fr=r.den:=congrArg RV.den hf
  show mapF (frz m (k+1)) (_::_::_::flatR es)=_
  simp only[mapF,fza_bool r.neg m k,fza_nv r.num m k,fza_nv r.den m k,h1,h2,ih,oBs,Option.map_some,List.nil_append]
  rfl
theorem flat_ok:∀ es:List RV,(∀ r∈es,r.fr=r)→((flatR es).all atomOk&&plL (flatR es))=true
 | [],_=>rfl
 | r::es,h=>by
  have ih:=flat_ok es (fun r hr=>h r (by simp[hr]))
  have hf:=h r (by simp)
  obtain ⟨n,⟨z1,o1,d1⟩,⟨z2,o2,d2⟩⟩:=r
  simp only[RV.fr,NV.fr,RV.mk.injEq,NV.mk.injEq,true_and,and_true] at hf
  simp only[Bool.and_eq_true] at ih
  show ((atomOk _&&(atomOk _&&(atomOk _&&(flatR es).all atomOk)))&&(pl _&&(pl _&&(pl _&&plL (flatR es)))))=true
  rw[ih.1,ih.2]
  cases o1<;>cases o2<;>first|rfl|(simp[Own.fr] at hf)
theorem flat_rowC:∀ es:List RV,(∀ r∈es,r.fr=r)→(flatR es).all rowC=true
 | [],_=>rfl
 | r::es,h=>by
  have ih:=flat_rowC es (fun r hr=>h r (by simp[hr]))
  have hf:=h r (by simp)
  have hd:∀ ds:List Nat,(ds.map dg).all isIntA=true:=by intro ds;simp[List.all_map,dg,isIntA]
  obtain ⟨n,⟨z1,o1,d1⟩,⟨z2,o2,d2⟩⟩:=r
  simp only[RV.fr,NV.fr,RV.mk.injEq,NV.mk.injEq,true_and,and_true] at hf
  show (_::_::_::flatR es).all rowC=true
  rw[List.all_cons,List.all_cons,List.all_cons,ih]
  cases o1<;>cases o2<;>simp[Own.fr] at hf<;>simp[rowC,NV.av,hd]
theorem frz_arrR {m:Mem} {nm k:Nat} {es:List RV} (hm:m[nm]?=some (some (.obj false (flatR es)))) (hf:∀ r∈es,r.fr=r):frz m (k+2) (.arr nm 0 es.length (some 3))=some (.lst (some 3) false .no (es.map RV.av),[nm]):=by
 show (m.obj? nm).bind _=_
 rw[mobj hm]
 have hl:=flatR_length es
 simp only[oBs,Sh.size,Nat.zero_add,hl,Nat.le_refl,decide_true,Bool.not_false,Bool.and_self,if_true,List.drop_zero,List.take_of_length_le (Nat.le_of_eq hl)]
 rw[mapF_flat m k es hf]
 simp only[oBs,flat_ok es hf,if_true,grp_flat]
theorem zeroF_ok:ROk 1 zeroF:=canF_zero.ok (Bd_zero (by omega)) (by omega)
theorem bldMz (m:Mem) {n:Nat} {x:MV} (h:m[n]?=some (cM x)) (v:AV) (a b:Int) (hv:atomOk v=true):storeA (some 3) m (.ptr n 0) (.agg [.int .i64 a,.int .i64 b,v])=some (m.set n (some (.obj true [.int .i64 a,.int .i64 b,v]))):=by
 have h2:shOk (some 3) (.agg [.int .i64 a,.int .i64 b,v])=true:=by
  show (true&&(true&&(true&&(atomOk v&&true))))=true
  rw[hv];rfl
 simp only[storeA,mobj h,oBs,h2,if_true]
 rfl
end Go.Ab
set_option linter.unusedVariables false
namespace Go.Ab
open Go.Proofs.Try
def O13_3 (x1 x2 x4 x5:AV) (m:Mem):St:=⟨[.any,x1,x2,.any,x4,x5,.any,.any,.any,.any,.any,.any,.any,.any,.any,.any,.any,.any,.any,.any,.any,.any,.any,.any,.any,.any,.any,.any,.any,.any,.any,.any,.any,.any,.any,.any,.any,.any,.any,.any,.any,.any,.any,.any,.any,.any,.any,.any,.any,.any,.any,.any,.any,.any,.any,.any,.any,.any,.any,.any,.any,.any,.any,.any,.any,.any,.any,.any,.any,.any,.any,.any,.any,.any,.any,.any,.any,.any,.any,.any,.any,.any,.any,.any,.any,.any,.any,.any,.any,.any,.any,.any],m⟩
noncomputable def L13_3 (x1 x2 x4 x5 x21 x22 x23:AV) (m:Mem) (K:KT):OM:=loopW (execW cfg 13 (AP cfg) (AC cfg) (c1 (c1 (c2 (c1 (c2 (c2 (bodyOf f13)))))))) (cfg.mask 13 (some 3)) ⟨[.any,x1,x2,.any,x4,x5,.any,.any,.any,.any,.any,.any,.any,.any,.any,.any,.any,.any,.any,.any,.any,x21,x22,x23,.any,.any,.any,.any,.any,.any,.any,.any,.any,.any,.any,.any,.any,.any,.any,.any,.any,.any,.any,.any,.any,.any,.any,.any,.any,.any,.any,.any,.any,.any,.any,.any,.any,.any,.any,.any,.any,.any,.any,.any,.any,.any,.any,.any,.any,.any,.any,.any,.any,.any,.any,.any,.any,.any,.any,.any,.any,.any,.any,.any,.any,.any,.any,.any,.any,.any,.any,.any],m⟩ K
def O13_11 (x4 x8:AV) (m:Mem):St:=⟨[.any,.any,.any,.any,x4,.any,.any,.any,x8,.any,.any,.any,.any,.any,.any,.any,.any,.any,.any,.any,.any,.any,.any,.any,.any,.any,.any,.any,.any,.any,.any,.any,.any,.any,.any,.any,.any,.any,.any,.any,.any,.any,.any,.any,.any,.any,.any,.any,.any,.any,.any,.any,.any,.any,.any,.any,.any,.any,.any,.any,.any,.any,.any,.any,.any,.any,.any,.any,.any,.any,.any,.any,.any,.any,.any,.any,.any,.any,.any,.any,.any,.any,.any,.any,.any,.any,.any,.any,.any,.any,.any,.any],m⟩
noncomputable def L13_11 (x2 x4 x5 x8 x9:AV) (m:Mem) (K:KT):OM:=loopW (execW cfg 13 (AP cfg) (AC cfg) (c1 (c1 (c2 (c1 (c2 (c2 (c2 (c2 (c2 (bodyOf f13))))))))))) (cfg.mask 13 (some 11)) ⟨[.any,.any,x2,.any,x4,x5,.any,.any,x8,x9,.any,.any,.any,.any,.any,.any,.any,.any,.any,.any,.any,.any,.any,.any,.any,.any,.any,.any,.any,.any,.any,.any,.any,.any,.any,.any,.any,.any,.any,.any,.any,.any,.any,.any,.any,.any,.any,.any,.any,.any,.any,.any,.any,.any,.any,.any,.any,.any,.any,.any,.any,.any,.any,.any,.any,.any,.any,.any,.any,.any,.any,.any,.any,.any,.any,.any,.any,.any,.any,.any,.any,.any,.any,.any,.any,.any,.any,.any,.any,.any,.any,.any],m⟩ K
noncomputable abbrev K13_3_0 (K:KT):KT:=seqK (fun st=>execW cfg 13 (AP cfg) (AC cfg) (c2 (c2 (c2 (bodyOf f13)))) st K) K
noncomputable abbrev K13_3_1 (K:KT):KT:=blockK 0 (K13_3_0 K)
noncomputable abbrev K13_3 (K:KT):KT:=(K13_3_1 K)
noncomputable abbrev K13_11_0 (K:KT):KT:=seqK (fun st=>execW cfg 13 (AP cfg) (AC cfg) (c2 (c2 (c2 (c2 (c2 (c2 (bodyOf f13))))))) st K) K
noncomputable abbrev K13_11_1 (K:KT):KT:=blockK 2 (K13_11_0 K)
noncomputable abbrev K13_11 (K:KT):KT:=(K13_11_1 K)
theorem T13 (a0 a1:AV) (m:Mem):AC cfg 13 [a0,a1] m =
 (boxA none (some 3) m a0).bind fun r1=>
 (fieldAddrA 0 r1.1).bind fun v2=>
 (loadA none (newAt none r1.2 (.obj true [(.int .i64 0),(.int .i64 0),(.lst none true .full [])])).2 v2).bind fun v3=>
 (fieldAddrA 1 r1.1).bind fun v4=>
 (loadA none (newAt none r1.2 (.obj true [(.int .i64 0),(.int .i64 0),(.lst none true .full [])])).2 v4).bind fun v5=>
 (buildA (.agg [(.int .i64 0),(.int .i64 0),(.lst none true .full [])]) [(0,none,v3),(1,none,v5)]).bind fun v6=>
 (storeA (some 3) (newAt none (newAt none r1.2 (.obj true [(.int .i64 0),(.int .i64 0),(.lst none true .full [])])).2 (.obj true [(.int .i64 0),(.int .i64 0),(.lst none true .full [])])).2 (.ptr (newAt none (newAt none r1.2 (.obj true [(.int .i64 0),(.int .i64 0),(.lst none true .full [])])).2 .resv).1 0) v6).bind fun m7=>
 (fieldAddrA 2 r1.1).bind fun v8=>
 (loadA none m7 v8).bind fun v9=>
 (fieldAddrA 2 r1.1).bind fun v10=>
 (loadA none m7 v10).bind fun v11=>
 (lenA false v11).bind fun v12=>
 (maxA false v12 (.int .i64 4000)).bind fun v13=>
 (sliceT (some 3) v9 none (some v13) none).bind fun v14=>
 (lenA false v14).bind fun v15=>
 L13_3 a1 r1.1 (.ptr (newAt none r1.2 .resv).1 0) (.ptr (newAt none (newAt none r1.2 (.obj true [(.int .i64 0),(.int .i64 0),(.lst none true .full [])])).2 .resv).1 0) v14 v15 (.int .i64 0) m7 (K13_3 (finK cfg.P f13.results.toList)):=
(AC_eq cfg 13 [a0,a1] m (fn:=f13) (c:=bodyOf f13) at13 rfl).trans (by kernel_rfl)
theorem L13_3_eq (x1 x2 x4 x5 x21 x22 x23:AV) (m:Mem) (K:KT):L13_3 x1 x2 x4 x5 x21 x22 x23 m K =
 (binA .other .lss x23 x22).bind fun v1=>
 ifA v1 (
 (indexAddrA (some 3) x21 x23).bind fun v2=>
 (loadA (some 3) m v2).bind fun v3=>
 (storeA (some 3) (newAt none m (.obj true [(.bool false),(.lst none true .full []),(.lst none true .full [])])).2 (.ptr (newAt none m .resv).1 0) v3).bind fun m4=>
 (fieldAddrA 2 x5).bind fun v5=>
 (loadA none (reserve m4 1) v5).bind fun v6=>
 (fieldAddrA 0 (.ptr (newAt none m .resv).1 0)).bind fun v7=>
 (loadA none (reserve m4 1) v7).bind fun v8=>
 (fieldAddrA 1 (.ptr (newAt none m .resv).1 0)).bind fun v9=>
 (loadA none (reserve m4 1) v9).bind fun v10=>
 (pcall (AP cfg) (some m4.length) (reserve m4 1) 32 [v10,(.int .i64 3)]).bind fun r11=>
 (fieldAddrA 2 (.ptr (newAt none m .resv).1 0)).bind fun v12=>
 (loadA none r11.2 v12).bind fun v13=>
 (pcall (AP cfg) (some m4.length) r11.2 32 [v13,(.int .i64 3)]).bind fun r14=>
 (buildA (.agg [(.bool false),(.lst none true .full []),(.lst none true .full [])]) [(0,none,v8),(1,none,r11.1),(2,none,r14.1)]).bind fun v15=>
 (buildSliceA (some 3) [v15]).bind fun v16=>
 (appA (some m4.length) false 43 (some 3) 56 r14.2 v6 v16).bind fun r17=>
 (fieldAddrA 2 x5).bind fun v18=>
 (storeA none r17.2 v18 r17.1).bind fun m19=>
 (binA .other .add x23 (.int .i64 1)).bind fun v20=>
 L13_3 x1 x2 x4 x5 x21 x22 v20 m19 K) (
 K (.exit 0) (O13_3 x1 x2 x4 x5 m)):=
(loopW_eq (execW_lin _) _ _ _).trans (by kernel_rfl)
theorem L13_11_eq (x2 x4 x5 x8 x9:AV) (m:Mem) (K:KT):L13_11 x2 x4 x5 x8 x9 m K =
 (fieldAddrA 0 x8).bind fun v1=>
 (loadA none m v1).bind fun v2=>
 (binA .other .lss x9 v2).bind fun v3=>
 ifA v3 (
 (fieldAddrA 2 x8).bind fun v4=>
 (loadA none (reserve m 1) v4).bind fun v5=>
 (fieldAddrA 2 x5).bind fun v6=>
 (loadA none (reserve m 1) v6).bind fun v7=>
 (fieldAddrA 1 x2).bind fun v8=>
 (loadA none (reserve m 1) v8).bind fun v9=>
 (binA .other .mul x9 v9).bind fun v10=>
 (fieldAddrA 1 x2).bind fun v11=>
 (loadA none (reserve m 1) v11).bind fun v12=>
 (binA .other .mul x9 v12).bind fun v13=>
 (fieldAddrA 1 x8).bind fun v14=>
 (loadA none (reserve m 1) v14).bind fun v15=>
 (binA .other .add v13 v15).bind fun v16=>
 (sliceT (some 3) v7 (some v10) (some v16) none).bind fun v17=>
 (appA (some m.length) false 43 (some 3) 56 (reserve m 1) v5 v17).bind fun r18=>
 (fieldAddrA 2 x8).bind fun v19=>
 (storeA none r18.2 v19 r18.1).bind fun m20=>
 (binA .other .add x9 (.int .i64 1)).bind fun v21=>
 L13_11 x2 x4 x5 x8 v21 m20 K) (
 K (.exit 2) (O13_11 x4 x8 m)):=
(loopW_eq (execW_lin _) _ _ _).trans (by kernel_rfl)
theorem K13_3_x0 (x1 x2 x4 x5:AV) (m:Mem):K13_3 (finK cfg.P f13.results.toList) (.exit 0) (O13_3 x1 x2 x4 x5 m) =
 (loadA (some 3) m x5).bind fun v1=>
 (pcall (AP cfg) none m 21 [v1]).bind fun r2=>
 (unA .not r2.1).bind fun v3=>
 ifA v3 (
 (loadA (some 3) r2.2 x5).bind fun v4=>
 (storeA (some 3) r2.2 x4 v4).bind fun m5=>
 (loadA (some 3) m5 x4).bind fun v6=>
 some (v6,m5)) (
 (fieldAddrA 0 x2).bind fun v7=>
 (loadA none r2.2 v7).bind fun v8=>
 (binA .other .leq v8 x1).bind fun v9=>
 ifA v9 (
 (fieldAddrA 1 x2).bind fun v10=>
 (loadA none r2.2 v10).bind fun v11=>
 (binA .other .leq v11 x1).bind fun v12=>
 ifA v12 (
 (loadA (some 3) r2.2 x5).bind fun v13=>
 (storeA (some 3) r2.2 x4 v13).bind fun m14=>
 (loadA (some 3) m14 x4).bind fun v15=>
 some (v15,m14)) (
 (fieldAddrA 0 x2).bind fun v16=>
 (loadA none r2.2 v16).bind fun v17=>
 (maxA false v17 x1).bind fun v18=>
 (fieldAddrA 1 x2).bind fun v19=>
 (loadA none r2.2 v19).bind fun v20=>
 (maxA false v20 x1).bind fun v21=>
 (buildA (.agg [(.int .i64 0),(.int .i64 0),(.lst none true .full [])]) [(0,none,v18),(1,none,v21)]).bind fun v22=>
 (storeA (some 3) (newAt none r2.2 (.obj true [(.int .i64 0),(.int .i64 0),(.lst none true .full [])])).2 (.ptr (newAt none r2.2 .resv).1 0) v22).bind fun m23=>
 L13_11 x2 x4 x5 (.ptr (newAt none r2.2 .resv).1 0) (.int .i64 0) m23 (K13_11 (finK cfg.P f13.results.toList)))) (
 (fieldAddrA 0 x2).bind fun v24=>
 (loadA none r2.2 v24).bind fun v25=>
 (maxA false v25 x1).bind fun v26=>
 (fieldAddrA 1 x2).bind fun v27=>
 (loadA none r2.2 v27).bind fun v28=>
 (maxA false v28 x1).bind fun v29=>
 (buildA (.agg [(.int .i64 0),(.int .i64 0),(.lst none true .full [])]) [(0,none,v26),(1,none,v29)]).bind fun v30=>
 (storeA (some 3) (newAt none r2.2 (.obj true [(.int .i64 0),(.int .i64 0),(.lst none true .full [])])).2 (.ptr (newAt none r2.2 .resv).1 0) v30).bind fun m31=>
 L13_11 x2 x4 x5 (.ptr (newAt none r2.2 .resv).1 0) (.int .i64 0) m31 (K13_11 (finK cfg.P f13.results.toList)))):=by kernel_rfl
theorem K13_11_x2 (x4 x8:AV) (m:Mem):K13_11 (finK cfg.P f13.results.toList) (.exit 2) (O13_11 x4 x8 m) =
 (loadA (some 3) m x8).bind fun v1=>
 (storeA (some 3) m x4 v1).bind fun m2=>
 (loadA (some 3) m2 x4).bind fun v3=>
 some (v3,m2):=by kernel_rfl
theorem T26 (m:Mem):AC cfg 26 [] m =
 (pcall (AP cfg) none m 18 [(.int .i64 2)]).bind fun r1=>
 (extractA r1.1 0).bind fun v2=>
 (extractA r1.1 1).bind fun v3=>
 (storeA (some 3) (newAt none r1.2 (.obj true [(.int .i64 0),(.int .i64 0),(.lst none true .full [])])).2 (.ptr (newAt none r1.2 .resv).1 0) v2).bind fun m4=>
 (binA .other .eql v3 (.int .i64 0)).bind fun v5=>
 ifA v5 (
 (fieldAddrA 0 (.ptr (newAt none r1.2 .resv).1 0)).bind fun v6=>
 (loadA none m4 v6).bind fun v7=>
 (binA .other .eql v7 (.int .i64 2)).bind fun v8=>
 ifA v8 (
 (fieldAddrA 2 (.ptr (newAt none r1.2 .resv).1 0)).bind fun v9=>
 (loadA none m4 v9).bind fun v10=>
 (lenA false v10).bind fun v11=>
 (binA .other .eql v11 (.int .i64 4)).bind fun v12=>
 some (v12,m4)) (
 some ((.bool false),m4))) (
 some ((.bool false),m4)):=
(AC_eq cfg 26 [] m (fn:=f26) (c:=bodyOf f26) at26 rfl).trans (by kernel_rfl)
theorem T32 (a0 a1:AV) (m:Mem):AC cfg 32 [a0,a1] m =
 (lenA false a0).bind fun v1=>
 (maxA false v1 a1).bind fun v2=>
 (sliceT none a0 none (some v2) none).bind fun v3=>
 some (v3,m):=
(AC_eq cfg 32 [a0,a1] m (fn:=f32) (c:=bodyOf f32) at32 rfl).trans (by kernel_rfl)
theorem T43 (a0 a1:AV) (m:Mem):AC cfg 43 [a0,a1] m =
 (boxA none (some 3) m a0).bind fun r1=>
 (loadA (some 3) (newAt none r1.2 (.obj true [(.int .i64 0),(.int .i64 0),(.lst none true .full [])])).2 r1.1).bind fun v2=>
 (pcall (AP cfg) none (newAt none r1.2 (.obj true [(.int .i64 0),(.int .i64 0),(.lst none true .full [])])).2 13 [v2,a1]).bind fun r3=>
 (storeA (some 3) r3.2 r1.1 r3.1).bind fun m4=>
 (loadA (some 3) m4 r1.1).bind fun v5=>
 (pcall (AP cfg) none m4 21 [v5]).bind fun r6=>
 (unA .not r6.1).bind fun v7=>
 ifA v7 (
 (loadA (some 3) r6.2 r1.1).bind fun v8=>
 (storeA (some 3) r6.2 (.ptr (newAt none r1.2 .resv).1 0) v8).bind fun m9=>
 (loadA (some 3) m9 (.ptr (newAt none r1.2 .resv).1 0)).bind fun v10=>
 some (v10,m9)) (
 (loadA (some 3) r6.2 r1.1).bind fun v11=>
 (fieldAddrA 0 r1.1).bind fun v12=>
 (loadA none r6.2 v12).bind fun v13=>
 (fieldAddrA 1 r1.1).bind fun v14=>
 (loadA none r6.2 v14).bind fun v15=>
 (maxA false v13 v15).bind fun v16=>
 (pcall (AP cfg) none r6.2 13 [v11,v16]).bind fun r17=>
 (storeA (some 3) r17.2 (.ptr (newAt none r1.2 .resv).1 0) r17.1).bind fun m18=>
 (loadA (some 3) m18 (.ptr (newAt none r1.2 .resv).1 0)).bind fun v19=>
 some (v19,m18)):=
(AC_eq cfg 43 [a0,a1] m (fn:=f43) (c:=bodyOf f43) at43 rfl).trans (by kernel_rfl)
end Go.Ab
set_option linter.unusedVariables false
set_option linter.unusedSimpArgs false
namespace Go.Ab
open Go.Proofs.Try
theorem V26:AP cfg 26 []=some (.bool true):=by
 obtain ⟨y,f1,f2,f3,f4⟩:=V18 2
 have h0:sizeE 2 2=0:=rfl
 rcases f4 with ⟨h,_⟩|⟨_,h1,h2,h3⟩
 ·exact absurd h0 h
 have hl:y.lv.es.length=4:=by rw[h3,cellsF_length];rfl
 have g0:([cM y]:Mem)[0]?=some (cM y):=rfl
 have q1:binA .other .eql (.int .i64 (4:Nat)) (.int .i64 4)=some (.bool true):=rfl
 refine AP_ofz _ _ (fz_bool _) rfl (m:=[cM y]) ?_
 rw[h0] at f1
 rw[T26,pcI,f1,Option.map_some,oBs,ex0,oBs,ex1,oBs]
 simp only[new_m,new_r,List.length_nil,List.nil_append]
 rw[mstA (x:=zM) rfl,oBs]
 simp only[List.set_cons_zero]
 rw[binA_eql,oBs,ifA_dec,if_pos rfl,fld0,oBs,mld0 g0,oBs,h1,binA_eql,oBs,ifA_dec,if_pos rfl,fld2,oBs,mld2 g0,oBs,len_lv,oBs,hl,q1]
 rfl
end Go.Ab
set_option linter.unusedVariables false
set_option linter.unusedSimpArgs false
namespace Go.Ab
open Go.Proofs.Try
def cutN (x:NV):NV:=⟨x.z,.no,x.ds.take 3⟩
theorem min_int (a b:Nat):maxA false (.int .i64 a) (.int .i64 b)=some (.int .i64 (min a b:Nat)):=by
 show some (AV.int .i64 (if (b:Int)<(a:Int) then (b:Int) else (a:Int)))=_
 by_cases h:b<a
 ·rw[if_pos (by omega),Nat.min_eq_right (by omega)]
 ·rw[if_neg (by omega),Nat.min_eq_left (by omega)]
theorem V32 {x:NV}:AP cfg 32 [x.av,.int .i64 3]=some (cutN x).av:=by
 refine AP_ofz _ _ (fz_nv (cutN x)) (noV_nv _) (m:=[]) ?_
 have h1:maxA false (.int .i64 x.ds.length) (.int .i64 3)=some (.int .i64 (min x.ds.length 3:Nat)):=min_int _ 3
 have hs:=sliceT_to (z:=x.z) (o:=x.o) (ds:=x.ds) (k:=.i64) (i:=(min x.ds.length 3:Nat)) (by omega) (by omega)
 rw[← NV.av,Int.toNat_natCast] at hs
 rw[T32,len_nv,oBs,h1,oBs,hs,oBs]
 have ht:x.ds.take (min x.ds.length 3)=x.ds.take 3:=by
  by_cases h:x.ds.length≤3
  ·rw[Nat.min_eq_left h,List.take_of_length_le (Nat.le_refl _),List.take_of_length_le h]
  ·rw[Nat.min_eq_right (by omega)]
 rw[ht]
 rfl
structure XN (x:NV):Prop where
 dg:Dg x.ds
 nil:x.z=true→x.ds=[]
theorem cutN_ok {x:NV} (h:XN x):NOk (cutN x)∧(cutN x).ds.length≤3:=by
 have hl:(x.ds.take 3).length≤3:=by rw[List.length_take];omega
 refine ⟨⟨h.dg.take 3,?_,?_⟩,hl⟩
 ·show (x.ds.take 3).length<2^40
  omega
 ·intro hz
  show x.ds.take 3=[]
  rw[h.nil hz];rfl
structure XR (r:RV):Prop where
 num:XN r.num
 den:XN r.den
 fr:r.fr=r
def cutR (r:RV):RV:=⟨r.neg,cutN r.num,cutN r.den⟩
theorem cutR_fr (r:RV):(cutR r).fr=cutR r:=rfl
theorem cutR_ok {r:RV} (h:XR r):ROk 3 (cutR r):=⟨(cutN_ok h.num).1,(cutN_ok h.den).1,(cutN_ok h.num).2,(cutN_ok h.den).2⟩
structure XM (x:MV):Prop where
 sh:x.lv.sh=some 3∨x.lv.es=[]
 z:x.lv.z=true→x.lv.es=[]
 es:∀ r∈x.lv.es,XR r
def headL (l:LV):LV:=⟨l.sh,l.z,.no,l.es.take 4000⟩
theorem index_lv' {l:LV} {k:Nat} {kk:IntKind} (h:l.sh=some 3∨l.es=[]) (hk:k<l.es.length):indexAddrA (some 3) l.av (.int kk k)=some (.vptr (l.es[k].av).cells):=by
 have hs:l.sh=some 3:=h.resolve_right (fun e=>by rw[e] at hk;simp at hk)
 simp[LV.av,indexAddrA,hs,hk]
theorem W13_3 {x:MV} (hx:XM x) (x1:AV) (K:KT):∀ (j i:Nat) (m:Mem) (l:LV),i+j=(headL x.lv).es.length→m[0]?=some (cM x)→m[1]?=some (cM zM)→m[2]?=some (cM ⟨x.rows,x.cols,l⟩)→RowAt m l→l.es=((headL x.lv).es.take i).map cutR →
  ∃ m' l',m'[0]?=some (cM x)∧m'[1]?=some (cM zM)∧m'[2]?=some (cM ⟨x.rows,x.cols,l'⟩)∧RowAt m' l'∧l'.es=(headL x.lv).es.map cutR ∧
   L13_3 x1 (.ptr 0 0) (.ptr 1 0) (.ptr 2 0) (headL x.lv).av (.int .i64 (headL x.lv).es.length) (.int .i64 i) m K=K (.exit 0) (O13_3 x1 (.ptr 0 0) (.ptr 1 0) (.ptr 2 0) m'):=by
 have hlen:(headL x.lv).es.length≤4000:=by
  show (x.lv.es.take 4000).length≤4000
  rw[List.length_take];omega
 have hsh:(headL x.lv).sh=some 3∨(headL x.lv).es=[]:=by
  rcases hx.sh with h|h
  ·exact .inl h
  ·right;show x.lv.es.take 4000=[];rw[h];rfl
 intro j
 induction j with
 | zero=>
  intro i m l hi h0 h1 h2 h3 h4
  refine ⟨m,l,h0,h1,h2,h3,by rw[h4,List.take_of_length_le (by omega)],?_⟩
  rw[L13_3_eq,n_lss,oBs,ifA_dec,if_neg (by omega)]
 | succ j ih=>
  intro i m l hi h0 h1 h2 h3 h4
  have hil:i<(headL x.lv).es.length:=by omega
  have hmem:(headL x.lv).es[i]∈x.lv.es:=List.mem_of_mem_take (List.getElem_mem hil)
  have hr:=hx.es _ hmem
  have hn1:(headL x.lv).es[i].num.fr=(headL x.lv).es[i].num:=congrArg RV.num hr.fr
  have hn2:(headL x.lv).es[i].den.fr=(headL x.lv).es[i].den:=congrArg RV.den hr.fr
  have kp:=Kp.app m [cR (headL x.lv).es[i]]
  have hb:=kp.2 2 true _ h2
  have hll:l.es.length<5000:=by rw[h4];simp;omega
  obtain ⟨l',m1,m2,p1,p2,p3,p4,p5,p6⟩:=push (r:=cutR (headL x.lv).es[i]) hb (h3.app [cR (headL x.lv).es[i]]) hll
  have kq:=kp.trans (Kp.app (m++[cR (headL x.lv).es[i]]) [some .resv])
  obtain ⟨m',l'',q0,q1,q2,q3,q4,q5⟩:=ih (i+1) m2 l' (by omega) (p6.2 0 true _ (by omega) (kp.2 0 true _ h0)) (p6.2 1 true _ (by omega) (kp.2 1 true _ h1)) p4 p5 (by
   rw[p2]
   show l.es++_=_
   rw[h4,List.take_succ_eq_append_getElem hil,List.map_append];rfl)
  refine ⟨m',l'',q0,q1,q2,q3,q4,?_⟩
  have g2:=kq.2 2 true _ h2
  have gr:((m++[cR (headL x.lv).es[i]])++[some Ent.resv])[m.length]?=some (cR (headL x.lv).es[i]):=by
   rw[List.getElem?_append_left (by simp)];exact get_last
  have pcNI:∀ (mm:Mem) (d:Option Nat) (g:Nat) (y:NV) (n:Int),pcall (AP cfg) d mm g [y.av,.int .i64 n]=(AP cfg g [y.fr.av,.int .i64 n]).map fun v=>(v,mm):=fun mm d g y n=>pcall2 (fz_nv y) (fz_int _ _)
  have hbld:=bld012 (headL x.lv).es[i].neg (cutN (headL x.lv).es[i].num) (cutN (headL x.lv).es[i].den)
  rw[nil_av.symm] at hbld
  have hbs:=build_row (cutR_fr (headL x.lv).es[i])
  rw[L13_3_eq,n_lss,oBs,ifA_dec,if_pos hil,index_lv' hsh hil,oBs,load_row,oBs,new_z',new_r,st_last,oBs,fld2,oBs]
  rw[res1] at p1 ⊢
  rw[mld2 g2,oBs,fld0,oBs,rld0 gr,oBs,fld1,oBs,rld1 gr,oBs,pcNI,hn1,V32,Option.map_some,oBs,fld2,oBs,rld2 gr,oBs,pcNI,hn2,V32,Option.map_some,oBs,hbld,oBs]
  rw[show RV.av ⟨(headL x.lv).es[i].neg,cutN (headL x.lv).es[i].num,cutN (headL x.lv).es[i].den⟩=(cutR (headL x.lv).es[i]).av from rfl,hbs,oBs,p1,oBs,oBs,p3,oBs,i_add1 (by omega),oBs]
  exact q5
theorem slice_head (l:LV) (hs:l.sh=some 3∨l.es=[]):sliceT (some 3) l.av none (some (.int .i64 (min l.es.length 4000:Nat))) none=some (headL l).av:=by
 have e1:(l.es.map RV.av).take (min l.es.length 4000)=(l.es.take 4000).map RV.av:=by
  rw[← List.map_take]
  congr 1
  by_cases h:l.es.length≤4000
  ·rw[Nat.min_eq_left h,List.take_of_length_le (Nat.le_refl _),List.take_of_length_le h]
  ·rw[Nat.min_eq_right (by omega)]
 have e2:l.sh=some 3∨l.es.map RV.av=[]:=hs.elim .inl (fun h=>.inr (by rw[h];rfl))
 have e3:(0:Int)≤(min l.es.length 4000:Nat):=by omega
 have e4:((min l.es.length 4000:Nat):Int)≤(l.es.map RV.av).length:=by rw[List.length_map];omega
 simp only[sliceT,LV.av,if_pos e2,sliceA,boundA,e3,e4,and_self,if_true,oBs,Int.toNat_natCast,e1,List.drop_zero,headL]
end Go.Ab
set_option linter.unusedVariables false
set_option linter.unusedSimpArgs false
namespace Go.Ab
open Go.Proofs.Try
theorem idx_lt {m:Mem} {n:Nat} {e:Option Ent} (h:m[n]?=some e):n<m.length:=by
 apply Classical.byContradiction
 intro hc
 rw[List.getElem?_eq_none (by omega)] at h
 cases h
theorem app_mats {m:Mem} {l:LV} {k:Nat} {y:LV} (h:RowAt m l) (hk:m[k]?=some (some .resv)) (hy:y.sh=some 3∨y.es=[]) (hlen:(l.es.length+y.es.length)*56≤roomA) :
  ∃ l' m',appA (some k) false 43 (some 3) 56 m l.av y.av=some (l'.av,m')∧RowAt m' l'∧l'.es=l.es++y.es∧Kp m m':=by
 obtain ⟨shy,zy,oy,ys⟩:=y
 cases ys with
 | nil=>exact ⟨l,m,rfl,h,by simp,Kp.refl m⟩
 | cons r ys=>
  obtain rfl:shy=some 3:=hy.resolve_right (fun e=>by cases e)
  have hkl:=idx_lt hk
  rcases h with rfl|⟨h1,h2,h3,nm,h4,h5⟩
  ·have hlen':(ys.length+1)*56≤roomA:=by simpa [nilL] using hlen
   refine ⟨⟨some 3,false,.tok k 43,r::ys⟩,m.set k (some (.tok (r::ys).length 3)),?_,.inr ⟨rfl,rfl,by simp,k,rfl,by rw[List.getElem?_set_self hkl]⟩,rfl,by simp,?_⟩
   ·simp[LV.av,nilL,appA,hlen',newAt,Sh.size]
   ·intro n bx cs hn
    have hne:k≠n:=fun e=>by rw[← e,hk] at hn;cases hn
    rw[List.getElem?_set_ne hne];exact hn
  ·have hnl:=idx_lt h5
   refine ⟨⟨some 3,false,.tok nm 43,l.es++r::ys⟩,m.set nm (some (.tok (l.es.length+(r::ys).length) 3)),?_,.inr ⟨rfl,rfl,by simp,nm,rfl,by rw[List.getElem?_set_self hnl];simp⟩,rfl,by simp,?_⟩
   ·obtain ⟨sh,z,o,es⟩:=l
    simp only at h1 h2 h4
    subst h1;subst h2;subst h4
    have hlen':(es.length+(ys.length+1))*56≤roomA:=by simpa using hlen
    simp[LV.av,appA,hlen',mget h5,Sh.size]
   ·intro n bx cs hn
    have hne:nm≠n:=fun e=>by rw[← e,h5] at hn;cases hn
    rw[List.getElem?_set_ne hne];exact hn
theorem pushs {m:Mem} {n:Nat} {y:MV} {ys:LV} (hb:m[n]?=some (cM y)) (hr:RowAt m y.lv) (hy:ys.sh=some 3∨ys.es=[]) (hlen:y.lv.es.length+ys.es.length<9000) :
  ∃ l' m' m'',appA (some m.length) false 43 (some 3) 56 (m++[some .resv]) y.lv.av ys.av=some (l'.av,m')∧l'.es=y.lv.es++ys.es∧storeA none m' (.ptr n 2) l'.av=some m''∧m''[n]?=some (cM ⟨y.rows,y.cols,l'⟩)∧RowAt m'' l'∧Kn n m m'':=by
 obtain ⟨l',m',h1,h2,h3,h4⟩:=app_mats (y:=ys) (hr.app [some .resv]) (k:=m.length) get_last hy (by simp only[roomA];omega)
 have hk:=(Kp.app m [some .resv]).trans h4
 have hb':=hk.2 n true _ hb
 refine ⟨l',m',_,h1,h3,mst2 hb',by rw[List.getElem?_set_self (idx_lt hb')],h2.set hb' _,?_⟩
 refine ⟨by rw[List.length_set];exact hk.1,fun p bx cs hp hh=>?_⟩
 rw[List.getElem?_set_ne (fun e=>hp e.symm)]
 exact hk.2 p bx cs hh
theorem slice_lv {l:LV} {a b:Nat} (hs:l.sh=some 3∨l.es=[]) (h1:a≤b) (h2:b≤l.es.length):sliceT (some 3) l.av (some (.int .i64 a)) (some (.int .i64 b)) none=some (LV.av ⟨l.sh,l.z,.no,(l.es.take b).drop a⟩):=by
 have e1:((l.es.map RV.av).take b).drop a=((l.es.take b).drop a).map RV.av:=by rw[List.map_drop,List.map_take]
 have e2:l.sh=some 3∨l.es.map RV.av=[]:=hs.elim .inl (fun h=>.inr (by rw[h];rfl))
 have e3:(0:Int)≤(b:Nat):=by omega
 have e4:((b:Nat):Int)≤(l.es.map RV.av).length:=by rw[List.length_map];omega
 have e5:(0:Int)≤(a:Nat)∧((a:Nat):Int)≤(b:Nat):=by omega
 simp only[sliceT,LV.av,if_pos e2,sliceA,boundA,e3,e4,e5,and_self,if_true,oBs,Int.toNat_natCast,e1]
def cutE (es:List RV) (cols C:Nat):Nat→List RV
 | 0=>[]
 | i+1=>cutE es cols C i++(es.take (i*cols+C)).drop (i*cols)
theorem cutE_mem {es:List RV} {cols C:Nat} {r:RV}:∀ {i:Nat},r∈cutE es cols C i→r∈es
 | 0,h=>by cases h
 | i+1,h=>by
  rcases List.mem_append.1 h with h|h
  ·exact cutE_mem h
  ·exact List.mem_of_mem_take (List.mem_of_mem_drop h)
theorem cutE_length {es:List RV} {cols C:Nat} (hC:C≤cols):∀ {i:Nat},i*cols≤es.length→(cutE es cols C i).length=i*C
 | 0,h=>by simp[cutE]
 | i+1,h=>by
  have e:(i+1)*cols=i*cols+cols:=Nat.succ_mul i cols
  rw[cutE,List.length_append,cutE_length hC (by omega),List.length_drop,List.length_take,Nat.min_eq_left (by omega),Nat.succ_mul];omega
theorem rowAt_sh {m:Mem} {l:LV} (h:RowAt m l):l.sh=some 3∨l.es=[]:=by
 rcases h with rfl|⟨h1,_⟩
 ·exact .inr rfl
 ·exact .inl h1
theorem W13_11 {rows cols:Nat} {o:LV} {x0:MV} {R C L:Nat} (hR:R≤rows) (hr:rows≤60) (hC:C≤cols) (hc:cols≤60) (hlen:o.es.length=rows*cols) (ho:o.sh=some 3∨o.es=[]) (hL:3≤L) (hx:x0.cols=cols)
  (K:KT):∀ (j i:Nat) (m:Mem) (l:LV),i+j=R→m[0]?=some (cM x0)→m[1]?=some (cM zM)→m[2]?=some (cM ⟨x0.rows,x0.cols,o⟩)→m[L]?=some (cM ⟨R,C,l⟩)→RowAt m l→l.es=cutE o.es cols C i →
  ∃ m' l',m'[1]?=some (cM zM)∧m'[L]?=some (cM ⟨R,C,l'⟩)∧RowAt m' l'∧l'.es=cutE o.es cols C R ∧
   L13_11 (.ptr 0 0) (.ptr 1 0) (.ptr 2 0) (.ptr L 0) (.int .i64 i) m K=K (.exit 2) (O13_11 (.ptr 1 0) (.ptr L 0) m'):=by
 intro j
 induction j with
 | zero=>
  intro i m l hi h0 h1 h2 h3 h4 h5
  have hiR:i=R:=by omega
  subst hiR
  refine ⟨m,l,h1,h3,h4,h5,?_⟩
  rw[L13_11_eq,fld0,oBs,mld0 h3,oBs,n_lss,oBs,ifA_dec,if_neg (by omega)]
 | succ j ih=>
  intro i m l hi h0 h1 h2 h3 h4 h5
  have hiR:i<R:=by omega
  have hb1:i*cols+cols≤rows*cols:=by
   rw[← Nat.succ_mul]
   exact Nat.mul_le_mul_right _ (by omega)
  have hb2:rows*cols≤3600:=Nat.mul_le_mul hr hc
  have hb3:i*C≤i*cols:=Nat.mul_le_mul_left _ hC
  have hll:l.es.length=i*C:=by rw[h5,cutE_length hC (by omega)]
  have hsl:((o.es.take (i*cols+C)).drop (i*cols)).length=C:=by
   rw[List.length_drop,List.length_take,Nat.min_eq_left (by omega)];omega
  obtain ⟨l',m1,m2,p1,p2,p3,p4,p5,p6⟩:=pushs (y:=⟨R,C,l⟩) (ys:=⟨o.sh,o.z,.no,(o.es.take (i*cols+C)).drop (i*cols)⟩) h3 h4 (by
   rcases ho with h|h
   ·exact .inl h
   ·right;show (o.es.take _).drop _=[];rw[h];simp) (by show l.es.length+((o.es.take (i*cols+C)).drop (i*cols)).length<9000;omega)
  obtain ⟨m',l'',q1,q2,q3,q4,q5⟩:=ih (i+1) m2 l' (by omega) (p6.2 0 true _ (by omega) h0) (p6.2 1 true _ (by omega) h1) (p6.2 2 true _ (by omega) h2) p4 p5 (by rw[p2];show l.es++_=_;rw[h5];rfl)
  refine ⟨m',l'',q1,q2,q3,q4,?_⟩
  have kp:=Kp.app m [some .resv]
  have g0:=kp.2 0 true _ h0
  have g2:=kp.2 2 true _ h2
  have g3:=kp.2 L true _ h3
  have mulc:binA .other .mul (.int .i64 (i:Nat)) (.int .i64 x0.cols)=some (.int .i64 (i*cols:Nat)):=by
   rw[hx,i_mul60 (by omega) (by omega) (by omega) (by omega),← Int.natCast_mul]
  have addc:binA .other .add (.int .i64 (i*cols:Nat)) (.int .i64 (C:Nat))=some (.int .i64 (i*cols+C:Nat)):=i_add (by omega)
  rw[L13_11_eq,fld0,oBs,mld0 h3,oBs,n_lss,oBs,ifA_dec,if_pos hiR,fld2,oBs,res1,mld2 g3,oBs,fld2,oBs,mld2 g2,oBs,
   fld1,oBs,mld1 g0,oBs,mulc,oBs,oBs,mld1 g0,oBs,mulc,oBs,fld1,oBs,mld1 g3,oBs,addc,oBs,
   slice_lv ho (by omega) (by omega),oBs,p1,oBs,oBs,p3,oBs,i_add1 (by omega),oBs]
  exact q5
theorem V13 {x:MV} {n:Nat} (hn:n≤60) (hx:XM x) (hfx:x.fr=x):∃ y:MV,AP cfg 13 [x.av,.int .i64 n]=some y.av∧LOk 3 y.lv∧y.lv.es.length≤4000∧y.fr=y∧(rightM y=true→y.rows=min x.rows n∧y.cols=min x.cols n):=by
 obtain ⟨m',l',q0,q1,q2,q3,q4,q5⟩:=W13_3 hx (.int .i64 n) (K13_3 (finK cfg.P f13.results.toList)) (headL x.lv).es.length 0 [cM x,cM zM,cM ⟨x.rows,x.cols,nilL⟩] nilL (by omega) rfl rfl rfl (.inl rfl) rfl
 have hlen:l'.es.length≤4000:=by
  rw[q4,List.length_map]
  show (x.lv.es.take 4000).length≤4000
  rw[List.length_take];omega
 have hlo:LOk 3 l':=rowAt_lok q3 (by rw[q4];intro r hr;obtain ⟨r',_,rfl⟩:=List.mem_map.1 hr;exact cutR_fr _) (by rw[q4];intro r hr;obtain ⟨r',h',rfl⟩:=List.mem_map.1 hr;exact cutR_ok (hx.es r' (List.mem_of_mem_take h')))
 have hl1:1<m'.length:=by
  apply Classical.byContradiction
  intro hc
  rw[List.getElem?_eq_none (by omega)] at q1
  cases q1
 have e1:=V21 (x:=(MV.mk x.rows x.cols l').fr) hlo.fr' (k:=3) (by omega) (by show l'.es.length<_;omega)
 have hrf:rightM (MV.mk x.rows x.cols l').fr=rightM ⟨x.rows,x.cols,l'⟩:=rfl
 rw[hrf] at e1
 have a1:([cM x,cM zM]:Mem)[0]?=some (cM x):=rfl
 have a2:([cM x,cM zM,cM zM]:Mem)[2]?=some (cM zM):=rfl
 have a3:([cM x,cM zM,cM ⟨x.rows,x.cols,nilL⟩]:Mem)[0]?=some (cM x):=rfl
 have hmin:maxA false (.int .i64 x.lv.es.length) (.int .i64 4000)=some (.int .i64 (min x.lv.es.length 4000:Nat)):=min_int _ 4000
 have fin:((loadA (some 3) m' (.ptr 2 0)).bind fun v4=>(storeA (some 3) m' (.ptr 1 0) v4).bind fun m5=>(loadA (some 3) m5 (.ptr 1 0)).bind fun v6=>some (v6,m5))=some (MV.av ⟨x.rows,x.cols,l'⟩,m'.set 1 (cM ⟨x.rows,x.cols,l'⟩)):=by
  rw[mldA q2,oBs,mstA q1,oBs,mldA (by rw[List.getElem?_set_self hl1])]
  rfl
 have pre:AC cfg 13 [x.av,.int .i64 n] []=K13_3 (finK cfg.P f13.results.toList) (.exit 0) (O13_3 (.int .i64 n) (.ptr 0 0) (.ptr 1 0) (.ptr 2 0) m'):=by
  rw[T13]
  simp only[oBs,box_mv,new_m,new_r,fld0,fld1,fld2,List.length_nil,List.nil_append,List.length_cons,List.cons_append,Nat.zero_add,Nat.reduceAdd]
  rw[mld0 a1,oBs,mld1 a1,oBs,bldM01,oBs,mstA a2,oBs]
  simp only[List.set_cons_succ,List.set_cons_zero]
  rw[mld2 a3,oBs,oBs,len_lv,oBs,hmin,oBs,slice_head _ hx.sh,oBs,len_lv,oBs]
  refine Eq.trans ?_ q5
  rfl
 have out:∀ (z:MV) (mm:Mem),K13_3 (finK cfg.P f13.results.toList) (.exit 0) (O13_3 (.int .i64 n) (.ptr 0 0) (.ptr 1 0) (.ptr 2 0) m')=some (z.av,mm)→AP cfg 13 [x.av,.int .i64 n]=some z.fr.av:=fun z mm h=>AP_ofz _ _ (fz_mv z) (noV_mv _) (pre.trans h)
 have outl:=out ⟨x.rows,x.cols,l'⟩ (m'.set 1 (cM ⟨x.rows,x.cols,l'⟩))
 rw[K13_3_x0,mldA q2,oBs,pcM,e1,Option.map_some,oBs,not_b,oBs] at outl
 cases hb:rightM ⟨x.rows,x.cols,l'⟩ with
 | false=>
  rw[hb,Bool.not_false,ifA_true] at outl
  exact ⟨_,outl fin,hlo.fr',hlen,by simp only[MV.fr,rowAt_fr q3],fun h=>absurd (hrf.symm.trans (by rw[hrf];exact h):rightM ⟨x.rows,x.cols,l'⟩=true) (by rw[hb];decide)⟩
 | true=>
  have hsz:sizeB ⟨x.rows,x.cols,l'⟩=true:=by unfold rightM at hb;rw[Bool.and_eq_true] at hb;exact hb.1
  unfold sizeB at hsz
  obtain ⟨z1,z2,z3,z4,z5⟩:=of_decide_eq_true hsz
  have z1:0≤x.rows:=z1
  have z2:x.rows≤60:=z2
  have z3:0≤x.cols:=z3
  have z4:x.cols≤60:=z4
  have z5:(l'.es.length:Int)=x.rows*x.cols:=z5
  obtain ⟨rr,hrr⟩:=Int.eq_ofNat_of_zero_le z1
  obtain ⟨cc,hcc⟩:=Int.eq_ofNat_of_zero_le z3
  rw[hb,Bool.not_true,ifA_false,fld0,oBs,mld0 q0,oBs,binA_leq,oBs,ifA_dec] at outl
  have hlen2:l'.es.length=rr*cc:=by
   rw[hrr,hcc] at z5
   rw[← Int.natCast_mul] at z5
   exact Int.ofNat_inj.1 z5
  have hL:=idx_lt q2
  obtain ⟨m2,l2,w1,w2,w3,w4,w5⟩:=W13_11 (rows:=rr) (cols:=cc) (o:=l') (x0:=x) (R:=min rr n) (C:=min cc n) (L:=m'.length) (by omega) (by omega) (by omega) (by omega) hlen2 (rowAt_sh q3) (by omega) hcc (K13_11 (finK cfg.P f13.results.toList)) (min rr n) 0 (m'++[cM ⟨(min rr n:Nat),(min cc n:Nat),nilL⟩]) nilL (by omega)
   (by rw[List.getElem?_append_left (by omega)];exact q0) (by rw[List.getElem?_append_left (by omega)];exact q1) (by rw[List.getElem?_append_left (by omega)];exact q2) get_last (.inl rfl) rfl
  have fin2:(loadA none m' (.ptr 0 0)).bind (fun v17=>(maxA false v17 (.int .i64 n)).bind fun v18=>(fieldAddrA 1 (.ptr 0 0)).bind fun v19=>(loadA none m' v19).bind fun v20=>(maxA false v20 (.int .i64 n)).bind fun v21=>(buildA (.agg [(.int .i64 0),(.int .i64 0),(.lst none true .full [])]) [(0,none,v18),(1,none,v21)]).bind fun v22=>
    (storeA (some 3) (newAt none m' (.obj true [(.int .i64 0),(.int .i64 0),(.lst none true .full [])])).2 (.ptr (newAt none m' .resv).1 0) v22).bind fun m23=>L13_11 (.ptr 0 0) (.ptr 1 0) (.ptr 2 0) (.ptr (newAt none m' .resv).1 0) (.int .i64 0) m23 (K13_11 (finK cfg.P f13.results.toList)))=some (MV.av ⟨(min rr n:Nat),(min cc n:Nat),l2⟩,m2.set 1 (cM ⟨(min rr n:Nat),(min cc n:Nat),l2⟩)):=by
   rw[mld0 q0,oBs,hrr,min_int,oBs,fld1,oBs,mld1 q0,oBs,hcc,min_int,oBs,bldM01,oBs,new_m,new_r]
   rw[mstA (x:=zM) get_last,oBs]
   rw[show (m'++[cM zM]).set m'.length (cM ⟨(min rr n:Nat),(min cc n:Nat),nilL⟩)=m'++[cM ⟨(min rr n:Nat),(min cc n:Nat),nilL⟩] by simp]
   refine w5.trans ?_
   rw[K13_11_x2,mldA w2,oBs,mstA w1,oBs,mldA (by rw[List.getElem?_set_self (idx_lt w1)])]
   rfl
  have hlo2:LOk 3 l2:=rowAt_lok w3 (by rw[w4];intro r hr;exact hlo.fr r (cutE_mem hr)) (by rw[w4];intro r hr;exact hlo.ok r (cutE_mem hr))
  have hlen3:l2.es.length≤4000:=by
   rw[w4,cutE_length (by omega) (by rw[hlen2];exact Nat.mul_le_mul_right _ (by omega))]
   have:min rr n*min cc n≤60*60:=Nat.mul_le_mul (by omega) (by omega)
   omega
  have done2:∀ {R:Prop},(AP cfg 13 [x.av,.int .i64 n]=some (MV.fr ⟨(min rr n:Nat),(min cc n:Nat),l2⟩).av)→∃ y:MV,AP cfg 13 [x.av,.int .i64 n]=some y.av∧LOk 3 y.lv∧y.lv.es.length≤4000∧y.fr=y∧(rightM y=true→y.rows=min x.rows n∧y.cols=min x.cols n):=by
   intro _ h
   refine ⟨_,h,hlo2.fr',hlen3,by simp only[MV.fr,rowAt_fr w3],fun _=>⟨?_,?_⟩⟩
   ·show ((min rr n:Nat):Int)=_;rw[hrr];omega
   ·show ((min cc n:Nat):Int)=_;rw[hcc];omega
  have outc:=out ⟨(min rr n:Nat),(min cc n:Nat),l2⟩ (m2.set 1 (cM ⟨(min rr n:Nat),(min cc n:Nat),l2⟩))
  rw[K13_3_x0,mldA q2,oBs,pcM,e1,Option.map_some,oBs,not_b,oBs,hb,Bool.not_true,ifA_false,fld0,oBs,mld0 q0,oBs,binA_leq,oBs,ifA_dec] at outc
  by_cases d1:x.rows≤n
  ·rw[if_pos d1,fld1,oBs,mld1 q0,oBs,binA_leq,oBs,ifA_dec] at outl outc
   by_cases d2:x.cols≤n
   ·rw[if_pos d2] at outl
    exact ⟨_,outl fin,hlo.fr',hlen,by simp only[MV.fr,rowAt_fr q3],fun _=>⟨by show x.rows=_;omega,by show x.cols=_;omega⟩⟩
   ·rw[if_neg d2] at outc
    exact done2 (R:=True) (outc fin2)
  ·rw[if_neg d1] at outc
   exact done2 (R:=True) (outc fin2)
end Go.Ab
set_option linter.unusedVariables false
set_option linter.unusedSimpArgs false
namespace Go.Ab
open Go.Proofs.Try
theorem LOk.xm {x:MV} {k:Nat} (h:LOk k x.lv):XM x:=
 ⟨h.sh,h.z,fun r hr=>⟨⟨(h.ok r hr).num.dg,(h.ok r hr).num.nil⟩,⟨(h.ok r hr).den.dg,(h.ok r hr).den.nil⟩,h.fr r hr⟩⟩
theorem pcMI {m:Mem} {d:Option Nat} {g:Nat} (x:MV) (a:Int):pcall (AP cfg) d m g [x.av,.int .i64 a]=(AP cfg g [x.fr.av,.int .i64 a]).map fun v=>(v,m):=pcall2 (fz_mv x) (fz_int _ a)
theorem size_of_right {x:MV} (h:rightM x=true):0≤x.rows∧x.rows≤60∧0≤x.cols∧x.cols≤60∧(x.lv.es.length:Int)=x.rows*x.cols:=by
 unfold rightM at h
 rw[Bool.and_eq_true] at h
 exact of_decide_eq_true h.1
theorem V43 {x:MV} {n:Nat} (hn:n≤60) (hx:XM x) (hfx:x.fr=x):∃ y:MV,AP cfg 43 [x.av,.int .i64 n]=some y.av∧LOk 3 y.lv∧y.lv.es.length≤4000∧y.fr=y∧(rightM y=true→y.rows=y.cols∧y.rows≤n):=by
 obtain ⟨y,y1,y2,y3,y4,y5⟩:=V13 hn hx hfx
 have e21:=V21 (x:=y) y2 (k:=3) (by omega) (by omega)
 have out:∀ (z:MV) (mm:Mem),AC cfg 43 [x.av,.int .i64 n] []=some (z.av,mm)→AP cfg 43 [x.av,.int .i64 n]=some z.fr.av:=fun z mm h=>AP_ofz _ _ (fz_mv z) (noV_mv _) h
 have start:AC cfg 43 [x.av,.int .i64 n] []=AC cfg 43 [x.av,.int .i64 n] []:=rfl
 conv at start=>rhs;rw[T43,box_mv]
 simp only[oBs,new_m,new_r,List.length_nil,List.nil_append,List.length_cons,List.cons_append,Nat.zero_add] at start
 rw[mldA (x:=x) rfl,oBs,pcMI,hfx,y1,Option.map_some,oBs,mstA (x:=x) rfl,oBs] at start
 simp only[List.set_cons_zero] at start
 rw[mldA (x:=y) rfl,oBs,pcM,y4,e21,Option.map_some,oBs,not_b,oBs] at start
 cases hb:rightM y with
 | false=>
  rw[hb,Bool.not_false,ifA_true,mldA (x:=y) rfl,oBs,mstA (x:=zM) rfl,oBs] at start
  simp only[List.set_cons_zero,List.set_cons_succ] at start
  rw[mldA (x:=y) rfl,oBs] at start
  have:=out _ _ start
  rw[y4] at this
  exact ⟨y,this,y2,y3,y4,fun h=>by rw[hb] at h;cases h⟩
 | true=>
  obtain ⟨z1,z2,z3,z4,z5⟩:=size_of_right hb
  obtain ⟨y6,y7⟩:=y5 hb
  obtain ⟨rr,hrr⟩:=Int.eq_ofNat_of_zero_le z1
  obtain ⟨cc,hcc⟩:=Int.eq_ofNat_of_zero_le z3
  obtain ⟨u,u1,u2,u3,u4,u5⟩:=V13 (x:=y) (n:=min rr cc) (by omega) y2.xm y4
  rw[hb,Bool.not_true,ifA_false,mldA (x:=y) rfl,oBs,fld0,oBs,mld0 (x:=y) rfl,oBs,fld1,oBs,mld1 (x:=y) rfl,oBs,hrr,hcc,min_int,oBs,pcMI,y4,u1,Option.map_some,oBs,mstA (x:=zM) rfl,oBs] at start
  simp only[List.set_cons_zero,List.set_cons_succ] at start
  rw[mldA (x:=u) rfl,oBs] at start
  have:=out _ _ start
  rw[u4] at this
  refine ⟨u,this,u2,u3,u4,fun h=>?_⟩
  obtain ⟨u6,u7⟩:=u5 h
  rw[u6,u7]
  omega
end Go.Ab
set_option linter.unusedVariables false
set_option linter.unusedSimpArgs false
namespace Go.Ab
open Go.Proofs.Try
end Go.Ab
set_option linter.unusedVariables false
set_option linter.unusedSimpArgs false
namespace Go.Ab
open Go.Proofs.Try
end Go.Ab
set_option linter.unusedVariables false
set_option linter.unusedSimpArgs false
namespace Go.Ab
open Go.Proofs.Try
def qAt (x:MV) (p:Nat):Rat:=(x.lv.es.map RV.q).getD p 0
theorem qAt_get {x:MV} {p:Nat} (h:p<x.lv.es.length):qAt x p=x.lv.es[p].q:=by
 unfold qAt
 rw[List.getD_eq_getElem?_getD,List.getElem?_map,List.getElem?_eq_getElem h];rfl
structure Res (z:MV) (e err:Int) (R C:Nat) (Q:Nat→Rat) (k:Nat):Prop where
 fr:z.fr=z
 ok:LOk k z.lv
 e:e=err
 bad:err≠0→z=zM
 rows:err=0→z.rows=R
 cols:err=0→z.cols=C
 len:err=0→z.lv.es.length=R*C
 q:err=0→∀ p,p<R*C→qAt z p=Q p
def vM (x:MV):AV:=.vptr [.int .i64 x.rows,.int .i64 x.cols,x.lv.av]
theorem frz_ptrM {m:Mem} {n:Nat} {x:MV} (h:m[n]?=some (cM x)):frz m 8 (.ptr n 0)=some (vM x.fr,[]):=by
 have e:frz m 8 (.ptr n 0)=(m.obj? n).bind fun o=>if o.1 then (mapF (frz m 7) (o.2.drop 0)).map fun r=>(.vptr r.1,r.2) else none:=rfl
 rw[e,mobj h]
 simp[mapF,fza_int .i64 x.rows m 6,fza_int .i64 x.cols m 6,fza_lst x.lv.sh x.lv.z x.lv.o (x.lv.es.map RV.av) m 6,MV.fr,LV.fr,LV.av,vM]
theorem at_cell {i j c:Nat} (hi:i≤60) (hc:c≤60) (hj:j≤60):binA .other .mul (.int .i64 i) (.int .i64 c)=some (.int .i64 (i*c:Nat))∧binA .other .add (.int .i64 (i*c:Nat)) (.int .i64 j)=some (.int .i64 (i*c+j:Nat)):=by
 have:i*c≤60*60:=Nat.mul_le_mul hi hc
 refine ⟨?_,i_add (by omega)⟩
 rw[i_mul60 (by omega) (by omega) (by omega) (by omega),← Int.natCast_mul]
end Go.Ab
set_option linter.unusedVariables false
set_option linter.unusedSimpArgs false
namespace Go.Ab
open Go.Proofs.Try
structure IsM (k:Nat) (x:MV):Prop where
 ok:LOk k x.lv
 fr:x.fr=x
 len:x.lv.es.length≤4000
theorem qAt_bd {x:MV} {k p:Nat} (h:LOk k x.lv) (hk:1≤k):Bd k (qAt x p):=by
 by_cases hp:p<x.lv.es.length
 ·rw[qAt_get hp]
  exact (h.ok _ (List.getElem_mem hp)).bd hk
 ·unfold qAt
  rw[List.getD_eq_getElem?_getD,List.getElem?_map,List.getElem?_eq_none (by omega)]
  exact Bd_zero hk
theorem div_mod_mul (p c:Nat):p/c*c+p%c=p:=by rw[Nat.mul_comm];exact Nat.div_add_mod p c
theorem cell_lt60 {i j r c:Nat} (hi:i<r) (hj:j<c):i*c+j<r*c:=by
 have:(i+1)*c≤r*c:=Nat.mul_le_mul_right _ hi
 rw[Nat.succ_mul] at this
 omega
end Go.Ab
set_option linter.unusedVariables false
namespace Go.Ab
open Go.Proofs.Try
end Go.Ab
set_option linter.unusedVariables false
set_option linter.unusedSimpArgs false
namespace Go.Ab
open Go.Proofs.Try
def cA (es:List RV):Option Ent:=some (.obj false (flatR es))
def cB (rows cols:Int) (nR L:Nat):Option Ent:=some (.obj true [.int .i64 rows,.int .i64 cols,.arr nR 0 L (some 3)])
theorem arr_index {nR L p:Nat} (h:p<L):indexAddrA (some 3) (.arr nR 0 L (some 3)) (.int .i64 p)=some (.ptr nR (p*3)):=by
 simp only[indexAddrA,if_true]
 rw[if_pos ⟨by omega,by omega⟩,Int.toNat_natCast,Nat.zero_add];rfl
theorem atom_lst {o:Own} (h:o.fr=o) (sh:Sh) (z:Bool) (es:List AV):atomOk (.lst sh z o es)=true:=by
 cases o<;>first|rfl|(simp[Own.fr] at h)
theorem sh_fr {r:RV} (h:r.fr=r):shOk (some 3) r.av=true:=by
 obtain ⟨n,⟨z1,o1,d1⟩,⟨z2,o2,d2⟩⟩:=r
 simp only[RV.fr,NV.fr,RV.mk.injEq,NV.mk.injEq,true_and,and_true] at h
 have h1:=atom_lst h.1 none z1 (d1.map dg)
 have h2:=atom_lst h.2 none z2 (d2.map dg)
 show (true&&(true&&(atomOk (.lst none z1 o1 (d1.map dg))&&(atomOk (.lst none z2 o2 (d2.map dg))&&true))))=true
 rw[h1,h2];rfl
theorem arr_store {m:Mem} {nR p:Nat} {es:List RV} {r:RV} (hm:m[nR]?=some (cA es)) (hp:p<es.length) (hf:r.fr=r):storeA (some 3) m (.ptr nR (p*3)) r.av=some (m.set nR (cA (es.set p r))):=by
 have hl:=flatR_length es
 simp only[storeA,mobj hm,oBs,sh_fr hf,if_true]
 rw[if_pos (by rw[hl];simp only[Sh.size];omega),putAt_flat _ _ _ hp]
 rfl
theorem flatR_drop:∀ (es:List RV) (p:Nat) (h:p<es.length),((flatR es).drop (p*3)).take 3=[.bool es[p].neg,es[p].num.av,es[p].den.av]
 | r::es,0,h=>rfl
 | r::es,p+1,h=>by
  have e:(p+1)*3=p*3+1+1+1:=by omega
  show ((_::_::_::flatR es).drop ((p+1)*3)).take 3=_
  rw[e,List.drop_succ_cons,List.drop_succ_cons,List.drop_succ_cons,flatR_drop es p (by simpa using h)]
  rfl
theorem arr_load {m:Mem} {nR p:Nat} {es:List RV} (hm:m[nR]?=some (cA es)) (hp:p<es.length):loadA (some 3) m (.ptr nR (p*3))=some es[p].av:=by
 have hl:=flatR_length es
 have e:=flatR_drop es p hp
 simp only[loadA,mobj hm,oBs,cutSh]
 rw[if_pos (by rw[hl];omega),e]
 rfl
structure Wr (es:List RV) (L k:Nat) (Q:Nat→Rat) (done:Nat→Prop):Prop where
 len:es.length=L
 fr:∀ r∈es,r.fr=r
 ok:∀ r∈es,ROk k r
 q:∀ p,p<L→done p→(es.map RV.q).getD p 0=Q p
theorem Wr.zero (L k:Nat) (Q:Nat→Rat) (hk:1≤k):Wr (List.replicate L zeroF) L k Q (fun _=>False):=
 ⟨List.length_replicate,fun r hr=>by rw[(List.mem_replicate.1 hr).2];exact zeroF_fr,fun r hr=>by rw[(List.mem_replicate.1 hr).2];exact zeroF_ok.mono hk,fun _ _ h=>h.elim⟩
theorem Wr.res {es:List RV} {R C k:Nat} {Q:Nat→Rat} (h:Wr es (R*C) k Q (fun _=>True)):Res ⟨R,C,⟨some 3,false,.no,es⟩⟩ 0 0 R C Q k:=
 ⟨rfl,⟨.inl rfl,(fun h=>absurd (show false=true from h) (by decide)),h.fr,h.ok⟩,rfl,fun h=>absurd rfl h,fun _=>rfl,fun _=>rfl,fun _=>h.len,fun _ p hp=>h.q p hp trivial⟩
theorem Res.nil {R C k:Nat} {Q:Nat→Rat} (h:R*C=0):Res ⟨R,C,nilL⟩ 0 0 R C Q k:=
 ⟨rfl,zM_ok k,rfl,fun h=>absurd rfl h,fun _=>rfl,fun _=>rfl,fun _=>h.symm,fun _ p hp=>by omega⟩
end Go.Ab
set_option linter.unusedVariables false
set_option linter.unusedSimpArgs false
namespace Go.Ab
open Go.Proofs.Try
theorem tr_cell {r i j:Nat} (hi:i<r):(j*r+i)%r=i∧(j*r+i)/r=j:=by
 have e:j*r+i=i+r*j:=by rw[Nat.mul_comm];omega
 rw[e]
 refine ⟨by rw[Nat.add_mul_mod_self_left,Nat.mod_eq_of_lt hi],by rw[Nat.add_mul_div_left _ _ (by omega),Nat.div_eq_of_lt hi,Nat.zero_add]⟩
end Go.Ab
set_option linter.unusedVariables false
set_option linter.unusedSimpArgs false
namespace Go.Ab
open Go.Proofs.Try
def sumN (f:Nat→Rat):Nat→Rat
 | 0=>0
 | n+1=>sumN f n+f n
theorem sumN_congr {f g:Nat→Rat}:∀ {n:Nat},(∀ l,l<n→f l=g l)→sumN f n=sumN g n
 | 0,_=>rfl
 | n+1,h=>by rw[sumN,sumN,sumN_congr (fun l hl=>h l (by omega)),h n (by omega)]
theorem sumN_zero:∀ n:Nat,sumN (fun _=>0) n=0
 | 0=>rfl
 | n+1=>by rw[sumN,sumN_zero n,Rat.add_zero]
theorem sumN_add (f g:Nat→Rat):∀ n:Nat,sumN (fun l=>f l+g l) n=sumN f n+sumN g n
 | 0=>by simp only[sumN,Rat.add_zero]
 | n+1=>by
  rw[sumN,sumN_add f g n,sumN,sumN,Rat.add_assoc,Rat.add_assoc]
  congr 1
  rw[← Rat.add_assoc,← Rat.add_assoc,Rat.add_comm (sumN g n) (f n)]
theorem sumN_mulL (c:Rat) (f:Nat→Rat):∀ n:Nat,sumN (fun l=>c*f l) n=c*sumN f n
 | 0=>by simp only[sumN,Rat.mul_zero]
 | n+1=>by rw[sumN,sumN_mulL c f n,sumN,Rat.mul_add]
theorem sumN_mulR (c:Rat) (f:Nat→Rat):∀ n:Nat,sumN (fun l=>f l*c) n=sumN f n*c
 | 0=>by simp only[sumN,Rat.zero_mul]
 | n+1=>by rw[sumN,sumN_mulR c f n,sumN,Rat.add_mul]
theorem sumN_swap (f:Nat→Nat→Rat) (m:Nat):∀ n:Nat,sumN (fun i=>sumN (f i) m) n=sumN (fun j=>sumN (fun i=>f i j) n) m
 | 0=>(sumN_zero m).symm
 | n+1=>by rw[sumN,sumN_swap f m n,← sumN_add];rfl
theorem sumN_one {f:Nat→Rat} {p:Nat}:∀ {n:Nat},(∀ l,l<n→l≠p→f l=0)→sumN f n=if p<n then f p else 0
 | 0,_=>rfl
 | n+1,h=>by
  rw[sumN,sumN_one (fun l hl=>h l (by omega))]
  by_cases c:p<n
  ·rw[if_pos c,if_pos (by omega),h n (by omega) (by omega),Rat.add_zero]
  ·rw[if_neg c,Rat.zero_add]
   by_cases c2:p=n
   ·rw[if_pos (by omega),c2]
   ·rw[if_neg (by omega),h n (by omega) (fun e=>c2 e.symm)]
def dotQ (x y:MV) (c d i j:Nat) (l:Nat):Rat:=sumN (fun l=>qAt x (i*c+l)*qAt y (l*d+j)) l
theorem gtr0 (x:NV):binA .other .gtr (.int .i64 x.ds.length) (.int .i64 0)=some (.bool (decide (x.ds.length>0))):=by
 rw[binA_gtr];congr 2;exact decide_eq_decide.2 (by omega)
def mulQ (x y:MV) (c d p:Nat):Rat:=dotQ x y c d (p/d) (p%d) c
end Go.Ab
set_option linter.unusedVariables false
set_option linter.unusedSimpArgs false
namespace Go.Ab
open Go.Proofs.Try
theorem Wr.congr {es:List RV} {L k:Nat} {Q Q':Nat→Rat} (h:Wr es L k Q (fun _=>True)) (hq:∀ p,p<L→Q' p=Q p):Wr es L k Q' (fun _=>True):=⟨h.len,h.fr,h.ok,fun p hp _=>by rw[h.q p hp trivial,hq p hp]⟩
theorem row_col {i j d:Nat} (hj:j<d):(i*d+j)/d=i∧(i*d+j)%d=j:=by
 obtain ⟨a,b⟩:=tr_cell (r:=d) (i:=j) (j:=i) hj
 exact ⟨b,a⟩
section
variable {x y:MV} {k K r c d:Nat}
end
theorem right_len {x:MV} (h:rightM x=true):∃ r c:Nat,x.rows=r∧x.cols=c∧r≤60∧c≤60∧x.lv.es.length=r*c:=by
 obtain ⟨z1,z2,z3,z4,z5⟩:=size_of_right h
 obtain ⟨r,hr⟩:=Int.eq_ofNat_of_zero_le z1
 obtain ⟨c,hc⟩:=Int.eq_ofNat_of_zero_le z3
 refine ⟨r,c,hr,hc,by omega,by omega,?_⟩
 rw[hr,hc,← Int.natCast_mul] at z5
 exact Int.ofNat_inj.1 z5
end Go.Ab
set_option linter.unusedVariables false
set_option linter.unusedSimpArgs false
namespace Go.Ab
open Go.Proofs.Try
theorem qOf_sc {s:Bool} {n d a:Nat} (ha:a≠0):qOf s (n*a) (d*a)=qOf s n d:=by
 have:=Rat.mkRat_mul_right (a:=a) (n:=sgn s n) (d:=d) ha
 rw[qOf,qOf,← this]
 congr 1
 cases s<;>simp[sgn,Int.natCast_mul,Int.neg_mul]
theorem qOf_div {s t:Bool} {n d k e:Nat} (h:qOf t k e≠0):qOf (s != t) (n*e) (d*k)=qOf s n d/qOf t k e:=by
 have hk:k≠0:=fun h0=>h (by rw[h0,qOf_num0])
 have he:e≠0:=fun h0=>h (by rw[h0,qOf_den0])
 have h1:qOf (s != t) (n*e) (d*k)*qOf t k e=qOf s n d:=by
  rw[qOf_mul,show ((s != t) != t)=s by cases s<;>cases t<;>rfl,Nat.mul_assoc,Nat.mul_assoc,Nat.mul_comm k e]
  exact qOf_sc (Nat.mul_ne_zero he hk)
 rw[← h1]
 generalize qOf t k e=y at h
 grind
theorem Bd_neg {q:Rat} {k:Nat} (h:Bd k q):Bd k (-q):=by
 refine ⟨?_,?_⟩
 ·have:(-q).num.natAbs=q.num.natAbs:=by rw[Rat.neg_num,Int.natAbs_neg]
  rw[this];exact h.1
 ·have:(-q).den=q.den:=Rat.neg_den q
  rw[this];exact h.2
theorem Bd_sub {p q:Rat} {k l:Nat} (hp:Bd k p) (hq:Bd l q) (hk:1≤k):Bd (k+l+1) (p-q):=by
 rw[Rat.sub_eq_add_neg];exact Bd_add hp (Bd_neg hq) hk
theorem Bd_div {p q:Rat} {k l:Nat} (hp:Bd k p) (hq:Bd l q) (hk:1≤k) (h0:q≠0):Bd (k+l) (p/q):=by
 have e:=qOf_div (s:=decide (p.num<0)) (t:=decide (q.num<0)) (n:=p.num.natAbs) (d:=p.den) (k:=q.num.natAbs) (e:=q.den) (by rw[qOf_self];exact h0)
 rw[qOf_self,qOf_self] at e
 rw[← e]
 exact Bd_qOf (ln_mul hp.1 hq.2) (ln_mul hp.2 hq.1) (by omega)
theorem V89 {r:RV} {k:Nat} (h:ROk k r):∃ s:RV,AP cfg 89 [r.av]=some s.av∧Can s (- r.q)∧s.fr=s:=by
 obtain ⟨s,h1,h2,h3⟩:=V106 (!r.neg) h.num.fr h.den.fr
 have e:qOf (!r.neg) r.num.fr.v r.den.fr.v=- r.q:=by
  rw[qOf_negate];rfl
 rw[e] at h2
 refine ⟨s,(AP_ofz _ _ (fz_rv s) (noV_rv _) (m:=[cR r,cR s]) ?_).trans (by rw[h3]),h2,h3⟩
 rw[T89]
 simp only[Nat.reduceAdd,oBs,Option.map_some,box_rv,new_z,new_r,new_zs,new_rs,fld0,fld1,fld2,res1,res2,ld0neg,ld0num,ld0den,ld0all,st0all,st0neg,ld1neg,ld1num,ld1den,ld1all,st1all,st1neg,ld2neg,ld2num,ld2den,ld2all,st2all,st2neg,ld3neg,ld3num,ld3den,ld3all,st3all,st3neg,ld4neg,ld4num,ld4den,ld4all,st4all,st4neg,ex0,ex1,ex2,bld0,bld2,bld12,bld012,nil_av,not_b,bl_neq,bl_eql,List.length_cons,List.length_nil,List.length_append,List.nil_append,List.cons_append,List.append_nil,Nat.zero_add,List.set_cons_zero,List.set_cons_succ,List.set_nil,pcN,pcI,pcNN,pcBNN,pcR,pcRR,pc0,h1]
theorem V135 {a b:RV} {k:Nat} (ha:ROk k a) (hb:ROk k b) (hk1:1≤k) (hk:k<2^36):∃ s:RV,AP cfg 135 [a.av,b.av]=some s.av∧Can s (a.q-b.q)∧s.fr=s:=by
 obtain ⟨n,e1,e2,e3⟩:=V89 hb.fr
 have hn:ROk k n:=e2.ok (by rw[RV.fr_q];exact Bd_neg (hb.bd hk1)) (by omega)
 obtain ⟨s,f1,f2,f3⟩:=V75 ha.fr hn hk1 hk
 rw[RV.fr_q,e2.q,RV.fr_q,← Rat.sub_eq_add_neg] at f2
 have hnf:n.fr.av=n.av:=by rw[e3]
 refine ⟨s,(AP_ofz _ _ (fz_rv s) (noV_rv _) (m:=[cR a,cR b,cR s]) ?_).trans (by rw[f3]),f2,f3⟩
 rw[T135]
 simp only[Nat.reduceAdd,oBs,Option.map_some,box_rv,new_z,new_r,new_zs,new_rs,fld0,fld1,fld2,res1,res2,ld0neg,ld0num,ld0den,ld0all,st0all,st0neg,ld1neg,ld1num,ld1den,ld1all,st1all,st1neg,ld2neg,ld2num,ld2den,ld2all,st2all,st2neg,ld3neg,ld3num,ld3den,ld3all,st3all,st3neg,ld4neg,ld4num,ld4den,ld4all,st4all,st4neg,ex0,ex1,ex2,bld0,bld2,bld12,bld012,nil_av,not_b,bl_neq,bl_eql,List.length_cons,List.length_nil,List.length_append,List.nil_append,List.cons_append,List.append_nil,Nat.zero_add,List.set_cons_zero,List.set_cons_succ,List.set_nil,pcN,pcI,pcNN,pcBNN,pcR,pcRR,pc0,e1,hnf,f1]
theorem V122 {a b:RV} {k:Nat} (ha:ROk k a) (hb:ROk k b) (hk1:1≤k) (hk:k<2^36) (hb0:b.q≠0):∃ s:RV,AP cfg 122 [a.av,b.av]=some (.tup [s.av,.int .i64 0])∧Can s (a.q/b.q)∧s.fr=s:=by
 have hsb:signR b≠0:=fun e=>hb0 (signR_zero.1 e)
 have e2:=V105 hb.fr
 have s2:signR b.fr=signR b:=rfl
 rw[s2] at e2
 have g1:=V107 ha.num.fr hb.den.fr
 have g2:=V107 ha.den.fr hb.num.fr
 have v1:a.num.fr.v=a.num.v:=rfl
 have v2:a.den.fr.v=a.den.v:=rfl
 have v3:b.num.fr.v=b.num.v:=rfl
 have v4:b.den.fr.v=b.den.v:=rfl
 rw[v1,v4] at g1
 rw[v2,v3] at g2
 have ln:=ln_mul (Nat.le_trans ha.num.v_len ha.ln) (Nat.le_trans hb.den.v_len hb.ld)
 have ld:=ln_mul (Nat.le_trans ha.den.v_len ha.ld) (Nat.le_trans hb.num.v_len hb.ln)
 have on:NOk ⟨false,.no,digs (a.num.v*b.den.v)⟩:=nok_digs (by omega)
 have od:NOk ⟨false,.no,digs (a.den.v*b.num.v)⟩:=nok_digs (by omega)
 have nf:∀ n:Nat,(NV.mk false .no (digs n)).fr=⟨false,.no,digs n⟩:=fun _=>rfl
 have nv:∀ n:Nat,(NV.mk false .no (digs n)).v=n:=fun n=>val_digs n
 obtain ⟨r,h1,h2,h3⟩:=V106 (a.neg != b.neg) on od
 have hq:qOf (a.neg != b.neg) (a.num.v*b.den.v) (a.den.v*b.num.v)=a.q/b.q:=qOf_div hb0
 rw[nv,nv,hq] at h2
 refine ⟨r,(AP_ofz _ _ (fz_tupR2 r (fza_int _ _)) rfl (m:=[cR a,cR b,cR r]) ?_).trans (by rw[h3]),h2,h3⟩
 rw[T122]
 simp only[Nat.reduceAdd,oBs,Option.map_some,box_rv,new_z,new_r,new_zs,new_rs,fld0,fld1,fld2,res1,res2,ld0neg,ld0num,ld0den,ld0all,st0all,st0neg,ld1neg,ld1num,ld1den,ld1all,st1all,st1neg,ld2neg,ld2num,ld2den,ld2all,st2all,st2neg,ld3neg,ld3num,ld3den,ld3all,st3all,st3neg,ld4neg,ld4num,ld4den,ld4all,st4all,st4neg,ex0,ex1,ex2,bld0,bld2,bld12,bld012,nil_av,not_b,bl_neq,bl_eql,List.length_cons,List.length_nil,List.length_append,List.nil_append,List.cons_append,List.append_nil,Nat.zero_add,List.set_cons_zero,List.set_cons_succ,List.set_nil,pcN,pcI,pcNN,pcBNN,pcR,pcRR,pc0,e2]
 rw[binA_eql,oBs,ifA_dec,if_neg hsb]
 simp only[Nat.reduceAdd,oBs,Option.map_some,box_rv,new_z,new_r,new_zs,new_rs,fld0,fld1,fld2,res1,res2,ld0neg,ld0num,ld0den,ld0all,st0all,st0neg,ld1neg,ld1num,ld1den,ld1all,st1all,st1neg,ld2neg,ld2num,ld2den,ld2all,st2all,st2neg,ld3neg,ld3num,ld3den,ld3all,st3all,st3neg,ld4neg,ld4num,ld4den,ld4all,st4all,st4neg,ex0,ex1,ex2,bld0,bld2,bld12,bld012,nil_av,not_b,bl_neq,bl_eql,List.length_cons,List.length_nil,List.length_append,List.nil_append,List.cons_append,List.append_nil,Nat.zero_add,List.set_cons_zero,List.set_cons_succ,List.set_nil,pcN,pcI,pcNN,pcBNN,pcR,pcRR,pc0,g1,g2,nf,h1]
theorem n_mulE {tk:TK} {a b:Nat} (h:a*b<9223372036854775808):binA tk .mul (.int .i64 a) (.int .i64 b)=some (.int .i64 (a*b:Nat)):=by
 rw[binA_mul,← Int.natCast_mul]
 generalize a*b=q at *
 rw[wrap_i64 (by omega) (by omega)]
theorem V139 {x:NV} (hx:NOk x):∃ b:Nat,AP cfg 139 [x.av]=some (.int .i64 (b:Nat))∧b≤32*(digs x.v).length+32:=by
 have e1:=V124 hx.fr
 have hv:x.fr.v=x.v:=rfl
 rw[hv] at e1
 have hl:=hx.v_len
 have hx2:=hx.len
 have p1:pcall (AP cfg) none ([]:Mem) 124 [x.av]=some (NV.av ⟨x.fr.z,.no,digs x.v⟩,[]):=by rw[pcN,e1];rfl
 by_cases h0:(digs x.v).length=0
 ·refine ⟨0,AP_ofz _ _ (fz_int _ _) rfl (m:=[]) ?_,by omega⟩
  rw[T139,p1,oBs]
  show (lenA false (NV.av ⟨x.fr.z,.no,digs x.v⟩)).bind _=_
  rw[len_nv,oBs,show (NV.mk x.fr.z Own.no (digs x.v)).ds.length=0 from h0,binA_eql,oBs,ifA_dec,if_pos (by decide)];rfl
 ·have hn0:x.v≠0:=fun e=>h0 (by rw[e,digs_zero];rfl)
  have hd:=digs_last hn0
  have hlt:(digs x.v).getD ((digs x.v).length-1) 0<4294967296:=dg_digs x.v _
  have e2:=V140 (x:=(digs x.v).getD ((digs x.v).length-1) 0) (by omega) hlt
  have hlg:Nat.log2 ((digs x.v).getD ((digs x.v).length-1) 0)<32:=(Nat.log2_lt (by omega)).2 hlt
  have ix:=index_nv (x:=⟨x.fr.z,.no,digs x.v⟩) (k:=.i64) (i:=(digs x.v).length-1) (by show _<(digs x.v).length;omega)
  have ix:indexAddrA none (NV.av ⟨x.fr.z,.no,digs x.v⟩) (.int .i64 ((digs x.v).length-1:Nat))=some (.vptr [dg ((digs x.v).getD ((digs x.v).length-1) 0)]):=ix
  generalize (digs x.v).getD ((digs x.v).length-1) 0=d at *
  have hlen:lenA false (NV.av ⟨x.fr.z,.no,digs x.v⟩)=some (.int .i64 ((digs x.v).length:Nat)):=len_nv _
  have p2:pcall (AP cfg) none ([]:Mem) 140 [dg d]=some (.int .i64 (Nat.log2 d+1:Nat),[]):=by rw[pcall1 (a:=dg d) (a':=dg d) (fz_int .u32 d),e2];rfl
  refine ⟨32*((digs x.v).length-1)+(Nat.log2 d+1),AP_ofz _ _ (fz_int _ _) rfl (m:=[]) ?_,by omega⟩
  rw[T139,p1,oBs]
  dsimp only
  rw[hlen,oBs,binA_eql,oBs,ifA_dec,if_neg (by omega),oBs,i_sub1 (by omega) (by omega),oBs,show (AV.int .i64 32)=.int .i64 ((32:Nat):Int) from rfl,n_mulE (by omega),oBs,oBs,i_sub1 (by omega) (by omega),oBs,ix,oBs,loadA_one,oBs,p2,oBs]
  dsimp only
  rw[i_add (by omega),oBs]
theorem V134 {r:RV} {k:Nat} (h:ROk k r) (hk:k<2^40):∃ w:Nat,AP cfg 134 [r.av]=some (.int .i64 (w:Nat))∧w≤64*k+64:=by
 obtain ⟨a,e1,h1⟩:=V139 h.num.fr
 obtain ⟨b,e2,h2⟩:=V139 h.den.fr
 have hv1:r.num.fr.v=r.num.v:=rfl
 have hv2:r.den.fr.v=r.den.v:=rfl
 rw[hv1] at h1
 rw[hv2] at h2
 have l1:=Nat.le_trans h.num.v_len h.ln
 have l2:=Nat.le_trans h.den.v_len h.ld
 refine ⟨a+b,AP_ofz _ _ (fz_int _ _) rfl (m:=[cR r]) ?_,by omega⟩
 rw[T134]
 simp only[Nat.reduceAdd,oBs,Option.map_some,box_rv,new_z,new_r,new_zs,new_rs,fld0,fld1,fld2,res1,res2,ld0neg,ld0num,ld0den,ld0all,st0all,st0neg,ld1neg,ld1num,ld1den,ld1all,st1all,st1neg,ld2neg,ld2num,ld2den,ld2all,st2all,st2neg,ld3neg,ld3num,ld3den,ld3all,st3all,st3neg,ld4neg,ld4num,ld4den,ld4all,st4all,st4neg,ex0,ex1,ex2,bld0,bld2,bld12,bld012,nil_av,not_b,bl_neq,bl_eql,List.length_cons,List.length_nil,List.length_append,List.nil_append,List.cons_append,List.append_nil,Nat.zero_add,List.set_cons_zero,List.set_cons_succ,List.set_nil,pcN,pcI,pcNN,pcBNN,pcR,pcRR,pc0,e1,e2]
 rw[i_add (by omega),oBs]
end Go.Ab
set_option linter.unusedVariables false
set_option linter.unusedSimpArgs false
set_option linter.unusedSectionVars false
namespace Go.Ab
def sumR:Nat→(Nat→Rat)→Rat
 | 0,_=>0
 | n+1,f=>sumR n f+f n
theorem sumR_congr:∀ {n:Nat} {f g:Nat→Rat},(∀ k,k<n→f k=g k)→sumR n f=sumR n g
 | 0,_,_,_=>rfl
 | n+1,f,g,h=>by rw[sumR,sumR,sumR_congr fun k hk=>h k (by omega),h n (by omega)]
theorem sumR_zero (n:Nat):sumR n (fun _=>0)=0:=by
 induction n with
 | zero=>rfl
 | succ n ih=>rw[sumR,ih];grind
theorem sumR_add (f g:Nat→Rat):∀ n,sumR n (fun k=>f k+g k)=sumR n f+sumR n g
 | 0=>by simp only[sumR];grind
 | n+1=>by rw[sumR,sumR,sumR,sumR_add f g n];grind
theorem sumR_mul (c:Rat) (f:Nat→Rat):∀ n,sumR n (fun k=>c*f k)=c*sumR n f
 | 0=>by simp only[sumR];grind
 | n+1=>by rw[sumR,sumR,sumR_mul c f n];grind
theorem sumR_lin (a b:Rat) (f g:Nat→Rat) (n:Nat):sumR n (fun k=>a*f k+b*g k)=a*sumR n f+b*sumR n g:=by
 rw[sumR_add,sumR_mul,sumR_mul]
theorem sumR_neg (f:Nat→Rat) (n:Nat):sumR n (fun k=>- f k)=- sumR n f:=by
 have:=sumR_mul (-1) f n
 rw[sumR_congr (g:=fun k=>-1*f k) fun k _=>by grind,this];grind
theorem sumR_swap (n m:Nat) (F:Nat→Nat→Rat):sumR n (fun i=>sumR m fun j=>F i j)=sumR m fun j=>sumR n fun i=>F i j:=by
 induction n with
 | zero=>simp only[sumR];exact (sumR_zero m).symm
 | succ n ih=>simp only[sumR];rw[ih,sumR_add]
theorem sumR_one {n i:Nat} {f:Nat→Rat} (hi:i<n) (h:∀ k,k<n→k≠i→f k=0):sumR n f=f i:=by
 induction n with
 | zero=>omega
 | succ n ih=>
  rw[sumR]
  by_cases hn:i=n
  ·subst hn
   rw[sumR_congr (g:=fun _=>0) fun k hk=>h k (by omega) (by omega),sumR_zero];grind
  ·rw[ih (by omega) fun k hk=>h k (by omega),h n (by omega) (by omega)];grind
theorem sumR_all0 {n:Nat} {f:Nat→Rat} (h:∀ k,k<n→f k=0):sumR n f=0:=by
 rw[sumR_congr (g:=fun _=>0) h,sumR_zero]
abbrev MX:=Nat→Nat→Rat
def use (U:Nat→Bool) (k:Nat):Nat→Bool:=fun j=>if j=k then true else U j
theorem use_comm (U:Nat→Bool) (k l:Nat):use (use U k) l=use (use U l) k:=by
 funext j;unfold use;split<;>split<;>rfl
theorem use_ne {U:Nat→Bool} {k l:Nat} (h:l≠k):use U k l=U l:=if_neg h
theorem use_self {U:Nat→Bool} {k:Nat}:use U k k=true:=if_pos rfl
def sgU (U:Nat→Bool):Nat→Nat→Rat
 | 0,_=>1
 | d+1,j=>(if U j then -1 else 1)*sgU U d (j+1)
def Dt (n:Nat) (M:MX):Nat→Nat→(Nat→Bool)→Rat
 | 0,_,_=>1
 | d+1,i,U=>sumR n fun k=>if U k then 0 else sgU U (n-(k+1)) (k+1)*M i k*Dt n M d (i+1) (use U k)
def det (n:Nat) (M:MX):Rat:=Dt n M n 0 fun _=>false
theorem Dt_congr {n:Nat} {M N:MX}:∀ (d i:Nat) (U:Nat→Bool),(∀ r k,i≤r→r<i+d→k<n→M r k=N r k)→Dt n M d i U=Dt n N d i U
 | 0,_,_,_=>rfl
 | d+1,i,U,h=>by
  rw[Dt,Dt]
  refine sumR_congr fun k hk=>?_
  rw[h i k (by omega) (by omega) hk,Dt_congr d (i+1) (use U k) fun r k h1 h2 hk=>h r k (by omega) (by omega) hk]
theorem sgU_use {U:Nat→Bool} {k:Nat} (hk:U k=false):∀ (d j:Nat),sgU (use U k) d j=sgU U d j*(if j≤k∧k<j+d then -1 else 1)
 | 0,j=>by
  rw[if_neg (fun h=>by omega)];simp only[sgU];grind
 | d+1,j=>by
  rw[sgU,sgU,sgU_use hk d (j+1)]
  by_cases hj:j=k
  ·subst hj
   have h1:¬ (j+1≤j∧j<j+1+d):=by omega
   have h2:j≤j∧j<j+(d+1):=by omega
   simp only[use_self,hk,if_neg h1,if_pos h2,if_true,Bool.false_eq_true,if_false];grind
  ·rw[use_ne hj]
   by_cases h2:j≤k∧k<j+(d+1)
   ·rw[if_pos (by omega:j+1≤k∧k<j+1+d),if_pos h2];grind
   ·rw[if_neg (by omega:¬ (j+1≤k∧k<j+1+d)),if_neg h2];grind
theorem Dt_adj {n:Nat} {M N:MX} {t:Nat} (h1:∀ k,N t k=M (t+1) k) (h2:∀ k,N (t+1) k=M t k) (h3:∀ r k,r≠t→r≠t+1→N r k=M r k):∀ (d i:Nat) (U:Nat→Bool),i≤t→t+1<i+d→Dt n N d i U=- Dt n M d i U
 | 0,i,U,hi,hd=>by omega
 | d+1,i,U,hi,hd=>by
  by_cases hit:i=t
  ·subst hit
   obtain ⟨e,rfl⟩:∃ e,d=e+1:=⟨d-1,by omega⟩
   have key:∀ A:MX,Dt n A (e+1+1) i U=sumR n fun k=>sumR n fun l=>if U k then 0 else if use U k l then 0 else sgU U (n-(k+1)) (k+1)*sgU (use U k) (n-(l+1)) (l+1)*A i k*A (i+1) l*Dt n A e (i+2) (use (use U k) l):=fun A=>by
    rw[Dt]
    refine sumR_congr fun k hk=>?_
    by_cases hU:U k=true
    ·simp only[hU,if_true];exact (sumR_zero n).symm
    ·simp only[hU]
     rw[Dt,← sumR_mul]
     refine sumR_congr fun l hl=>?_
     by_cases hV:use U k l=true
     ·simp only[hV,if_true];grind
     ·simp only[hV];grind
   rw[key N,key M,sumR_swap,← sumR_neg]
   refine sumR_congr fun l hl=>?_
   rw[← sumR_neg]
   refine sumR_congr fun k hk=>?_
   have hD:Dt n N e (i+2) (use (use U k) l)=Dt n M e (i+2) (use (use U l) k):=by
    rw[use_comm]
    exact Dt_congr _ _ _ fun r k hr _ _=>h3 r k (by omega) (by omega)
   by_cases hk:U k=true
   ·have:use U l k=true:=by unfold use;split<;>simp[hk]
    simp only[hk,this,if_true];split<;>grind
   ·have hk:U k=false:=by simpa using hk
    by_cases hl':U l=true
    ·have:use U k l=true:=by unfold use;split<;>simp[hl']
     simp only[hk,hl',this,if_true];simp only[Bool.false_eq_true,if_false];grind
    ·have hl':U l=false:=by simpa using hl'
     by_cases hkl:k=l
     ·subst hkl
      simp only[use_self,if_true,hk,Bool.false_eq_true,if_false];grind
     ·rw[use_ne (fun e=>hkl e.symm),use_ne hkl,hk,hl',hD,h1,h2,sgU_use hk,sgU_use hl']
      simp only[Bool.false_eq_true,if_false]
      by_cases hlt:k<l
      ·rw[if_neg (by omega:¬ (l+1≤k∧k<l+1+(n-(l+1)))),if_pos (by omega:k+1≤l∧l<k+1+(n-(k+1)))];grind
      ·rw[if_pos (by omega:l+1≤k∧k<l+1+(n-(l+1))),if_neg (by omega:¬ (k+1≤l∧l<k+1+(n-(k+1))))];grind
  ·rw[Dt,Dt,← sumR_neg]
   refine sumR_congr fun k hk=>?_
   rw[h3 i k hit (by omega),Dt_adj h1 h2 h3 d (i+1) (use U k) (by omega) (by omega)]
   split<;>grind
theorem Dt_lin {n:Nat} {M P Q:MX} {a b:Rat} {t:Nat} (h1:∀ k,M t k=a*P t k+b*Q t k) (h2:∀ r k,r≠t→P r k=M r k) (h3:∀ r k,r≠t→Q r k=M r k):∀ (d i:Nat) (U:Nat→Bool),i≤t→t<i+d→Dt n M d i U=a*Dt n P d i U+b*Dt n Q d i U
 | 0,i,U,hi,hd=>by omega
 | d+1,i,U,hi,hd=>by
  rw[Dt,Dt,Dt,← sumR_lin]
  refine sumR_congr fun k hk=>?_
  by_cases hU:U k=true
  ·simp only[hU,if_true];grind
  ·simp only[hU]
   by_cases hit:i=t
   ·subst hit
    rw[h1,Dt_congr (M:=P) (N:=M) d (i+1) _ fun r k hr _ _=>h2 r k (by omega),Dt_congr (M:=Q) (N:=M) d (i+1) _ fun r k hr _ _=>h3 r k (by omega)];grind
   ·rw[h2 i k hit,h3 i k hit,Dt_lin h1 h2 h3 d (i+1) (use U k) (by omega) (by omega)];grind
theorem Dt_same {n:Nat}:∀ (e:Nat) (M:MX) (r t d i:Nat) (U:Nat→Bool),t=r+1+e→(∀ k,M r k=M t k)→i≤r→t<i+d→Dt n M d i U=0
 | 0,M,r,t,d,i,U,ht,h,hi,hd=>by
  subst ht
  have:=Dt_adj (n:=n) (M:=M) (N:=M) (t:=r) (fun k=>h k) (fun k=>(h k).symm) (fun _ _ _ _=>rfl) d i U hi (by omega)
  grind
 | e+1,M,r,t,d,i,U,ht,h,hi,hd=>by
  let N:MX:=fun q k=>if q=t-1 then M t k else if q=t then M (t-1) k else M q k
  have h1:Dt n N d i U=0:=Dt_same e N r (t-1) d i U (by omega) (fun k=>by
   show (if r=t-1 then M t k else if r=t then M (t-1) k else M r k)=(if t-1=t-1 then M t k else _)
   rw[if_neg (by omega),if_neg (by omega),if_pos rfl];exact h k) hi (by omega)
  have h2:=Dt_adj (n:=n) (M:=M) (N:=N) (t:=t-1) (fun k=>by
   show (if t-1=t-1 then M t k else _)=_
   rw[if_pos rfl,show t-1+1=t by omega]) (fun k=>by
   show (if t-1+1=t-1 then M t k else if t-1+1=t then M (t-1) k else _)=_
   rw[if_neg (by omega),if_pos (by omega)]) (fun q k a b=>by
   show (if q=t-1 then M t k else if q=t then M (t-1) k else M q k)=_
   rw[if_neg a,if_neg (by omega)]) d i U (by omega) (by omega)
  grind
def addR (M:MX) (r t:Nat) (f:Rat):MX:=fun q k=>if q=t then M t k-f*M r k else M q k
def swpR (M:MX) (r t:Nat):MX:=fun q k=>if q=r then M t k else if q=t then M r k else M q k
def sclR (M:MX) (r:Nat) (a:Rat):MX:=fun q k=>if q=r then a*M r k else M q k
theorem det_add {n:Nat} (M:MX) {r t:Nat} (f:Rat) (hr:r<n) (ht:t<n) (hne:r≠t):det n (addR M r t f)=det n M:=by
 let Q:MX:=fun q k=>if q=t then M r k else M q k
 have h0:det n Q=0:=by
  rcases Nat.lt_or_gt_of_ne hne with h|h
  ·exact Dt_same (t-(r+1)) Q r t n 0 _ (by omega) (fun k=>by
    show (if r=t then _ else M r k)=(if t=t then M r k else _)
    rw[if_neg hne,if_pos rfl]) (by omega) (by omega)
  ·exact Dt_same (r-(t+1)) Q t r n 0 _ (by omega) (fun k=>by
    show (if t=t then M r k else _)=(if r=t then _ else M r k)
    rw[if_neg hne,if_pos rfl]) (by omega) (by omega)
 have:=Dt_lin (n:=n) (M:=addR M r t f) (P:=M) (Q:=Q) (a:=1) (b:=-f) (t:=t) (fun k=>by
  show (if t=t then M t k-f*M r k else _)=1*M t k + -f*(if t=t then M r k else _)
  rw[if_pos rfl,if_pos rfl];grind) (fun q k hq=>(if_neg hq).symm) (fun q k hq=>by
  show (if q=t then _ else M q k)=(if q=t then _ else M q k)
  rw[if_neg hq,if_neg hq]) n 0 (fun _=>false) (by omega) (by omega)
 unfold det at *
 rw[this,h0];grind
theorem det_scl {n:Nat} (M:MX) {r:Nat} (a:Rat) (hr:r<n):det n (sclR M r a)=a*det n M:=by
 have:=Dt_lin (n:=n) (M:=sclR M r a) (P:=M) (Q:=M) (a:=a) (b:=0) (t:=r) (fun k=>by
  show (if r=r then a*M r k else _)=_
  rw[if_pos rfl];grind) (fun q k hq=>(if_neg hq).symm) (fun q k hq=>(if_neg hq).symm) n 0 (fun _=>false) (by omega) (by omega)
 unfold det
 rw[this];grind
theorem det_congr {n:Nat} {M N:MX} (h:∀ r k,r<n→k<n→M r k=N r k):det n M=det n N:=
 Dt_congr n 0 _ fun r k _ hr hk=>h r k (by omega) hk
theorem det_swp {n:Nat} (M:MX) {r t:Nat} (hr:r<n) (ht:t<n) (hne:r≠t):det n (swpR M r t)=- det n M:=by
 have e:∀ q k,swpR M r t q k=sclR (addR (addR (addR M r t (-1)) t r 1) r t (-1)) r (-1) q k:=fun q k=>by
  simp only[swpR,sclR,addR]
  by_cases h1:q=r
  ·subst h1;simp only[if_true,if_neg hne,if_neg hne.symm];grind
  ·by_cases h2:q=t
   ·subst h2;simp only[if_true,if_neg hne,if_neg hne.symm];grind
   ·simp only[if_neg h1,if_neg h2]
 have:det n (swpR M r t)=det n (sclR (addR (addR (addR M r t (-1)) t r 1) r t (-1)) r (-1)):=det_congr fun q k _ _=>e q k
 rw[this,det_scl _ _ hr,det_add _ _ hr ht hne,det_add _ _ ht hr hne.symm,det_add _ _ hr ht hne];grind
theorem det_row0 {n:Nat} {M:MX} {r:Nat} (hr:r<n) (h:∀ k,k<n→M r k=0):det n M=0:=by
 have:=det_scl (n:=n) M (r:=r) 0 hr
 have h2:det n (sclR M r 0)=det n M:=det_congr fun q k _ hk=>by
  unfold sclR
  split
  ·rename_i e;subst e;rw[h k hk];grind
  ·rfl
 grind
def cntU (U:Nat→Bool):Nat→Nat
 | 0=>0
 | n+1=>cntU U n+if U n then 1 else 0
theorem cnt_le (U:Nat→Bool):∀ n,cntU U n≤n
 | 0=>Nat.le_refl _
 | n+1=>by have:=cnt_le U n;rw[cntU];split<;>omega
theorem cnt_all {U:Nat→Bool}:∀ {n:Nat},cntU U n=n→∀ c,c<n→U c=true
 | 0,_,c,hc=>by omega
 | n+1,h,c,hc=>by
  rw[cntU] at h
  have hl:=cnt_le U n
  by_cases hn:U n=true
  ·by_cases e:c=n
   ·rw[e];exact hn
   ·rw[if_pos hn] at h;exact cnt_all (n:=n) (by omega) c (by omega)
  ·rw[if_neg hn] at h;omega
theorem cnt_same {U V:Nat→Bool}:∀ {n:Nat},(∀ j,j<n→U j=V j)→cntU U n=cntU V n
 | 0,_=>rfl
 | n+1,h=>by rw[cntU,cntU,cnt_same fun j hj=>h j (by omega),h n (by omega)]
theorem cnt_use {U:Nat→Bool} {k:Nat} (hk:U k=false):∀ {n:Nat},k<n→cntU (use U k) n=cntU U n+1
 | 0,h=>by omega
 | n+1,h=>by
  rw[cntU,cntU]
  by_cases e:k=n
  ·subst e
   rw[use_self,hk,cnt_same (V:=U) fun j hj=>use_ne (by omega)];simp
  ·rw[cnt_use hk (by omega),use_ne (fun h=>e h.symm)];omega
theorem Dt_col0 {n:Nat} {M:MX} {c:Nat} (hc:c<n):∀ (d i:Nat) (U:Nat→Bool),U c=false→(∀ r,i≤r→r<i+d→M r c=0)→cntU U n+d=n→Dt n M d i U=0
 | 0,i,U,hU,h,hn=>by
  have:=cnt_all (show cntU U n=n by omega) c hc
  rw[hU] at this;cases this
 | d+1,i,U,hU,h,hn=>by
  rw[Dt]
  refine sumR_all0 fun k hk=>?_
  by_cases hk':U k=true
  ·rw[if_pos hk']
  ·have hk'':U k=false:=by simpa using hk'
   rw[if_neg hk']
   by_cases hkc:k=c
   ·rw[hkc,h i (by omega) (by omega)];grind
   ·rw[Dt_col0 hc d (i+1) (use U k) (by rw[use_ne (fun e=>hkc e.symm)];exact hU) (fun r h1 h2=>h r (by omega) (by omega)) (by rw[cnt_use hk'' hk];omega)];grind
def diagP (M:MX):Nat→Nat→Rat
 | 0,_=>1
 | d+1,i=>M i i*diagP M d (i+1)
theorem sgU_one {U:Nat→Bool}:∀ (d j:Nat),(∀ q,j≤q→q<j+d→U q=false)→sgU U d j=1
 | 0,_,_=>rfl
 | d+1,j,h=>by
  rw[sgU,h j (by omega) (by omega),sgU_one d (j+1) fun q h1 h2=>h q (by omega) (by omega)];simp
def below (i:Nat):Nat→Bool:=fun j=>decide (j<i)
theorem cnt_below {i:Nat}:∀ {n:Nat},i≤n→cntU (below i) n=i
 | 0,h=>by rw[cntU];omega
 | n+1,h=>by
  rw[cntU]
  by_cases e:i=n+1
  ·subst e
   have:cntU (below (n+1)) n=cntU (below n) n:=cnt_same fun j hj=>by simp[below];omega
   rw[this,cnt_below (Nat.le_refl n)];simp[below]
  ·rw[cnt_below (by omega)]
   have:below i n=false:=by simp[below];omega
   rw[this];rfl
theorem Dt_tri {n:Nat} {M:MX} (h:∀ r k,r<n→k<r→M r k=0):∀ (d i:Nat),i+d=n→Dt n M d i (below i)=diagP M d i
 | 0,_,_=>rfl
 | d+1,i,hi=>by
  have hin:i<n:=by omega
  have hU:below i i=false:=by simp[below]
  rw[Dt,sumR_one hin fun k hk hne=>?_,if_neg (by rw[hU];simp),sgU_one _ _ fun q h1 h2=>by simp[below];omega]
  ·have e:use (below i) i=below (i+1):=by
    funext j;unfold use below
    split
    ·rename_i e;subst e;simp
    ·rename_i e;apply decide_eq_decide.2;omega
   rw[e,Dt_tri h d (i+1) (by omega),diagP];grind
  ·by_cases hk':below i k=true
   ·rw[if_pos hk']
   ·have hk'':below i k=false:=by simpa using hk'
    rw[if_neg hk',Dt_col0 hin d (i+1) (use (below i) k) (by rw[use_ne (fun e=>hne e.symm)];exact hU) (fun r h1 h2=>h r i (by omega) (by omega)) (by rw[cnt_use hk'' hk,cnt_below (by omega)];omega)];grind
theorem det_tri {n:Nat} {M:MX} (h:∀ r k,r<n→k<r→M r k=0):det n M=diagP M n 0:=by
 have e:(fun _=>false)=below 0:=by funext j;simp[below]
 unfold det
 rw[e]
 exact Dt_tri h n 0 (by omega)
end Go.Ab
set_option linter.unusedVariables false
set_option linter.unusedSimpArgs false
set_option linter.unusedSectionVars false
namespace Go.Ab
def Agr (n c:Nat) (M N:MX):Prop:=∀ i k,i<n→k<c→M i k=N i k
inductive RE (n c:Nat) (M:MX):MX→Rat→Prop
 | refl:RE n c M M 1
 | add (N:MX) (s:Rat) (r t:Nat) (f:Rat) (h:RE n c M N s) (hr:r<n) (ht:t<n) (hne:r≠t):RE n c M (addR N r t f) s
 | swp (N:MX) (s:Rat) (r t:Nat) (h:RE n c M N s) (hr:r<n) (ht:t<n) (hne:r≠t):RE n c M (swpR N r t) (-s)
 | scl (N:MX) (s:Rat) (r:Nat) (a:Rat) (h:RE n c M N s) (hr:r<n) (ha:a≠0):RE n c M (sclR N r a) (a*s)
 | cong (N N':MX) (s:Rat) (h:RE n c M N s) (e:Agr n c N N'):RE n c M N' s
section
variable {n c:Nat} {M N:MX} {s:Rat}
theorem RE.det (h:RE n c M N s) (hc:n≤c):det n N=s*Ab.det n M:=by
 induction h with
 | refl=>grind
 | add N s r t f h hr ht hne ih=>rw[det_add N f hr ht hne,ih]
 | swp N s r t h hr ht hne ih=>rw[det_swp N hr ht hne,ih];grind
 | scl N s r a h hr ha ih=>rw[det_scl N a hr,ih];grind
 | cong N N' s h e ih=>rw[← ih];exact det_congr fun r k hr hk=>(e r k hr (by omega)).symm
theorem RE.ne0 (h:RE n c M N s):s≠0:=by
 induction h with
 | refl=>decide
 | add N s r t f h hr ht hne ih=>exact ih
 | swp N s r t h hr ht hne ih=>intro e;apply ih;grind
 | scl N s r a h hr ha ih=>intro e;apply ih;grind
 | cong N N' s h e ih=>exact ih
def rowS (c:Nat) (M:MX) (x:Nat→Rat) (i:Nat):Rat:=sumR c fun j=>M i j*x j
def Sys (n c:Nat) (M:MX) (x:Nat→Rat):Prop:=∀ i,i<n→rowS c M x i=0
theorem rowS_lin (a b:Rat) (u v x:Nat→Rat):sumR c (fun j=>(a*u j+b*v j)*x j)=a*sumR c (fun j=>u j*x j)+b*sumR c (fun j=>v j*x j):=by
 rw[← sumR_lin];exact sumR_congr fun k _=>by grind
theorem rowS_add (N:MX) (r t:Nat) (f:Rat) (x:Nat→Rat) (i:Nat):rowS c (addR N r t f) x i=if i=t then rowS c N x t-f*rowS c N x r else rowS c N x i:=by
 unfold rowS addR
 by_cases h:i=t
 ·simp only[if_pos h]
  have:=rowS_lin (c:=c) 1 (-f) (N t) (N r) x
  rw[sumR_congr (g:=fun j=>(1*N t j + -f*N r j)*x j) fun k _=>by grind,this];grind
 ·simp only[if_neg h]
theorem rowS_scl (N:MX) (r:Nat) (a:Rat) (x:Nat→Rat) (i:Nat):rowS c (sclR N r a) x i=if i=r then a*rowS c N x r else rowS c N x i:=by
 unfold rowS sclR
 by_cases h:i=r
 ·simp only[if_pos h]
  rw[← sumR_mul];exact sumR_congr fun k _=>by grind
 ·simp only[if_neg h]
theorem rowS_swp (N:MX) (r t:Nat) (x:Nat→Rat) (i:Nat):rowS c (swpR N r t) x i=if i=r then rowS c N x t else if i=t then rowS c N x r else rowS c N x i:=by
 unfold rowS swpR
 split
 ·rfl
 ·split<;>rfl
theorem RE.sys (h:RE n c M N s) (x:Nat→Rat):Sys n c N x↔Sys n c M x:=by
 induction h with
 | refl=>exact Iff.rfl
 | add N s r t f h hr ht hne ih=>
  rw[← ih]
  constructor
  ·intro hs i hi
   have h1:=hs i hi
   have h2:=hs r hr
   rw[rowS_add] at h1 h2
   rw[if_neg hne] at h2
   by_cases e:i=t
   ·rw[if_pos e] at h1;subst e;grind
   ·rw[if_neg e] at h1;exact h1
  ·intro hs i hi
   rw[rowS_add]
   split
   ·rw[hs t ht,hs r hr];grind
   ·exact hs i hi
 | swp N s r t h hr ht hne ih=>
  rw[← ih]
  constructor
  ·intro hs i hi
   by_cases e:i=r
   ·have:=hs t ht
    rw[rowS_swp,if_neg hne.symm,if_pos rfl] at this
    rw[e];exact this
   ·by_cases e2:i=t
    ·have:=hs r hr
     rw[rowS_swp,if_pos rfl] at this
     rw[e2];exact this
    ·have:=hs i hi
     rw[rowS_swp,if_neg e,if_neg e2] at this
     exact this
  ·intro hs i hi
   rw[rowS_swp]
   split
   ·exact hs t ht
   ·split
    ·exact hs r hr
    ·exact hs i hi
 | scl N s r a h hr ha ih=>
  rw[← ih]
  constructor
  ·intro hs i hi
   have h1:=hs i hi
   rw[rowS_scl] at h1
   by_cases e:i=r
   ·rw[if_pos e] at h1;subst e;grind
   ·rw[if_neg e] at h1;exact h1
  ·intro hs i hi
   rw[rowS_scl]
   split
   ·rw[hs r hr];grind
   ·exact hs i hi
 | cong N N' s h e ih=>
  rw[← ih]
  have:∀ i,i<n→rowS c N' x i=rowS c N x i:=fun i hi=>sumR_congr fun k hk=>by rw[e i k hi hk]
  exact ⟨fun hs i hi=>by rw[← this i hi];exact hs i hi,fun hs i hi=>by rw[this i hi];exact hs i hi⟩
def clrB (a m:Nat) (N:MX) (r col:Nat):MX:=fun i j=>if a≤i∧i<m∧i≠r then N i j-N i col/N r col*N r j else N i j
theorem RE.clr (h:RE n c M N s) {r col:Nat} (hr:r<n) (a:Nat):∀ m,m≤n→RE n c M (clrB a m N r col) s
 | 0,_=>by
  have:clrB a 0 N r col=N:=by funext i j;exact if_neg (by omega)
  rw[this];exact h
 | m+1,hm=>by
  have ih:=RE.clr h hr a (col:=col) m (by omega)
  by_cases hc:a≤m∧m≠r
  ·have:=RE.add _ _ r m (N m col/N r col) ih hr (by omega) (fun e=>hc.2 e.symm)
   have e:addR (clrB a m N r col) r m (N m col/N r col)=clrB a (m+1) N r col:=by
    funext i j
    unfold addR clrB
    by_cases hi:i=m
    ·subst hi
     rw[if_pos rfl,if_neg (by omega),if_neg (by omega),if_pos (by omega)]
    ·rw[if_neg hi]
     by_cases h2:a≤i∧i<m∧i≠r
     ·rw[if_pos h2,if_pos (by omega)]
     ·rw[if_neg h2,if_neg (by omega)]
   rw[← e];exact this
  ·have e:clrB a (m+1) N r col=clrB a m N r col:=by
    funext i j
    unfold clrB
    by_cases h2:a≤i∧i<m∧i≠r
    ·rw[if_pos h2,if_pos (by omega)]
    ·rw[if_neg h2,if_neg (by omega)]
   rw[e];exact ih
structure Ech (n:Nat) (N:MX) (r col:Nat) (cs:Nat→Nat):Prop where
 le:r≤n
 lt:∀ i,i<r→cs i<col
 mono:∀ i j,i<j→j<r→cs i<cs j
 piv:∀ i,i<r→N i (cs i)≠0
 lead:∀ i,i<r→∀ j,j<cs i→N i j=0
 rest:∀ i,r≤i→i<n→∀ j,j<col→N i j=0
variable {r col:Nat} {cs:Nat→Nat}
theorem ech0 (n:Nat) (N:MX) (cs:Nat→Nat):Ech n N 0 0 cs:=⟨Nat.zero_le _,fun i h=>by omega,fun i j _ h=>by omega,fun i h=>by omega,fun i h=>by omega,fun i _ _ j h=>by omega⟩
theorem Ech.skip (E:Ech n N r col cs) (h:∀ i,r≤i→i<n→N i col=0):Ech n N r (col+1) cs:=
 ⟨E.le,fun i hi=>by have:=E.lt i hi;omega,E.mono,E.piv,E.lead,fun i h1 h2 j hj=>by
  by_cases e:j=col
  ·rw[e];exact h i h1 h2
  ·exact E.rest i h1 h2 j (by omega)⟩
theorem Ech.take (E:Ech n N r col cs) {N1:MX} (hr:r<n) (h1:∀ i j,i<r→j<col→N1 i j=N i j) (h2:∀ i j,r≤i→i<n→j<col→N1 i j=0) (h3:N1 r col≠0) (h4:∀ i,r<i→i<n→N1 i col=0):Ech n N1 (r+1) (col+1) (fun i=>if i=r then col else cs i):=by
 refine ⟨by omega,fun i hi=>?_,fun i j hij hj=>?_,fun i hi=>?_,fun i hi j hj=>?_,fun i hi hn j hj=>?_⟩
 ·split
  ·omega
  ·have:=E.lt i (by omega);omega
 ·by_cases e:j=r
  ·rw[if_neg (by omega),if_pos e];exact E.lt i (by omega)
  ·rw[if_neg (by omega),if_neg e];exact E.mono i j hij (by omega)
 ·by_cases e:i=r
  ·rw[if_pos e,e];exact h3
  ·rw[if_neg e,h1 i _ (by omega) (E.lt i (by omega))];exact E.piv i (by omega)
 ·by_cases e:i=r
  ·rw[if_pos e] at hj;rw[e];exact h2 r j (by omega) hr hj
  ·rw[if_neg e] at hj
   have:=E.lt i (by omega)
   rw[h1 i j (by omega) (by omega)]
   exact E.lead i (by omega) j hj
 ·by_cases e:j=col
  ·rw[e];exact h4 i (by omega) hn
  ·exact h2 i j (by omega) hn (by omega)
def DepC (n c:Nat) (M:MX) (k:Nat):Prop:=∃ x:Nat→Rat,x k≠0∧(∀ j,k<j→x j=0)∧Sys n c M x
theorem RE.dep (h:RE n c M N s) (k:Nat):DepC n c N k↔DepC n c M k:=
 ⟨fun ⟨x,h1,h2,h3⟩=>⟨x,h1,h2,(h.sys x).1 h3⟩,fun ⟨x,h1,h2,h3⟩=>⟨x,h1,h2,(h.sys x).2 h3⟩⟩
theorem Ech.not_dep (E:Ech n N r col cs) (hc:col≤c) {i:Nat} (hi:i<r):¬ DepC n c N (cs i):=by
 rintro ⟨x,h1,h2,h3⟩
 have hlt:=E.lt i hi
 have:=h3 i (by have:=E.le;omega)
 unfold rowS at this
 rw[sumR_one (show cs i<c by omega) fun k hk hne=>?_] at this
 ·have h4:=E.piv i hi
  grind
 ·by_cases hk2:k<cs i
  ·rw[E.lead i hi k hk2];grind
  ·rw[h2 k (by omega)];grind
theorem Ech.dep (E:Ech n N r col cs) (hc:col≤c) {k:Nat} (hk:k<col) (hne:∀ i,i<r→cs i≠k):DepC n c N k:=by
 have key:∀ d m,m+d=r→∃ x:Nat→Rat,x k=1∧(∀ j,k<j→x j=0)∧∀ i,m≤i→i<n→rowS c N x i=0:=by
  intro d
  induction d with
  | zero=>
   intro m hm
   refine ⟨fun j=>if j=k then 1 else 0,if_pos rfl,fun j hj=>if_neg (by omega),fun i h1 h2=>?_⟩
   unfold rowS
   refine sumR_all0 fun j hj=>?_
   by_cases e:j=k
   ·rw[e,E.rest i (by omega) h2 k hk];grind
   ·simp only[if_neg e];grind
  | succ d ih=>
   intro m hm
   obtain ⟨x,h1,h2,h3⟩:=ih (m+1) (by omega)
   have hmr:m<r:=by omega
   have hml:=E.lt m hmr
   have hmn:=hne m hmr
   by_cases hkm:k<cs m
   ·refine ⟨x,h1,h2,fun i hi hn=>?_⟩
    by_cases e:i=m
    ·subst e
     unfold rowS
     refine sumR_all0 fun j hj=>?_
     by_cases hj2:j<cs i
     ·rw[E.lead i hmr j hj2];grind
     ·rw[h2 j (by omega)];grind
    ·exact h3 i (by omega) hn
   ·have hp:=E.piv m hmr
    have hrow:∀ i,rowS c N (fun j=>if j=cs m then x j + -(rowS c N x m/N m (cs m)) else x j) i=rowS c N x i+N i (cs m) * -(rowS c N x m/N m (cs m)):=fun i=>by
     have e1:rowS c N (fun j=>if j=cs m then x j + -(rowS c N x m/N m (cs m)) else x j) i=sumR c (fun j=>N i j*x j+(if j=cs m then N i j * -(rowS c N x m/N m (cs m)) else 0)):=sumR_congr fun j _=>by split<;>grind
     rw[e1,sumR_add,sumR_one (f:=fun j=>if j=cs m then N i j * -(rowS c N x m/N m (cs m)) else 0) (show cs m<c by omega) fun j _ hj=>if_neg hj,if_pos rfl];rfl
    refine ⟨fun j=>if j=cs m then x j + -(rowS c N x m/N m (cs m)) else x j,?_,fun j hj=>?_,fun i hi hn=>?_⟩
    ·show (if k=cs m then _ else x k)=1
     rw[if_neg (fun e=>hmn e.symm)];exact h1
    ·show (if j=cs m then _ else x j)=0
     rw[if_neg (by omega)];exact h2 j hj
    ·rw[hrow i]
     by_cases e:i=m
     ·subst e;grind
     ·rw[h3 i (by omega) hn]
      have:N i (cs m)=0:=by
       by_cases hir:i<r
       ·exact E.lead i hir _ (E.mono m i (by omega) hir)
       ·exact E.rest i (by omega) hn _ hml
      rw[this];grind
 obtain ⟨x,h1,h2,h3⟩:=key r 0 (by omega)
 exact ⟨x,by rw[h1];decide,h2,fun i hi=>h3 i (Nat.zero_le _) hi⟩
open Classical in
noncomputable def pivB (n c:Nat) (M:MX) (k:Nat):Bool:=decide (¬ DepC n c M k)
theorem pivB_t {n c:Nat} {M:MX} {k:Nat} (h:¬ DepC n c M k):pivB n c M k=true:=by unfold pivB;simp[h]
theorem pivB_f {n c:Nat} {M:MX} {k:Nat} (h:DepC n c M k):pivB n c M k=false:=by unfold pivB;simp[h]
structure EC (n c:Nat) (M N:MX) (s:Rat) (r col:Nat) (cs:Nat→Nat):Prop where
 ech:Ech n N r col cs
 re:RE n c M N s
 cnt:cntU (pivB n c M) col=r
theorem EC.skip (H:EC n c M N s r col cs) (hc:col<c) (h:∀ i,r≤i→i<n→N i col=0):EC n c M N s r (col+1) cs:=by
 have E:=H.ech.skip h
 refine ⟨E,H.re,?_⟩
 have hd:DepC n c M col:=(H.re.dep col).1 (E.dep hc (Nat.lt_succ_self _) fun i hi=>by have:=H.ech.lt i hi;omega)
 rw[cntU,H.cnt,pivB_f hd];rfl
theorem EC.take (H:EC n c M N s r col cs) {N1:MX} {s1:Rat} (hc:col<c) (hr:r<n) (h:RE n c M N1 s1) (h1:∀ i j,i<r→j<col→N1 i j=N i j) (h2:∀ i j,r≤i→i<n→j<col→N1 i j=0) (h3:N1 r col≠0) (h4:∀ i,r<i→i<n→N1 i col=0):EC n c M N1 s1 (r+1) (col+1) (fun i=>if i=r then col else cs i):=by
 have E:=H.ech.take hr h1 h2 h3 h4
 refine ⟨E,h,?_⟩
 have hd:¬ DepC n c M col:=fun hh=>by
  have:=E.not_dep hc (i:=r) (by omega)
  simp only[if_true] at this
  exact this ((h.dep col).2 hh)
 rw[cntU,H.cnt,pivB_t hd];rfl
theorem EC.full (H:EC n c M N s n col cs):∀ d,col+d≤c→EC n c M N s n (col+d) cs
 | 0,_=>H
 | d+1,h=>(EC.full H d (by omega)).skip (by omega) fun i h1 h2=>by omega
theorem ec0 (n c:Nat) (M:MX) (cs:Nat→Nat):EC n c M M 1 0 0 cs:=⟨ech0 n M cs,.refl,rfl⟩
theorem Ech.id (E:Ech n N n n cs):∀ i,i<n→cs i=i:=by
 have lo:∀ i,i<n→i≤cs i:=by
  intro i
  induction i with
  | zero=>intro _;omega
  | succ i ih=>intro hi;have:=ih (by omega);have:=E.mono i (i+1) (by omega) hi;omega
 have hi:∀ d i,i+d+1=n→cs i≤i:=by
  intro d
  induction d with
  | zero=>intro i h;have:=E.lt i (by omega);omega
  | succ d ih=>intro i h;have:=ih (i+1) (by omega);have:=E.mono i (i+1) (by omega) (by omega);omega
 intro i h
 have:=lo i h
 have:=hi (n-i-1) i (by omega)
 omega
theorem Ech.tri (E:Ech n N n n cs):∀ i k,i<n→k<i→N i k=0:=fun i k hi hk=>E.lead i hi k (by rw[E.id i hi];exact hk)
end
end Go.Ab
set_option linter.unusedVariables false
set_option linter.unusedSimpArgs false
set_option linter.unusedSectionVars false
namespace Go.Ab
structure Red (n:Nat) (M N:MX) (s:Rat) (r col:Nat) (cs:Nat→Nat):Prop where
 ech:Ech n N r col cs
 re:RE n n M N s
 red:∀ i,i<r→∀ j,j<n→j≠i→N j (cs i)=0
theorem clrB_row {a m:Nat} {N:MX} {r col:Nat} {j:Nat}:clrB a m N r col r j=N r j:=if_neg (by omega)
theorem clrB_hit {a m:Nat} {N:MX} {r col:Nat} {i j:Nat} (h:a≤i∧i<m∧i≠r):clrB a m N r col i j=N i j-N i col/N r col*N r j:=if_pos h
theorem clrB_not {a m:Nat} {N:MX} {r col:Nat} {i j:Nat} (h:¬ (a≤i∧i<m∧i≠r)):clrB a m N r col i j=N i j:=if_neg h
theorem clrB_zero {a m:Nat} {N:MX} {r col:Nat} {i j:Nat} (h:N r j=0):clrB a m N r col i j=N i j:=by
 unfold clrB;split
 ·rw[h];grind
 ·rfl
theorem clrB_col {a m:Nat} {N:MX} {r col:Nat} {i:Nat} (hp:N r col≠0) (h:a≤i∧i<m∧i≠r):clrB a m N r col i col=0:=by
 rw[clrB_hit h];grind
section
variable {n:Nat} {M N:MX} {s:Rat}
end
end Go.Ab
set_option linter.unusedVariables false
set_option linter.unusedSimpArgs false
set_option linter.unusedSectionVars false
namespace Go.Ab
end Go.Ab
set_option linter.unusedVariables false
set_option linter.unusedSimpArgs false
set_option linter.unusedSectionVars false
namespace Go.Ab
open Go.Proofs.Try
abbrev aM (rows cols:Int) (nm L:Nat):AV:=.agg [.int .i64 rows,.int .i64 cols,.arr nm 0 L (some 3)]
theorem box_aM (m:Mem) (rows cols:Int) (nm L:Nat):boxA none (some 3) m (aM rows cols nm L)=some (.ptr m.length 0,m++[cB rows cols nm L]):=rfl
section
variable {m:Mem} {b:Nat} {rows cols:Int} {nm L:Nat}
theorem bL0 (h:m[b]?=some (cB rows cols nm L)):loadA none m (.ptr b 0)=some (.int .i64 rows):=by simp[loadA,mobj h,cutSh]
theorem bL1 (h:m[b]?=some (cB rows cols nm L)):loadA none m (.ptr b 1)=some (.int .i64 cols):=by simp[loadA,mobj h,cutSh]
theorem bL2 (h:m[b]?=some (cB rows cols nm L)):loadA none m (.ptr b 2)=some (.arr nm 0 L (some 3)):=by simp[loadA,mobj h,cutSh]
theorem bLA (h:m[b]?=some (cB rows cols nm L)):loadA (some 3) m (.ptr b 0)=some (aM rows cols nm L):=by simp[loadA,mobj h,cutSh]
end
theorem kn_app (nm:Nat) (m e:Mem):Kn nm m (m++e):=(Kp.app m e).kn nm
theorem kn_set {nm:Nat} {m m':Mem} (h:Kn nm m m') (e:Option Ent):Kn nm m (m'.set nm e):=⟨by rw[List.length_set];exact h.1,fun p bx cs hp hh=>by
 rw[List.getElem?_set_ne (fun e=>hp e.symm)];exact h.2 p bx cs hp hh⟩
theorem kn_refl (nm:Nat) (m:Mem):Kn nm m m:=(Kp.refl m).kn nm
theorem Kn.cB {nm b:Nat} {m m':Mem} {rows cols:Int} {n2 L:Nat} (h:Kn nm m m') (hb:m[b]?=some (cB rows cols n2 L)) (hne:b≠nm):m'[b]?=some (Ab.cB rows cols n2 L):=h.2 b _ _ hne hb
theorem app_get {m e:Mem} {b:Nat} {x:Option Ent} (h:m[b]?=some x):(m++e)[b]?=some x:=by
 rw[List.getElem?_append_left];exact h
 exact (List.getElem?_eq_some_iff.1 h).1
theorem set_same {m:Mem} {nm:Nat} {x:Option Ent} (h:nm<m.length):(m.set nm x)[nm]?=some x:=by rw[List.getElem?_set_self h]
theorem q0_of {r:RV} (h:r.num.ds.length=0):r.q=0:=by
 have:r.num.v=0:=by
  have h2:r.num.ds=[]:=List.length_eq_zero_iff.1 h
  unfold NV.v
  rw[h2];rfl
 rw[RV.q,this,qOf_num0]
theorem Can.nz {r:RV} {q:Rat} (h:Can r q) (hl:r.num.ds.length≠0):q≠0:=fun e=>hl (by rw[h.num,e];exact congrArg List.length digs_zero)
structure WM (m:Mem) (nm:Nat) (es:List RV) (n c:Nat) (kf:Nat→Nat) (N:MX):Prop where
 hm:m[nm]?=some (cA es)
 len:es.length=n*c
 fr:∀ r∈es,r.fr=r
 can:∀ i j,i<n→j<c→∀ h:i*c+j<es.length,Can es[i*c+j] (N i j)
 bd:∀ i j,i<n→j<c→Bd (kf i) (N i j)
section
variable {m:Mem} {nm:Nat} {es:List RV} {n c k:Nat} {kf:Nat→Nat} {N:MX}
theorem WM.at (h:WM m nm es n c kf N) {i j:Nat} (hi:i<n) (hj:j<c):i*c+j<es.length:=by rw[h.len];exact cell_lt60 hi hj
theorem WM.mono (h:WM m nm es n c kf N) {kg:Nat→Nat} (hk:∀ i,i<n→kf i≤kg i):WM m nm es n c kg N:=⟨h.hm,h.len,h.fr,h.can,fun i j hi hj=>(h.bd i j hi hj).mono (hk i hi)⟩
theorem WM.congr (h:WM m nm es n c kf N) {N':MX} (e:Agr n c N N'):WM m nm es n c kf N':=
 ⟨h.hm,h.len,h.fr,fun i j hi hj hh=>by rw[← e i j hi hj];exact h.can i j hi hj hh,fun i j hi hj=>by rw[← e i j hi hj];exact h.bd i j hi hj⟩
theorem cell_inj {i j i' j' c:Nat} (hj:j<c) (hj':j'<c) (e:i*c+j=i'*c+j'):i=i'∧j=j':=by
 have h1:=row_col (i:=i) hj
 have h2:=row_col (i:=i') hj'
 rw[e,h2.1,h2.2] at h1
 exact ⟨h1.1.symm,h1.2.symm⟩
structure CL (es0 es:List RV) (n c k t j:Nat) (N:MX) (u:Nat→Rat):Prop where
 len:es.length=n*c
 old:∀ p (h:p<es.length) (h0:p<es0.length),¬ (t*c≤p∧p<t*c+j)→es[p]=es0[p]
 new:∀ q,q<j→∀ h:t*c+q<es.length,Can es[t*c+q] (u q)∧es[t*c+q].fr=es[t*c+q]
 bd:∀ q,q<c→Bd k (u q)
theorem W117 (hn:n≤60) (hc:c≤60) {es0:List RV} {m0:Mem} (W0:WM m0 nm es0 n c kf N) {r t:Nat} (hr:r<n) (ht:t<n) (hrt:r≠t) (hkr:kf r≤k) (hkt:kf t≤k) (hk1:1≤k) (hk:4*k+1<2^36) {f:RV} {fq:Rat} (hf:Can f fq) (hff:f.fr=f) (hfb:Bd (k+k) fq) {b bf:Nat} (hbn:b≠nm) (hbf:bf≠nm) (K:KT):∀ (d j:Nat) (m:Mem) (es:List RV),j+d=c→m[nm]?=some (cA es)→m[b]?=some (cB n c nm (n*c))→m[bf]?=some (cR f)→CL es0 es n c (4*k+1) t j N (fun q=>N t q-fq*N r q) →
  ∃ (m':Mem) (es':List RV),L117_4 (.int .i64 r) (.int .i64 t) (.ptr b 0) (.ptr bf 0) (.int .i64 c) (.int .i64 j) m K=K (.exit 0) (O117_4 m')∧m'[nm]?=some (cA es')∧CL es0 es' n c (4*k+1) t c N (fun q=>N t q-fq*N r q)∧Kn nm m m':=by
 intro d
 induction d with
 | zero=>
  intro j m es hj hm hb hfm C
  obtain rfl:j=c:=by omega
  refine ⟨m,es,?_,hm,C,kn_refl _ _⟩
  rw[L117_4_eq,n_lss,oBs,ifA_dec,if_neg (by omega)]
 | succ d ih=>
  intro j m es hj hm hb hfm C
  have hjc:j<c:=by omega
  obtain ⟨a1,a2⟩:=at_cell (i:=r) (c:=c) (j:=j) (by omega) hc (by omega)
  obtain ⟨b1,b2⟩:=at_cell (i:=t) (c:=c) (j:=j) (by omega) hc (by omega)
  have p1:r*c+j<n*c:=cell_lt60 hr hjc
  have p2:t*c+j<n*c:=cell_lt60 ht hjc
  have p1':r*c+j<es.length:=by rw[C.len];exact p1
  have p2':t*c+j<es.length:=by rw[C.len];exact p2
  have p10:r*c+j<es0.length:=by rw[W0.len];exact p1
  have p20:t*c+j<es0.length:=by rw[W0.len];exact p2
  have hrow:¬ (t*c≤r*c+j∧r*c+j<t*c+j):=fun h=>by
   rcases Nat.lt_or_gt_of_ne hrt with h3|h3
   ·have:=Nat.mul_le_mul_right c (show r+1≤t by omega)
    rw[Nat.add_mul,Nat.one_mul] at this;omega
   ·have:=Nat.mul_le_mul_right c (show t+1≤r by omega)
    rw[Nat.add_mul,Nat.one_mul] at this;omega
  have ex:es[r*c+j]=es0[r*c+j]:=C.old _ p1' p10 hrow
  have ey:es[t*c+j]=es0[t*c+j]:=C.old _ p2' p20 (by omega)
  have cx:=W0.can r j hr hjc p10
  have cy:=W0.can t j ht hjc p20
  have fx:=W0.fr _ (List.getElem_mem p10)
  have fy:=W0.fr _ (List.getElem_mem p20)
  have bx:=(W0.bd r j hr hjc).mono hkr
  have by':=(W0.bd t j ht hjc).mono hkt
  rw[← ex] at cx fx
  rw[← ey] at cy fy
  have nmlt:nm<m.length:=(List.getElem?_eq_some_iff.1 hm).1
  have hm10:(m++[cR es[r*c+j]])[nm]?=some (cA es):=app_get hm
  have hb10:(m++[cR es[r*c+j]])[b]?=some (cB n c nm (n*c)):=app_get hb
  have hf10:(m++[cR es[r*c+j]])[bf]?=some (cR f):=app_get hfm
  have e0:L117_4 (.int .i64 r) (.int .i64 t) (.ptr b 0) (.ptr bf 0) (.int .i64 c) (.int .i64 j) m K=_:=L117_4_eq _ _ _ _ _ _ _ _
  rw[n_lss,oBs,ifA_dec,if_pos hjc,fld2,oBs,bL2 hb,oBs,fld1,oBs,bL1 hb,oBs,a1,oBs,a2,oBs,arr_index p1,oBs,arr_load hm p1',oBs] at e0
  rw[show (newAt none m (Ent.obj true [(.bool false),(.lst none true .full []),(.lst none true .full [])])).2=m++[cR zR] from rfl,show (newAt none m Ent.resv).1=m.length from rfl,st_last,oBs,fld1,oBs,rld1 get_last,oBs,len_nv,oBs,gtr0,oBs,ifA_dec] at e0
  have mv:∀ (es':List RV) (z:RV),Can z (N t j-fq*N r j)→z.fr=z→es'=es.set (t*c+j) z→CL es0 es' n c (4*k+1) t (j+1) N (fun q=>N t q-fq*N r q):=fun es' z hz hzf he=>by
   subst he
   refine ⟨by rw[List.length_set];exact C.len,fun p h h0 hp=>?_,fun q hq h=>?_,C.bd⟩
   ·rw[List.getElem_set_ne (by omega)]
    exact C.old p (by simpa using h) h0 (by omega)
   ·by_cases hqj:q=j
    ·subst hqj
     rw[List.getElem_set_self];exact ⟨hz,hzf⟩
    ·rw[List.getElem_set_ne (by omega)]
     exact C.new q (by omega) (by simpa using h)
  by_cases hx0:es[r*c+j].num.ds.length>0
  ·have ox:=cx.ok bx (by omega)
   have oy:=cy.ok by' (by omega)
   have of:=hf.ok hfb (by omega)
   obtain ⟨pr,t1,t2,t3⟩:=V78 of (ox.mono (show k≤k+k by omega)) (by omega) (by omega)
   rw[hf.q,cx.q] at t2
   have opr:=t2.ok (Bd_mul hfb bx (by omega)) (by omega)
   obtain ⟨u,u1,u2,u3⟩:=V135 (k:=k+k+k) (oy.mono (by omega)) opr (by omega) (by omega)
   rw[cy.q,t2.q] at u2
   have C':=mv _ u u2 u3 rfl
   obtain ⟨m',es',e,h1,h2,h3⟩:=ih (j+1) ((m++[cR es[r*c+j]]).set nm (cA (es.set (t*c+j) u))) (es.set (t*c+j) u) (by omega) (set_same (by simp;omega)) (by rw[List.getElem?_set_ne (fun e=>hbn e.symm)];exact hb10) (by rw[List.getElem?_set_ne (fun e=>hbf e.symm)];exact hf10) C'
   refine ⟨m',es',?_,h1,h2,Kn.trans (kn_set (kn_app _ _ _) _) h3⟩
   rw[e0,if_pos hx0,oBs,bL2 hb10,oBs,oBs,bL1 hb10,oBs,b1,oBs,b2,oBs,oBs,bL2 hb10,oBs,oBs,bL1 hb10,oBs,b1,oBs,b2,oBs,arr_index p2,oBs,arr_load hm10 p2',oBs,rldA hf10,oBs,rldA get_last,oBs,pcRR,hff,fx,t1,Option.map_some,oBs]
   dsimp only
   rw[pcRR,fy,t3,u1,Option.map_some,oBs]
   dsimp only
   rw[oBs,arr_store hm10 p2' u3,oBs,i_add1 (by omega),oBs]
   exact e
  ·have hq0:=q0_of (r:=es[r*c+j]) (by omega)
   rw[cx.q] at hq0
   have C':CL es0 es n c (4*k+1) t (j+1) N (fun q=>N t q-fq*N r q):=mv es es[t*c+j] (by rw[hq0,show N t j-fq*0=N t j by grind];exact cy) fy (by rw[List.set_getElem_self])
   obtain ⟨m',es',e,h1,h2,h3⟩:=ih (j+1) (m++[cR es[r*c+j]]) es (by omega) hm10 hb10 hf10 C'
   refine ⟨m',es',?_,h1,h2,Kn.trans (kn_app _ _ _) h3⟩
   rw[e0,if_neg hx0,i_add1 (by omega),oBs]
   exact e
theorem C117 (hn:n≤60) (hc:c≤60) (W:WM m nm es n c kf N) {r t col:Nat} (hr:r<n) (ht:t<n) (hrt:r≠t) (hcol:col<c) (hp:N r col≠0) (hkr:kf r≤k) (hkt:kf t≤k) (hk1:1≤k) (hk:4*k+1<2^36) :
  ∃ (m':Mem) (es':List RV),AC cfg 117 [aM n c nm (n*c),.int .i64 r,.int .i64 t,.int .i64 col] m=some (.tup [],m')∧WM m' nm es' n c (fun i=>if i=t then 4*k+1 else kf i) (addR N r t (N t col/N r col))∧Kn nm m m':=by
 obtain ⟨a1,a2⟩:=at_cell (i:=r) (c:=c) (j:=col) (by omega) hc (by omega)
 obtain ⟨b1,b2⟩:=at_cell (i:=t) (c:=c) (j:=col) (by omega) hc (by omega)
 have p1:r*c+col<n*c:=cell_lt60 hr hcol
 have p2:t*c+col<n*c:=cell_lt60 ht hcol
 have p1':=W.at hr hcol
 have p2':=W.at ht hcol
 have cx:=W.can r col hr hcol p1'
 have cy:=W.can t col ht hcol p2'
 have fx:=W.fr _ (List.getElem_mem p1')
 have fy:=W.fr _ (List.getElem_mem p2')
 have br:=fun q hq=>(W.bd r q hr hq).mono hkr
 have bt:=fun q hq=>(W.bd t q ht hq).mono hkt
 have ox:=cx.ok (br col hcol) (by omega)
 have oy:=cy.ok (bt col hcol) (by omega)
 obtain ⟨f,f1,f2,f3⟩:=V122 oy ox hk1 (by omega) (by rw[cx.q];exact hp)
 rw[cx.q,cy.q] at f2
 have fb:Bd (k+k) (N t col/N r col):=Bd_div (bt col hcol) (br col hcol) hk1 hp
 have bdu:∀ q,q<c→Bd (4*k+1) (N t q-N t col/N r col*N r q):=fun q hq=>
  (Bd_sub (bt q hq) (Bd_mul fb (br q hq) (by omega)) hk1).mono (by omega)
 have nmlt:nm<m.length:=(List.getElem?_eq_some_iff.1 W.hm).1
 have hb1:(m++[cB n c nm (n*c)]++[some Ent.resv])[m.length]?=some (cB n c nm (n*c)):=app_get get_last
 have hm1:(m++[cB n c nm (n*c)]++[some Ent.resv])[nm]?=some (cA es):=app_get (app_get W.hm)
 have hb2:(m++[cB n c nm (n*c)]++[cR f])[m.length]?=some (cB n c nm (n*c)):=app_get get_last
 have hm2:(m++[cB n c nm (n*c)]++[cR f])[nm]?=some (cA es):=app_get (app_get W.hm)
 have hf2:(m++[cB n c nm (n*c)]++[cR f])[(m++[cB n c nm (n*c)]).length]?=some (cR f):=get_last
 have nw:∀ e:Ent,newAt (some (m++[cB n c nm (n*c)]).length) (m++[cB n c nm (n*c)]++[some Ent.resv]) e=((m++[cB n c nm (n*c)]).length,m++[cB n c nm (n*c)]++[some e]):=fun e=>by
  show ((m++[cB n c nm (n*c)]).length,(m++[cB n c nm (n*c)]++[some Ent.resv]).set (m++[cB n c nm (n*c)]).length (some e))=_
  rw[List.set_append_right _ _ (Nat.le_refl _),Nat.sub_self];rfl
 have e0:=T117 (aM n c nm (n*c)) (.int .i64 r) (.int .i64 t) (.int .i64 col) m
 rw[box_aM,oBs] at e0
 dsimp only at e0
 rw[res1,fld2,oBs,bL2 hb1,oBs,fld1,oBs,bL1 hb1,oBs,b1,oBs,b2,oBs,arr_index p2,oBs,arr_load hm1 p2',oBs,oBs,bL2 hb1,oBs,oBs,bL1 hb1,oBs,a1,oBs,a2,oBs,arr_index p1,oBs,arr_load hm1 p1',oBs,pcRR,fx,fy,f1,Option.map_some,oBs,ex0,oBs,ex1,oBs] at e0
 dsimp only at e0
 rw[nw,nw] at e0
 dsimp only at e0
 rw[show some (Ent.obj true [(.bool false),(.lst none true .full []),(.lst none true .full [])])=cR zR from rfl,st_last,oBs,fld1,oBs,rld1 get_last,oBs,len_nv,oBs,binA_eql,oBs,ifA_dec] at e0
 by_cases hf0:f.num.ds.length=0
 ·rw[if_pos (by omega)] at e0
  have hq0:=q0_of hf0
  rw[f2.q] at hq0
  refine ⟨_,es,e0,?_,(kn_app _ _ _).trans (kn_app _ _ _)⟩
  refine WM.congr (N:=N) ⟨hm2,W.len,W.fr,W.can,fun i j hi hj=>(W.bd i j hi hj).mono (by split<;>rename_i h<;>first|(rw[h];omega)|exact Nat.le_refl _)⟩ fun i j _ _=>?_
  unfold addR
  split
  ·rename_i e;rw[hq0,e];grind
  ·rfl
 ·rw[if_neg (by omega),oBs,bL1 hb2,oBs] at e0
  obtain ⟨m',es',e,h1,h2,h3⟩:=W117 hn hc W hr ht hrt hkr hkt hk1 hk f2 f3 fb (b:=m.length) (bf:=(m++[cB n c nm (n*c)]).length) (by omega) (by simp;omega) (K117_4 (finK cfg.P f117.results.toList)) c 0 _ es (by omega) hm2 hb2 hf2 ⟨W.len,fun p h h0 _=>rfl,fun q hq=>by omega,bdu⟩
  refine ⟨m',es',?_,?_,Kn.trans ((kn_app _ _ _).trans (kn_app _ _ _)) h3⟩
  ·have e:L117_4 (.int .i64 r) (.int .i64 t) (.ptr m.length 0) (.ptr (m++[cB n c nm (n*c)]).length 0) (.int .i64 c) (.int .i64 0) (m++[cB n c nm (n*c)]++[cR f]) (K117_4 (finK cfg.P f117.results.toList))=_:=e
   rw[e0,e,K117_4_x0]
  ·have cell:∀ i j,i<n→j<c→∀ h:i*c+j<es'.length,Can es'[i*c+j] (addR N r t (N t col/N r col) i j)∧es'[i*c+j].fr=es'[i*c+j]:=fun i j hi hj h=>by
    unfold addR
    by_cases hit:i=t
    ·subst hit
     rw[if_pos rfl]
     exact h2.new j hj h
    ·rw[if_neg hit]
     have h0:=W.at hi hj
     have:es'[i*c+j]=es[i*c+j]:=h2.old _ h h0 fun hh=>by
      rcases Nat.lt_or_gt_of_ne hit with h3|h3
      ·have:=Nat.mul_le_mul_right c (show i+1≤t by omega)
       rw[Nat.add_mul,Nat.one_mul] at this;omega
      ·have:=Nat.mul_le_mul_right c (show t+1≤i by omega)
       rw[Nat.add_mul,Nat.one_mul] at this;omega
     rw[this]
     exact ⟨W.can i j hi hj h0,W.fr _ (List.getElem_mem h0)⟩
   refine ⟨h1,h2.len,fun x hx=>?_,fun i j hi hj h=>(cell i j hi hj h).1,fun i j hi hj=>?_⟩
   ·obtain ⟨p,hp',rfl⟩:=List.getElem_of_mem hx
    have hpl:p<n*c:=by rw[← h2.len];exact hp'
    have hc0:0<c:=by omega
    have e1:p=p/c*c+p%c:=by rw[Nat.mul_comm];exact (Nat.div_add_mod p c).symm
    have hi:p/c<n:=Nat.div_lt_of_lt_mul (by rw[Nat.mul_comm];exact hpl)
    have:=(cell (p/c) (p%c) hi (Nat.mod_lt _ hc0) (by rw[← e1];exact hp')).2
    simpa only[← e1] using this
   ·unfold addR
    split
    ·rename_i e;exact bdu j hj
    ·exact W.bd i j hi hj
end
end Go.Ab
set_option linter.unusedVariables false
set_option linter.unusedSimpArgs false
set_option linter.unusedSectionVars false
namespace Go.Ab
open Go.Proofs.Try
section
variable {m:Mem} {nm:Nat} {es:List RV} {n c k:Nat} {kf:Nat→Nat} {N:MX}
theorem row_apart {r t c j q:Nat} (h:r≠t) (hj:j<c) (hq:q<c):r*c+j≠t*c+q:=fun e=>h (cell_inj hj hq e).1
structure SW (es0 es:List RV) (n c r t j:Nat):Prop where
 len:es.length=n*c
 old:∀ i q,q<c→(i≠r∧i≠t∨j≤q)→∀ (h:i*c+q<es.length) (h0:i*c+q<es0.length),es[i*c+q]=es0[i*c+q]
 sr:∀ q,q<j→∀ (h:r*c+q<es.length) (h0:t*c+q<es0.length),es[r*c+q]=es0[t*c+q]
 st:∀ q,q<j→∀ (h:t*c+q<es.length) (h0:r*c+q<es0.length),es[t*c+q]=es0[r*c+q]
theorem names_ne {b nm o p:Nat} (h:b≠nm):namesV (.ptr b o) (.ptr nm p)=true:=by simp[namesV,h]
theorem W116 (hn:n≤60) (hc:c≤60) {es0:List RV} (hl0:es0.length=n*c) (hfr0:∀ r∈es0,r.fr=r) {r t:Nat} (hr:r<n) (ht:t<n) (hrt:r≠t) {b:Nat} (hbn:b≠nm) (K:KT):∀ (d j:Nat) (m:Mem) (es:List RV),j+d=c→m[nm]?=some (cA es)→m[b]?=some (cB n c nm (n*c))→SW es0 es n c r t j →
  ∃ (m':Mem) (es':List RV),L116_2 (.int .i64 r) (.int .i64 t) (.ptr b 0) (.int .i64 c) (.int .i64 j) m K=K (.exit 0) (O116_2 m')∧m'[nm]?=some (cA es')∧SW es0 es' n c r t c∧Kn nm m m':=by
 intro d
 induction d with
 | zero=>
  intro j m es hj hm hb C
  obtain rfl:j=c:=by omega
  refine ⟨m,es,?_,hm,C,kn_refl _ _⟩
  rw[L116_2_eq,n_lss,oBs,ifA_dec,if_neg (by omega)]
 | succ d ih=>
  intro j m es hj hm hb C
  have hjc:j<c:=by omega
  obtain ⟨a1,a2⟩:=at_cell (i:=r) (c:=c) (j:=j) (by omega) hc (by omega)
  obtain ⟨b1,b2⟩:=at_cell (i:=t) (c:=c) (j:=j) (by omega) hc (by omega)
  have p1:r*c+j<n*c:=cell_lt60 hr hjc
  have p2:t*c+j<n*c:=cell_lt60 ht hjc
  have p1':r*c+j<es.length:=by rw[C.len];exact p1
  have p2':t*c+j<es.length:=by rw[C.len];exact p2
  have p10:r*c+j<es0.length:=by rw[hl0];exact p1
  have p20:t*c+j<es0.length:=by rw[hl0];exact p2
  have ex:es[r*c+j]=es0[r*c+j]:=C.old r j hjc (.inr (Nat.le_refl _)) p1' p10
  have ey:es[t*c+j]=es0[t*c+j]:=C.old t j hjc (.inr (Nat.le_refl _)) p2' p20
  have fx:=hfr0 _ (List.getElem_mem p10)
  have fy:=hfr0 _ (List.getElem_mem p20)
  rw[← ex] at fx
  rw[← ey] at fy
  have nmlt:nm<m.length:=(List.getElem?_eq_some_iff.1 hm).1
  have hm1:(m.set nm (cA (es.set (r*c+j) es[t*c+j])))[nm]?=some (cA (es.set (r*c+j) es[t*c+j])):=set_same nmlt
  have hne:=row_apart hrt hjc hjc
  have C':SW es0 ((es.set (r*c+j) es[t*c+j]).set (t*c+j) es[r*c+j]) n c r t (j+1):=by
   refine ⟨by rw[List.length_set,List.length_set];exact C.len,fun i q hq hh h h0=>?_,fun q hq h h0=>?_,fun q hq h h0=>?_⟩
   ·have e1:t*c+j≠i*c+q:=fun e=>by
     obtain ⟨u,v⟩:=cell_inj hjc hq e
     rcases hh with hh|hh<;>omega
    have e2:r*c+j≠i*c+q:=fun e=>by
     obtain ⟨u,v⟩:=cell_inj hjc hq e
     rcases hh with hh|hh<;>omega
    rw[List.getElem_set_ne e1,List.getElem_set_ne e2]
    refine C.old i q hq ?_ (by simpa using h) h0
    rcases hh with hh|hh
    ·exact .inl hh
    ·exact .inr (by omega)
   ·rw[List.getElem_set_ne (fun e=>row_apart hrt (by omega) hjc e.symm)]
    by_cases hqj:q=j
    ·subst hqj
     rw[List.getElem_set_self];exact ey
    ·rw[List.getElem_set_ne (by omega)]
     exact C.sr q (by omega) (by simpa using h) h0
   ·by_cases hqj:q=j
    ·subst hqj
     rw[List.getElem_set_self];exact ex
    ·rw[List.getElem_set_ne (by omega),List.getElem_set_ne (row_apart hrt hjc (by omega))]
     exact C.st q (by omega) (by simpa using h) h0
  obtain ⟨m',es',e,h1,h2,h3⟩:=ih (j+1) ((m.set nm (cA (es.set (r*c+j) es[t*c+j]))).set nm (cA ((es.set (r*c+j) es[t*c+j]).set (t*c+j) es[r*c+j]))) _ (by omega) (set_same (by simpa using nmlt)) (by rw[List.getElem?_set_ne (fun e=>hbn e.symm),List.getElem?_set_ne (fun e=>hbn e.symm)];exact hb) C'
  refine ⟨m',es',?_,h1,h2,Kn.trans (kn_set (kn_set (kn_refl _ _) _) _) h3⟩
  rw[L116_2_eq,n_lss,oBs,ifA_dec,if_pos hjc,fld2,oBs,bL2 hb,oBs,fld1,oBs,bL1 hb,oBs,a1,oBs,a2,oBs,oBs,bL2 hb,oBs,oBs,bL1 hb,oBs,b1,oBs,b2,oBs,oBs,bL2 hb,oBs,oBs,bL1 hb,oBs,b1,oBs,b2,oBs,arr_index p2,oBs,arr_load hm p2',oBs,oBs,bL2 hb,oBs,oBs,bL1 hb,oBs,a1,oBs,a2,oBs,arr_index p1,oBs,arr_load hm p1',oBs,oBs,arr_store hm p1' fy,oBs,oBs,arr_store hm1 (by rw[List.length_set];exact p2') fx,oBs,names_ne hbn,names_ne hbn]
  simp only[ifB]
  rw[i_add1 (by omega),oBs]
  exact e
theorem C116 (hn:n≤60) (hc:c≤60) (W:WM m nm es n c kf N) {r t:Nat} (hr:r<n) (ht:t<n) (hrt:r≠t) :
  ∃ (m':Mem) (es':List RV),AC cfg 116 [aM n c nm (n*c),.int .i64 r,.int .i64 t] m=some (.tup [],m')∧WM m' nm es' n c (fun i=>if i=r then kf t else if i=t then kf r else kf i) (swpR N r t)∧Kn nm m m':=by
 have nmlt:nm<m.length:=(List.getElem?_eq_some_iff.1 W.hm).1
 have hb1:(m++[cB n c nm (n*c)])[m.length]?=some (cB n c nm (n*c)):=get_last
 have hm1:(m++[cB n c nm (n*c)])[nm]?=some (cA es):=app_get W.hm
 obtain ⟨m',es',e,h1,C,h3⟩:=W116 (nm:=nm) hn hc W.len W.fr hr ht hrt (b:=m.length) (by omega) (K116_2 (finK cfg.P f116.results.toList)) c 0 _ es (by omega) hm1 hb1 ⟨W.len,fun _ _ _ _ _ _=>rfl,fun q hq=>by omega,fun q hq=>by omega⟩
 refine ⟨m',es',?_,?_,Kn.trans (kn_app _ _ _) h3⟩
 ·have e:L116_2 (.int .i64 r) (.int .i64 t) (.ptr m.length 0) (.int .i64 c) (.int .i64 0) (m++[cB n c nm (n*c)]) (K116_2 (finK cfg.P f116.results.toList))=_:=e
  rw[T116,box_aM,oBs]
  dsimp only
  rw[fld1,oBs,bL1 hb1,oBs,e,K116_2_x0]
 ·have cell:∀ i j,i<n→j<c→∀ h:i*c+j<es'.length,∃ i0,i0<n∧(swpR N r t i j=N i0 j)∧(if i=r then kf t else if i=t then kf r else kf i)=kf i0∧∃ h0:i0*c+j<es.length,es'[i*c+j]=es[i0*c+j]:=fun i j hi hj h=>by
   unfold swpR
   by_cases h1:i=r
   ·subst h1
    exact ⟨t,ht,if_pos rfl,if_pos rfl,W.at ht hj,C.sr j hj h (W.at ht hj)⟩
   ·by_cases h2:i=t
    ·subst h2
     exact ⟨r,hr,by rw[if_neg h1,if_pos rfl],by rw[if_neg h1,if_pos rfl],W.at hr hj,C.st j hj h (W.at hr hj)⟩
    ·exact ⟨i,hi,by rw[if_neg h1,if_neg h2],by rw[if_neg h1,if_neg h2],W.at hi hj,C.old i j hj (.inl ⟨h1,h2⟩) h (W.at hi hj)⟩
  refine ⟨h1,C.len,fun x hx=>?_,fun i j hi hj h=>?_,fun i j hi hj=>?_⟩
  ·obtain ⟨p,hp',rfl⟩:=List.getElem_of_mem hx
   have hpl:p<n*c:=by rw[← C.len];exact hp'
   have hc0:0<c:=Nat.pos_of_ne_zero fun e=>by rw[e] at hpl;omega
   have e1:p=p/c*c+p%c:=by rw[Nat.mul_comm];exact (Nat.div_add_mod p c).symm
   have hi:p/c<n:=Nat.div_lt_of_lt_mul (by rw[Nat.mul_comm];exact hpl)
   obtain ⟨i0,_,_,_,h0,e2⟩:=cell (p/c) (p%c) hi (Nat.mod_lt _ hc0) (by rw[← e1];exact hp')
   have:es'[p]=es[i0*c+p%c]:=by rw[← e2];congr 1
   rw[this];exact W.fr _ (List.getElem_mem h0)
  ·obtain ⟨i0,hi0,e1,_,h0,e2⟩:=cell i j hi hj h
   rw[e1,e2];exact W.can i0 j hi0 hj h0
  ·obtain ⟨i0,hi0,e1,e3,_⟩:=cell i j hi hj (by rw[C.len];exact cell_lt60 hi hj)
   rw[e1,e3];exact W.bd i0 j hi0 hj
def PVt (N:MX) (col a i:Nat) (best:Int):Prop:=(best=-1∧∀ q,a≤q→q<i→N q col=0)∨∃ p:Nat,best=(p:Int)∧a≤p∧p<i∧N p col≠0
theorem W115 (hn:n≤60) (hc:c≤60) {kb:Nat} (hkb:kb<2^36) (hkf:∀ i,i<n→kf i≤kb) {col a:Nat} (hcol:col<c) {b:Nat} (K:KT):∀ (d i:Nat) (m:Mem) (best:Int),i+d=n→a≤i→WM m nm es n c kf N→m[b]?=some (cB n c nm (n*c))→PVt N col a i best →
  ∃ (e:Mem) (best':Int),L115_3 (.int .i64 col) (.ptr b 0) (.int .i64 best) (.int .i64 i) m K=K (.exit 0) (O115_3 (.int .i64 best') (m++e))∧PVt N col a n best':=by
 intro d
 induction d with
 | zero=>
  intro i m best hi ha W hb P
  obtain rfl:i=n:=by omega
  refine ⟨[],best,?_,P⟩
  rw[L115_3_eq,fld0,oBs,bL0 hb,oBs,n_lss,oBs,ifA_dec,if_neg (by omega),List.append_nil]
 | succ d ih=>
  intro i m best hi ha W hb P
  have hin:i<n:=by omega
  obtain ⟨a1,a2⟩:=at_cell (i:=i) (c:=c) (j:=col) (by omega) hc (by omega)
  have p1:i*c+col<n*c:=cell_lt60 hin hcol
  have p1':=W.at hin hcol
  have cx:=W.can i col hin hcol p1'
  have fx:=W.fr _ (List.getElem_mem p1')
  have hb10:(m++[cR es[i*c+col]])[b]?=some (cB n c nm (n*c)):=app_get hb
  have hm10:(m++[cR es[i*c+col]])[nm]?=some (cA es):=app_get W.hm
  have W10:WM (m++[cR es[i*c+col]]) nm es n c kf N:=⟨hm10,W.len,W.fr,W.can,W.bd⟩
  have e0:L115_3 (.int .i64 col) (.ptr b 0) (.int .i64 best) (.int .i64 i) m K=_:=L115_3_eq _ _ _ _ _ _
  rw[fld0,oBs,bL0 hb,oBs,n_lss,oBs,ifA_dec,if_pos hin,fld2,oBs,bL2 hb,oBs,fld1,oBs,bL1 hb,oBs,a1,oBs,a2,oBs,arr_index p1,oBs,arr_load W.hm p1',oBs] at e0
  rw[show (newAt none m (Ent.obj true [(.bool false),(.lst none true .full []),(.lst none true .full [])])).2=m++[cR zR] from rfl,show (newAt none m Ent.resv).1=m.length from rfl,st_last,oBs,fld1,oBs,rld1 get_last,oBs,len_nv,oBs,gtr0,oBs,ifA_dec] at e0
  have go:∀ best',PVt N col a (i+1) best'→∃ (e:Mem) (best2:Int),L115_3 (.int .i64 col) (.ptr b 0) (.int .i64 best') (.int .i64 (i+1:Nat)) (m++[cR es[i*c+col]]) K=K (.exit 0) (O115_3 (.int .i64 best2) (m++e))∧PVt N col a n best2:=fun best' hP=>by
   obtain ⟨e,best2,h1,h2⟩:=ih (i+1) (m++[cR es[i*c+col]]) best' (by omega) (by omega) W10 hb10 hP
   exact ⟨[cR es[i*c+col]]++e,best2,by rw[h1,List.append_assoc],h2⟩
  by_cases hx0:es[i*c+col].num.ds.length>0
  ·have hne:N i col≠0:=cx.nz (by omega)
   have Pi:PVt N col a (i+1) (i:Nat):=.inr ⟨i,rfl,ha,by omega,hne⟩
   rw[if_pos hx0,binA_lss,oBs,ifA_dec] at e0
   by_cases hneg:best<0
   ·rw[if_pos hneg,i_add1 (by omega),oBs] at e0
    obtain ⟨e,best2,h1,h2⟩:=go _ Pi
    exact ⟨e,best2,e0.trans h1,h2⟩
   ·rw[if_neg hneg] at e0
    rcases P with ⟨h,_⟩|⟨p,rfl,hap,hpi,hpn⟩
    ·omega
    obtain ⟨c1,c2⟩:=at_cell (i:=p) (c:=c) (j:=col) (by omega) hc (by omega)
    have q1:p*c+col<n*c:=cell_lt60 (by omega) hcol
    have q1':=W.at (show p<n by omega) hcol
    have cy:=W.can p col (by omega) hcol q1'
    have fy:=W.fr _ (List.getElem_mem q1')
    obtain ⟨w1,v1,l1⟩:=V134 (cx.ok ((W.bd i col hin hcol).mono (hkf i hin)) (by omega)) (by omega)
    obtain ⟨w2,v2,l2⟩:=V134 (cy.ok ((W.bd p col (by omega) hcol).mono (hkf p (by omega))) (by omega)) (by omega)
    have Pp:PVt N col a (i+1) (p:Nat):=.inr ⟨p,rfl,hap,by omega,hpn⟩
    rw[rldA get_last,oBs,pcR,fx,v1,Option.map_some,oBs] at e0
    dsimp only at e0
    rw[oBs,bL2 hb10,oBs,oBs,bL1 hb10,oBs,c1,oBs,c2,oBs,arr_index q1,oBs,arr_load hm10 q1',oBs,pcR,fy,v2,Option.map_some,oBs] at e0
    dsimp only at e0
    rw[n_lss,oBs,ifA_dec,i_add1 (by omega),oBs,oBs] at e0
    by_cases hw:w1<w2
    ·rw[if_pos hw] at e0
     obtain ⟨e,best2,h1,h2⟩:=go _ Pi
     exact ⟨e,best2,e0.trans h1,h2⟩
    ·rw[if_neg hw] at e0
     obtain ⟨e,best2,h1,h2⟩:=go _ Pp
     exact ⟨e,best2,e0.trans h1,h2⟩
  ·have hq0:=q0_of (r:=es[i*c+col]) (by omega)
   rw[cx.q] at hq0
   rw[if_neg hx0,i_add1 (by omega),oBs] at e0
   have P':PVt N col a (i+1) best:=by
    rcases P with ⟨h,hh⟩|⟨p,h,hap,hpi,hpn⟩
    ·exact .inl ⟨h,fun q h1 h2=>by
      by_cases e:q=i
      ·rw[e];exact hq0
      ·exact hh q h1 (by omega)⟩
    ·exact .inr ⟨p,h,hap,by omega,hpn⟩
   obtain ⟨e,best2,h1,h2⟩:=go _ P'
   exact ⟨e,best2,e0.trans h1,h2⟩
theorem C115 (hn:n≤60) (hc:c≤60) {kb:Nat} (hkb:kb<2^36) (hkf:∀ i,i<n→kf i≤kb) (W:WM m nm es n c kf N) {col a:Nat} (hcol:col<c) (ha:a≤n) :
  ∃ (e:Mem) (best:Int),AC cfg 115 [aM n c nm (n*c),.int .i64 a,.int .i64 col] m=some (.int .i64 best,m++e)∧PVt N col a n best:=by
 have hb1:(m++[cB n c nm (n*c)])[m.length]?=some (cB n c nm (n*c)):=get_last
 have W1:WM (m++[cB n c nm (n*c)]) nm es n c kf N:=⟨app_get W.hm,W.len,W.fr,W.can,W.bd⟩
 obtain ⟨e,best,h1,h2⟩:=W115 hn hc hkb hkf hcol (b:=m.length) (K115_3 (finK cfg.P f115.results.toList)) (n-a) a _ (-1) (by omega) (Nat.le_refl a) W1 hb1 (.inl ⟨rfl,fun q h1 h2=>by omega⟩)
 refine ⟨[cB n c nm (n*c)]++e,best,?_,h2⟩
 rw[T115,box_aM,oBs]
 dsimp only
 rw[h1,K115_3_x0,List.append_assoc]
end
end Go.Ab
set_option linter.unusedVariables false
set_option linter.unusedSimpArgs false
set_option linter.unusedSectionVars false
namespace Go.Ab
open Go.Proofs.Try
def kk (k:Nat):Nat→Nat
 | 0=>k
 | t+1=>4*kk k t+1
theorem kk_mono (k:Nat) {a b:Nat} (h:a≤b):kk k a≤kk k b:=by
 obtain ⟨d,rfl⟩:=Nat.exists_eq_add_of_le h
 induction d with
 | zero=>exact Nat.le_refl _
 | succ d ih=>rw[← Nat.add_assoc,kk];have:=ih (by omega);omega
def sgO (b:Bool):Rat:=if b then -1 else 1
theorem sgO_not (b:Bool):sgO (!b)=- sgO b:=by cases b<;>decide
theorem clrB_step {a i:Nat} {N:MX} {r col:Nat} (ha:a≤i) (hir:i≠r):addR (clrB a i N r col) r i (clrB a i N r col i col/clrB a i N r col r col)=clrB a (i+1) N r col:=by
 funext q j
 unfold addR
 have e1:clrB a i N r col i col=N i col:=clrB_not (by omega)
 have e3:clrB a i N r col i j=N i j:=clrB_not (by omega)
 rw[e1,clrB_row,clrB_row,e3]
 unfold clrB
 by_cases hq:q=i
 ·subst hq
  rw[if_pos rfl,if_pos (by omega)]
 ·rw[if_neg hq]
  by_cases h2:a≤q∧q<i∧q≠r
  ·rw[if_pos h2,if_pos (by omega)]
  ·rw[if_neg h2,if_neg (by omega)]
theorem un_not' (b:Bool):unA .not (.bool b)=some (.bool (!b)):=rfl
section
variable {nm n c k:Nat} {P:MX}
theorem W88c (hn:n≤60) (hc:c≤60) {r col:Nat} (hr:r<n) (hcol:col<c) (hp:P r col≠0) (hk1:1≤k) (hk:4*k+1<2^36) {b:Nat} (hbn:b≠nm) (x1 x7:AV) (K:KT):∀ (d i:Nat) (m:Mem) (es:List RV),i+d=n→r<i→WM m nm es n c (fun q=>if r+1≤q∧q<i then 4*k+1 else k) (clrB (r+1) i P r col)→m[b]?=some (cB n c nm (n*c)) →
  ∃ (m':Mem) (es':List RV),L88_11 x1 (.ptr b 0) (.int .i64 r) x7 (.int .i64 col) (.int .i64 i) m K=K (.exit 2) (O88_11 x1 (.ptr b 0) (.int .i64 r) x7 (.int .i64 col) m')∧WM m' nm es' n c (fun _=>4*k+1) (clrB (r+1) n P r col)∧m'[b]?=some (cB n c nm (n*c))∧Kn nm m m':=by
 intro d
 induction d with
 | zero=>
  intro i m es hi hri W hb
  obtain rfl:i=n:=by omega
  refine ⟨m,es,?_,W.mono fun q _=>?_,hb,kn_refl _ _⟩
  ·rw[L88_11_eq,fld0,oBs,bL0 hb,oBs,n_lss,oBs,ifA_dec,if_neg (by omega)]
  ·split<;>omega
 | succ d ih=>
  intro i m es hi hri W hb
  have hin:i<n:=by omega
  have e1:clrB (r+1) i P r col r col=P r col:=clrB_row
  obtain ⟨m1,es1,e117,W1,kn1⟩:=C117 hn hc W hr hin (by omega) hcol (by rw[e1];exact hp) (show (if r+1≤r∧r<i then 4*k+1 else k)≤k by rw[if_neg (by omega)];exact Nat.le_refl _) (show (if r+1≤i∧i<i then 4*k+1 else k)≤k by rw[if_neg (by omega)];exact Nat.le_refl _) hk1 hk
  rw[clrB_step (by omega) (by omega)] at W1
  have hb1:=kn1.cB hb hbn
  obtain ⟨m',es',e,h1,h2,h3⟩:=ih (i+1) m1 es1 (by omega) (by omega) (W1.mono fun q _=>by
   split
   ·rw[if_pos (by omega)];exact Nat.le_refl _
   ·split
    ·rw[if_pos (by omega)];exact Nat.le_refl _
    ·split<;>omega) hb1
  refine ⟨m',es',?_,h1,h2,Kn.trans kn1 h3⟩
  rw[L88_11_eq,fld0,oBs,bL0 hb,oBs,n_lss,oBs,ifA_dec,if_pos hin,bLA hb,oBs,e117,oBs,i_add1 (by omega),oBs]
  exact e
theorem W88 (hn:n≤60) (hc:c≤60) {k0 cols:Nat} (hk1:1≤k0) (hK:kk k0 cols<2^36) (hcols:cols≤c) {M:MX} {b:Nat} (hbn:b≠nm):∀ (d col r:Nat) (N:MX) (s:Rat) (cs:Nat→Nat) (m:Mem) (es:List RV) (odd:Bool),col+d=cols→EC n c M N s r col cs→s=sgO odd→WM m nm es n c (fun _=>kk k0 col) N→m[b]?=some (cB n c nm (n*c)) →
  ∃ (m':Mem) (es':List RV) (N':MX) (s':Rat) (r':Nat) (cs':Nat→Nat) (odd':Bool),L88_3 (.int .i64 cols) (.ptr b 0) (.int .i64 r) (.bool odd) (.int .i64 col) m (K88_3 (finK cfg.P f88.results.toList))=some (.tup [.int .i64 r',.bool odd'],m')∧EC n c M N' s' r' cols cs'∧s'=sgO odd'∧WM m' nm es' n c (fun _=>kk k0 cols) N'∧Kn nm m m':=by
 intro d
 induction d with
 | zero=>
  intro col r N s cs m es odd hd E hs W hb
  obtain rfl:col=cols:=by omega
  refine ⟨m,es,N,s,r,cs,odd,?_,E,hs,W,kn_refl _ _⟩
  rw[L88_3_eq,n_lss,oBs,ifA_dec,if_neg (by omega),K88_3_x0]
 | succ d ih=>
  intro col r N s cs m es odd hd E hs W hb
  have hcc:col<cols:=by omega
  have hrn:=E.ech.le
  have hkc:kk k0 col≤kk k0 cols:=kk_mono k0 (by omega)
  have hk2:4*kk k0 col+1≤kk k0 cols:=kk_mono k0 (show col+1≤cols by omega)
  have hk0:k0≤kk k0 col:=kk_mono k0 (Nat.zero_le col)
  have e0:L88_3 (.int .i64 cols) (.ptr b 0) (.int .i64 r) (.bool odd) (.int .i64 col) m (K88_3 (finK cfg.P f88.results.toList))=_:=L88_3_eq _ _ _ _ _ _ _
  rw[n_lss,oBs,ifA_dec,if_pos hcc,fld0,oBs,bL0 hb,oBs,n_lss,oBs,ifA_dec] at e0
  by_cases hrf:r<n
  ·rw[if_pos hrf,bLA hb,oBs] at e0
   obtain ⟨e,best,e115,PV⟩:=C115 hn hc (show kk k0 cols<2^36 from hK) (kf:=fun _=>kk k0 col) (fun _ _=>hkc) W (show col<c by omega) (show r≤n by omega)
   rw[e115,oBs,binA_lss,oBs,ifA_dec] at e0
   have W1:WM (m++e) nm es n c (fun _=>kk k0 col) N:=⟨app_get W.hm,W.len,W.fr,W.can,W.bd⟩
   have hb1:(m++e)[b]?=some (cB n c nm (n*c)):=app_get hb
   rcases PV with ⟨rfl,hz⟩|⟨p,rfl,hrp,hpn,hpne⟩
   ·rw[if_pos (by decide),i_add1 (by omega),oBs] at e0
    obtain ⟨m',es',N',s',r',cs',odd',h1,h2,h3,h4,h5⟩:=ih (col+1) r N s cs (m++e) es odd (by omega) (E.skip (by omega) hz) hs (W1.mono fun _ _=>kk_mono k0 (Nat.le_succ col)) hb1
    exact ⟨m',es',N',s',r',cs',odd',e0.trans h1,h2,h3,h4,Kn.trans (kn_app _ _ _) h5⟩
   ·rw[if_neg (by omega),binA_neq,oBs,ifA_dec] at e0
    have fin:∀ (m2:Mem) (es2:List RV) (P:MX) (s2:Rat) (odd2:Bool),WM m2 nm es2 n c (fun _=>kk k0 col) P→m2[b]?=some (cB n c nm (n*c))→Kn nm m m2→RE n c M P s2→s2=sgO odd2→(∀ i j,i<r→P i j=N i j)→(∀ i j,r≤i→i<n→j<col→P i j=0)→P r col≠0 →
      ∃ (m':Mem) (es':List RV) (N':MX) (s':Rat) (r':Nat) (cs':Nat→Nat) (odd':Bool),L88_11 (.int .i64 cols) (.ptr b 0) (.int .i64 r) (.bool odd2) (.int .i64 col) (.int .i64 (r+1:Nat)) m2 (K88_11 (K88_3 (finK cfg.P f88.results.toList)))=some (.tup [.int .i64 r',.bool odd'],m')∧EC n c M N' s' r' cols cs'∧s'=sgO odd'∧WM m' nm es' n c (fun _=>kk k0 cols) N'∧Kn nm m m':=by
     intro m2 es2 P s2 odd2 W2 hb2 kn2 re hs2 u1 u2 u3
     have c0:clrB (r+1) (r+1) P r col=P:=by funext i j;exact clrB_not (by omega)
     obtain ⟨m3,es3,e3,W3,hb3,kn3⟩:=W88c (k:=kk k0 col) hn hc hrf (show col<c by omega) u3 (by omega) (by omega) hbn (.int .i64 cols) (.bool odd2) (K88_11 (K88_3 (finK cfg.P f88.results.toList))) (n-(r+1)) (r+1) m2 es2 (by omega) (by omega) (by rw[c0];exact W2.mono fun q _=>by split<;>omega) hb2
     have E':=E.take (N1:=clrB (r+1) n P r col) (show col<c by omega) hrf (re.clr hrf (r+1) n (Nat.le_refl n)) (fun i j hi hj=>by rw[clrB_not (by omega)];exact u1 i j hi) (fun i j a b d=>by rw[clrB_zero (u2 r j (Nat.le_refl _) hrf d)];exact u2 i j a b d) (by rw[clrB_row];exact u3) (fun i a b=>clrB_col u3 ⟨by omega,b,by omega⟩)
     obtain ⟨m',es',N',s',r',cs',odd',h1,h2,h3,h4,h5⟩:=ih (col+1) (r+1) _ s2 _ m3 es3 odd2 (by omega) E' hs2 W3 hb3
     refine ⟨m',es',N',s',r',cs',odd',?_,h2,h3,h4,Kn.trans kn2 (Kn.trans kn3 h5)⟩
     rw[e3,K88_11_x2,i_add1 (by omega),oBs,i_add1 (by omega),oBs]
     exact h1
    by_cases hpr:p=r
    ·subst hpr
     rw[if_neg (by omega),i_add1 (by omega),oBs] at e0
     obtain ⟨m',es',N',s',r',cs',odd',h1,h2⟩:=fin (m++e) es N s odd W1 hb1 (kn_app _ _ _) E.re hs (fun _ _ _=>rfl) (fun i j a b d=>E.ech.rest i a b j d) hpne
     exact ⟨m',es',N',s',r',cs',odd',e0.trans h1,h2⟩
    ·have hne2:(p:Int)≠(r:Int):=by omega
     obtain ⟨m2,es2,e116,W2,kn2⟩:=C116 hn hc W1 hpn hrf hpr
     rw[if_pos hne2,bLA hb1,oBs,e116,oBs,un_not',oBs,i_add1 (by omega),oBs] at e0
     have hz:∀ i j,r≤i→i<n→j<col→swpR N p r i j=0:=fun i j a b d=>by
      unfold swpR
      split
      ·exact E.ech.rest r (Nat.le_refl _) hrf j d
      ·split
       ·exact E.ech.rest p hrp hpn j d
       ·exact E.ech.rest i a b j d
     obtain ⟨m',es',N',s',r',cs',odd',h1,h2⟩:=fin m2 es2 (swpR N p r) (-s) (!odd) (W2.mono fun q _=>by split<;>first|exact Nat.le_refl _|(split<;>exact Nat.le_refl _)) (kn2.cB hb1 hbn) (Kn.trans (kn_app _ _ _) kn2) (.swp N s p r E.re hpn hrf hpr) (by rw[sgO_not,hs]) (fun i j hi=>by unfold swpR;rw[if_neg (by omega),if_neg (by omega)]) hz (by unfold swpR;rw[if_neg (fun e=>hpr e.symm),if_pos rfl];exact hpne)
     exact ⟨m',es',N',s',r',cs',odd',e0.trans h1,h2⟩
  ·have hrn2:r=n:=by omega
   subst hrn2
   rw[if_neg (by omega),K88_3_x0] at e0
   have E':=E.full (d+1) (by omega)
   rw[hd] at E'
   exact ⟨m,es,N,s,r,cs,odd,e0,E',hs,W.mono fun _ _=>hkc,kn_refl _ _⟩
end
end Go.Ab
set_option linter.unusedVariables false
set_option linter.unusedSimpArgs false
namespace Go.Ab
open Go.Proofs.Try
abbrev MF:=Nat→Nat→Rat
def mulF (n:Nat) (A B:MF):MF:=fun i j=>sumN (fun l=>A i l*B l j) n
def idF:MF:=fun i j=>if i=j then 1 else 0
def powF (n:Nat) (A:MF):Nat→MF
 | 0=>idF
 | e+1=>mulF n (powF n A e) A
theorem mulF_assoc (n:Nat) (A B C:MF) (i j:Nat):mulF n A (mulF n B C) i j=mulF n (mulF n A B) C i j:=by
 unfold mulF
 have h1:∀ l,l<n→A i l*sumN (fun m=>B l m*C m j) n=sumN (fun m=>A i l*(B l m*C m j)) n:=fun l _=>(sumN_mulL _ _ n).symm
 have h2:∀ m,m<n→sumN (fun l=>A i l*B l m) n*C m j=sumN (fun l=>A i l*B l m*C m j) n:=fun m _=>(sumN_mulR _ _ n).symm
 rw[sumN_congr h1,sumN_congr h2,sumN_swap]
 refine sumN_congr fun m _=>sumN_congr fun l _=>?_
 rw[Rat.mul_assoc]
theorem mulF_id (n:Nat) (A:MF) {i j:Nat} (hj:j<n):mulF n A idF i j=A i j:=by
 unfold mulF
 rw[sumN_one (p:=j) (fun l _ hl=>by unfold idF;rw[if_neg hl,Rat.mul_zero]),if_pos hj]
 unfold idF
 rw[if_pos rfl,Rat.mul_one]
theorem mulF_congr {n:Nat} {A A' B B':MF} (hA:∀ i j,i<n→j<n→A i j=A' i j) (hB:∀ i j,i<n→j<n→B i j=B' i j) {i j:Nat} (hi:i<n) (hj:j<n):mulF n A B i j=mulF n A' B' i j:=by
 unfold mulF
 exact sumN_congr fun l hl=>by rw[hA i l hi hl,hB l j hl hj]
theorem pow_add (n:Nat) (A:MF) (a:Nat):∀ (b:Nat) {i j:Nat},i<n→j<n→mulF n (powF n A a) (powF n A b) i j=powF n A (a+b) i j
 | 0,i,j,hi,hj=>by
  rw[Nat.add_zero,powF,mulF_id n _ hj]
 | b+1,i,j,hi,hj=>by
  show mulF n (powF n A a) (mulF n (powF n A b) A) i j=mulF n (powF n A (a+b)) A i j
  rw[mulF_assoc]
  exact mulF_congr (fun i j hi hj=>pow_add n A a b hi hj) (fun _ _ _ _=>rfl) hi hj
def Ud (D M:Nat) (q:Rat):Prop:=∃ z:Int,z.natAbs≤M∧q=mkRat z D
theorem Ud.zero (D M:Nat):Ud D M 0:=⟨0,Nat.zero_le _,(Rat.zero_mkRat D).symm⟩
theorem Ud.add {D M M':Nat} {p q:Rat} (hD:D≠0) (hp:Ud D M p) (hq:Ud D M' q):Ud D (M+M') (p+q):=by
 obtain ⟨z,h1,rfl⟩:=hp
 obtain ⟨w,h3,rfl⟩:=hq
 refine ⟨z+w,by omega,?_⟩
 rw[Rat.mkRat_add_mkRat _ _ hD hD,← Int.add_mul,Rat.mkRat_mul_right hD]
end Go.Ab
set_option linter.unusedVariables false
set_option linter.unusedSimpArgs false
namespace Go.Ab
open Go.Proofs.Try
def ent (x:MV) (n:Nat):MF:=fun i j=>qAt x (i*n+j)
structure PM (K n:Nat) (A:MF) (e:Nat) (z:MV):Prop where
 fr:z.fr=z
 ok:LOk K z.lv
 rows:z.rows=n
 cols:z.cols=n
 len:z.lv.es.length=n*n
 q:∀ i j,i<n→j<n→ent z n i j=powF n A e i j
theorem dot_ent (x y:MV) (n i j l:Nat):dotQ x y n n i j l=sumN (fun l=>ent x n i l*ent y n l j) l:=rfl
theorem PM.res {K n a b:Nat} {A:MF} {x y z:MV} (hx:PM K n A a x) (hy:PM K n A b y) (h:Res z 0 0 n n (mulQ x y n n) K):PM K n A (a+b) z where
 fr:=h.fr
 ok:=h.ok
 rows:=h.rows rfl
 cols:=h.cols rfl
 len:=h.len rfl
 q i j hi hj:=by
  obtain ⟨e1,e2⟩:=row_col (i:=i) hj
  show qAt z (i*n+j)=_
  rw[h.q rfl _ (cell_lt60 hi hj),mulQ,e1,e2,dot_ent,sumN_congr (fun l' hl'=>by rw[hx.q i l' hi hl',hy.q l' j hl' hj])]
  exact pow_add n A a b hi hj
end Go.Ab
set_option linter.unusedVariables false
set_option linter.unusedSimpArgs false
namespace Go.Ab
open Go.Proofs.Try
theorem right_cells {x:MV} (h:rightM x=true):∀ u∈x.lv.es,rightR u=true:=by
 unfold rightM at h
 rw[Bool.and_eq_true] at h
 exact List.all_eq_true.1 h.2
end Go.Ab
set_option linter.unusedVariables false
set_option linter.unusedSimpArgs false
set_option linter.unusedSectionVars false
namespace Go.Ab
open Go.Proofs.Try
theorem T56' {x:MV} {k:Nat} (hx:LOk k x.lv) (hlen:x.lv.es.length<4500):∃ m' l',RowAt m' l'∧l'.es=x.lv.es.map copyR∧AC cfg 56 [x.av] []=some (MV.av ⟨x.rows,x.cols,l'⟩,m'):=by
 obtain ⟨m',l',q1,q2,q3,q4,q5⟩:=W56 hx hlen (K56_3 (finK cfg.P f56.results.toList)) x.lv.es.length 0 [cM x,cM zM,cM ⟨x.rows,x.cols,nilL⟩] nilL (by omega) rfl rfl (.inl rfl) rfl
 have hl1:1<m'.length:=by
  apply Classical.byContradiction
  intro hc
  rw[List.getElem?_eq_none (by omega)] at q1
  cases q1
 refine ⟨m'.set 1 (cM ⟨x.rows,x.cols,l'⟩),l',q3.set q1 _,q4,?_⟩
 have e1:([cM x,cM zM]:Mem)[0]?=some (cM x):=rfl
 have e2:([cM x,cM zM,cM zM]:Mem)[2]?=some (cM zM):=rfl
 have e3:([cM x,cM zM,cM ⟨x.rows,x.cols,nilL⟩]:Mem)[0]?=some (cM x):=rfl
 rw[T56]
 simp only[oBs,box_mv,new_m,new_r,fld0,fld1,fld2,List.length_nil,List.nil_append,List.length_cons,List.cons_append,Nat.zero_add,Nat.reduceAdd]
 rw[mld0 e1,oBs,mld1 e1,oBs,bldM01,oBs,mstA e2,oBs]
 simp only[List.set_cons_succ,List.set_cons_zero]
 rw[mld2 e3,oBs,len_lv,oBs]
 refine q5.trans ?_
 rw[K56_3_x0,mldA q2,oBs,mstA q1,oBs,mldA (by rw[List.getElem?_set_self hl1])]
 rfl
theorem thawM {g:Nat} {args rs:List AV} {ns:List Nat} {m m':Mem} {a b:Int} {l':LV} (hf:mapF (frz m fuelF) args=some (rs,ns)) (hc:AC cfg g rs []=some (MV.av ⟨a,b,l'⟩,m')) (hr:RowAt m' l') (hfr:∀ r∈l'.es,r.fr=r) :
  (l'=nilL∧thawCall (AC cfg) m g args=some (MV.av ⟨a,b,nilL⟩,kill m ns))∨(l'.es≠[]∧thawCall (AC cfg) m g args=some (aM a b m.length l'.es.length,kill m ns++[cA l'.es])):=by
 rcases hr with rfl|⟨g1,g2,g3,nm,g4,g5⟩
 ·refine .inl ⟨rfl,?_⟩
  unfold thawCall
  rw[hf,oBs,hc,oBs]
  show some (_,kill m ns++[])=_
  rw[List.append_nil];rfl
 ·refine .inr ⟨g3,?_⟩
  unfold thawCall
  rw[hf,oBs,hc,oBs]
  obtain ⟨sh,z,o,es⟩:=l'
  simp only at g1 g2 g3 g4 g5 hfr
  subst g1;subst g2;subst g4
  have hall:((es.map RV.av).flatMap AV.cells).all rowC=true:=by rw[flatR_eq];exact flat_rowC es hfr
  have ht:thawA m.length m' (MV.av ⟨a,b,⟨some 3,false,.tok nm 43,es⟩⟩)=some (.agg [.int .i64 a,.int .i64 b,.arr m.length 0 (es.map RV.av).length (some 3)],[some (.obj false ((es.map RV.av).flatMap AV.cells))]):=by
   unfold thawA MV.av LV.av
   simp only[mget g5,List.length_map,hall,and_self,if_true]
  rw[ht,Option.map_some,flatR_eq,List.length_map]
  rfl
theorem can_copy {r:RV} {q:Rat} (h:Can r q):Can (copyR r) q:=by
 have e:∀ ds:List Nat,(rowN ds).z=true→(rowN ds).ds=[]:=fun ds=>by
  unfold rowN
  split
  ·intro _;rfl
  ·intro hh;cases hh
 exact ⟨h.neg,by rw[copyR,rowN_ds];exact h.num,by rw[copyR,rowN_ds];exact h.den,e _,e _⟩
def mxOf (x:MV) (c:Nat):MX:=fun i j=>qAt x (i*c+j)
section
variable {n c k:Nat}
theorem C88 (hn:n≤60) (hc:c≤60) {k0 cols:Nat} (hk1:1≤k0) (hK:kk k0 cols<2^36) (hcols:cols≤c) {M:MX} {m:Mem} {nm:Nat} {es:List RV} (W:WM m nm es n c (fun _=>k0) M) :
  ∃ (m':Mem) (es':List RV) (N:MX) (s:Rat) (r:Nat) (cs:Nat→Nat) (odd:Bool),AC cfg 88 [aM n c nm (n*c),.int .i64 cols] m=some (.tup [.int .i64 r,.bool odd],m')∧EC n c M N s r cols cs∧s=sgO odd∧WM m' nm es' n c (fun _=>kk k0 cols) N∧Kn nm m m':=by
 have hnm:nm<m.length:=(List.getElem?_eq_some_iff.1 W.hm).1
 have W1:WM (m++[cB n c nm (n*c)]) nm es n c (fun _=>kk k0 0) M:=⟨app_get W.hm,W.len,W.fr,W.can,W.bd⟩
 obtain ⟨m',es',N,s,r,cs,odd,h1,h2,h3,h4,h5⟩:=W88 hn hc hk1 hK hcols (b:=m.length) (by omega) cols 0 0 M 1 (fun _=>0) _ es false (by omega) (ec0 n c M _) rfl W1 get_last
 refine ⟨m',es',N,s,r,cs,odd,?_,h2,h3,h4,Kn.trans (kn_app _ _ _) h5⟩
 rw[T88,box_aM,oBs]
 exact h1
theorem C88z {a b:Int} {cols:Nat} (h:cols=0∨a=0) (hcols:cols≤60) (m:Mem):∃ m',AC cfg 88 [MV.av ⟨a,b,nilL⟩,.int .i64 cols] m=some (.tup [.int .i64 0,.bool false],m')∧Kp m m':=by
 have key:∀ (d col:Nat),col+d=cols→L88_3 (.int .i64 cols) (.ptr m.length 0) (.int .i64 0) (.bool false) (.int .i64 col) (m++[cM ⟨a,b,nilL⟩]) (K88_3 (finK cfg.P f88.results.toList))=some (.tup [.int .i64 0,.bool false],m++[cM ⟨a,b,nilL⟩]):=by
  intro d col hd
  rw[L88_3_eq,n_lss,oBs,ifA_dec]
  by_cases hl:col<cols
  ·rw[if_pos hl,fld0,oBs,mld0 get_last,oBs,binA_lss,oBs,ifA_dec,if_neg (by simp only;omega),K88_3_x0]
  ·rw[if_neg hl,K88_3_x0]
 refine ⟨m++[cM ⟨a,b,nilL⟩],?_,Kp.app m _⟩
 rw[T88,box_mv,oBs]
 exact key cols 0 (by omega)
theorem wm_copy {x:MV} (hx:LOk k x.lv) (hk1:1≤k) (hr:∀ u∈x.lv.es,rightR u=true) (hl:x.lv.es.length=n*c) {m:Mem} {nm:Nat} (hm:m[nm]?=some (cA (x.lv.es.map copyR))):WM m nm (x.lv.es.map copyR) n c (fun _=>k) (mxOf x c):=by
 refine ⟨hm,by rw[List.length_map,hl],fun r hr=>?_,fun i j hi hj h=>?_,fun i j hi hj=>qAt_bd hx hk1⟩
 ·obtain ⟨r',_,rfl⟩:=List.mem_map.1 hr
  exact copyR_fr _
 ·have h2:i*c+j<x.lv.es.length:=by simpa using h
  have hm2:=List.getElem_mem h2
  rw[List.getElem_map,mxOf,qAt_get h2]
  exact can_copy (rightR_can (hr _ hm2) (hx.ok _ hm2).num.nil (hx.ok _ hm2).den.nil)
end
end Go.Ab
set_option linter.unusedVariables false
set_option linter.unusedSimpArgs false
namespace Go.Ab
open Go.Proofs.Try
theorem new_q' (m:Mem):newAt none m (.obj true [.bool false,.lst none true .full [],.lst none true .full []])=(m.length,m++[cR zR]):=rfl
theorem putAt_one {cs:List AV} {k:Nat} {v:AV} (h:k<cs.length):putAt cs k [v]=cs.set k v:=by
 unfold putAt
 rw[List.set_eq_take_append_cons_drop,if_pos h];simp
def bU (U:Nat→Bool) (n:Nat):Option Ent:=some (.obj false ((List.range n).map fun j=>.bool (U j)))
section
variable {m:Mem} {u n k:Nat} {U:Nat→Bool}
theorem bU_idx (hk:k<n):indexAddrA none (.arr u 0 n none) (.int .i64 k)=some (.ptr u k):=by
 have h:(0:Int)≤(k:Nat)∧((k:Nat):Int)<(n:Nat):=by omega
 show (if (none:Sh)=none then if (0:Int)≤(k:Nat)∧((k:Nat):Int)<(n:Nat) then some (AV.ptr u (0+((k:Nat):Int).toNat*1)) else none else none)=_
 rw[if_pos rfl,if_pos h,Int.toNat_natCast,Nat.mul_one,Nat.zero_add]
theorem bU_ld (h:m[u]?=some (bU U n)) (hk:k<n):loadA none m (.ptr u k)=some (.bool (U k)):=by
 simp only[loadA,mobj h,oBs,cutSh,List.getElem?_map]
 rw[List.getElem?_range hk];rfl
theorem bU_st (h:m[u]?=some (bU U n)) (hk:k<n) (b:Bool):storeA none m (.ptr u k) (.bool b)=some (m.set u (bU (fun j=>if j=k then b else U j) n)):=by
 have hl:k+1≤((List.range n).map fun j=>AV.bool (U j)).length:=by rw[List.length_map,List.length_range];omega
 have e:putAt ((List.range n).map fun j=>AV.bool (U j)) k [AV.bool b]=(List.range n).map fun j=>AV.bool (if j=k then b else U j):=by
  refine List.ext_getElem? fun t=>?_
  rw[putAt_one (by rw[List.length_map,List.length_range];exact hk),List.getElem?_set,List.getElem?_map,List.getElem?_map]
  by_cases ht:t<n
  ·rw[List.getElem?_range ht]
   by_cases hkt:k=t
   ·subst hkt
    rw[if_pos rfl,if_pos (by rw[List.length_map,List.length_range];exact hk)]
    simp
   ·rw[if_neg hkt]
    simp[show ¬ t=k from fun h=>hkt h.symm]
  ·rw[List.getElem?_eq_none (by rw[List.length_range];omega),if_neg (by omega)]
   rfl
 simp only[storeA,mobj h,oBs,Sh.size,if_pos hl,shOk,atomOk,if_true,AV.cells]
 rw[e];rfl
theorem use_set (k:Nat):(fun j=>if j=k then true else U j)=use U k:=rfl
theorem use_back (hk:U k=false):(fun j=>if j=k then false else use U k j)=U:=by
 funext j
 unfold use
 by_cases h:j=k
 ·rw[if_pos h,h,hk]
 ·rw[if_neg h,if_neg h]
end
def Sm (L u:Nat) (m m':Mem):Prop:=m.length≤m'.length∧∀ p,p<L→p≠u→m'[p]?=m[p]?
theorem Sm.trans {L u:Nat} {m m' m'':Mem} (h:Sm L u m m') (h':Sm L u m' m''):Sm L u m m'':=⟨Nat.le_trans h.1 h'.1,fun p hp hn=>(h'.2 p hp hn).trans (h.2 p hp hn)⟩
theorem Sm.less {L L' u:Nat} {m m':Mem} (h:Sm L u m m') (hl:L'≤L):Sm L' u m m':=⟨h.1,fun p hp hn=>h.2 p (by omega) hn⟩
theorem Sm.setu {L u:Nat} (m:Mem) (e:Option Ent):Sm L u m (m.set u e):=⟨by rw[List.length_set];exact Nat.le_refl _,fun p _ hn=>List.getElem?_set_ne (fun h=>hn h.symm)⟩
theorem Sm.seto {L u q:Nat} (m:Mem) (e:Option Ent) (hq:L≤q):Sm L u m (m.set q e):=⟨by rw[List.length_set];exact Nat.le_refl _,fun p hp _=>List.getElem?_set_ne (by omega)⟩
theorem Sm.app {L u:Nat} (m e:Mem) (hL:L≤m.length):Sm L u m (m++e):=⟨by rw[List.length_append];omega,fun p hp _=>List.getElem?_append_left (by omega)⟩
def rbD:Nat→Nat
 | 0=>16
 | d+1=>1+5*(rbD d+1)
theorem rbD_le:∀ {d:Nat},d≤5→rbD d≤54686
 | 0,_=>by decide
 | 1,_=>by decide
 | 2,_=>by decide
 | 3,_=>by decide
 | 4,_=>by decide
 | 5,_=>by decide
 | d+6,h=>by omega
theorem app_ld {m e:Mem} {b:Nat} {x:Option Ent} (h:m[b]?=some x):(m++e)[b]?=some x:=(List.getElem?_append_left (List.getElem?_eq_some_iff.1 h).1).trans h
theorem sgQ_dec (q:Rat):decide (sgQ q=0)=decide (q=0):=by
 refine decide_eq_decide.2 ⟨fun h=>?_,fun h=>by rw[sgQ,if_pos h]⟩
 unfold sgQ at h
 by_cases h0:q=0
 ·exact h0
 ·rw[if_neg h0] at h
  split at h<;>omega
section
variable {x:MV} {n:Nat}
theorem W90_10 {U:Nat→Bool} {u bx bp br bs bq:Nat} {kk:Nat} {x1:AV} (hxc:x.cols=n) (hn:n≤5) {kb:Nat} (hkb:kb<2^36) (hqu:bq≠u) (hqx:bq≠bx) (K:KT):∀ (e j:Nat) (m:Mem) (pt:RV) (pq:Rat),j+e=n →
  m[u]?=some (bU U n)→m[bx]?=some (cM x)→m[bq]?=some (cR pt)→Can pt pq→pt.fr=pt→Bd kb pq →
  ∃ pt':RV,Can pt' (pq*sgU U e j)∧pt'.fr=pt'∧Bd kb (pq*sgU U e j) ∧
   L90_10 x1 (.arr u 0 n none) (.ptr bx 0) (.ptr bp 0) (.ptr br 0) (.ptr bs 0) (.int .i64 kk) (.ptr bq 0) (.int .i64 j) m K=K (.exit 2) (O90_10 x1 (.arr u 0 n none) (.ptr bx 0) (.ptr bp 0) (.ptr br 0) (.ptr bs 0) (.int .i64 kk) (.ptr bq 0) (m.set bq (cR pt')))
 | 0,j,m,pt,pq,hj,hu,hx,hq,cp,fp,bp'=>by
  refine ⟨pt,by rw[show sgU U 0 j=1 from rfl,Rat.mul_one];exact cp,fp,by rw[show sgU U 0 j=1 from rfl,Rat.mul_one];exact bp',?_⟩
  have e:m.set bq (cR pt)=m:=List.ext_getElem? fun t=>by
   rw[List.getElem?_set]
   split
   ·rename_i h;subst h
    rw[if_pos (List.getElem?_eq_some_iff.1 hq).1,hq]
   ·rfl
  rw[L90_10_eq,fld1,oBs,mld1 hx,oBs,hxc,n_lss,oBs,ifA_dec,if_neg (by omega),e]
 | e+1,j,m,pt,pq,hj,hu,hx,hq,cp,fp,bp'=>by
  have op:=cp.ok bp' (by omega)
  rw[L90_10_eq,fld1,oBs,mld1 hx,oBs,hxc,n_lss,oBs,ifA_dec,if_pos (by omega),bU_idx (by omega),oBs,bU_ld hu (by omega),oBs]
  cases hU:U j with
  | true=>
   obtain ⟨s,s1,s2,s3⟩:=V118 op (by omega)
   rw[ifA_true,rldA hq,oBs,pcR,fp,s1,Option.map_some,oBs,rstA hq,oBs,i_add1 (by omega),oBs]
   have s2':Can s (pq * -1):=by
    rw[cp.q] at s2
    rw[show pq * -1=-pq by grind];exact s2
   have b2:Bd kb (pq * -1):=by rw[show pq * -1=-pq by grind];exact Bd_neg bp'
   obtain ⟨t,t1,t2,t3,t4⟩:=W90_10 hxc hn hkb hqu hqx K e (j+1) (m.set bq (cR s)) s (pq * -1) (by omega) (by rw[List.getElem?_set_ne hqu];exact hu) (by rw[List.getElem?_set_ne hqx];exact hx) (set_same (List.getElem?_eq_some_iff.1 hq).1) s2' s3 b2
   have e1:pq*sgU U (e+1) j=pq * -1*sgU U e (j+1):=by
    rw[sgU,hU,if_pos rfl];grind
   rw[e1]
   refine ⟨t,t1,t2,t3,?_⟩
   rw[t4,List.set_set]
  | false=>
   rw[ifA_false,i_add1 (by omega),oBs]
   obtain ⟨t,t1,t2,t3,t4⟩:=W90_10 hxc hn hkb hqu hqx K e (j+1) m pt pq (by omega) hu hx hq cp fp bp'
   have e1:pq*sgU U (e+1) j=pq*sgU U e (j+1):=by
    rw[sgU,hU,if_neg (by decide)];grind
   rw[e1]
   exact ⟨t,t1,t2,t3,t4⟩
def tmD (n:Nat) (M:MX) (d i:Nat) (U:Nat→Bool) (k:Nat):Rat:=if U k then 0 else sgU U (n-(k+1)) (k+1)*M i k*Dt n M d (i+1) (use U k)
theorem Dt_sum (M:MX) (d i:Nat) (U:Nat→Bool):Dt n M (d+1) i U=sumR n (tmD n M d i U):=rfl
def Ans (x:MV) (n d i:Nat):Prop:=∀ (U:Nat→Bool) (m:Mem) (u:Nat) (p:RV) (pq:Rat),m[u]?=some (bU U n)→Can p pq→p.fr=p→Bd (1+3*i) pq →
 ∃ (m':Mem) (s:RV),AC cfg 90 [x.av,.int .i64 i,.arr u 0 n none,p.av] m=some (s.av,m')∧Can s (pq*Dt n (mxOf x n) d i U)∧s.fr=s∧Bd (rbD d) (pq*Dt n (mxOf x n) d i U)∧Sm m.length u m m'∧m'[u]?=some (bU U n)
theorem W90_5 (hx:IsM 3 x) (hxn:x.rows=n) (hxc:x.cols=n) (hlx:x.lv.es.length=n*n) (hn:n≤5) {d i:Nat} (hi:i+(d+1)=n) (IH:Ans x n d (i+1)) {U:Nat→Bool} {u bx bp br bs:Nat} {p:RV} {pq:Rat} (cp:Can p pq) (fp:p.fr=p) (bp':Bd (1+3*i) pq) {L:Nat}
  (hL1:L≤bx) (hL2:L≤bs) (hL3:L≤br) (huL:u<L) (hbx:bx<bs) (hbp:bp≠bs) (hrs:br≠bs) (hbr:br≠bx) (hbpr:bp≠br) (hLp:L≤bp):∀ (e k:Nat) (m:Mem) (s:RV),k+e=n →
  m[u]?=some (bU U n)→m[bx]?=some (cM x)→m[bp]?=some (cR p)→m[br]?=some (cR zR)→m[bs]?=some (cR s)→Can s (pq*sumR k (tmD n (mxOf x n) d i U))→s.fr=s→Bd (1+k*(rbD d+1)) (pq*sumR k (tmD n (mxOf x n) d i U)) →
  ∃ (m':Mem) (s':RV),L90_5 (.int .i64 i) (.arr u 0 n none) (.ptr bx 0) (.ptr bp 0) (.ptr br 0) (.ptr bs 0) (.int .i64 k) m (K90_5 (finK cfg.P f90.results.toList))=some (s'.av,m')∧Can s' (pq*Dt n (mxOf x n) (d+1) i U)∧s'.fr=s'∧Bd (rbD (d+1)) (pq*Dt n (mxOf x n) (d+1) i U)∧Sm L u m m'∧m'[u]?=some (bU U n)
 | 0,k,m,s,hk,hu,hbx',hbp',hbr',hbs',cs,fs,bs'=>by
  obtain rfl:k=n:=by omega
  refine ⟨m.set br (cR s),s,?_,by rw[Dt_sum];exact cs,fs,by rw[Dt_sum];exact bs'.mono (by show 1+k*(rbD d+1)≤1+5*(rbD d+1);have:=Nat.mul_le_mul_right (rbD d+1) hn;omega),Sm.seto _ _ hL3,by rw[List.getElem?_set_ne (by omega)];exact hu⟩
  rw[L90_5_eq,fld1,oBs,mld1 hbx',oBs,hxc,n_lss,oBs,ifA_dec,if_neg (by omega),K90_5_x0,rldA hbs',oBs,rstA hbr',oBs,rldA (set_same (List.getElem?_eq_some_iff.1 hbr').1),oBs]
 | e+1,k,m,s,hk,hu,hbx',hbp',hbr',hbs',cs,fs,bs'=>by
  have hkn:k<n:=by omega
  have hd5:rbD d≤54686:=rbD_le (by omega)
  have hcell:i*n+k<x.lv.es.length:=by rw[hlx];exact cell_lt60 (by omega) hkn
  have hM:mxOf x n i k=x.lv.es[i*n+k].q:=qAt_get hcell
  have er:=hx.ok.ok _ (List.getElem_mem hcell)
  have ef:=hx.ok.fr _ (List.getElem_mem hcell)
  obtain ⟨a1,a2⟩:=at_cell (i:=i) (j:=k) (c:=n) (by omega) (by omega) (by omega)
  have hk1:k*(rbD d+1)≤5*(rbD d+1):=Nat.mul_le_mul_right _ (by omega)
  have e8:=V86 er (by omega)
  have skip:tmD n (mxOf x n) d i U k=0→∃ (m':Mem) (s':RV),L90_5 (.int .i64 i) (.arr u 0 n none) (.ptr bx 0) (.ptr bp 0) (.ptr br 0) (.ptr bs 0) (.int .i64 (k+1:Nat)) m (K90_5 (finK cfg.P f90.results.toList))=some (s'.av,m')∧Can s' (pq*Dt n (mxOf x n) (d+1) i U)∧s'.fr=s'∧Bd (rbD (d+1)) (pq*Dt n (mxOf x n) (d+1) i U)∧Sm L u m m'∧m'[u]?=some (bU U n):=fun h0=>by
   have e0:sumR (k+1) (tmD n (mxOf x n) d i U)=sumR k (tmD n (mxOf x n) d i U):=by rw[sumR,h0];grind
   exact W90_5 hx hxn hxc hlx hn hi IH cp fp bp' hL1 hL2 hL3 huL hbx hbp hrs hbr hbpr hLp e (k+1) m s (by omega) hu hbx' hbp' hbr' hbs' (by rw[e0];exact cs) fs (by rw[e0];exact bs'.mono (by have:=Nat.add_mul k 1 (rbD d+1);omega))
  rw[L90_5_eq,fld1,oBs,mld1 hbx',oBs,hxc,n_lss,oBs,ifA_dec,if_pos hkn,bU_idx hkn,oBs,bU_ld hu hkn,oBs]
  cases hU:U k with
  | true=>
   rw[ifA_true,i_add1 (by omega),oBs]
   exact skip (by unfold tmD;rw[hU,if_pos rfl])
  | false=>
   rw[ifA_false,fld2,oBs,mld2 hbx',oBs,oBs,mld1 hbx',oBs,hxc,a1,oBs,a2,oBs,index_lv hx.ok hcell,oBs,load_row,oBs,pcR,ef,e8,Option.map_some,oBs,binA_eql,oBs,sgQ_dec,ifA_dec]
   by_cases hq0:x.lv.es[i*n+k].q=0
   ·rw[if_pos hq0,i_add1 (by omega),oBs]
    exact skip (by unfold tmD;rw[hU,if_neg (by decide),hM,hq0];grind)
   ·have op:=cp.ok bp' (by omega)
    obtain ⟨t,t1,t2,t3⟩:=V29 (k:=20) (op.mono (by omega)) (er.mono (by omega)) (by omega) (by omega)
    rw[cp.q] at t2
    have bt:Bd (1+3*(i+1)) (pq*x.lv.es[i*n+k].q):=(Bd_mul bp' (er.bd (by omega)) (by omega)).mono (by omega)
    have hres:∀ {b:Nat} {z:Option Ent},m[b]?=some z→(reserve m 1)[b]?=some z:=fun h=>app_ld h
    have e9:∀ X:Mem,(newAt (some m.length) (reserve m 1) (.obj true [(.bool false),(.lst none true .full []),(.lst none true .full [])])).2=(reserve m 1).set m.length (cR zR):=fun _=>rfl
    have e10:(newAt (some m.length) (reserve m 1) .resv).1=m.length:=rfl
    have e11:(reserve m 1).set m.length (cR zR)=m++[cR zR]:=by
     show (m++[some Ent.resv]).set m.length (cR zR)=_
     simp
    rw[if_neg hq0]
    dsimp only
    rw[rldA (hres hbp'),oBs,oBs,mld2 (hres hbx'),oBs,oBs,mld1 (hres hbx'),oBs,hxc,a1,oBs,a2,oBs,index_lv hx.ok hcell,oBs,load_row,oBs,pcRR,fp,ef,t1,Option.map_some,oBs]
    dsimp only
    rw[e9 m,e10,e11,rstA get_last,oBs,i_add1 (by omega),oBs]
    have e12:(m++[cR zR]).set m.length (cR t)=m++[cR t]:=by simp
    have hlen:bs<m.length:=(List.getElem?_eq_some_iff.1 hbs').1
    have hlx2:bx<m.length:=(List.getElem?_eq_some_iff.1 hbx').1
    have hlr:br<m.length:=(List.getElem?_eq_some_iff.1 hbr').1
    have hlp:bp<m.length:=(List.getElem?_eq_some_iff.1 hbp').1
    have hlu:u<m.length:=(List.getElem?_eq_some_iff.1 hu).1
    rw[e12]
    obtain ⟨v,v1,v2,v3,v4⟩:=W90_10 (x:=x) (n:=n) (U:=U) (u:=u) (bx:=bx) (bp:=bp) (br:=br) (bs:=bs) (bq:=m.length) (kk:=k) (x1:=.int .i64 i) hxc hn (kb:=1+3*(i+1)) (by omega) (by omega) (by omega) (K90_10 (K90_5 (finK cfg.P f90.results.toList))) e (k+1) (m++[cR t]) t _ (by omega) (app_ld hu) (app_ld hbx') get_last t2 t3 bt
    have e13:(m++[cR t]).set m.length (cR v)=m++[cR v]:=by simp
    rw[v4,e13,K90_10_x2,bU_idx hkn,oBs,bU_st (app_ld hu) hkn,use_set,oBs]
    have g:∀ {b:Nat} {z:Option Ent},b≠u→(m++[cR v])[b]?=some z→((m++[cR v]).set u (bU (use U k) n))[b]?=some z:=fun hb h=>by rw[List.getElem?_set_ne (fun e=>hb e.symm)];exact h
    obtain ⟨m7,r,r1,r2,r3,r4,r5,r6⟩:=IH (use U k) ((m++[cR v]).set u (bU (use U k) n)) u v _ (set_same (by rw[List.length_append];omega)) v1 v2 v3
    have hl7:((m++[cR v]).set u (bU (use U k) n)).length=m.length+1:=by rw[List.length_set,List.length_append];rfl
    have g7:∀ {b:Nat} {z:Option Ent},b≠u→m[b]?=some z→m7[b]?=some z:=fun hb h=>by
     have hbl:=(List.getElem?_eq_some_iff.1 h).1
     rw[r5.2 _ (by rw[hl7];omega) hb]
     exact g hb (app_ld h)
    have hs7:=g7 (show bs≠u by omega) hbs'
    rw[rldA (g (show bs≠u by omega) (app_ld hbs')),oBs,mldA (g (show bx≠u by omega) (app_ld hbx')),oBs,i_add1 (by omega),oBs,rldA (g (show m.length≠u by omega) get_last),oBs,r1,oBs]
    rw[ifP_pos (by rw[rldA hs7];rfl)]
    have hterm:pq*x.lv.es[i*n+k].q*sgU U e (k+1)*Dt n (mxOf x n) d (i+1) (use U k)=pq*tmD n (mxOf x n) d i U k:=by
     unfold tmD
     rw[hU,if_neg (by decide),hM,show n-(k+1)=e by omega]
     grind
    rw[hterm] at r2 r4
    have os:=cs.ok (bs'.mono (k':=400000) (by omega)) (by omega)
    have or':=r2.ok (r4.mono (k':=400000) (by omega)) (by omega)
    obtain ⟨y,y1,y2,y3⟩:=V76 os or' (by omega) (by omega)
    rw[cs.q,r2.q] at y2
    have esum:pq*sumR k (tmD n (mxOf x n) d i U)+pq*tmD n (mxOf x n) d i U k=pq*sumR (k+1) (tmD n (mxOf x n) d i U):=by rw[sumR];grind
    have by':Bd (1+(k+1)*(rbD d+1)) (pq*sumR (k+1) (tmD n (mxOf x n) d i U)):=by
     rw[← esum]
     exact (Bd_add bs' r4 (by omega)).mono (by have:=Nat.add_mul k 1 (rbD d+1);omega)
    rw[esum] at y2
    have hu7:(m7.set bs (cR y))[u]?=some (bU (use U k) n):=by rw[List.getElem?_set_ne (by omega)];exact r6
    rw[pcRR,fs,r3,y1,Option.map_some,oBs,rstA hs7,oBs,oBs,bU_st hu7 hkn,use_back hU,oBs,i_add1 (by omega),oBs]
    have hl7':m.length+1≤m7.length:=by rw[← hl7];exact r5.1
    have g8:∀ {b:Nat} {z:Option Ent},b≠u→b≠bs→m[b]?=some z→((m7.set bs (cR y)).set u (bU U n))[b]?=some z:=fun hb hb2 h=>by
     rw[List.getElem?_set_ne (fun e=>hb e.symm),List.getElem?_set_ne (fun e=>hb2 e.symm)]
     exact g7 hb h
    obtain ⟨m',s',z1,z2,z3,z4,z5,z6⟩:=W90_5 hx hxn hxc hlx hn hi IH cp fp bp' hL1 hL2 hL3 huL hbx hbp hrs hbr hbpr hLp e (k+1) ((m7.set bs (cR y)).set u (bU U n)) y (by omega)
     (set_same (by rw[List.length_set];omega)) (g8 (by omega) (by omega) hbx') (g8 (by omega) hbp hbp') (g8 (by omega) hrs hbr')
     (by rw[List.getElem?_set_ne (by omega)];exact set_same (by omega)) y2 y3 by'
    refine ⟨m',s',z1,z2,z3,z4,Sm.trans ?_ z5,z6⟩
    have q1:Sm L u m (m++[cR v]):=Sm.app _ _ (by omega)
    have q2:Sm L u (m++[cR v]) m7:=(Sm.setu _ _).trans (r5.less (by rw[hl7];omega))
    exact ((q1.trans q2).trans (Sm.seto _ _ hL2)).trans (Sm.setu _ _)
theorem C90 (hx:IsM 3 x) (hxn:x.rows=n) (hxc:x.cols=n) (hlx:x.lv.es.length=n*n) (hn:n≤5):∀ d i,i+d=n→Ans x n d i
 | 0,i,hi=>by
  intro U m u p pq hu cp fp bp'
  have hul:=(List.getElem?_eq_some_iff.1 hu).1
  have gx:((m++[cM x])++[cR p]++[cR zR])[m.length]?=some (cM x):=app_ld (app_ld get_last)
  have gp:((m++[cM x])++[cR p]++[cR zR])[m.length+1]?=some (cR p):=by
   have:((m++[cM x])++[cR p])[(m++[cM x]).length]?=some (cR p):=get_last
   rw[List.length_append] at this
   exact app_ld this
  have gr:((m++[cM x])++[cR p]++[cR zR])[m.length+1+1]?=some (cR zR):=by
   have:(((m++[cM x])++[cR p])++[cR zR])[((m++[cM x])++[cR p]).length]?=some (cR zR):=get_last
   rw[List.length_append,List.length_append] at this
   exact this
  refine ⟨((m++[cM x])++[cR p]++[cR zR]).set (m.length+1+1) (cR p),p,?_,by rw[Dt,Rat.mul_one];exact cp,fp,by rw[Dt,Rat.mul_one];exact bp'.mono (by show _≤16;omega),?_,?_⟩
  ·rw[T90,box_mv,oBs,box_rv,oBs,fld0,oBs]
   simp only[new_q',new_r,List.length_append,List.length_cons,List.length_nil,Nat.zero_add]
   rw[mld0 gx,oBs,hxn,n_eql,oBs,ifA_dec,if_pos (by omega),rldA gp,oBs,rstA gr,oBs,rldA (set_same (List.getElem?_eq_some_iff.1 gr).1),oBs]
  ·refine ((Sm.app m [cM x] (Nat.le_refl _)).trans ((Sm.app _ [cR p] (by simp)).trans (Sm.app _ [cR zR] (by simp)))).trans (Sm.seto _ _ (by omega))
  ·rw[List.getElem?_set_ne (by omega)]
   exact app_ld (app_ld (app_ld hu))
 | d+1,i,hi=>by
  intro U m u p pq hu cp fp bp'
  have hul:=(List.getElem?_eq_some_iff.1 hu).1
  obtain ⟨M4,hM4⟩:∃ M4,M4=((m++[cM x])++[cR p]++[cR zR])++[cR zeroF]:=⟨_,rfl⟩
  have gx:M4[m.length]?=some (cM x):=by rw[hM4];exact app_ld (app_ld (app_ld get_last))
  have gx':((m++[cM x])++[cR p]++[cR zR])[m.length]?=some (cM x):=app_ld (app_ld get_last)
  have gp:M4[m.length+1]?=some (cR p):=by
   have:((m++[cM x])++[cR p])[(m++[cM x]).length]?=some (cR p):=get_last
   rw[List.length_append] at this
   rw[hM4]
   exact app_ld (app_ld this)
  have gr:M4[m.length+1+1]?=some (cR zR):=by
   have:(((m++[cM x])++[cR p])++[cR zR])[((m++[cM x])++[cR p]).length]?=some (cR zR):=get_last
   rw[List.length_append,List.length_append] at this
   rw[hM4]
   exact app_ld this
  have gs:M4[m.length+1+1+1]?=some (cR zeroF):=by
   have:((((m++[cM x])++[cR p])++[cR zR])++[cR zeroF])[(((m++[cM x])++[cR p])++[cR zR]).length]?=some (cR zeroF):=get_last
   rw[List.length_append,List.length_append,List.length_append] at this
   rw[hM4]
   exact this
  have z0:pq*sumR 0 (tmD n (mxOf x n) d i U)=0:=by simp only[sumR];grind
  obtain ⟨m',s',z1,z2,z3,z4,z5,z6⟩:=W90_5 hx hxn hxc hlx hn (d:=d) (i:=i) (by omega) (C90 hx hxn hxc hlx hn d (i+1) (by omega)) (U:=U) (u:=u) (bx:=m.length) (bp:=m.length+1) (br:=m.length+1+1) (bs:=m.length+1+1+1) (p:=p) (pq:=pq) cp fp bp' (L:=m.length) (by omega) (by omega) (by omega) hul (by omega) (by omega) (by omega) (by omega) (by omega) (by omega)
   n 0 M4 zeroF (by omega) (by rw[hM4];exact app_ld (app_ld (app_ld (app_ld hu)))) gx gp gr gs (by rw[z0];exact canF_zero) zeroF_fr (by rw[z0];exact Bd_zero (by omega))
  refine ⟨m',s',?_,z2,z3,z4,Sm.trans ?_ z5,z6⟩
  ·rw[T90,box_mv,oBs,box_rv,oBs,fld0,oBs]
   simp only[new_q',new_r,List.length_append,List.length_cons,List.length_nil,Nat.zero_add]
   rw[mld0 gx',oBs,hxn,n_eql,oBs,ifA_dec,if_neg (by omega),pcall0,V31,Option.map_some,oBs]
   simp only[new_q',new_r,List.length_append,List.length_cons,List.length_nil,Nat.zero_add]
   have gz:(((m++[cM x])++[cR p]++[cR zR])++[cR zR])[m.length+1+1+1]?=some (cR zR):=by
    have:((((m++[cM x])++[cR p])++[cR zR])++[cR zR])[(((m++[cM x])++[cR p])++[cR zR]).length]?=some (cR zR):=get_last
    rw[List.length_append,List.length_append,List.length_append] at this
    exact this
   have es:(((m++[cM x])++[cR p]++[cR zR])++[cR zR]).set (m.length+1+1+1) (cR zeroF)=M4:=by
    rw[hM4,List.set_append_right _ _ (by simp)]
    simp
   rw[rstA gz,oBs,es]
   exact z1
  ·rw[hM4]
   exact (Sm.app m [cM x] (Nat.le_refl _)).trans ((Sm.app _ [cR p] (by simp)).trans ((Sm.app _ [cR zR] (by simp)).trans (Sm.app _ [cR zeroF] (by simp))))
end
end Go.Ab
set_option linter.unusedVariables false
namespace Go.Ab
open Go.Proofs.Try
theorem Q47_h0 (x0:AV) (m:Mem) (K:KT):execW cfg 47 (AP cfg) (AC cfg) (c1 (bodyOf f47)) ⟨[x0,.any,.any,.any,.any,.any,.any,.any,.any,.any,.any,.any,.any,.any,.any,.any,.any,.any,.any,.any,.any,.any,.any,.any,.any,.any,.any,.any,.any,.any,.any,.any,.any,.any,.any,.any,.any,.any,.any,.any,.any,.any,.any,.any,.any,.any,.any,.any,.any],m⟩ K =
 (boxA none (some 3) m x0).bind fun r1=>
 K .normal ⟨[x0,r1.1,(.ptr (newAt none r1.2 .resv).1 0),(.int .i64 0),.any,.any,.any,.any,.any,.any,.any,.any,.any,.any,.any,.any,.any,.any,.any,.any,.any,.any,.any,.any,.any,.any,.any,.any,.any,.any,.any,.any,.any,.any,.any,.any,.any,.any,.any,.any,.any,.any,.any,.any,.any,.any,.any,.any,.any],(newAt none r1.2 (.obj true [(.bool false),(.lst none true .full []),(.lst none true .full [])])).2⟩:=by kernel_rfl
theorem Q47_h1 (x1 x2:AV) (m:Mem) (K:KT):execW cfg 47 (AP cfg) (AC cfg) (c1 (c2 (bodyOf f47))) ⟨[.any,x1,x2,.any,.any,.any,.any,.any,.any,.any,.any,.any,.any,.any,.any,.any,.any,.any,.any,.any,.any,.any,.any,.any,.any,.any,.any,.any,.any,.any,.any,.any,.any,.any,.any,.any,.any,.any,.any,.any,.any,.any,.any,.any,.any,.any,.any,.any,.any],m⟩ K =
 (loadA (some 3) m x1).bind fun v1=>
 (pcall (AP cfg) none m 20 [v1]).bind fun r2=>
 (unA .not r2.1).bind fun v3=>
 ifA v3 (
 (buildA (.agg [(.bool false),(.lst none true .full []),(.lst none true .full [])]) []).bind fun v4=>
 (storeA (some 3) r2.2 x2 v4).bind fun m5=>
 K .ret ⟨[.any,x1,x2,(.int .i64 1),.any,.any,.any,.any,.any,.any,v1,r2.1,v3,v4,.any,.any,.any,.any,.any,.any,.any,.any,.any,.any,.any,.any,.any,.any,.any,.any,.any,.any,.any,.any,.any,.any,.any,.any,.any,.any,.any,.any,.any,.any,.any,.any,.any,.any,.any],m5⟩) (
 K .normal ⟨[.any,x1,x2,.any,.any,.any,.any,.any,.any,.any,v1,r2.1,v3,.any,.any,.any,.any,.any,.any,.any,.any,.any,.any,.any,.any,.any,.any,.any,.any,.any,.any,.any,.any,.any,.any,.any,.any,.any,.any,.any,.any,.any,.any,.any,.any,.any,.any,.any,.any],r2.2⟩):=by kernel_rfl
theorem Q47_h2 (x1 x2:AV) (m:Mem) (K:KT):execW cfg 47 (AP cfg) (AC cfg) (c1 (c2 (c2 (bodyOf f47)))) ⟨[.any,x1,x2,.any,.any,.any,.any,.any,.any,.any,.any,.any,.any,.any,.any,.any,.any,.any,.any,.any,.any,.any,.any,.any,.any,.any,.any,.any,.any,.any,.any,.any,.any,.any,.any,.any,.any,.any,.any,.any,.any,.any,.any,.any,.any,.any,.any,.any,.any],m⟩ K =
 (fieldAddrA 0 x1).bind fun v1=>
 (loadA none m v1).bind fun v2=>
 (fieldAddrA 1 x1).bind fun v3=>
 (loadA none m v3).bind fun v4=>
 (binA .other .neq v2 v4).bind fun v5=>
 ifA v5 (
 (buildA (.agg [(.bool false),(.lst none true .full []),(.lst none true .full [])]) []).bind fun v6=>
 (storeA (some 3) m x2 v6).bind fun m7=>
 K .ret ⟨[.any,x1,x2,(.int .i64 30),.any,.any,.any,.any,.any,.any,.any,.any,.any,.any,v1,v2,v3,v4,v5,v6,.any,.any,.any,.any,.any,.any,.any,.any,.any,.any,.any,.any,.any,.any,.any,.any,.any,.any,.any,.any,.any,.any,.any,.any,.any,.any,.any,.any,.any],m7⟩) (
 K .normal ⟨[.any,x1,x2,.any,.any,.any,.any,.any,.any,.any,.any,.any,.any,.any,v1,v2,v3,v4,v5,.any,.any,.any,.any,.any,.any,.any,.any,.any,.any,.any,.any,.any,.any,.any,.any,.any,.any,.any,.any,.any,.any,.any,.any,.any,.any,.any,.any,.any,.any],m⟩):=by kernel_rfl
theorem Q47_h3 (x1 x2:AV) (m:Mem) (K:KT):execW cfg 47 (AP cfg) (AC cfg) (c1 (c2 (c2 (c2 (bodyOf f47))))) ⟨[.any,x1,x2,.any,.any,.any,.any,.any,.any,.any,.any,.any,.any,.any,.any,.any,.any,.any,.any,.any,.any,.any,.any,.any,.any,.any,.any,.any,.any,.any,.any,.any,.any,.any,.any,.any,.any,.any,.any,.any,.any,.any,.any,.any,.any,.any,.any,.any,.any],m⟩ K =
 (loadA (some 3) m x1).bind fun v1=>
 (thawCall (AC cfg) m 56 [v1]).bind fun r2=>
 (storeA (some 3) (newAt none r2.2 (.obj true [(.int .i64 0),(.int .i64 0),(.lst none true .full [])])).2 (.ptr (newAt none r2.2 .resv).1 0) r2.1).bind fun m3=>
 K .normal ⟨[.any,x1,x2,.any,(.ptr (newAt none r2.2 .resv).1 0),.any,.any,.any,.any,.any,.any,.any,.any,.any,.any,.any,.any,.any,.any,.any,v1,r2.1,.any,.any,.any,.any,.any,.any,.any,.any,.any,.any,.any,.any,.any,.any,.any,.any,.any,.any,.any,.any,.any,.any,.any,.any,.any,.any,.any],m3⟩:=by kernel_rfl
theorem Q47_h4 (x2 x4:AV) (m:Mem) (K:KT):execW cfg 47 (AP cfg) (AC cfg) (c1 (c2 (c2 (c2 (c2 (bodyOf f47)))))) ⟨[.any,.any,x2,.any,x4,.any,.any,.any,.any,.any,.any,.any,.any,.any,.any,.any,.any,.any,.any,.any,.any,.any,.any,.any,.any,.any,.any,.any,.any,.any,.any,.any,.any,.any,.any,.any,.any,.any,.any,.any,.any,.any,.any,.any,.any,.any,.any,.any,.any],m⟩ K =
 (loadA (some 3) m x4).bind fun v1=>
 (fieldAddrA 1 x4).bind fun v2=>
 (loadA none m v2).bind fun v3=>
 (AC cfg 88 [v1,v3] m).bind fun r4=>
 (extractA r4.1 0).bind fun v5=>
 (extractA r4.1 1).bind fun v6=>
 K .normal ⟨[.any,.any,x2,.any,x4,v5,v6,.any,.any,.any,.any,.any,.any,.any,.any,.any,.any,.any,.any,.any,.any,.any,r4.1,v1,v2,v3,r4.1,v5,v6,.any,.any,.any,.any,.any,.any,.any,.any,.any,.any,.any,.any,.any,.any,.any,.any,.any,.any,.any,.any],r4.2⟩:=by kernel_rfl
theorem Q47_h5 (x2 x4 x5 x6:AV) (m:Mem) (K:KT):execW cfg 47 (AP cfg) (AC cfg) (c1 (c2 (c2 (c2 (c2 (c2 (bodyOf f47))))))) ⟨[.any,.any,x2,.any,x4,x5,x6,.any,.any,.any,.any,.any,.any,.any,.any,.any,.any,.any,.any,.any,.any,.any,.any,.any,.any,.any,.any,.any,.any,.any,.any,.any,.any,.any,.any,.any,.any,.any,.any,.any,.any,.any,.any,.any,.any,.any,.any,.any,.any],m⟩ K =
 (fieldAddrA 0 x4).bind fun v1=>
 (loadA none m v1).bind fun v2=>
 (binA .other .lss x5 v2).bind fun v3=>
 ifA v3 (
 (pcall (AP cfg) none m 60 []).bind fun r4=>
 (storeA (some 3) r4.2 x2 r4.1).bind fun m5=>
 K .ret ⟨[.any,.any,x2,(.int .i64 0),x4,x5,x6,.any,.any,.any,.any,.any,.any,.any,.any,.any,.any,.any,.any,.any,.any,.any,.any,.any,.any,.any,.any,.any,.any,x5,v1,v2,v3,r4.1,.any,.any,.any,.any,.any,.any,.any,.any,.any,.any,.any,.any,.any,.any,.any],m5⟩) (
 K .normal ⟨[.any,.any,x2,.any,x4,x5,x6,.any,.any,.any,.any,.any,.any,.any,.any,.any,.any,.any,.any,.any,.any,.any,.any,.any,.any,.any,.any,.any,.any,x5,v1,v2,v3,.any,.any,.any,.any,.any,.any,.any,.any,.any,.any,.any,.any,.any,.any,.any,.any],m⟩):=by kernel_rfl
theorem Q47_h6 (x2 x4 x6:AV) (m:Mem) (K:KT):execW cfg 47 (AP cfg) (AC cfg) (c1 (c2 (c2 (c2 (c2 (c2 (c2 (bodyOf f47)))))))) ⟨[.any,.any,x2,.any,x4,.any,x6,.any,.any,.any,.any,.any,.any,.any,.any,.any,.any,.any,.any,.any,.any,.any,.any,.any,.any,.any,.any,.any,.any,.any,.any,.any,.any,.any,.any,.any,.any,.any,.any,.any,.any,.any,.any,.any,.any,.any,.any,.any,.any],m⟩ K =
 (pcall (AP cfg) none m 84 []).bind fun r1=>
 (storeA (some 3) (newAt none r1.2 (.obj true [(.bool false),(.lst none true .full []),(.lst none true .full [])])).2 (.ptr (newAt none r1.2 .resv).1 0) r1.1).bind fun m2=>
 K .normal ⟨[.any,.any,x2,.any,x4,.any,x6,(.ptr (newAt none r1.2 .resv).1 0),.any,.any,.any,.any,.any,.any,.any,.any,.any,.any,.any,.any,.any,.any,.any,.any,.any,.any,.any,.any,.any,.any,.any,.any,.any,.any,r1.1,.any,.any,.any,.any,.any,.any,.any,.any,.any,.any,.any,.any,.any,.any],m2⟩:=by kernel_rfl
theorem Q47_h7 (x2 x4 x6 x7:AV) (m:Mem) (K:KT):execW cfg 47 (AP cfg) (AC cfg) (c1 (c1 (c2 (c2 (c2 (c2 (c2 (c2 (c2 (bodyOf f47)))))))))) ⟨[.any,.any,x2,.any,x4,.any,x6,x7,.any,.any,.any,.any,.any,.any,.any,.any,.any,.any,.any,.any,.any,.any,.any,.any,.any,.any,.any,.any,.any,.any,.any,.any,.any,.any,.any,.any,.any,.any,.any,.any,.any,.any,.any,.any,.any,.any,.any,.any,.any],m⟩ K =
 (loadA (some 3) m x4).bind fun v1=>
 (pcall (AP cfg) none m 82 [v1]).bind fun r2=>
 K .normal ⟨[.any,.any,x2,.any,x4,.any,x6,x7,.any,.any,.any,.any,.any,.any,.any,.any,.any,.any,.any,.any,.any,.any,.any,.any,.any,.any,.any,.any,.any,.any,.any,.any,.any,.any,.any,v1,r2.1,.any,.any,.any,.any,.any,.any,.any,.any,.any,.any,.any,.any],r2.2⟩:=by kernel_rfl
theorem Q47_b (x7 x8 x9:AV) (m:Mem) (K:KT):execW cfg 47 (AP cfg) (AC cfg) (rB (c1 (c2 (c1 (c2 (c2 (c2 (c2 (c2 (c2 (c2 (bodyOf f47)))))))))))) ⟨[.any,.any,.any,.any,.any,.any,.any,x7,x8,x9,.any,.any,.any,.any,.any,.any,.any,.any,.any,.any,.any,.any,.any,.any,.any,.any,.any,.any,.any,.any,.any,.any,.any,.any,.any,.any,.any,.any,.any,.any,.any,.any,.any,.any,.any,.any,.any,.any,.any],m⟩ K =
 (loadA (some 3) m x7).bind fun v1=>
 (indexAddrA (some 3) x9 x8).bind fun v2=>
 (loadA (some 3) m v2).bind fun v3=>
 (pcall (AP cfg) (some m.length) m 78 [v1,v3]).bind fun r4=>
 (storeA (some 3) r4.2 x7 r4.1).bind fun m5=>
 K .normal ⟨[.any,.any,.any,.any,.any,.any,.any,x7,x8,x9,.any,.any,.any,.any,.any,.any,.any,.any,.any,.any,.any,.any,.any,.any,.any,.any,.any,.any,.any,.any,.any,.any,.any,.any,.any,.any,.any,.any,.any,v1,x9,x8,v2,v3,r4.1,.any,.any,.any,.any],m5⟩:=by kernel_rfl
theorem Q47_h8 (x2 x6 x7:AV) (m:Mem) (K:KT):execW cfg 47 (AP cfg) (AC cfg) (c1 (c2 (c2 (c2 (c2 (c2 (c2 (c2 (c2 (bodyOf f47)))))))))) ⟨[.any,.any,x2,.any,.any,.any,x6,x7,.any,.any,.any,.any,.any,.any,.any,.any,.any,.any,.any,.any,.any,.any,.any,.any,.any,.any,.any,.any,.any,.any,.any,.any,.any,.any,.any,.any,.any,.any,.any,.any,.any,.any,.any,.any,.any,.any,.any,.any,.any],m⟩ K =
 ifA x6 (
 (loadA (some 3) m x7).bind fun v1=>
 (pcall (AP cfg) none m 89 [v1]).bind fun r2=>
 (storeA (some 3) r2.2 x7 r2.1).bind fun m3=>
 K .normal ⟨[.any,.any,x2,.any,.any,.any,x6,x7,.any,.any,.any,.any,.any,.any,.any,.any,.any,.any,.any,.any,.any,.any,.any,.any,.any,.any,.any,.any,.any,.any,.any,.any,.any,.any,.any,.any,.any,.any,.any,.any,.any,.any,.any,.any,.any,x6,v1,r2.1,.any],m3⟩) (
 K .normal ⟨[.any,.any,x2,.any,.any,.any,x6,x7,.any,.any,.any,.any,.any,.any,.any,.any,.any,.any,.any,.any,.any,.any,.any,.any,.any,.any,.any,.any,.any,.any,.any,.any,.any,.any,.any,.any,.any,.any,.any,.any,.any,.any,.any,.any,.any,x6,.any,.any,.any],m⟩):=by kernel_rfl
theorem Q47_t (x2 x7:AV) (m:Mem) (K:KT):execW cfg 47 (AP cfg) (AC cfg) (c2 (c2 (c2 (c2 (c2 (c2 (c2 (c2 (c2 (bodyOf f47)))))))))) ⟨[.any,.any,x2,.any,.any,.any,.any,x7,.any,.any,.any,.any,.any,.any,.any,.any,.any,.any,.any,.any,.any,.any,.any,.any,.any,.any,.any,.any,.any,.any,.any,.any,.any,.any,.any,.any,.any,.any,.any,.any,.any,.any,.any,.any,.any,.any,.any,.any,.any],m⟩ K =
 (loadA (some 3) m x7).bind fun v1=>
 (storeA (some 3) m x2 v1).bind fun m2=>
 K .ret ⟨[.any,.any,x2,(.int .i64 0),.any,.any,.any,x7,.any,.any,.any,.any,.any,.any,.any,.any,.any,.any,.any,.any,.any,.any,.any,.any,.any,.any,.any,.any,.any,.any,.any,.any,.any,.any,.any,.any,.any,.any,.any,.any,.any,.any,.any,.any,.any,.any,.any,.any,v1],m2⟩:=by kernel_rfl
end Go.Ab
