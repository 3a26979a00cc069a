/- Division and the greatest common divisor of nat, in values. -/
import Derived.Test.YtlapgjmmlbnehaaKP2
set_option maxRecDepth 100000
set_option linter.unusedVariables false
set_option linter.unusedSimpArgs false
set_option linter.unusedSectionVars false
set_option linter.unusedVariables false
set_option linter.unusedSimpArgs false
namespace Go.Ab
open Go.Proofs.Try
def divQ (x y:NV):NV:=if x.v<y.v then ⟨true,.full,[]⟩ else ⟨false,.no,digs (x.v/y.v)⟩
def divR (x y:NV):NV:=if x.v<y.v then ⟨x.z,ownD x.v,digs x.v⟩ else if y.v<4294967296 then ⟨false,ownD (x.v%y.v),digs (x.v%y.v)⟩ else ⟨false,.no,digs (x.v%y.v)⟩
theorem divQ_ds (x y:NV):(divQ x y).ds=digs (x.v/y.v):=by
 unfold divQ
 split
 ·rename_i h;rw[Nat.div_eq_of_lt h,digs_zero]
 ·rfl
theorem divR_ds (x y:NV):(divR x y).ds=digs (x.v%y.v):=by
 unfold divR
 split
 ·rename_i h;rw[Nat.mod_eq_of_lt h]
 ·split<;>rfl
theorem digs_mono {a b:Nat} (h:a≤b):(digs a).length≤(digs b).length:=by
 have:=val_lt (dg_digs b)
 rw[val_digs] at this
 exact digs_length_le (Nat.lt_of_le_of_lt h this)
theorem NOk.v_len {x:NV} (h:NOk x):(digs x.v).length≤x.ds.length:=digs_length_val h.dg
theorem NOk.v_len' {x:NV} (h:NOk x):(digs x.v).length<2^40:=Nat.lt_of_le_of_lt h.v_len h.len
theorem NOk.z_v {x:NV} (h:NOk x):x.z=true→digs x.v=[]:=by
 intro hz
 rw[NV.v,h.nil hz]
 exact digs_zero
theorem divQ_ok {x y:NV} (hx:NOk x):NOk (divQ x y):=by
 refine ⟨by rw[divQ_ds];exact dg_digs _,?_,?_⟩
 ·rw[divQ_ds]
  exact Nat.lt_of_le_of_lt (digs_mono (Nat.div_le_self _ _)) hx.v_len'
 ·unfold divQ
  split
  ·intro _;rfl
  ·intro h;cases h
theorem divR_ok {x y:NV} (hx:NOk x):NOk (divR x y):=by
 refine ⟨by rw[divR_ds];exact dg_digs _,?_,?_⟩
 ·rw[divR_ds]
  exact Nat.lt_of_le_of_lt (digs_mono (Nat.mod_le _ _)) hx.v_len'
 ·unfold divR
  split
  ·exact hx.z_v
  ·split<;>(intro h;cases h)
theorem ownD_fr (n:Nat):(ownD n).fr=ownD n:=by unfold ownD;split<;>rfl
theorem divQ_fr (x y:NV):(divQ x y).fr=divQ x y:=by unfold divQ;split<;>rfl
theorem divR_fr (x y:NV):(divR x y).fr=divR x y:=by
 unfold divR
 split
 ·simp only[NV.fr,ownD_fr]
 ·split
  ·simp only[NV.fr,ownD_fr]
  ·rfl
theorem divR_v (x y:NV):(divR x y).v=x.v%y.v:=by rw[NV.v,divR_ds,val_digs]
def divV (x y:NV):AV:=if y.v=0 then .tup [nilN,nilN,.int .i64 31] else .tup [(divQ x y).av,(divR x y).av,.int .i64 0]
theorem digs_len0 {n:Nat}:(digs n).length=0↔n=0:=by rw[List.length_eq_zero_iff];exact val_pos_digs
theorem digs_len1 {n:Nat}:(digs n).length=1↔n≠0∧n<4294967296:=by
 constructor
 ·intro h
  have h1:=val_lt (dg_digs n)
  rw[val_digs,h] at h1
  exact ⟨fun e=>by rw[e,digs_zero] at h;simp at h,by simpa using h1⟩
 ·intro ⟨h,h'⟩
  have h1:=digs_length_le (k:=1) (n:=n) (by simpa using h')
  have h2:(digs n).length≠0:=fun e=>h (digs_len0.1 e)
  omega
theorem digs_last {n:Nat} (h:n≠0):(digs n).getD ((digs n).length-1) 0≠0:=by
 intro e
 have h1:canB (digs n)=true:=by rw[canB,val_digs];exact decide_eq_true rfl
 rw[← rightL_eq (dg_digs n),rightL] at h1
 have h2:¬ (digs n).length=0:=fun e=>h (digs_len0.1 e)
 rw[e] at h1
 simp[h2] at h1
theorem lz_shift {t:Nat} (h:0<t) (h':t<4294967296):lz t<32∧2147483648≤t*2^lz t∧t*2^lz t<4294967296:=by
 have hl:Nat.log2 t<32:=(Nat.log2_lt (by omega)).2 h'
 have h1:=Nat.log2_self_le (n:=t) (by omega)
 have h2:=Nat.lt_log2_self (n:=t)
 unfold lz
 generalize Nat.log2 t=k at *
 have e:2^k*2^(31-k)=2147483648:=by rw[← Nat.pow_add,show k+(31-k)=31 by omega]
 have e2:2^(k+1)*2^(31-k)=4294967296:=by rw[← Nat.pow_add,show k+1+(31-k)=32 by omega]
 refine ⟨by omega,?_,?_⟩
 ·rw[← e];exact Nat.mul_le_mul_right _ h1
 ·rw[← e2];exact Nat.mul_lt_mul_of_pos_right h2 (Nat.two_pow_pos _)
theorem shifted_div {b:Nat} {n:Nat} (hn:(digs b).length=n) (hn2:1≤n) (hs:lz ((digs b).getD (n-1) 0)<32) :
  (digs (2^lz ((digs b).getD (n-1) 0)*b)).length=n∧2147483648≤(digs (2^lz ((digs b).getD (n-1) 0)*b)).getD (n-1) 0:=by
 have hb:b≠0:=by intro e;rw[e,digs_zero] at hn;simp at hn;omega
 have hlast:=digs_last hb
 rw[hn] at hlast
 have hd:=dg_digs b (n-1)
 obtain ⟨s1,s2,s3⟩:=lz_shift (Nat.pos_of_ne_zero hlast) hd
 obtain ⟨k,rfl⟩:∃ k,n=k+1:=⟨n-1,by omega⟩
 rw[Nat.add_sub_cancel] at *
 have hv:b=vs (digs b) k+4294967296^k*(digs b).getD k 0:=by rw[← vs_succ,vs_all (Nat.le_of_eq hn),val_digs]
 have hlo:=vs_lt (dg_digs b) k
 generalize (digs b).getD k 0=t at *
 generalize vs (digs b) k=l at *
 generalize lz t=s at *
 have hp:=Nat.two_pow_pos s
 have hlt:2^s*b<4294967296^(k+1):=by
  have h1:b<4294967296^k*(t+1):=by rw[Nat.mul_add];omega
  have h4:(t+1)*2^s≤4294967296:=by
   have hpw:2^s*2^(32-s)=4294967296:=pow_split s1
   rw[← hpw,Nat.mul_comm] at s3 ⊢
   have:=Nat.lt_of_mul_lt_mul_left s3
   exact Nat.mul_le_mul_left _ this
  have h2:2^s*b<2^s*(4294967296^k*(t+1)):=Nat.mul_lt_mul_of_pos_left h1 hp
  have h3:2^s*(4294967296^k*(t+1))=4294967296^k*((t+1)*2^s):=by rw[Nat.mul_left_comm,Nat.mul_comm (2^s)]
  have h5:4294967296^k*((t+1)*2^s)≤4294967296^k*4294967296:=Nat.mul_le_mul_left _ h4
  rw[Nat.pow_succ]
  omega
 have hge:4294967296^k*(t*2^s)≤2^s*b:=by
  rw[Nat.mul_comm t,Nat.mul_left_comm]
  exact Nat.mul_le_mul_left _ (by omega)
 have hlen1:=digs_length_le hlt
 have hlen2:k<(digs (2^s*b)).length:=by
  apply Classical.byContradiction
  intro hc
  have h1:=val_lt (dg_digs (2^s*b))
  rw[val_digs] at h1
  have h2:4294967296^(digs (2^s*b)).length≤4294967296^k:=Nat.pow_le_pow_right (by omega) (by omega)
  have h3:4294967296^k*1≤4294967296^k*(t*2^s):=Nat.mul_le_mul_left _ (by omega)
  omega
 refine ⟨by omega,?_⟩
 have hv2:2^s*b=vs (digs (2^s*b)) k+4294967296^k*(digs (2^s*b)).getD k 0:=by rw[← vs_succ,vs_all (by omega),val_digs]
 have hlo2:=vs_lt (dg_digs (2^s*b)) k
 generalize (digs (2^s*b)).getD k 0=y at *
 generalize vs (digs (2^s*b)) k=l2 at *
 apply Classical.byContradiction
 intro hc
 have h1:4294967296^k*(y+1)≤4294967296^k*(t*2^s):=Nat.mul_le_mul_left _ (by omega)
 rw[Nat.mul_add] at h1
 omega
theorem kinv_start {v u0:List Nat} {n m:Nat} (du:Dg u0) (hu:u0.length=m+n) (hlt:wn u0 m n<val v):KInv v u0 n m m u0 (List.replicate m 0) where
 du:=du
 lu:=hu
 dq:=dg_rep m
 lq:=List.length_replicate
 hi:=by
  intro k hk
  exact getD_out (by omega)
 lo:=fun _ _=>rfl
 lt:=hlt
 eq:=by rw[Nat.sub_self,wn,Nat.zero_mul,Nat.zero_add,Nat.add_sub_cancel_left]
theorem top_lt {u v:List Nat} {n m:Nat} (hu:Dg u) (hn:v.length=n) (hn2:1≤n) (h:u.getD (m+n-1) 0<v.getD (n-1) 0):wn u m n<val v:=by
 obtain ⟨k,rfl⟩:∃ k,n=k+1:=⟨n-1,by omega⟩
 rw[Nat.add_sub_cancel,show m+(k+1)-1=m+k by omega] at h
 have h1:=wn_lt hu m k
 have h2:4294967296^k*(u.getD (m+k) 0+1)≤4294967296^k*v.getD k 0:=Nat.mul_le_mul_left _ h
 rw[wn,← vs_all (Nat.le_of_eq hn),vs_succ]
 rw[Nat.mul_add] at h2
 omega
theorem V125 {x y:NV} (hx:NOk x) (hy:NOk y):AP cfg 125 [x.av,y.av]=some (divV x y):=by
 have lx:=hx.v_len'
 have ly:=hy.v_len'
 have hX:NOk ⟨x.z,.no,digs x.v⟩:=⟨dg_digs _,lx,hx.z_v⟩
 have hY:NOk ⟨y.z,.no,digs y.v⟩:=⟨dg_digs _,ly,hy.z_v⟩
 have e1:=V124 hx.fr
 have e2:=V124 hy.fr
 rw[show x.fr.v=x.v from rfl,show x.fr.z=x.z from rfl] at e1
 rw[show y.fr.v=y.v from rfl,show y.fr.z=y.z from rfl] at e2
 have e3:=V109 hX hY
 have vX:(NV.mk x.z .no (digs x.v)).v=x.v:=val_digs _
 have vY:(NV.mk y.z .no (digs y.v)).v=y.v:=val_digs _
 rw[vX,vY] at e3
 have fX:=fz_nv ⟨x.z,.no,digs x.v⟩
 have fY:=fz_nv ⟨y.z,.no,digs y.v⟩
 rw[show (NV.mk x.z .no (digs x.v)).fr=⟨x.z,.no,digs x.v⟩ from rfl] at fX
 rw[show (NV.mk y.z .no (digs y.v)).fr=⟨y.z,.no,digs y.v⟩ from rfl] at fY
 unfold divV
 by_cases h0:y.v=0
 ·rw[if_pos h0]
  refine AP_ofz _ _ (fz_tup3 fza_nil fza_nil (fza_int _ _)) rfl (m:=[]) ?_
  rw[T125,pcall1 (fz_nv x),e1,Option.map_some,oBs,pcall1 (fz_nv y),e2,Option.map_some,oBs,len_nv,oBs,n_eql0,oBs,ifA_dec,if_pos (digs_len0.2 h0)]
 ·rw[if_neg h0]
  have hn0:¬ (digs y.v).length=0:=fun e=>h0 (digs_len0.1 e)
  by_cases h1:x.v<y.v
  ·have hc:cmpV x.v y.v<0:=by unfold cmpV;rw[if_pos h1];omega
   refine AP_ofz _ _ (fz_tup3 (fza_nv (divQ x y)) (fza_nv (divR x y)) (fza_int _ _)) rfl (m:=[]) ?_ |>.trans (by rw[divQ_fr,divR_fr])
   rw[T125,pcall1 (fz_nv x),e1,Option.map_some,oBs,pcall1 (fz_nv y),e2,Option.map_some,oBs,len_nv,oBs,n_eql0,oBs,ifA_dec,if_neg hn0,
    pcall2 fX fY,e3,Option.map_some,oBs,binA_lss,oBs,ifA_dec,if_pos hc,pcall1 fX,V123 hX,Option.map_some,oBs]
   unfold divQ divR
   rw[if_pos h1,if_pos h1]
   rfl
  ·have hc:¬ cmpV x.v y.v<0:=by unfold cmpV;rw[if_neg h1];split<;>omega
   by_cases h2:y.v<4294967296
   ·have hn1:(digs y.v).length=1:=digs_len1.2 ⟨h0,h2⟩
    have hdig:(digs y.v).getD 0 0=y.v:=by
     rw[digs_pos h0,List.getD_cons_zero,Nat.mod_eq_of_lt h2]
    have hlt:x.v%y.v<y.v:=Nat.mod_lt _ (by omega)
    refine AP_ofz _ _ (fz_tup3 (fza_nv (divQ x y)) (fza_nv (divR x y)) (fza_int _ _)) rfl (m:=[]) ?_ |>.trans (by rw[divQ_fr,divR_fr])
    have e4:=V136 (d:=y.v) hX (by omega) h2
    rw[vX] at e4
    rw[T125,pcall1 (fz_nv x),e1,Option.map_some,oBs,pcall1 (fz_nv y),e2,Option.map_some,oBs,len_nv,oBs,n_eql0,oBs,ifA_dec,if_neg hn0,
     pcall2 fX fY,e3,Option.map_some,oBs,binA_lss,oBs,ifA_dec,if_neg hc,oBs,n_eql1,oBs,ifA_dec,if_pos hn1,index_nv0 (by simp only[hn1];omega),oBs,load_v,oBs]
    simp only[hdig]
    rw[pcall2 (b:=dg y.v) (b':=dg y.v) fX (fz_int .u32 y.v),e4]
    simp only[Option.map_some,oBs,extractA]
    rw[show ([NV.av ⟨false,.no,digs (x.v/y.v)⟩,dg (x.v%y.v)]:List AV)[0]?=some (NV.av ⟨false,.no,digs (x.v/y.v)⟩) from rfl,show ([NV.av ⟨false,.no,digs (x.v/y.v)⟩,dg (x.v%y.v)]:List AV)[1]?=some (dg (x.v%y.v)) from rfl,
     oBs,oBs,c_dg _ (by omega),oBs,pcall1 (fz_int _ _),V93 (by omega)]
    unfold divQ divR
    rw[if_neg h1,if_neg h1,if_pos h2]
    rfl
   ·have hn1:¬ (digs y.v).length=1:=fun e=>h2 (digs_len1.1 e).2
    obtain ⟨n,hn⟩:∃ n,n=(digs y.v).length:=⟨_,rfl⟩
    have hn2:2≤n:=by omega
    have hlast:=digs_last h0
    rw[← hn] at hlast
    have htd:=dg_digs y.v (n-1)
    obtain ⟨z1,z2,z3⟩:=lz_shift (Nat.pos_of_ne_zero hlast) htd
    obtain ⟨w1,w2⟩:=shifted_div hn.symm (by omega) z1
    have hle:y.v≤x.v:=Nat.le_of_not_lt h1
    have hmono:=digs_mono hle
    generalize hs:lz ((digs y.v).getD (n-1) 0)=s at *
    have hsub:(sfS (digs x.v) s (digs x.v).length).length=(digs x.v).length+1:=sfS_length _ _ _
    have hsvb:(sfS (digs y.v) s (digs y.v).length).length=(digs y.v).length+1:=sfS_length _ _ _
    have hsu:val (sfS (digs x.v) s (digs x.v).length)=2^s*x.v:=by rw[sf_val,val_digs]
    have hsv:val (sfS (digs y.v) s (digs y.v).length)=2^s*y.v:=by rw[sf_val,val_digs]
    have hdu:Dg (sfS (digs x.v) s (digs x.v).length):=sfS_dg (dg_digs _) z1 _ (Nat.le_refl _)
    have hdv:Dg (sfS (digs y.v) s (digs y.v).length):=sfS_dg (dg_digs _) z1 _ (Nat.le_refl _)
    have htop:(sfS (digs x.v) s (digs x.v).length).getD (digs x.v).length 0<2^s:=sfS_top (dg_digs _) _ (Nat.le_refl _)
    have hpow:2^s≤2^31:=Nat.pow_le_pow_right (by omega) (by omega)
    obtain ⟨mm,hmm⟩:∃ mm,(digs x.v).length+1=mm+n:=⟨(digs x.v).length+1-n,by omega⟩
    have hW:NOk ⟨false,.no,digs (2^s*y.v)⟩:=⟨dg_digs _,by simp only[w1];omega,by simp⟩
    have e5:AP cfg 124 [(NV.mk false .no (sfS (digs y.v) s (digs y.v).length)).av]=some (NV.av ⟨false,.no,digs (2^s*y.v)⟩):=by
     rw[P124 _ (by simp only[hsvb];omega),tr_eq hdv,hsv]
    have hp:=pcall_at (cp:=AP cfg) (g:=124) (m:=[oc (sfS (digs x.v) s (digs x.v).length),oc (sfS (digs y.v) s (digs y.v).length)]) (nm:=1) (ds:=sfS (digs y.v) s (digs y.v).length) rfl
    have hI:=kinv_start (v:=digs (2^s*y.v)) (n:=n) (m:=mm) hdu (by omega) (top_lt hdu w1 (by omega) (by
     rw[show mm+n-1=(digs x.v).length by omega]
     exact Nat.lt_of_lt_of_le htop (Nat.le_trans hpow w2)))
    obtain ⟨u',q',i1,i2⟩:=W125_14 ⟨false,.no,digs (2^s*y.v)⟩ _ (K125_14 (finK cfg.P f125.results.toList)) (.int .u64 s) (mm+n) n mm w1 hn2 (dg_digs _) rfl (by omega) w2 mm _ _ (Nat.le_refl _) hI
    obtain ⟨k1,k2⟩:=KInv.done (a:=digs x.v) (b:=digs y.v) z1 (by omega) (by rw[hsu,val_digs]) (by rw[val_digs,val_digs]) i1
    rw[val_digs,val_digs] at k1 k2
    have hlq:=i1.lq
    have hlu:=i1.lu
    have i3:=W125_51 u' q' (K125_51 (finK cfg.P f125.results.toList)) (.arr 2 0 mm none) s (mm+n) n i1.du hlu (by omega) (by omega) z1 n 0 (by omega)
    have p1:=pcall_at (cp:=AP cfg) (g:=124) (m:=M3 u' q'++[oc (unS u' s n)]) (nm:=2) (ds:=q') rfl
    have p2:=pcall_at (cp:=AP cfg) (g:=124) (m:=(M3 u' q'++[oc (unS u' s n)]).set 2 none) (nm:=3) (ds:=unS u' s n) rfl
    rw[hlq] at p1
    rw[unS_length] at p2
    have f1:=V124 (x:=⟨false,.no,q'⟩) ⟨i1.dq,by simp only[hlq];omega,by simp⟩
    have f2:=V124 (x:=⟨false,.no,unS u' s n⟩) ⟨unS_dg i1.du z1 n,by simp only[unS_length];omega,by simp⟩
    rw[NV.v,← tr_eq i1.dq,k1] at f1
    rw[NV.v,← tr_eq (unS_dg i1.du z1 n),k2] at f2
    refine AP_ofz _ _ (fz_tup3 (fza_nv (divQ x y)) (fza_nv (divR x y)) (fza_int _ _)) rfl (m:=[oc u',none,none,none]) ?_ |>.trans (by rw[divQ_fr,divR_fr])
    rw[T125,pcall1 (fz_nv x),e1,Option.map_some,oBs,pcall1 (fz_nv y),e2,Option.map_some,oBs,len_nv,oBs,n_eql0,oBs,ifA_dec,if_neg hn0,
     pcall2 fX fY,e3,Option.map_some,oBs,binA_lss,oBs,ifA_dec,if_neg hc,oBs,n_eql1,oBs,ifA_dec,if_neg hn1,
     oBs,i_sub1 (by simp only[];omega) (by simp only[];omega),oBs,index_nv (by simp only[];omega),oBs,load_v,oBs]
    simp only[show (digs y.v).getD ((digs y.v).length-1) 0=(digs y.v).getD (n-1) 0 by rw[hn]]
    rw[pcall1 (a:=dg ((digs y.v).getD (n-1) 0)) (a':=dg ((digs y.v).getD (n-1) 0)) (fz_int _ _),V137 (Nat.pos_of_ne_zero hlast) htd,Option.map_some,oBs,hs,c_up (by omega),oBs,V138 [] hX z1,oBs,V138 _ hY z1,oBs]
    simp only[List.nil_append,List.length_nil,List.length_cons,List.cons_append]
    rw[hsvb] at hp
    rw[hp,e5,Option.map_some,oBs,len_nv,oBs,len_arr,oBs]
    simp only[w1,hmm]
    rw[i_sub (by omega) (by omega),oBs,Nat.add_sub_cancel,make_oc (by omega) (by omega),oBs,oBs,i_sub (by omega) (by omega),oBs,Nat.add_sub_cancel,i_sub1z (by omega),oBs]
    refine Eq.trans ?_ (i2.trans ?_)
    ·rfl
    rw[K125_14_x1,make_oc (by omega) (by omega),oBs]
    refine Eq.trans ?_ (i3.trans ?_)
    ·rfl
    rw[K125_51_x9,p1,f1,Option.map_some,oBs,p2,f2,Option.map_some,oBs]
    unfold divQ divR
    rw[if_neg h1,if_neg h1,if_neg h2]
    rfl
end Go.Ab
set_option linter.unusedVariables false
set_option linter.unusedSimpArgs false
namespace Go.Ab
open Go.Proofs.Try
def gcdV (x y:NV):NV:=⟨if Nat.gcd x.v y.v=0 then x.z else false,ownD (Nat.gcd x.v y.v),digs (Nat.gcd x.v y.v)⟩
theorem W96 (K:KT) (m:Mem):∀ (n:Nat) (a b:NV),NOk a→NOk b→a.ds=digs a.v→b.ds=digs b.v→b.v=n→a.fr=a→b.fr=b →
  ∃ c:NV,NOk c∧c.ds=digs (Nat.gcd a.v b.v)∧c.fr=c∧(b.v=0→c.z=a.z)∧L96_2 a.av b.av m K=K (.exit 0) (O96_2 c.av m):=by
 intro n
 induction n using Nat.strongRecOn with
 | ind n ih=>
  intro a b ha hb ca cb hn fa fb
  have fza:=fz_nv a
  have fzb:=fz_nv b
  rw[fa] at fza
  rw[fb] at fzb
  rw[L96_2_eq,len_nv,oBs,n_gtr0,oBs,ifA_dec]
  by_cases h:b.v=0
  ·have hl:¬ b.ds.length>0:=by rw[cb,h,digs_zero];simp
   rw[if_neg hl]
   exact ⟨a,ha,by rw[h,Nat.gcd_zero_right];exact ca,fa,fun _=>rfl,rfl⟩
  ·have hl:b.ds.length>0:=by
    rw[cb]
    have:(digs b.v).length≠0:=fun e=>h (digs_len0.1 e)
    omega
   rw[if_pos hl,pcall2 fza fzb,V125 ha hb,divV,if_neg h]
   simp only[Option.map_some,oBs]
   have hlt:a.v%b.v<b.v:=Nat.mod_lt _ (Nat.pos_of_ne_zero h)
   obtain ⟨c,c1,c2,c3,c4,c5⟩:=ih (a.v%b.v) (by omega) b (divR a b) hb (divR_ok ha) cb (by rw[divR_ds,divR_v]) (divR_v a b) fb (divR_fr a b)
   rw[divR_v] at c2
   refine ⟨c,c1,?_,c3,fun e=>absurd e h,c5⟩
   rw[c2,Nat.gcd_comm b.v,← Nat.gcd_rec,Nat.gcd_comm]
theorem V96 {x y:NV} (hx:NOk x) (hy:NOk y):AP cfg 96 [x.av,y.av]=some (gcdV x y).av:=by
 have lx:=hx.v_len'
 have ly:=hy.v_len'
 have hX:NOk ⟨x.z,.no,digs x.v⟩:=⟨dg_digs _,lx,hx.z_v⟩
 have hY:NOk ⟨y.z,.no,digs y.v⟩:=⟨dg_digs _,ly,hy.z_v⟩
 have e1:=V124 hx.fr
 have e2:=V124 hy.fr
 rw[show x.fr.v=x.v from rfl,show x.fr.z=x.z from rfl] at e1
 rw[show y.fr.v=y.v from rfl,show y.fr.z=y.z from rfl] at e2
 have vX:(NV.mk x.z .no (digs x.v)).v=x.v:=val_digs _
 have vY:(NV.mk y.z .no (digs y.v)).v=y.v:=val_digs _
 obtain ⟨⟨cz,co,cd⟩,c1,c2,c3,c4,c5⟩:=W96 (K96_2 (finK cfg.P f96.results.toList)) [] _ _ _ hX hY (by rw[vX]) (by rw[vY]) rfl rfl rfl
 rw[vX,vY] at c2
 rw[vY] at c4
 simp only at c2 c4
 subst c2
 have hz:cz=if Nat.gcd x.v y.v=0 then x.z else false:=by
  split
  ·rename_i h
   exact c4 (Nat.eq_zero_of_gcd_eq_zero_right h)
  ·rename_i h
   have h5:=c1.nil
   simp only at h5
   cases cz with
   | false=>rfl
   | true=>exact absurd (val_pos_digs.1 (h5 rfl)) h
 refine AP_of (v:=(NV.mk cz (ownD (Nat.gcd x.v y.v)) (digs (Nat.gcd x.v y.v))).av) (m:=[]) ?_ (by rw[fz_nv];simp only[NV.fr,ownD_fr];rw[gcdV,← hz]) (by simp[gcdV,NV.av,noV])
 rw[T96,pcall1 (fz_nv x),e1,Option.map_some,oBs,pcall1 (fz_nv y),e2,Option.map_some,oBs]
 refine c5.trans ?_
 rw[K96_2_x0,pcall1 (fz_nv _),c3,V123 c1]
 rfl
theorem digs_gcd_len {a b:Nat} (h:(digs a).length<2^40) (h':(digs b).length<2^40):(digs (Nat.gcd a b)).length<2^40:=by
 by_cases ha:a=0
 ·rw[ha,Nat.gcd_zero_left];exact h'
 ·exact Nat.lt_of_le_of_lt (digs_mono (Nat.gcd_le_left _ (Nat.pos_of_ne_zero ha))) h
theorem gcdV_ok {x y:NV} (hx:NOk x) (hy:NOk y):NOk (gcdV x y):=by
 refine ⟨dg_digs _,digs_gcd_len hx.v_len' hy.v_len',?_⟩
 unfold gcdV
 simp only
 split
 ·rename_i h;intro _;rw[h];exact digs_zero
 ·intro h;cases h
theorem gcdV_v (x y:NV):(gcdV x y).v=Nat.gcd x.v y.v:=val_digs _
theorem gcdV_fr (x y:NV):(gcdV x y).fr=gcdV x y:=by unfold gcdV NV.fr;simp only[ownD_fr]
end Go.Ab
set_option linter.unusedVariables false
namespace Go.Ab
open Go.Proofs.Try
theorem T70 (a0:AV) (m:Mem):AC cfg 70 [a0] m =
 (convA .u32 a0).bind fun v1=>
 (binA .other .shr a0 (.int .u64 32)).bind fun v2=>
 (convA .u32 v2).bind fun v3=>
 (buildSliceA none [v1,v3]).bind fun v4=>
 (pcall (AP cfg) none m 103 [v4]).bind fun r5=>
 some (r5.1,r5.2):=
(AC_eq cfg 70 [a0] m (fn:=f70) (c:=bodyOf f70) at70 rfl).trans (by kernel_rfl)
def O72_4 (x5:AV) (m:Mem):St:=⟨[.any,.any,.any,.any,.any,x5,.any,.any,.any,.any,.any,.any,.any,.any,.any,.any,.any,.any,.any,.any,.any,.any,.any,.any,.any,.any,.any,.any,.any,.any,.any,.any,.any,.any,.any,.any,.any,.any,.any,.any,.any,.any,.any,.any,.any,.any,.any,.any,.any,.any,.any,.any,.any,.any,.any,.any,.any,.any,.any,.any,.any,.any,.any,.any,.any,.any,.any,.any,.any,.any,.any,.any,.any],m⟩
noncomputable def L72_4 (x0 x1 x5 x6:AV) (m:Mem) (K:KT):OM:=loopW (execW cfg 72 (AP cfg) (AC cfg) (c1 (c1 (c2 (c1 (c2 (c2 (c2 (bodyOf f72))))))))) (cfg.mask 72 (some 4)) ⟨[x0,x1,.any,.any,.any,x5,x6,.any,.any,.any,.any,.any,.any,.any,.any,.any,.any,.any,.any,.any,.any,.any,.any,.any,.any,.any,.any,.any,.any,.any,.any,.any,.any,.any,.any,.any,.any,.any,.any,.any,.any,.any,.any,.any,.any,.any,.any,.any,.any,.any,.any,.any,.any,.any,.any,.any,.any,.any,.any,.any,.any,.any,.any,.any,.any,.any,.any,.any,.any,.any,.any,.any,.any],m⟩ K
def O72_8 (x0 x1 x5 x6 x7:AV) (m:Mem):St:=⟨[x0,x1,.any,.any,.any,x5,x6,x7,.any,.any,.any,.any,.any,.any,.any,.any,.any,.any,.any,.any,.any,.any,.any,.any,.any,.any,.any,.any,.any,.any,.any,.any,.any,.any,.any,.any,.any,.any,.any,.any,.any,.any,.any,.any,.any,.any,.any,.any,.any,.any,.any,.any,.any,.any,.any,.any,.any,.any,.any,.any,.any,.any,.any,.any,.any,.any,.any,.any,.any,.any,.any,.any,.any],m⟩
noncomputable def L72_8 (x0 x1 x5 x6 x7 x8:AV) (m:Mem) (K:KT):OM:=loopW (execW cfg 72 (AP cfg) (AC cfg) (c1 (c1 (c2 (c1 (c2 (c1 (c1 (c2 (c1 (c1 (c2 (c1 (c2 (c2 (c2 (bodyOf f72))))))))))))))))) (cfg.mask 72 (some 8)) ⟨[x0,x1,.any,.any,.any,x5,x6,x7,x8,.any,.any,.any,.any,.any,.any,.any,.any,.any,.any,.any,.any,.any,.any,.any,.any,.any,.any,.any,.any,.any,.any,.any,.any,.any,.any,.any,.any,.any,.any,.any,.any,.any,.any,.any,.any,.any,.any,.any,.any,.any,.any,.any,.any,.any,.any,.any,.any,.any,.any,.any,.any,.any,.any,.any,.any,.any,.any,.any,.any,.any,.any,.any,.any],m⟩ K
noncomputable abbrev K72_4_0 (K:KT):KT:=seqK (fun st=>execW cfg 72 (AP cfg) (AC cfg) (c2 (c2 (c2 (c2 (bodyOf f72))))) st K) K
noncomputable abbrev K72_4_1 (K:KT):KT:=blockK 0 (K72_4_0 K)
noncomputable abbrev K72_4 (K:KT):KT:=(K72_4_1 K)
noncomputable abbrev K72_8_0 (K:KT):KT:=seqK (fun st=>execW cfg 72 (AP cfg) (AC cfg) (c2 (c2 (c1 (c1 (c2 (c1 (c2 (c2 (c2 (bodyOf f72)))))))))) st (roundG (fun st=>loopW (execW cfg 72 (AP cfg) (AC cfg) (c1 (c1 (c2 (c1 (c2 (c2 (c2 (bodyOf f72))))))))) (cfg.mask 72 (some 4)) st K) (cfg.mask 72 (some 4)) K)) (roundG (fun st=>loopW (execW cfg 72 (AP cfg) (AC cfg) (c1 (c1 (c2 (c1 (c2 (c2 (c2 (bodyOf f72))))))))) (cfg.mask 72 (some 4)) st K) (cfg.mask 72 (some 4)) K)
noncomputable abbrev K72_8_1 (K:KT):KT:=blockK 1 (K72_8_0 K)
noncomputable abbrev K72_8_2 (K:KT):KT:=seqK (fun st=>execW cfg 72 (AP cfg) (AC cfg) (c2 (c2 (c1 (c1 (c2 (c1 (c1 (c2 (c1 (c2 (c2 (c2 (bodyOf f72))))))))))))) st (K72_8_1 K)) (K72_8_1 K)
noncomputable abbrev K72_8_3 (K:KT):KT:=blockK 2 (K72_8_2 K)
noncomputable abbrev K72_8 (K:KT):KT:=(K72_8_3 K)
theorem T72 (a0 a1:AV) (m:Mem):AC cfg 72 [a0,a1] m =
 (pcall (AP cfg) none m 103 [a0]).bind fun r1=>
 (pcall (AP cfg) none r1.2 103 [a1]).bind fun r2=>
 (lenA false r1.1).bind fun v3=>
 (lenA false r2.1).bind fun v4=>
 (binA .other .add v3 v4).bind fun v5=>
 (makeA none 116 none (.int .u32 0) 4 r2.2 v5 v5).bind fun r6=>
 L72_4 r1.1 r2.1 r6.1 (.int .i64 0) r6.2 (K72_4 (finK cfg.P f72.results.toList)):=
(AC_eq cfg 72 [a0,a1] m (fn:=f72) (c:=bodyOf f72) at72 rfl).trans (by kernel_rfl)
theorem L72_4_eq (x0 x1 x5 x6:AV) (m:Mem) (K:KT):L72_4 x0 x1 x5 x6 m K =
 (lenA false x0).bind fun v1=>
 (binA .other .lss x6 v1).bind fun v2=>
 ifA v2 (
 L72_8 x0 x1 x5 x6 (.int .u64 0) (.int .i64 0) m (K72_8 K)) (
 K (.exit 0) (O72_4 x5 m)):=
(loopW_eq (execW_lin _) _ _ _).trans (by kernel_rfl)
theorem L72_8_eq (x0 x1 x5 x6 x7 x8:AV) (m:Mem) (K:KT):L72_8 x0 x1 x5 x6 x7 x8 m K =
 (lenA false x1).bind fun v1=>
 (binA .other .lss x8 v1).bind fun v2=>
 ifA v2 (
 (indexAddrA none x0 x6).bind fun v3=>
 (loadA none m v3).bind fun v4=>
 (convA .u64 v4).bind fun v5=>
 (indexAddrA none x1 x8).bind fun v6=>
 (loadA none m v6).bind fun v7=>
 (convA .u64 v7).bind fun v8=>
 (binA .other .mul v5 v8).bind fun v9=>
 (binA .other .add x6 x8).bind fun v10=>
 (indexAddrA none x5 v10).bind fun v11=>
 (loadA none m v11).bind fun v12=>
 (convA .u64 v12).bind fun v13=>
 (binA .other .add v9 v13).bind fun v14=>
 (binA .other .add v14 x7).bind fun v15=>
 (binA .other .add x6 x8).bind fun v16=>
 (binA .other .rem v15 (.int .u64 4294967296)).bind fun v17=>
 (convA .u32 v17).bind fun v18=>
 (indexAddrA none x5 v16).bind fun v19=>
 (storeA none m v19 v18).bind fun m20=>
 (binA .other .quo v15 (.int .u64 4294967296)).bind fun v21=>
 (binA .other .add x8 (.int .i64 1)).bind fun v22=>
 L72_8 x0 x1 x5 x6 v21 v22 m20 K) (
 K (.exit 2) (O72_8 x0 x1 x5 x6 x7 m)):=
(loopW_eq (execW_lin _) _ _ _).trans (by kernel_rfl)
theorem K72_4_x0 (x5:AV) (m:Mem):K72_4 (finK cfg.P f72.results.toList) (.exit 0) (O72_4 x5 m) =
 (pcall (AP cfg) none m 103 [x5]).bind fun r1=>
 some (r1.1,r1.2):=by kernel_rfl
theorem K72_8_x2 (x0 x1 x5 x6 x7:AV) (m:Mem) (K:KT):K72_8 K (.exit 2) (O72_8 x0 x1 x5 x6 x7 m) =
 (lenA false x1).bind fun v1=>
 (binA .other .add x6 v1).bind fun v2=>
 (convA .u32 x7).bind fun v3=>
 (indexAddrA none x5 v2).bind fun v4=>
 (storeA none m v4 v3).bind fun m5=>
 (binA .other .add x6 (.int .i64 1)).bind fun v6=>
 L72_4 x0 x1 x5 v6 m5 K:=by kernel_rfl
theorem T97 (a0:AV) (m:Mem):AC cfg 97 [a0] m =
 (lenA false a0).bind fun v1=>
 (binA .other .eql v1 (.int .i64 0)).bind fun v2=>
 ifA v2 (
 some ((.bool true),m)) (
 (lenA false a0).bind fun v3=>
 (binA .other .sub v3 (.int .i64 1)).bind fun v4=>
 (indexAddrA none a0 v4).bind fun v5=>
 (loadA none m v5).bind fun v6=>
 (binA .other .neq v6 (.int .u32 0)).bind fun v7=>
 some (v7,m)):=
(AC_eq cfg 97 [a0] m (fn:=f97) (c:=bodyOf f97) at97 rfl).trans (by kernel_rfl)
def O98_7 (m:Mem):St:=⟨[.any,.any,.any,.any,.any,.any,.any,.any,.any,.any,.any,.any,.any,.any,.any,.any,.any,.any,.any,.any,.any,.any,.any,.any,.any,.any,.any,.any,.any,.any,.any,.any,.any,.any,.any,.any,.any,.any,.any,.any,.any,.any,.any,.any,.any],m⟩
def R98_7 (x4:AV) (m:Mem):St:=⟨[.any,.any,.any,.any,x4,.any,.any,.any,.any,.any,.any,.any,.any,.any,.any,.any,.any,.any,.any,.any,.any,.any,.any,.any,.any,.any,.any,.any,.any,.any,.any,.any,.any,.any,.any,.any,.any,.any,.any,.any,.any,.any,.any,.any,.any],m⟩
noncomputable def L98_7 (x0 x1 x5:AV) (m:Mem) (K:KT):OM:=loopW (execW cfg 98 (AP cfg) (AC cfg) (c1 (c1 (c2 (c1 (c2 (c2 (c2 (bodyOf f98))))))))) (cfg.mask 98 (some 7)) ⟨[x0,x1,.any,.any,.any,x5,.any,.any,.any,.any,.any,.any,.any,.any,.any,.any,.any,.any,.any,.any,.any,.any,.any,.any,.any,.any,.any,.any,.any,.any,.any,.any,.any,.any,.any,.any,.any,.any,.any,.any,.any,.any,.any,.any,.any],m⟩ K
noncomputable abbrev K98_7_0 (K:KT):KT:=seqK (fun st=>execW cfg 98 (AP cfg) (AC cfg) (c2 (c2 (c2 (c2 (bodyOf f98))))) st K) K
noncomputable abbrev K98_7_1 (K:KT):KT:=blockK 0 (K98_7_0 K)
noncomputable abbrev K98_7 (K:KT):KT:=(K98_7_1 K)
theorem T98 (a0 a1:AV) (m:Mem):AC cfg 98 [a0,a1] m =
 (pcall (AP cfg) none m 103 [a0]).bind fun r1=>
 (pcall (AP cfg) none r1.2 103 [a1]).bind fun r2=>
 (lenA false r1.1).bind fun v3=>
 (lenA false r2.1).bind fun v4=>
 (binA .other .neq v3 v4).bind fun v5=>
 ifA v5 (
 (lenA false r1.1).bind fun v6=>
 (lenA false r2.1).bind fun v7=>
 (binA .other .lss v6 v7).bind fun v8=>
 ifA v8 (
 some ((.int .i64 (-1)),r2.2)) (
 some ((.int .i64 1),r2.2))) (
 (lenA false r1.1).bind fun v9=>
 (binA .other .sub v9 (.int .i64 1)).bind fun v10=>
 L98_7 r1.1 r2.1 v10 r2.2 (K98_7 (finK cfg.P f98.results.toList))):=
(AC_eq cfg 98 [a0,a1] m (fn:=f98) (c:=bodyOf f98) at98 rfl).trans (by kernel_rfl)
theorem L98_7_eq (x0 x1 x5:AV) (m:Mem) (K:KT):L98_7 x0 x1 x5 m K =
 (binA .other .geq x5 (.int .i64 0)).bind fun v1=>
 ifA v1 (
 (indexAddrA none x0 x5).bind fun v2=>
 (loadA none m v2).bind fun v3=>
 (indexAddrA none x1 x5).bind fun v4=>
 (loadA none m v4).bind fun v5=>
 (binA .other .neq v3 v5).bind fun v6=>
 ifA v6 (
 (indexAddrA none x0 x5).bind fun v7=>
 (loadA none m v7).bind fun v8=>
 (indexAddrA none x1 x5).bind fun v9=>
 (loadA none m v9).bind fun v10=>
 (binA .other .lss v8 v10).bind fun v11=>
 ifA v11 (
 K .ret (R98_7 (.int .i64 (-1)) m)) (
 K .ret (R98_7 (.int .i64 1) m))) (
 (binA .other .sub x5 (.int .i64 1)).bind fun v12=>
 L98_7 x0 x1 v12 m K)) (
 K (.exit 0) (O98_7 m)):=
(loopW_eq (execW_lin _) _ _ _).trans (by kernel_rfl)
theorem K98_7_x0 (m:Mem):K98_7 (finK cfg.P f98.results.toList) (.exit 0) (O98_7  m) =
 some ((.int .i64 0),m):=by kernel_rfl
theorem K98_7_ret (x4:AV) (m:Mem):K98_7 (finK cfg.P f98.results.toList) .ret (R98_7 x4 m) =
 some (x4,m):=by kernel_rfl
def O99_5 (x5:AV) (m:Mem):St:=⟨[.any,.any,.any,.any,.any,x5,.any,.any,.any,.any,.any,.any,.any,.any,.any,.any,.any,.any,.any,.any,.any,.any,.any,.any,.any,.any,.any,.any,.any,.any,.any,.any,.any,.any,.any,.any,.any,.any,.any,.any,.any,.any,.any,.any,.any,.any,.any,.any,.any,.any,.any,.any,.any,.any,.any,.any,.any,.any,.any,.any,.any,.any,.any,.any,.any,.any,.any,.any,.any,.any,.any,.any,.any,.any,.any,.any,.any,.any,.any,.any,.any,.any,.any,.any],m⟩
noncomputable def L99_5 (x5 x7:AV) (m:Mem) (K:KT):OM:=loopW (execW cfg 99 (AP cfg) (AC cfg) (c1 (c1 (c1 (c1 (c2 (c1 (c2 (c2 (c2 (c2 (bodyOf f99)))))))))))) (cfg.mask 99 (some 5)) ⟨[.any,.any,.any,.any,.any,x5,.any,x7,.any,.any,.any,.any,.any,.any,.any,.any,.any,.any,.any,.any,.any,.any,.any,.any,.any,.any,.any,.any,.any,.any,.any,.any,.any,.any,.any,.any,.any,.any,.any,.any,.any,.any,.any,.any,.any,.any,.any,.any,.any,.any,.any,.any,.any,.any,.any,.any,.any,.any,.any,.any,.any,.any,.any,.any,.any,.any,.any,.any,.any,.any,.any,.any,.any,.any,.any,.any,.any,.any,.any,.any,.any,.any,.any,.any],m⟩ K
def O99_13 (x0 x1 x9:AV) (m:Mem):St:=⟨[x0,x1,.any,.any,.any,.any,.any,.any,.any,x9,.any,.any,.any,.any,.any,.any,.any,.any,.any,.any,.any,.any,.any,.any,.any,.any,.any,.any,.any,.any,.any,.any,.any,.any,.any,.any,.any,.any,.any,.any,.any,.any,.any,.any,.any,.any,.any,.any,.any,.any,.any,.any,.any,.any,.any,.any,.any,.any,.any,.any,.any,.any,.any,.any,.any,.any,.any,.any,.any,.any,.any,.any,.any,.any,.any,.any,.any,.any,.any,.any,.any,.any,.any,.any],m⟩
noncomputable def L99_13 (x0 x1 x9:AV) (m:Mem) (K:KT):OM:=loopW (execW cfg 99 (AP cfg) (AC cfg) (c1 (c1 (c1 (c2 (c2 (c2 (c2 (c2 (c2 (c2 (c2 (bodyOf f99))))))))))))) (cfg.mask 99 (some 13)) ⟨[x0,x1,.any,.any,.any,.any,.any,.any,.any,x9,.any,.any,.any,.any,.any,.any,.any,.any,.any,.any,.any,.any,.any,.any,.any,.any,.any,.any,.any,.any,.any,.any,.any,.any,.any,.any,.any,.any,.any,.any,.any,.any,.any,.any,.any,.any,.any,.any,.any,.any,.any,.any,.any,.any,.any,.any,.any,.any,.any,.any,.any,.any,.any,.any,.any,.any,.any,.any,.any,.any,.any,.any,.any,.any,.any,.any,.any,.any,.any,.any,.any,.any,.any,.any],m⟩ K
def O99_15 (x0 x9:AV) (m:Mem):St:=⟨[x0,.any,.any,.any,.any,.any,.any,.any,.any,x9,.any,.any,.any,.any,.any,.any,.any,.any,.any,.any,.any,.any,.any,.any,.any,.any,.any,.any,.any,.any,.any,.any,.any,.any,.any,.any,.any,.any,.any,.any,.any,.any,.any,.any,.any,.any,.any,.any,.any,.any,.any,.any,.any,.any,.any,.any,.any,.any,.any,.any,.any,.any,.any,.any,.any,.any,.any,.any,.any,.any,.any,.any,.any,.any,.any,.any,.any,.any,.any,.any,.any,.any,.any,.any],m⟩
noncomputable def L99_15 (x0 x1 x9:AV) (m:Mem) (K:KT):OM:=loopW (execW cfg 99 (AP cfg) (AC cfg) (c1 (c1 (c1 (c2 (c2 (c2 (c2 (c2 (c2 (c2 (c2 (c2 (bodyOf f99)))))))))))))) (cfg.mask 99 (some 15)) ⟨[x0,x1,.any,.any,.any,.any,.any,.any,.any,x9,.any,.any,.any,.any,.any,.any,.any,.any,.any,.any,.any,.any,.any,.any,.any,.any,.any,.any,.any,.any,.any,.any,.any,.any,.any,.any,.any,.any,.any,.any,.any,.any,.any,.any,.any,.any,.any,.any,.any,.any,.any,.any,.any,.any,.any,.any,.any,.any,.any,.any,.any,.any,.any,.any,.any,.any,.any,.any,.any,.any,.any,.any,.any,.any,.any,.any,.any,.any,.any,.any,.any,.any,.any,.any],m⟩ K
def O99_16 (x0 x1 x9:AV) (m:Mem):St:=⟨[x0,x1,.any,.any,.any,.any,.any,.any,.any,x9,.any,.any,.any,.any,.any,.any,.any,.any,.any,.any,.any,.any,.any,.any,.any,.any,.any,.any,.any,.any,.any,.any,.any,.any,.any,.any,.any,.any,.any,.any,.any,.any,.any,.any,.any,.any,.any,.any,.any,.any,.any,.any,.any,.any,.any,.any,.any,.any,.any,.any,.any,.any,.any,.any,.any,.any,.any,.any,.any,.any,.any,.any,.any,.any,.any,.any,.any,.any,.any,.any,.any,.any,.any,.any],m⟩
noncomputable def L99_16 (x0 x1 x9:AV) (m:Mem) (K:KT):OM:=loopW (execW cfg 99 (AP cfg) (AC cfg) (c1 (c1 (c1 (c1 (c2 (c1 (c1 (c1 (c2 (c2 (c2 (c2 (c2 (c2 (c2 (c2 (c2 (bodyOf f99))))))))))))))))))) (cfg.mask 99 (some 16)) ⟨[x0,x1,.any,.any,.any,.any,.any,.any,.any,x9,.any,.any,.any,.any,.any,.any,.any,.any,.any,.any,.any,.any,.any,.any,.any,.any,.any,.any,.any,.any,.any,.any,.any,.any,.any,.any,.any,.any,.any,.any,.any,.any,.any,.any,.any,.any,.any,.any,.any,.any,.any,.any,.any,.any,.any,.any,.any,.any,.any,.any,.any,.any,.any,.any,.any,.any,.any,.any,.any,.any,.any,.any,.any,.any,.any,.any,.any,.any,.any,.any,.any,.any,.any,.any],m⟩ K
def O99_18 (x0 x1 x9:AV) (m:Mem):St:=⟨[x0,x1,.any,.any,.any,.any,.any,.any,.any,x9,.any,.any,.any,.any,.any,.any,.any,.any,.any,.any,.any,.any,.any,.any,.any,.any,.any,.any,.any,.any,.any,.any,.any,.any,.any,.any,.any,.any,.any,.any,.any,.any,.any,.any,.any,.any,.any,.any,.any,.any,.any,.any,.any,.any,.any,.any,.any,.any,.any,.any,.any,.any,.any,.any,.any,.any,.any,.any,.any,.any,.any,.any,.any,.any,.any,.any,.any,.any,.any,.any,.any,.any,.any,.any],m⟩
noncomputable def L99_18 (x0 x1 x9:AV) (m:Mem) (K:KT):OM:=loopW (execW cfg 99 (AP cfg) (AC cfg) (c1 (c1 (c1 (c2 (c1 (c2 (c1 (c1 (c1 (c2 (c2 (c2 (c2 (c2 (c2 (c2 (c2 (c2 (bodyOf f99)))))))))))))))))))) (cfg.mask 99 (some 18)) ⟨[x0,x1,.any,.any,.any,.any,.any,.any,.any,x9,.any,.any,.any,.any,.any,.any,.any,.any,.any,.any,.any,.any,.any,.any,.any,.any,.any,.any,.any,.any,.any,.any,.any,.any,.any,.any,.any,.any,.any,.any,.any,.any,.any,.any,.any,.any,.any,.any,.any,.any,.any,.any,.any,.any,.any,.any,.any,.any,.any,.any,.any,.any,.any,.any,.any,.any,.any,.any,.any,.any,.any,.any,.any,.any,.any,.any,.any,.any,.any,.any,.any,.any,.any,.any],m⟩ K
noncomputable abbrev K99_5_0 (K:KT):KT:=seqK (fun st=>execW cfg 99 (AP cfg) (AC cfg) (c2 (c2 (c2 (c2 (c2 (bodyOf f99)))))) st K) K
noncomputable abbrev K99_5_1 (K:KT):KT:=seqK (fun st=>execW cfg 99 (AP cfg) (AC cfg) (c2 (c1 (c2 (c1 (c2 (c2 (c2 (c2 (bodyOf f99))))))))) st (K99_5_0 K)) (K99_5_0 K)
noncomputable abbrev K99_5_2 (K:KT):KT:=blockK 0 (K99_5_1 K)
noncomputable abbrev K99_5 (K:KT):KT:=(K99_5_2 K)
noncomputable abbrev K99_13_0 (K:KT):KT:=seqK (fun st=>execW cfg 99 (AP cfg) (AC cfg) (c2 (c2 (c2 (c2 (c2 (c2 (c2 (c2 (c2 (bodyOf f99)))))))))) st K) K
noncomputable abbrev K99_13_1 (K:KT):KT:=blockK 2 (K99_13_0 K)
noncomputable abbrev K99_13 (K:KT):KT:=(K99_13_1 K)
noncomputable abbrev K99_16_0 (K:KT):KT:=blockK 5 (roundG (fun st=>loopW (execW cfg 99 (AP cfg) (AC cfg) (c1 (c1 (c1 (c2 (c2 (c2 (c2 (c2 (c2 (c2 (c2 (c2 (bodyOf f99)))))))))))))) (cfg.mask 99 (some 15)) st K) (cfg.mask 99 (some 15)) K)
noncomputable abbrev K99_16_1 (K:KT):KT:=seqK (fun st=>execW cfg 99 (AP cfg) (AC cfg) (c2 (c1 (c2 (c1 (c1 (c1 (c2 (c2 (c2 (c2 (c2 (c2 (c2 (c2 (c2 (bodyOf f99)))))))))))))))) st (K99_16_0 K)) (K99_16_0 K)
noncomputable abbrev K99_16_2 (K:KT):KT:=blockK 6 (K99_16_1 K)
noncomputable abbrev K99_16 (K:KT):KT:=(K99_16_2 K)
noncomputable abbrev K99_15_0 (K:KT):KT:=seqK (fun st=>execW cfg 99 (AP cfg) (AC cfg) (c2 (c2 (c2 (c2 (c2 (c2 (c2 (c2 (c2 (c2 (bodyOf f99))))))))))) st K) K
noncomputable abbrev K99_15_1 (K:KT):KT:=blockK 4 (K99_15_0 K)
noncomputable abbrev K99_15 (K:KT):KT:=(K99_15_1 K)
noncomputable abbrev K99_18_0 (K:KT):KT:=blockK 5 (roundG (fun st=>loopW (execW cfg 99 (AP cfg) (AC cfg) (c1 (c1 (c1 (c2 (c2 (c2 (c2 (c2 (c2 (c2 (c2 (c2 (bodyOf f99)))))))))))))) (cfg.mask 99 (some 15)) st K) (cfg.mask 99 (some 15)) K)
noncomputable abbrev K99_18_1 (K:KT):KT:=seqK (fun st=>execW cfg 99 (AP cfg) (AC cfg) (c2 (c2 (c1 (c2 (c1 (c1 (c1 (c2 (c2 (c2 (c2 (c2 (c2 (c2 (c2 (c2 (bodyOf f99))))))))))))))))) st (K99_18_0 K)) (K99_18_0 K)
noncomputable abbrev K99_18_2 (K:KT):KT:=blockK 8 (K99_18_1 K)
noncomputable abbrev K99_18 (K:KT):KT:=(K99_18_2 K)
theorem T99 (a0 a1:AV) (m:Mem):AC cfg 99 [a0,a1] m =
 (pcall (AP cfg) none m 103 [a0]).bind fun r1=>
 (pcall (AP cfg) none r1.2 103 [a1]).bind fun r2=>
 (pcall (AP cfg) none r2.2 126 [r1.1]).bind fun r3=>
 (extractA r3.1 0).bind fun v4=>
 (extractA r3.1 1).bind fun v5=>
 (pcall (AP cfg) none r3.2 126 [r2.1]).bind fun r6=>
 (extractA r6.1 0).bind fun v7=>
 (extractA r6.1 1).bind fun v8=>
 ifA v5 (
 ifA v8 (
 L99_5 v4 v7 r6.2 (K99_5 (finK cfg.P f99.results.toList))) (
 (lenA false r1.1).bind fun v9=>
 (binA .other .eql v9 (.int .i64 0)).bind fun v10=>
 ifA v10 (
 some (r2.1,r6.2)) (
 (lenA false r2.1).bind fun v11=>
 (binA .other .eql v11 (.int .i64 0)).bind fun v12=>
 ifA v12 (
 some (r1.1,r6.2)) (
 (pcall (AP cfg) none r6.2 70 [(.int .u64 1)]).bind fun r13=>
 L99_13 r1.1 r2.1 r13.1 r13.2 (K99_13 (finK cfg.P f99.results.toList)))))) (
 (lenA false r1.1).bind fun v14=>
 (binA .other .eql v14 (.int .i64 0)).bind fun v15=>
 ifA v15 (
 some (r2.1,r6.2)) (
 (lenA false r2.1).bind fun v16=>
 (binA .other .eql v16 (.int .i64 0)).bind fun v17=>
 ifA v17 (
 some (r1.1,r6.2)) (
 (pcall (AP cfg) none r6.2 70 [(.int .u64 1)]).bind fun r18=>
 L99_13 r1.1 r2.1 r18.1 r18.2 (K99_13 (finK cfg.P f99.results.toList))))):=
(AC_eq cfg 99 [a0,a1] m (fn:=f99) (c:=bodyOf f99) at99 rfl).trans (by kernel_rfl)
theorem L99_5_eq (x5 x7:AV) (m:Mem) (K:KT):L99_5 x5 x7 m K =
 (binA .other .neq x7 (.int .u64 0)).bind fun v1=>
 ifA v1 (
 (binA .other .rem x5 x7).bind fun v2=>
 L99_5 x7 v2 m K) (
 K (.exit 0) (O99_5 x5 m)):=
(loopW_eq (execW_lin _) _ _ _).trans (by kernel_rfl)
theorem L99_13_eq (x0 x1 x9:AV) (m:Mem) (K:KT):L99_13 x0 x1 x9 m K =
 (pcall (AP cfg) none m 127 [x0]).bind fun r1=>
 ifA r1.1 (
 (pcall (AP cfg) none r1.2 127 [x1]).bind fun r2=>
 ifA r2.1 (
 (pcall (AP cfg) none r2.2 128 [x0]).bind fun r3=>
 (pcall (AP cfg) none r3.2 128 [x1]).bind fun r4=>
 (pcall (AP cfg) none r4.2 111 [x9,x9]).bind fun r5=>
 L99_13 r3.1 r4.1 r5.1 r5.2 K) (
 K (.exit 2) (O99_13 x0 x1 x9 r2.2))) (
 K (.exit 2) (O99_13 x0 x1 x9 r1.2)):=
(loopW_eq (execW_lin _) _ _ _).trans (by kernel_rfl)
theorem L99_15_eq (x0 x1 x9:AV) (m:Mem) (K:KT):L99_15 x0 x1 x9 m K =
 (lenA false x1).bind fun v1=>
 (binA .other .gtr v1 (.int .i64 0)).bind fun v2=>
 ifA v2 (
 L99_16 x0 x1 x9 m (K99_16 K)) (
 K (.exit 4) (O99_15 x0 x9 m)):=
(loopW_eq (execW_lin _) _ _ _).trans (by kernel_rfl)
theorem L99_16_eq (x0 x1 x9:AV) (m:Mem) (K:KT):L99_16 x0 x1 x9 m K =
 (pcall (AP cfg) none m 127 [x0]).bind fun r1=>
 ifA r1.1 (
 (pcall (AP cfg) none r1.2 128 [x0]).bind fun r2=>
 L99_16 r2.1 x1 x9 r2.2 K) (
 K (.exit 6) (O99_16 x0 x1 x9 r1.2)):=
(loopW_eq (execW_lin _) _ _ _).trans (by kernel_rfl)
theorem L99_18_eq (x0 x1 x9:AV) (m:Mem) (K:KT):L99_18 x0 x1 x9 m K =
 (pcall (AP cfg) none m 127 [x1]).bind fun r1=>
 ifA r1.1 (
 (pcall (AP cfg) none r1.2 128 [x1]).bind fun r2=>
 L99_18 x0 r2.1 x9 r2.2 K) (
 K (.exit 8) (O99_18 x0 x1 x9 r1.2)):=
(loopW_eq (execW_lin _) _ _ _).trans (by kernel_rfl)
theorem K99_5_x0 (x5:AV) (m:Mem):K99_5 (finK cfg.P f99.results.toList) (.exit 0) (O99_5 x5 m) =
 (pcall (AP cfg) none m 70 [x5]).bind fun r1=>
 some (r1.1,r1.2):=by kernel_rfl
theorem K99_13_x2 (x0 x1 x9:AV) (m:Mem):K99_13 (finK cfg.P f99.results.toList) (.exit 2) (O99_13 x0 x1 x9 m) =
 L99_15 x0 x1 x9 m (K99_15 (finK cfg.P f99.results.toList)):=by kernel_rfl
theorem K99_16_x6 (x0 x1 x9:AV) (m:Mem) (K:KT):K99_16 K (.exit 6) (O99_16 x0 x1 x9 m) =
 L99_18 x0 x1 x9 m (K99_18 K):=by kernel_rfl
theorem K99_15_x4 (x0 x9:AV) (m:Mem):K99_15 (finK cfg.P f99.results.toList) (.exit 4) (O99_15 x0 x9 m) =
 (pcall (AP cfg) none m 72 [x0,x9]).bind fun r1=>
 some (r1.1,r1.2):=by kernel_rfl
theorem K99_18_x8 (x0 x1 x9:AV) (m:Mem) (K:KT):K99_18 K (.exit 8) (O99_18 x0 x1 x9 m) =
 (pcall (AP cfg) none m 98 [x0,x1]).bind fun r1=>
 (binA .other .gtr r1.1 (.int .i64 0)).bind fun v2=>
 ifA v2 (
 (pcall (AP cfg) none r1.2 112 [x0,x1]).bind fun r3=>
 (extractA r3.1 0).bind fun v4=>
 (extractA r3.1 1).bind fun v5=>
 L99_15 x1 v4 x9 r3.2 K) (
 (pcall (AP cfg) none r1.2 112 [x1,x0]).bind fun r6=>
 (extractA r6.1 0).bind fun v7=>
 (extractA r6.1 1).bind fun v8=>
 L99_15 x0 v7 x9 r6.2 K):=by kernel_rfl
def O101_6 (x3:AV) (m:Mem):St:=⟨[.any,.any,.any,x3,.any,.any,.any,.any,.any,.any,.any,.any,.any,.any,.any,.any,.any,.any,.any,.any,.any,.any,.any,.any,.any,.any,.any],m⟩
noncomputable def L101_6 (x3 x4:AV) (m:Mem) (K:KT):OM:=loopW (execW cfg 101 (AP cfg) (AC cfg) (c1 (c1 (c2 (c1 (c2 (c2 (c2 (c2 (bodyOf f101)))))))))) (cfg.mask 101 (some 6)) ⟨[.any,.any,.any,x3,x4,.any,.any,.any,.any,.any,.any,.any,.any,.any,.any,.any,.any,.any,.any,.any,.any,.any,.any,.any,.any,.any,.any],m⟩ K
noncomputable abbrev K101_6_0 (K:KT):KT:=seqK (fun st=>execW cfg 101 (AP cfg) (AC cfg) (c2 (c2 (c2 (c2 (c2 (bodyOf f101)))))) st K) K
noncomputable abbrev K101_6_1 (K:KT):KT:=blockK 0 (K101_6_0 K)
noncomputable abbrev K101_6 (K:KT):KT:=(K101_6_1 K)
theorem T101 (a0:AV) (m:Mem):AC cfg 101 [a0] m =
 (pcall (AP cfg) none m 103 [a0]).bind fun r1=>
 (lenA false r1.1).bind fun v2=>
 (binA .other .eql v2 (.int .i64 0)).bind fun v3=>
 ifA v3 (
 some ((.int .i64 0),r1.2)) (
 (lenA false r1.1).bind fun v4=>
 (binA .other .sub v4 (.int .i64 1)).bind fun v5=>
 (binA .other .mul (.int .i64 32) v5).bind fun v6=>
 (lenA false r1.1).bind fun v7=>
 (binA .other .sub v7 (.int .i64 1)).bind fun v8=>
 (indexAddrA none r1.1 v8).bind fun v9=>
 (loadA none r1.2 v9).bind fun v10=>
 L101_6 v6 v10 r1.2 (K101_6 (finK cfg.P f101.results.toList))):=
(AC_eq cfg 101 [a0] m (fn:=f101) (c:=bodyOf f101) at101 rfl).trans (by kernel_rfl)
theorem L101_6_eq (x3 x4:AV) (m:Mem) (K:KT):L101_6 x3 x4 m K =
 (binA .other .gtr x4 (.int .u32 0)).bind fun v1=>
 ifA v1 (
 (binA .other .add x3 (.int .i64 1)).bind fun v2=>
 (binA .other .quo x4 (.int .u32 2)).bind fun v3=>
 L101_6 v2 v3 m K) (
 K (.exit 0) (O101_6 x3 m)):=
(loopW_eq (execW_lin _) _ _ _).trans (by kernel_rfl)
theorem K101_6_x0 (x3:AV) (m:Mem):K101_6 (finK cfg.P f101.results.toList) (.exit 0) (O101_6 x3 m) =
 some (x3,m):=by kernel_rfl
def O102_11 (x0 x9:AV) (m:Mem):St:=⟨[x0,.any,.any,.any,.any,.any,.any,.any,.any,x9,.any,.any,.any,.any,.any,.any,.any,.any,.any,.any,.any,.any,.any,.any,.any,.any,.any,.any,.any,.any,.any,.any,.any,.any,.any,.any,.any,.any,.any,.any,.any,.any,.any,.any,.any,.any,.any,.any,.any,.any,.any,.any,.any,.any,.any,.any,.any,.any,.any,.any,.any,.any,.any,.any,.any,.any,.any,.any,.any,.any,.any,.any,.any,.any,.any,.any,.any,.any,.any,.any,.any,.any,.any,.any,.any,.any,.any,.any,.any,.any,.any,.any,.any,.any,.any,.any,.any,.any],m⟩
noncomputable def L102_11 (x0 x1 x9 x10:AV) (m:Mem) (K:KT):OM:=loopW (execW cfg 102 (AP cfg) (AC cfg) (c1 (c1 (c2 (c1 (c2 (c2 (c2 (c2 (c2 (c2 (bodyOf f102)))))))))))) (cfg.mask 102 (some 11)) ⟨[x0,x1,.any,.any,.any,.any,.any,.any,.any,x9,x10,.any,.any,.any,.any,.any,.any,.any,.any,.any,.any,.any,.any,.any,.any,.any,.any,.any,.any,.any,.any,.any,.any,.any,.any,.any,.any,.any,.any,.any,.any,.any,.any,.any,.any,.any,.any,.any,.any,.any,.any,.any,.any,.any,.any,.any,.any,.any,.any,.any,.any,.any,.any,.any,.any,.any,.any,.any,.any,.any,.any,.any,.any,.any,.any,.any,.any,.any,.any,.any,.any,.any,.any,.any,.any,.any,.any,.any,.any,.any,.any,.any,.any,.any,.any,.any,.any,.any],m⟩ K
def O102_14 (x0 x1 x9 x10 x11:AV) (m:Mem):St:=⟨[x0,x1,.any,.any,.any,.any,.any,.any,.any,x9,x10,x11,.any,.any,.any,.any,.any,.any,.any,.any,.any,.any,.any,.any,.any,.any,.any,.any,.any,.any,.any,.any,.any,.any,.any,.any,.any,.any,.any,.any,.any,.any,.any,.any,.any,.any,.any,.any,.any,.any,.any,.any,.any,.any,.any,.any,.any,.any,.any,.any,.any,.any,.any,.any,.any,.any,.any,.any,.any,.any,.any,.any,.any,.any,.any,.any,.any,.any,.any,.any,.any,.any,.any,.any,.any,.any,.any,.any,.any,.any,.any,.any,.any,.any,.any,.any,.any,.any],m⟩
noncomputable def L102_14 (x0 x1 x9 x10 x11 x12:AV) (m:Mem) (K:KT):OM:=loopW (execW cfg 102 (AP cfg) (AC cfg) (c1 (c1 (c1 (c2 (c1 (c1 (c2 (c1 (c1 (c2 (c1 (c2 (c2 (c2 (c2 (c2 (c2 (bodyOf f102))))))))))))))))))) (cfg.mask 102 (some 14)) ⟨[x0,x1,.any,.any,.any,.any,.any,.any,.any,x9,x10,x11,x12,.any,.any,.any,.any,.any,.any,.any,.any,.any,.any,.any,.any,.any,.any,.any,.any,.any,.any,.any,.any,.any,.any,.any,.any,.any,.any,.any,.any,.any,.any,.any,.any,.any,.any,.any,.any,.any,.any,.any,.any,.any,.any,.any,.any,.any,.any,.any,.any,.any,.any,.any,.any,.any,.any,.any,.any,.any,.any,.any,.any,.any,.any,.any,.any,.any,.any,.any,.any,.any,.any,.any,.any,.any,.any,.any,.any,.any,.any,.any,.any,.any,.any,.any,.any,.any],m⟩ K
noncomputable abbrev K102_11_0 (K:KT):KT:=seqK (fun st=>execW cfg 102 (AP cfg) (AC cfg) (c2 (c2 (c2 (c2 (c2 (c2 (c2 (bodyOf f102)))))))) st K) K
noncomputable abbrev K102_11_1 (K:KT):KT:=blockK 0 (K102_11_0 K)
noncomputable abbrev K102_11 (K:KT):KT:=(K102_11_1 K)
noncomputable abbrev K102_14_0 (K:KT):KT:=seqK (fun st=>execW cfg 102 (AP cfg) (AC cfg) (c2 (c2 (c1 (c1 (c2 (c1 (c2 (c2 (c2 (c2 (c2 (c2 (bodyOf f102))))))))))))) st (roundG (fun st=>loopW (execW cfg 102 (AP cfg) (AC cfg) (c1 (c1 (c2 (c1 (c2 (c2 (c2 (c2 (c2 (c2 (bodyOf f102)))))))))))) (cfg.mask 102 (some 11)) st K) (cfg.mask 102 (some 11)) K)) (roundG (fun st=>loopW (execW cfg 102 (AP cfg) (AC cfg) (c1 (c1 (c2 (c1 (c2 (c2 (c2 (c2 (c2 (c2 (bodyOf f102)))))))))))) (cfg.mask 102 (some 11)) st K) (cfg.mask 102 (some 11)) K)
noncomputable abbrev K102_14_1 (K:KT):KT:=blockK 1 (K102_14_0 K)
noncomputable abbrev K102_14_2 (K:KT):KT:=seqK (fun st=>execW cfg 102 (AP cfg) (AC cfg) (c2 (c2 (c1 (c1 (c2 (c1 (c1 (c2 (c1 (c2 (c2 (c2 (c2 (c2 (c2 (bodyOf f102)))))))))))))))) st (K102_14_1 K)) (K102_14_1 K)
noncomputable abbrev K102_14_3 (K:KT):KT:=blockK 2 (K102_14_2 K)
noncomputable abbrev K102_14 (K:KT):KT:=(K102_14_3 K)
theorem T102 (a0 a1:AV) (m:Mem):AC cfg 102 [a0,a1] m =
 (pcall (AP cfg) none m 103 [a0]).bind fun r1=>
 (pcall (AP cfg) none r1.2 103 [a1]).bind fun r2=>
 (lenA false r2.1).bind fun v3=>
 (binA .other .eql v3 (.int .i64 0)).bind fun v4=>
 ifA v4 (
 some ((.tup [(.lst none true .full []),(.lst none true .full []),(.int .i64 31)]),r2.2)) (
 (lenA false r2.1).bind fun v5=>
 (binA .other .eql v5 (.int .i64 1)).bind fun v6=>
 ifA v6 (
 (indexAddrA none r2.1 (.int .i64 0)).bind fun v7=>
 (loadA none r2.2 v7).bind fun v8=>
 (convA .u64 v8).bind fun v9=>
 (pcall (AP cfg) none r2.2 129 [r1.1,v9]).bind fun r10=>
 (extractA r10.1 0).bind fun v11=>
 (extractA r10.1 1).bind fun v12=>
 (pcall (AP cfg) none r10.2 70 [v12]).bind fun r13=>
 some ((.tup [v11,r13.1,(.int .i64 0)]),r13.2)) (
 (lenA false r1.1).bind fun v14=>
 (lenA false r2.1).bind fun v15=>
 (binA .other .lss v14 v15).bind fun v16=>
 ifA v16 (
 some ((.tup [(.lst none true .full []),r1.1,(.int .i64 0)]),r2.2)) (
 (lenA false r1.1).bind fun v17=>
 (makeA none 116 none (.int .u32 0) 4 r2.2 v17 v17).bind fun r18=>
 (lenA false r1.1).bind fun v19=>
 (lenA false r2.1).bind fun v20=>
 (binA .other .sub v19 v20).bind fun v21=>
 L102_11 r1.1 r2.1 r18.1 v21 r18.2 (K102_11 (finK cfg.P f102.results.toList))))):=
(AC_eq cfg 102 [a0,a1] m (fn:=f102) (c:=bodyOf f102) at102 rfl).trans (by kernel_rfl)
theorem L102_11_eq (x0 x1 x9 x10:AV) (m:Mem) (K:KT):L102_11 x0 x1 x9 x10 m K =
 (binA .other .geq x10 (.int .i64 0)).bind fun v1=>
 ifA v1 (
 (pcall (AP cfg) none m 130 [x0,x1,x10]).bind fun r2=>
 (extractA r2.1 0).bind fun v3=>
 (extractA r2.1 1).bind fun v4=>
 L102_14 x0 x1 x9 x10 v3 v4 r2.2 (K102_14 K)) (
 K (.exit 0) (O102_11 x0 x9 m)):=
(loopW_eq (execW_lin _) _ _ _).trans (by kernel_rfl)
theorem L102_14_eq (x0 x1 x9 x10 x11 x12:AV) (m:Mem) (K:KT):L102_14 x0 x1 x9 x10 x11 x12 m K =
 (binA .other .lss x11 x12).bind fun v1=>
 ifA v1 (
 (binA .other .sub x12 x11).bind fun v2=>
 (binA .other .add v2 (.int .u64 1)).bind fun v3=>
 (binA .other .quo v3 (.int .u64 2)).bind fun v4=>
 (binA .other .add x11 v4).bind fun v5=>
 (pcall (AP cfg) none m 131 [x1,v5,x10]).bind fun r6=>
 (pcall (AP cfg) none r6.2 98 [r6.1,x0]).bind fun r7=>
 (binA .other .leq r7.1 (.int .i64 0)).bind fun v8=>
 ifA v8 (
 L102_14 x0 x1 x9 x10 v5 x12 r7.2 K) (
 (binA .other .sub v5 (.int .u64 1)).bind fun v9=>
 L102_14 x0 x1 x9 x10 x11 v9 r7.2 K)) (
 K (.exit 2) (O102_14 x0 x1 x9 x10 x11 m)):=
(loopW_eq (execW_lin _) _ _ _).trans (by kernel_rfl)
theorem K102_11_x0 (x0 x9:AV) (m:Mem):K102_11 (finK cfg.P f102.results.toList) (.exit 0) (O102_11 x0 x9 m) =
 (pcall (AP cfg) none m 103 [x9]).bind fun r1=>
 some ((.tup [r1.1,x0,(.int .i64 0)]),r1.2):=by kernel_rfl
theorem K102_14_x2 (x0 x1 x9 x10 x11:AV) (m:Mem) (K:KT):K102_14 K (.exit 2) (O102_14 x0 x1 x9 x10 x11 m) =
 (convA .u32 x11).bind fun v1=>
 (indexAddrA none x9 x10).bind fun v2=>
 (storeA none m v2 v1).bind fun m3=>
 (pcall (AP cfg) none m3 131 [x1,x11,x10]).bind fun r4=>
 (pcall (AP cfg) none r4.2 112 [x0,r4.1]).bind fun r5=>
 (extractA r5.1 0).bind fun v6=>
 (extractA r5.1 1).bind fun v7=>
 (binA .other .sub x10 (.int .i64 1)).bind fun v8=>
 L102_11 v6 x1 x9 v8 r5.2 K:=by kernel_rfl
def O103_2 (x0 x3:AV) (m:Mem):St:=⟨[x0,.any,.any,x3,.any,.any,.any,.any,.any,.any,.any,.any,.any,.any,.any,.any,.any,.any,.any,.any,.any,.any],m⟩
noncomputable def L103_2 (x0 x3:AV) (m:Mem) (K:KT):OM:=loopW (execW cfg 103 (AP cfg) (AC cfg) (c1 (c1 (c1 (c2 (c2 (bodyOf f103))))))) (cfg.mask 103 (some 2)) ⟨[x0,.any,.any,x3,.any,.any,.any,.any,.any,.any,.any,.any,.any,.any,.any,.any,.any,.any,.any,.any,.any,.any],m⟩ K
noncomputable abbrev K103_2_0 (K:KT):KT:=seqK (fun st=>execW cfg 103 (AP cfg) (AC cfg) (c2 (c2 (c2 (bodyOf f103)))) st K) K
noncomputable abbrev K103_2_1 (K:KT):KT:=blockK 0 (K103_2_0 K)
noncomputable abbrev K103_2 (K:KT):KT:=(K103_2_1 K)
theorem T103 (a0:AV) (m:Mem):AC cfg 103 [a0] m =
 (lenA false a0).bind fun v1=>
 L103_2 a0 v1 m (K103_2 (finK cfg.P f103.results.toList)):=
(AC_eq cfg 103 [a0] m (fn:=f103) (c:=bodyOf f103) at103 rfl).trans (by kernel_rfl)
theorem L103_2_eq (x0 x3:AV) (m:Mem) (K:KT):L103_2 x0 x3 m K =
 (binA .other .gtr x3 (.int .i64 0)).bind fun v1=>
 ifA v1 (
 (binA .other .sub x3 (.int .i64 1)).bind fun v2=>
 (indexAddrA none x0 v2).bind fun v3=>
 (loadA none m v3).bind fun v4=>
 (binA .other .eql v4 (.int .u32 0)).bind fun v5=>
 ifA v5 (
 (binA .other .sub x3 (.int .i64 1)).bind fun v6=>
 L103_2 x0 v6 m K) (
 K (.exit 0) (O103_2 x0 x3 m))) (
 K (.exit 0) (O103_2 x0 x3 m)):=
(loopW_eq (execW_lin _) _ _ _).trans (by kernel_rfl)
theorem K103_2_x0 (x0 x3:AV) (m:Mem):K103_2 (finK cfg.P f103.results.toList) (.exit 0) (O103_2 x0 x3 m) =
 (sliceT none x0 none (some x3) none).bind fun v1=>
 (appA none false 116 none 4 m (.lst none true .full []) v1).bind fun r2=>
 some (r2.1,r2.2):=by kernel_rfl
def O111_4 (x5:AV) (m:Mem):St:=⟨[.any,.any,.any,.any,.any,x5,.any,.any,.any,.any,.any,.any,.any,.any,.any,.any,.any,.any,.any,.any,.any,.any,.any,.any,.any,.any,.any,.any,.any,.any,.any,.any,.any,.any,.any,.any,.any,.any,.any,.any,.any,.any,.any,.any],m⟩
noncomputable def L111_4 (x0 x1 x5 x6 x7:AV) (m:Mem) (K:KT):OM:=loopW (execW cfg 111 (AP cfg) (AC cfg) (c1 (c1 (c2 (c1 (c2 (c2 (c2 (bodyOf f111))))))))) (cfg.mask 111 (some 4)) ⟨[x0,x1,.any,.any,.any,x5,x6,x7,.any,.any,.any,.any,.any,.any,.any,.any,.any,.any,.any,.any,.any,.any,.any,.any,.any,.any,.any,.any,.any,.any,.any,.any,.any,.any,.any,.any,.any,.any,.any,.any,.any,.any,.any,.any],m⟩ K
noncomputable abbrev K111_4_0 (K:KT):KT:=seqK (fun st=>execW cfg 111 (AP cfg) (AC cfg) (c2 (c2 (c2 (c2 (bodyOf f111))))) st K) K
noncomputable abbrev K111_4_1 (K:KT):KT:=blockK 0 (K111_4_0 K)
noncomputable abbrev K111_4 (K:KT):KT:=(K111_4_1 K)
theorem T111 (a0 a1:AV) (m:Mem):AC cfg 111 [a0,a1] m =
 L111_4 a0 a1 (.lst none true .full []) (.int .u64 0) (.int .i64 0) m (K111_4 (finK cfg.P f111.results.toList)):=
(AC_eq cfg 111 [a0,a1] m (fn:=f111) (c:=bodyOf f111) at111 rfl).trans (by kernel_rfl)
theorem L111_4_eq (x0 x1 x5 x6 x7:AV) (m:Mem) (K:KT):L111_4 x0 x1 x5 x6 x7 m K =
 (lenA false x0).bind fun v1=>
 (binA .other .lss x7 v1).bind fun v2=>
 ifA v2 (
 (pcall (AP cfg) none m 133 [x0,x7]).bind fun r3=>
 (pcall (AP cfg) none r3.2 133 [x1,x7]).bind fun r4=>
 (binA .other .add r3.1 r4.1).bind fun v5=>
 (binA .other .add v5 x6).bind fun v6=>
 (binA .other .rem v6 (.int .u64 4294967296)).bind fun v7=>
 (convA .u32 v7).bind fun v8=>
 (buildSliceA none [v8]).bind fun v9=>
 (appA none false 116 none 4 r4.2 x5 v9).bind fun r10=>
 (binA .other .quo v6 (.int .u64 4294967296)).bind fun v11=>
 (binA .other .add x7 (.int .i64 1)).bind fun v12=>
 L111_4 x0 x1 r10.1 v11 v12 r10.2 K) (
 (lenA false x1).bind fun v13=>
 (binA .other .lss x7 v13).bind fun v14=>
 ifA v14 (
 (pcall (AP cfg) none m 133 [x0,x7]).bind fun r15=>
 (pcall (AP cfg) none r15.2 133 [x1,x7]).bind fun r16=>
 (binA .other .add r15.1 r16.1).bind fun v17=>
 (binA .other .add v17 x6).bind fun v18=>
 (binA .other .rem v18 (.int .u64 4294967296)).bind fun v19=>
 (convA .u32 v19).bind fun v20=>
 (buildSliceA none [v20]).bind fun v21=>
 (appA none false 116 none 4 r16.2 x5 v21).bind fun r22=>
 (binA .other .quo v18 (.int .u64 4294967296)).bind fun v23=>
 (binA .other .add x7 (.int .i64 1)).bind fun v24=>
 L111_4 x0 x1 r22.1 v23 v24 r22.2 K) (
 (binA .other .gtr x6 (.int .u64 0)).bind fun v25=>
 ifA v25 (
 (pcall (AP cfg) none m 133 [x0,x7]).bind fun r26=>
 (pcall (AP cfg) none r26.2 133 [x1,x7]).bind fun r27=>
 (binA .other .add r26.1 r27.1).bind fun v28=>
 (binA .other .add v28 x6).bind fun v29=>
 (binA .other .rem v29 (.int .u64 4294967296)).bind fun v30=>
 (convA .u32 v30).bind fun v31=>
 (buildSliceA none [v31]).bind fun v32=>
 (appA none false 116 none 4 r27.2 x5 v32).bind fun r33=>
 (binA .other .quo v29 (.int .u64 4294967296)).bind fun v34=>
 (binA .other .add x7 (.int .i64 1)).bind fun v35=>
 L111_4 x0 x1 r33.1 v34 v35 r33.2 K) (
 K (.exit 0) (O111_4 x5 m)))):=
(loopW_eq (execW_lin _) _ _ _).trans (by kernel_rfl)
theorem K111_4_x0 (x5:AV) (m:Mem):K111_4 (finK cfg.P f111.results.toList) (.exit 0) (O111_4 x5 m) =
 (pcall (AP cfg) none m 103 [x5]).bind fun r1=>
 some (r1.1,r1.2):=by kernel_rfl
def O112_6 (x6:AV) (m:Mem):St:=⟨[.any,.any,.any,.any,.any,.any,x6,.any,.any,.any,.any,.any,.any,.any,.any,.any,.any,.any,.any,.any,.any,.any,.any,.any,.any,.any,.any,.any,.any,.any,.any,.any,.any,.any,.any,.any,.any,.any,.any,.any,.any,.any,.any,.any],m⟩
noncomputable def L112_6 (x0 x1 x6 x7 x8:AV) (m:Mem) (K:KT):OM:=loopW (execW cfg 112 (AP cfg) (AC cfg) (c1 (c1 (c2 (c1 (c2 (c2 (c2 (c2 (bodyOf f112)))))))))) (cfg.mask 112 (some 6)) ⟨[x0,x1,.any,.any,.any,.any,x6,x7,x8,.any,.any,.any,.any,.any,.any,.any,.any,.any,.any,.any,.any,.any,.any,.any,.any,.any,.any,.any,.any,.any,.any,.any,.any,.any,.any,.any,.any,.any,.any,.any,.any,.any,.any,.any],m⟩ K
noncomputable abbrev K112_6_0 (K:KT):KT:=seqK (fun st=>execW cfg 112 (AP cfg) (AC cfg) (c2 (c2 (c2 (c2 (c2 (bodyOf f112)))))) st K) K
noncomputable abbrev K112_6_1 (K:KT):KT:=blockK 0 (K112_6_0 K)
noncomputable abbrev K112_6 (K:KT):KT:=(K112_6_1 K)
theorem T112 (a0 a1:AV) (m:Mem):AC cfg 112 [a0,a1] m =
 (pcall (AP cfg) none m 98 [a0,a1]).bind fun r1=>
 (binA .other .lss r1.1 (.int .i64 0)).bind fun v2=>
 ifA v2 (
 some ((.tup [(.lst none true .full []),(.int .i64 1)]),r1.2)) (
 L112_6 a0 a1 (.lst none true .full []) (.int .u64 0) (.int .i64 0) r1.2 (K112_6 (finK cfg.P f112.results.toList))):=
(AC_eq cfg 112 [a0,a1] m (fn:=f112) (c:=bodyOf f112) at112 rfl).trans (by kernel_rfl)
theorem L112_6_eq (x0 x1 x6 x7 x8:AV) (m:Mem) (K:KT):L112_6 x0 x1 x6 x7 x8 m K =
 (lenA false x0).bind fun v1=>
 (binA .other .lss x8 v1).bind fun v2=>
 ifA v2 (
 (pcall (AP cfg) none m 133 [x1,x8]).bind fun r3=>
 (binA .other .add r3.1 x7).bind fun v4=>
 (pcall (AP cfg) none r3.2 133 [x0,x8]).bind fun r5=>
 (binA .other .lss r5.1 v4).bind fun v6=>
 ifA v6 (
 (pcall (AP cfg) none r5.2 133 [x0,x8]).bind fun r7=>
 (binA .other .mul (.int .u64 1) (.int .u64 4294967296)).bind fun v8=>
 (binA .other .add r7.1 v8).bind fun v9=>
 (binA .other .sub v9 v4).bind fun v10=>
 (convA .u32 v10).bind fun v11=>
 (buildSliceA none [v11]).bind fun v12=>
 (appA none false 116 none 4 r7.2 x6 v12).bind fun r13=>
 (binA .other .add x8 (.int .i64 1)).bind fun v14=>
 L112_6 x0 x1 r13.1 (.int .u64 1) v14 r13.2 K) (
 (pcall (AP cfg) none r5.2 133 [x0,x8]).bind fun r15=>
 (binA .other .mul (.int .u64 0) (.int .u64 4294967296)).bind fun v16=>
 (binA .other .add r15.1 v16).bind fun v17=>
 (binA .other .sub v17 v4).bind fun v18=>
 (convA .u32 v18).bind fun v19=>
 (buildSliceA none [v19]).bind fun v20=>
 (appA none false 116 none 4 r15.2 x6 v20).bind fun r21=>
 (binA .other .add x8 (.int .i64 1)).bind fun v22=>
 L112_6 x0 x1 r21.1 (.int .u64 0) v22 r21.2 K)) (
 K (.exit 0) (O112_6 x6 m)):=
(loopW_eq (execW_lin _) _ _ _).trans (by kernel_rfl)
theorem K112_6_x0 (x6:AV) (m:Mem):K112_6 (finK cfg.P f112.results.toList) (.exit 0) (O112_6 x6 m) =
 (pcall (AP cfg) none m 103 [x6]).bind fun r1=>
 some ((.tup [r1.1,(.int .i64 0)]),r1.2):=by kernel_rfl
theorem T126 (a0:AV) (m:Mem):AC cfg 126 [a0] m =
 (pcall (AP cfg) none m 103 [a0]).bind fun r1=>
 (lenA false r1.1).bind fun v2=>
 (binA .other .eql v2 (.int .i64 0)).bind fun v3=>
 ifA v3 (
 some ((.tup [(.int .u64 0),(.bool true)]),r1.2)) (
 (binA .other .eql v2 (.int .i64 1)).bind fun v4=>
 ifA v4 (
 (indexAddrA none r1.1 (.int .i64 0)).bind fun v5=>
 (loadA none r1.2 v5).bind fun v6=>
 (convA .u64 v6).bind fun v7=>
 some ((.tup [v7,(.bool true)]),r1.2)) (
 (binA .other .eql v2 (.int .i64 2)).bind fun v8=>
 ifA v8 (
 (indexAddrA none r1.1 (.int .i64 1)).bind fun v9=>
 (loadA none r1.2 v9).bind fun v10=>
 (convA .u64 v10).bind fun v11=>
 (binA .other .shl v11 (.int .u64 32)).bind fun v12=>
 (indexAddrA none r1.1 (.int .i64 0)).bind fun v13=>
 (loadA none r1.2 v13).bind fun v14=>
 (convA .u64 v14).bind fun v15=>
 (binA .other .or v12 v15).bind fun v16=>
 some ((.tup [v16,(.bool true)]),r1.2)) (
 some ((.tup [(.int .u64 0),(.bool false)]),r1.2)))):=
(AC_eq cfg 126 [a0] m (fn:=f126) (c:=bodyOf f126) at126 rfl).trans (by kernel_rfl)
theorem T127 (a0:AV) (m:Mem):AC cfg 127 [a0] m =
 (pcall (AP cfg) none m 133 [a0,(.int .i64 0)]).bind fun r1=>
 (binA .other .rem r1.1 (.int .u64 2)).bind fun v2=>
 (binA .other .eql v2 (.int .u64 0)).bind fun v3=>
 some (v3,r1.2):=
(AC_eq cfg 127 [a0] m (fn:=f127) (c:=bodyOf f127) at127 rfl).trans (by kernel_rfl)
theorem T128 (a0:AV) (m:Mem):AC cfg 128 [a0] m =
 (pcall (AP cfg) none m 103 [a0]).bind fun r1=>
 (pcall (AP cfg) none r1.2 129 [r1.1,(.int .u64 2)]).bind fun r2=>
 (extractA r2.1 0).bind fun v3=>
 (extractA r2.1 1).bind fun v4=>
 some (v3,r2.2):=
(AC_eq cfg 128 [a0] m (fn:=f128) (c:=bodyOf f128) at128 rfl).trans (by kernel_rfl)
def O129_4 (x6 x7:AV) (m:Mem):St:=⟨[.any,.any,.any,.any,.any,.any,x6,x7,.any,.any,.any,.any,.any,.any,.any,.any,.any,.any,.any,.any,.any,.any,.any,.any,.any,.any,.any,.any,.any,.any,.any,.any,.any,.any,.any,.any,.any,.any,.any,.any,.any],m⟩
noncomputable def L129_4 (x0 x1 x6 x7 x8:AV) (m:Mem) (K:KT):OM:=loopW (execW cfg 129 (AP cfg) (AC cfg) (c1 (c1 (c2 (c1 (c2 (c2 (c2 (bodyOf f129))))))))) (cfg.mask 129 (some 4)) ⟨[x0,x1,.any,.any,.any,.any,x6,x7,x8,.any,.any,.any,.any,.any,.any,.any,.any,.any,.any,.any,.any,.any,.any,.any,.any,.any,.any,.any,.any,.any,.any,.any,.any,.any,.any,.any,.any,.any,.any,.any,.any],m⟩ K
noncomputable abbrev K129_4_0 (K:KT):KT:=seqK (fun st=>execW cfg 129 (AP cfg) (AC cfg) (c2 (c2 (c2 (c2 (bodyOf f129))))) st K) K
noncomputable abbrev K129_4_1 (K:KT):KT:=blockK 0 (K129_4_0 K)
noncomputable abbrev K129_4 (K:KT):KT:=(K129_4_1 K)
theorem T129 (a0 a1:AV) (m:Mem):AC cfg 129 [a0,a1] m =
 (lenA false a0).bind fun v1=>
 (makeA none 116 none (.int .u32 0) 4 m v1 v1).bind fun r2=>
 (lenA false a0).bind fun v3=>
 (binA .other .sub v3 (.int .i64 1)).bind fun v4=>
 L129_4 a0 a1 r2.1 (.int .u64 0) v4 r2.2 (K129_4 (finK cfg.P f129.results.toList)):=
(AC_eq cfg 129 [a0,a1] m (fn:=f129) (c:=bodyOf f129) at129 rfl).trans (by kernel_rfl)
theorem L129_4_eq (x0 x1 x6 x7 x8:AV) (m:Mem) (K:KT):L129_4 x0 x1 x6 x7 x8 m K =
 (binA .other .geq x8 (.int .i64 0)).bind fun v1=>
 ifA v1 (
 (binA .other .mul x7 (.int .u64 4294967296)).bind fun v2=>
 (indexAddrA none x0 x8).bind fun v3=>
 (loadA none m v3).bind fun v4=>
 (convA .u64 v4).bind fun v5=>
 (binA .other .add v2 v5).bind fun v6=>
 (binA .other .quo v6 x1).bind fun v7=>
 (convA .u32 v7).bind fun v8=>
 (indexAddrA none x6 x8).bind fun v9=>
 (storeA none m v9 v8).bind fun m10=>
 (binA .other .rem v6 x1).bind fun v11=>
 (binA .other .sub x8 (.int .i64 1)).bind fun v12=>
 L129_4 x0 x1 x6 v11 v12 m10 K) (
 K (.exit 0) (O129_4 x6 x7 m)):=
(loopW_eq (execW_lin _) _ _ _).trans (by kernel_rfl)
theorem K129_4_x0 (x6 x7:AV) (m:Mem):K129_4 (finK cfg.P f129.results.toList) (.exit 0) (O129_4 x6 x7 m) =
 (pcall (AP cfg) none m 103 [x6]).bind fun r1=>
 some ((.tup [r1.1,x7]),r1.2):=by kernel_rfl
theorem T130 (a0 a1 a2:AV) (m:Mem):AC cfg 130 [a0,a1,a2] m =
 (lenA false a1).bind fun v1=>
 (binA .other .add a2 v1).bind fun v2=>
 (pcall (AP cfg) (some m.length) m 133 [a0,v2]).bind fun r3=>
 (binA .other .shl r3.1 (.int .u64 32)).bind fun v4=>
 (binA .other .add a2 v1).bind fun v5=>
 (binA .other .sub v5 (.int .i64 1)).bind fun v6=>
 (pcall (AP cfg) (some m.length) r3.2 133 [a0,v6]).bind fun r7=>
 (binA .other .or v4 r7.1).bind fun v8=>
 (binA .other .sub v1 (.int .i64 1)).bind fun v9=>
 (indexAddrA none a1 v9).bind fun v10=>
 (loadA none r7.2 v10).bind fun v11=>
 (convA .u64 v11).bind fun v12=>
 (binA .other .quo v8 v12).bind fun v13=>
 (binA .other .lss v13 (.int .u64 4294967295)).bind fun v14=>
 ifA v14 (
 (binA .other .quo v8 v12).bind fun v15=>
 (binA .other .add v12 (.int .u64 1)).bind fun v16=>
 (binA .other .lss v16 (.int .u64 4294967296)).bind fun v17=>
 ifA v17 (
 (binA .other .add v12 (.int .u64 1)).bind fun v18=>
 (binA .other .quo v8 v18).bind fun v19=>
 (binA .other .lss v19 (.int .u64 4294967296)).bind fun v20=>
 ifA v20 (
 (binA .other .add v12 (.int .u64 1)).bind fun v21=>
 (binA .other .quo v8 v21).bind fun v22=>
 (binA .other .gtr v22 v15).bind fun v23=>
 ifA v23 (
 some ((.tup [v15,v15]),r7.2)) (
 some ((.tup [v22,v15]),r7.2))) (
 (binA .other .gtr (.int .u64 0) v15).bind fun v24=>
 ifA v24 (
 some ((.tup [v15,v15]),r7.2)) (
 some ((.tup [(.int .u64 0),v15]),r7.2)))) (
 (binA .other .gtr (.int .u64 0) v15).bind fun v25=>
 ifA v25 (
 some ((.tup [v15,v15]),r7.2)) (
 some ((.tup [(.int .u64 0),v15]),r7.2)))) (
 (binA .other .add v12 (.int .u64 1)).bind fun v26=>
 (binA .other .lss v26 (.int .u64 4294967296)).bind fun v27=>
 ifA v27 (
 (binA .other .add v12 (.int .u64 1)).bind fun v28=>
 (binA .other .quo v8 v28).bind fun v29=>
 (binA .other .lss v29 (.int .u64 4294967296)).bind fun v30=>
 ifA v30 (
 (binA .other .add v12 (.int .u64 1)).bind fun v31=>
 (binA .other .quo v8 v31).bind fun v32=>
 (binA .other .gtr v32 (.int .u64 4294967295)).bind fun v33=>
 ifA v33 (
 some ((.tup [(.int .u64 4294967295),(.int .u64 4294967295)]),r7.2)) (
 some ((.tup [v32,(.int .u64 4294967295)]),r7.2))) (
 (binA .other .gtr (.int .u64 0) (.int .u64 4294967295)).bind fun v34=>
 ifA v34 (
 some ((.tup [(.int .u64 4294967295),(.int .u64 4294967295)]),r7.2)) (
 some ((.tup [(.int .u64 0),(.int .u64 4294967295)]),r7.2)))) (
 (binA .other .gtr (.int .u64 0) (.int .u64 4294967295)).bind fun v35=>
 ifA v35 (
 some ((.tup [(.int .u64 4294967295),(.int .u64 4294967295)]),r7.2)) (
 some ((.tup [(.int .u64 0),(.int .u64 4294967295)]),r7.2)))):=
(AC_eq cfg 130 [a0,a1,a2] m (fn:=f130) (c:=bodyOf f130) at130 rfl).trans (by kernel_rfl)
def O131_4 (x7 x8:AV) (m:Mem):St:=⟨[.any,.any,.any,.any,.any,.any,.any,x7,x8,.any,.any,.any,.any,.any,.any,.any,.any,.any,.any,.any,.any,.any,.any,.any,.any,.any,.any,.any,.any,.any,.any,.any,.any,.any,.any,.any,.any,.any,.any,.any,.any,.any],m⟩
noncomputable def L131_4 (x0 x1 x7 x8 x9:AV) (m:Mem) (K:KT):OM:=loopW (execW cfg 131 (AP cfg) (AC cfg) (c1 (c1 (c2 (c1 (c2 (c2 (c2 (bodyOf f131))))))))) (cfg.mask 131 (some 4)) ⟨[x0,x1,.any,.any,.any,.any,.any,x7,x8,x9,.any,.any,.any,.any,.any,.any,.any,.any,.any,.any,.any,.any,.any,.any,.any,.any,.any,.any,.any,.any,.any,.any,.any,.any,.any,.any,.any,.any,.any,.any,.any,.any],m⟩ K
noncomputable abbrev K131_4_0 (K:KT):KT:=seqK (fun st=>execW cfg 131 (AP cfg) (AC cfg) (c2 (c2 (c2 (c2 (bodyOf f131))))) st K) K
noncomputable abbrev K131_4_1 (K:KT):KT:=blockK 0 (K131_4_0 K)
noncomputable abbrev K131_4 (K:KT):KT:=(K131_4_1 K)
theorem T131 (a0 a1 a2:AV) (m:Mem):AC cfg 131 [a0,a1,a2] m =
 (makeT none none (.int .u32 0) 4 m a2 a2).bind fun r1=>
 L131_4 a0 a1 r1.1 (.int .u64 0) (.int .i64 0) r1.2 (K131_4 (finK cfg.P f131.results.toList)):=
(AC_eq cfg 131 [a0,a1,a2] m (fn:=f131) (c:=bodyOf f131) at131 rfl).trans (by kernel_rfl)
theorem L131_4_eq (x0 x1 x7 x8 x9:AV) (m:Mem) (K:KT):L131_4 x0 x1 x7 x8 x9 m K =
 (lenA false x0).bind fun v1=>
 (binA .other .lss x9 v1).bind fun v2=>
 ifA v2 (
 (indexAddrA none x0 x9).bind fun v3=>
 (loadA none m v3).bind fun v4=>
 (convA .u64 v4).bind fun v5=>
 (binA .other .mul v5 x1).bind fun v6=>
 (binA .other .add v6 x8).bind fun v7=>
 (binA .other .rem v7 (.int .u64 4294967296)).bind fun v8=>
 (convA .u32 v8).bind fun v9=>
 (buildSliceA none [v9]).bind fun v10=>
 (appA none false 116 none 4 m x7 v10).bind fun r11=>
 (binA .other .quo v7 (.int .u64 4294967296)).bind fun v12=>
 (binA .other .add x9 (.int .i64 1)).bind fun v13=>
 L131_4 x0 x1 r11.1 v12 v13 r11.2 K) (
 K (.exit 0) (O131_4 x7 x8 m)):=
(loopW_eq (execW_lin _) _ _ _).trans (by kernel_rfl)
theorem K131_4_x0 (x7 x8:AV) (m:Mem):K131_4 (finK cfg.P f131.results.toList) (.exit 0) (O131_4 x7 x8 m) =
 (convA .u32 x8).bind fun v1=>
 (buildSliceA none [v1]).bind fun v2=>
 (appA none false 116 none 4 m x7 v2).bind fun r3=>
 (pcall (AP cfg) none r3.2 103 [r3.1]).bind fun r4=>
 some (r4.1,r4.2):=by kernel_rfl
theorem T133 (a0 a1:AV) (m:Mem):AC cfg 133 [a0,a1] m =
 (lenA false a0).bind fun v1=>
 (binA .other .lss a1 v1).bind fun v2=>
 ifA v2 (
 (indexAddrA none a0 a1).bind fun v3=>
 (loadA none m v3).bind fun v4=>
 (convA .u64 v4).bind fun v5=>
 some (v5,m)) (
 some ((.int .u64 0),m)):=
(AC_eq cfg 133 [a0,a1] m (fn:=f133) (c:=bodyOf f133) at133 rfl).trans (by kernel_rfl)
end Go.Ab
set_option linter.unusedVariables false
set_option linter.unusedSimpArgs false
namespace Go.Ab
open Go.Proofs.Try
def rowV (m:Mem) (ds:List Nat):NV:=if ds=[] then ⟨true,.full,[]⟩ else ⟨false,.tok m.length 116,ds⟩
def rowM (m:Mem) (ds:List Nat):Mem:=if ds=[] then m else tokM m ds.length
def rowN (ds:List Nat):NV:=if ds=[] then ⟨true,.full,[]⟩ else ⟨false,.no,ds⟩
theorem rowV_fr (m:Mem) (ds:List Nat):(rowV m ds).fr=rowN ds:=by unfold rowV rowN;split<;>rfl
theorem rowN_fr (ds:List Nat):(rowN ds).fr=rowN ds:=by unfold rowN;split<;>rfl
theorem rowN_ds (ds:List Nat):(rowN ds).ds=ds:=by
 unfold rowN
 split
 ·rename_i h;rw[h]
 ·rfl
theorem fz_row (m:Mem) (ds:List Nat):Fz (rowV m ds).av (rowN ds).av:=by
 have:=fz_nv (rowV m ds)
 rwa [rowV_fr] at this
theorem rowN_ok {ds:List Nat} (h:Dg ds) (h':ds.length<2^40):NOk (rowN ds):=by
 refine ⟨by rw[rowN_ds];exact h,by rw[rowN_ds];exact h',?_⟩
 unfold rowN
 split
 ·intro _;rfl
 ·intro h;cases h
theorem rowN_v (ds:List Nat):(rowN ds).v=val ds:=by rw[NV.v,rowN_ds]
theorem ifA_true {R:Type} {x y:Option R}:ifA (.bool true) x y=x:=rfl
theorem ifA_false {R:Type} {x y:Option R}:ifA (.bool false) x y=y:=rfl
theorem app_nil {m:Mem} {ds:List Nat} {z:Bool} {o:Own} (h:ds.length*4≤roomA):appA none false 116 none 4 m (.lst none true .full []) (.lst none z o (ds.map dg))=some ((rowV m ds).av,rowM m ds):=by
 cases ds with
 | nil=>rfl
 | cons d ds=>
  have h2:(ds.length+1)*4≤roomA:=by simpa using h
  simp only[rowV,rowM,NV.av,appA,List.map_cons,List.length_cons,List.length_nil,List.length_map,Nat.zero_add,h2,if_true,newAt,tokM,Sh.size,List.nil_append,reduceCtorEq,if_false,Bool.false_eq_true,or_true,Nat.zero_add]
theorem app_row1 {m:Mem} {ds:List Nat} {v:Nat} (h:(ds.length+1)*4≤roomA):appA none false 116 none 4 (rowM m ds) (rowV m ds).av (.lst none false .full [.int .u32 v])=some ((rowV m (ds++[v])).av,rowM m (ds++[v])):=by
 cases ds with
 | nil=>exact app_nil (ds:=[v]) h
 | cons d ds=>
  have:=app_tok (e:=116) (b:=4) (m:=m) (es:=(d::ds).map dg) (z:=false) (o:=.full) (y:=.int .u32 v) (by rw[List.length_map];exact h)
  rw[List.length_map] at this
  simp only[rowV,rowM,reduceCtorEq,if_false,NV.av]
  rw[this]
  simp[dg,rowV,rowM]
def refN (n:Nat):NV:=rowN (digs n)
theorem refN_fr (n:Nat):(refN n).fr=refN n:=rowN_fr _
theorem refN_ds (n:Nat):(refN n).ds=digs n:=rowN_ds _
theorem refN_v (n:Nat):(refN n).v=n:=by rw[NV.v,refN_ds,val_digs]
theorem refN_ok {n:Nat} (h:(digs n).length<2^40):NOk (refN n):=rowN_ok (dg_digs n) h
theorem refN_len (n:Nat):lenA false (refN n).av=some (.int .i64 (digs n).length):=by rw[len_nv,refN_ds]
theorem fz_ref (n:Nat):Fz (refN n).av (refN n).av:=by
 have:=fz_nv (refN n)
 rwa [refN_fr] at this
theorem fza_ref (n:Nat):∀ m k,frz m (k+1) (refN n).av=some ((refN n).av,[]):=by
 have:=fza_nv (refN n)
 rwa [refN_fr] at this
theorem W103 (x:NV) (m:Mem) (K:KT):∀ n:Nat,n≤x.ds.length→x.ds.length<2^62→L103_2 x.av (.int .i64 n) m K=K (.exit 0) (O103_2 x.av (.int .i64 (trN x.ds n)) m):=by
 intro n
 induction n with
 | zero=>
  intro _ _
  rw[L103_2_eq]
  simp[binA_gtr,ifA,trN]
 | succ n ih=>
  intro hn hl
  have ih:=ih (by omega) hl
  rw[L103_2_eq]
  have h1:((n+1:Nat):Int)>0:=by omega
  have h2:IntKind.wrap .i64 (((n+1:Nat):Int)-1)=n:=by rw[wrap_i64]<;>omega
  simp only[binA_gtr,oBs,ifA_dec,if_pos h1,binA_sub,h2]
  rw[NV.av,indexA_dg (by omega) (by omega)]
  simp only[oBs,loadA_one,dg,binA_eql,ifA_dec,Int.toNat_natCast]
  rw[trN]
  by_cases h:x.ds.getD n 0=0
  ·rw[if_pos (by omega),if_pos h]
   exact ih
  ·rw[if_neg (by omega),if_neg h]
theorem P103 (x:NV) (dx:Dg x.ds) (hl:x.ds.length<2^41):AP cfg 103 [x.av]=some (refN x.v).av:=by
 have ht:=trN_le x.ds x.ds.length
 refine AP_ofz _ _ (fz_row [] (digs x.v)) (noV_nv _) (m:=rowM [] (digs x.v)) ?_
 rw[T103,len_nv,oBs,W103 x [] _ _ (Nat.le_refl _) (by omega),K103_2_x0]
 have hs:=sliceT_to (z:=x.z) (o:=x.o) (ds:=x.ds) (k:=.i64) (i:=trN x.ds x.ds.length) (by omega) (by omega)
 rw[← NV.av] at hs
 rw[hs,oBs]
 have he:x.ds.take (trN x.ds x.ds.length)=digs x.v:=tr_eq dx
 have hdl:=digs_length_val dx
 rw[Int.toNat_natCast,he,app_nil (by rw[NV.v];simp only[roomA];omega)]
 rfl
theorem V103 {x:NV} (h:NOk x):AP cfg 103 [x.av]=some (refN x.v).av:=P103 x h.dg (by have:=h.len;omega)
theorem V133 {x:NV} {i:Nat} (h:NOk x) (hi:i<2^60):AP cfg 133 [x.av,.int .i64 i]=some (.int .u64 (x.ds.getD i 0:Nat)):=by
 have:=h.dg i
 refine AP_of (m:=[]) ?_ (fz_int _ _ _) (by simp[noV])
 rw[T133,len_nv,oBs,n_lss,oBs,ifA_dec]
 by_cases hl:i<x.ds.length
 ·rw[if_pos hl,index_nv hl,oBs,load_v,oBs,c_dg _ this,oBs]
 ·rw[if_neg hl,getD_out (by omega)];rfl
theorem V97 {x:NV} (h:NOk x):AP cfg 97 [x.av]=some (.bool (canB x.ds)):=by
 have hx:=h.len
 refine AP_of (m:=[]) ?_ (fz_bool _ _) (by simp[noV])
 rw[← rightL_eq h.dg,T97,len_nv,oBs,n_eql0,oBs,ifA_dec]
 by_cases h0:x.ds.length=0
 ·rw[if_pos h0];simp[rightL,h0]
 ·rw[if_neg h0,oBs,i_sub1 (by omega) (by omega),oBs,index_nv (by omega),oBs,load_v,oBs,dg,n_neq0,oBs]
  simp[rightL,h0]
theorem W98 (x y:NV) (m:Mem) (K:KT) (hl:x.ds.length<2^62):∀ n:Nat,n≤x.ds.length→n≤y.ds.length →
  L98_7 x.av y.av (.int .i64 ((n:Int)-1)) m K=if cmpN x.ds y.ds n=0 then K (.exit 0) (O98_7 m) else K .ret (R98_7 (.int .i64 (cmpN x.ds y.ds n)) m):=by
 intro n
 induction n with
 | zero=>
  intro _ _
  rw[L98_7_eq]
  simp[binA_geq,ifA,cmpN]
 | succ n ih=>
  intro hx hy
  have ih:=ih (by omega) (by omega)
  rw[L98_7_eq,show ((n+1:Nat):Int)-1=(n:Nat) by omega,n_geq0,oBs,ifA_true]
  rw[index_nv (by omega),oBs,load_v,oBs,index_nv (by omega),oBs,load_v,oBs,dg,dg,n_neq,oBs,ifA_dec]
  by_cases h:x.ds.getD n 0=y.ds.getD n 0
  ·have hc:cmpN x.ds y.ds (n+1)=cmpN x.ds y.ds n:=by rw[cmpN,if_neg (by omega),if_neg (by omega)]
   rw[hc,if_neg (fun hn=>hn h),i_sub1z (by omega),oBs]
   exact ih
  ·rw[if_pos h,oBs,load_v,oBs,oBs,load_v,oBs,n_lss,oBs,ifA_dec]
   by_cases h2:x.ds.getD n 0<y.ds.getD n 0
   ·have hc:cmpN x.ds y.ds (n+1)=-1:=by rw[cmpN,if_pos h2]
    rw[hc,if_pos h2];rfl
   ·have hc:cmpN x.ds y.ds (n+1)=1:=by rw[cmpN,if_neg h2,if_pos (by omega)]
    rw[hc,if_neg h2];rfl
theorem V98 {x y:NV} (hx:NOk x) (hy:NOk y):AP cfg 98 [x.av,y.av]=some (.int .i64 (cmpV x.v y.v)):=by
 have lx:=hx.v_len'
 have ly:=hy.v_len'
 refine AP_of (m:=[]) ?_ (fz_int _ _ _) (by simp[noV])
 rw[T98,pcall1 (fz_nv x),V103 hx.fr,Option.map_some,oBs,pcall1 (fz_nv y),V103 hy.fr,Option.map_some,oBs]
 rw[show x.fr.v=x.v from rfl,show y.fr.v=y.v from rfl,refN_len,oBs,refN_len,oBs,n_neq,oBs,ifA_dec,← cmpL_digs]
 by_cases h:(digs x.v).length=(digs y.v).length
 ·have hc:cmpL (digs x.v) (digs y.v)=cmpN (digs x.v) (digs y.v) (digs x.v).length:=by
   unfold cmpL
   rw[if_neg (by omega),if_neg (by omega)]
  rw[hc,if_neg (fun hn=>hn h),oBs,i_sub1z (by omega),oBs]
  have:=W98 (refN x.v) (refN y.v) [] (K98_7 (finK cfg.P f98.results.toList)) (by rw[refN_ds];omega) (digs x.v).length (by rw[refN_ds];exact Nat.le_refl _) (by rw[refN_ds];omega)
  rw[this,K98_7_x0,K98_7_ret,refN_ds,refN_ds]
  split
  ·rename_i h0;rw[h0]
  ·rfl
 ·rw[if_pos h,oBs,oBs,n_lss,oBs,ifA_dec]
  unfold cmpL
  by_cases h2:(digs x.v).length<(digs y.v).length
  ·rw[if_pos h2,if_pos h2]
  ·have h3:(digs x.v).length>(digs y.v).length:=by omega
   rw[if_neg h2,if_neg h2,if_pos h3]
theorem V70 {n:Nat} (h:n<18446744073709551616):AP cfg 70 [.int .u64 n]=some (refN n).av:=by
 have hb:∀ a b:Nat,buildSliceA none [.int .u32 (a:Nat),.int .u32 (b:Nat)]=some (NV.av ⟨false,.full,[a,b]⟩):=fun _ _=>rfl
 have hd:Dg [n%4294967296,n/4294967296]:=dg_cons.2 ⟨Nat.mod_lt _ (by omega),dg_one (by omega)⟩
 refine AP_ofz _ _ (fz_ref n) (noV_nv _) (m:=[]) ?_
 rw[T70,c_dn,oBs,u_shr32,oBs,c_dn,oBs,Nat.mod_eq_of_lt (by omega:n/4294967296<4294967296),hb,oBs,pcall1 (fz_nv _),V103 (NOk.fr ⟨hd,by simp,by simp⟩)]
 simp only[Option.map_some,oBs,NV.fr,NV.v,val]
 congr 4
 omega
theorem V126 {x:NV} (h:NOk x):AP cfg 126 [x.av]=some (smallV x.v):=by
 have e:smallV x.v=smallL (refN x.v).ds:=by rw[refN_ds,smallL_eq]
 rw[e]
 refine AP_of (m:=[]) ?_ ((fz_small _).1 _) (by simp[(fz_small _).2])
 rw[T126,pcall1 (fz_nv x),V103 h.fr]
 have dt:Dg (refN x.v).ds:=by rw[refN_ds];exact dg_digs _
 simp only[Option.map_some,oBs]
 rw[show x.fr.v=x.v from rfl]
 generalize refN x.v=a at dt
 rw[len_nv,oBs,n_eql0,oBs,ifA_dec]
 obtain ⟨z,o,ds⟩:=a
 match ds,dt with
 | [],_=>rfl
 | [d],dt=>
  have h0:=(dg_cons.1 dt).1
  rw[if_neg (by simp),n_eql1,oBs,ifA_dec,if_pos (by simp),index_nv0 (by simp),oBs,load_v,oBs]
  simp only[List.getD_cons_zero]
  rw[c_dg d h0]
  rfl
 | [d,e],dt=>
  have h0:=(dg_cons.1 dt).1
  have h1:=(dg_cons.1 (dg_cons.1 dt).2).1
  have i1:indexAddrA none (NV.mk z o [d,e]).av (.int .i64 1)=some (.vptr [dg e]):=rfl
  rw[if_neg (by simp),n_eql1,oBs,ifA_dec,if_neg (by simp),n_eql2,oBs,ifA_dec,if_pos (by simp),i1,oBs,load_v,oBs,c_dg e h1,oBs,u_shl32 h1,oBs,index_nv0 (by simp),oBs,load_v,oBs]
  simp only[List.getD_cons_zero]
  rw[c_dg d h0,oBs,u_orlo h1 h0,oBs]
  simp only[smallL,Nat.add_comm]
 | d::e::f::l,_=>
  rw[if_neg (by simp),n_eql1,oBs,ifA_dec,if_neg (by simp),n_eql2,oBs,ifA_dec,if_neg (by simp)]
  rfl
end Go.Ab
set_option linter.unusedVariables false
set_option linter.unusedSimpArgs false
namespace Go.Ab
open Go.Proofs.Try
theorem u_remB {tk:TK} {a:Nat} (h:a<18446744073709551616):binA tk .rem (.int .u64 a) (.int .u64 4294967296)=some (.int .u64 (a%4294967296:Nat)):=u_rem (b:=4294967296) (by omega) h
theorem u_quoB {tk:TK} {a:Nat} (h:a<18446744073709551616):binA tk .quo (.int .u64 a) (.int .u64 4294967296)=some (.int .u64 (a/4294967296:Nat)):=u_quo (b:=4294967296) (by omega) h
theorem u_gtr0 {tk:TK} {a:Nat}:binA tk .gtr (.int .u64 a) (.int .u64 0)=some (.bool (decide (a>0))):=n_gtr0
theorem mod_mod' (a:Nat):a%4294967296%4294967296=a%4294967296:=Nat.mod_mod _ _
theorem build_u32 (n:Nat):buildSliceA none [.int .u32 (n:Nat)]=some (.lst none false .full [.int .u32 n]):=rfl
theorem B111 {x y:NV} (hx:NOk x) (hy:NOk y) (m:Mem) (K:KT) (i:Nat) (hi:i<2^41) (fx:x.fr=x) (fy:y.fr=y) :
  ((pcall (AP cfg) none (rowM m (addS x.ds y.ds i).1) 133 [x.av,.int .i64 i]).bind fun r3=>
  (pcall (AP cfg) none r3.2 133 [y.av,.int .i64 i]).bind fun r4=>
  (binA .other .add r3.1 r4.1).bind fun v5=>
  (binA .other .add v5 (.int .u64 (addS x.ds y.ds i).2)).bind fun v6=>
  (binA .other .rem v6 (.int .u64 4294967296)).bind fun v7=>
  (convA .u32 v7).bind fun v8=>
  (buildSliceA none [v8]).bind fun v9=>
  (appA none false 116 none 4 r4.2 (rowV m (addS x.ds y.ds i).1).av v9).bind fun r10=>
  (binA .other .quo v6 (.int .u64 4294967296)).bind fun v11=>
  (binA .other .add (.int .i64 i) (.int .i64 1)).bind fun v12=>
  L111_4 x.av y.av r10.1 v11 v12 r10.2 K) =
  L111_4 x.av y.av (rowV m (addS x.ds y.ds (i+1)).1).av (.int .u64 (addS x.ds y.ds (i+1)).2) (.int .i64 (i+1:Nat)) (rowM m (addS x.ds y.ds (i+1)).1) K:=by
 have fzx:=fz_nv x
 have fzy:=fz_nv y
 rw[fx] at fzx
 rw[fy] at fzy
 have hc:=addS_carry hx.dg hy.dg i
 have h1:=hx.dg i
 have h2:=hy.dg i
 have hl:=addS_length x.ds y.ds i
 have e:(addS x.ds y.ds i).2+x.ds.getD i 0+y.ds.getD i 0=x.ds.getD i 0+y.ds.getD i 0+(addS x.ds y.ds i).2:=by omega
 simp only[addS,e]
 rw[pcall2 fzx (fz_int _ _),V133 hx (by omega),Option.map_some,oBs,pcall2 fzy (fz_int _ _),V133 hy (by omega),Option.map_some,oBs,
  u_add (by omega),oBs,u_add (by omega),oBs,u_remB (by omega),oBs,c_dn,oBs,mod_mod',build_u32,oBs,
  app_row1 (by rw[hl];simp only[roomA];omega),oBs,u_quoB (by omega),oBs,i_add1 (by omega),oBs]
def addT (a b:List Nat):Nat:=if (addS a b (max a.length b.length)).2>0 then max a.length b.length+1 else max a.length b.length
theorem addT_val {a b:List Nat} (ha:Dg a) (hb:Dg b):val (addS a b (addT a b)).1=val a+val b:=by
 have hc:=addS_carry ha hb (max a.length b.length)
 have e1:∀ n,max a.length b.length≤n→(addS a b n).2=0→val (addS a b n).1=val a+val b:=by
  intro n hn h0
  have:=addS_val a b n
  rw[h0,Nat.mul_zero,Nat.add_zero,vs_all (by omega),vs_all (by omega)] at this
  exact this
 unfold addT
 split
 ·refine e1 _ (by omega) ?_
  have o1:a.getD (max a.length b.length) 0=0:=getD_out (by omega)
  have o2:b.getD (max a.length b.length) 0=0:=getD_out (by omega)
  simp only[addS,o1,o2]
  omega
 ·exact e1 _ (Nat.le_refl _) (by omega)
theorem W111 {x y:NV} (hx:NOk x) (hy:NOk y) (m:Mem) (K:KT) (fx:x.fr=x) (fy:y.fr=y):∀ j i:Nat,i+j=max x.ds.length y.ds.length →
  ∃ v,L111_4 x.av y.av (rowV m (addS x.ds y.ds i).1).av (.int .u64 (addS x.ds y.ds i).2) (.int .i64 i) (rowM m (addS x.ds y.ds i).1) K
   = K (.exit 0) (O111_4 (rowV m (addS x.ds y.ds (addT x.ds y.ds)).1).av v):=by
 have lx:=hx.len
 have ly:=hy.len
 have lst:∀ i,x.ds.length≤i→y.ds.length≤i→i<2^41→(addS x.ds y.ds i).2=0 →
   L111_4 x.av y.av (rowV m (addS x.ds y.ds i).1).av (.int .u64 (addS x.ds y.ds i).2) (.int .i64 i) (rowM m (addS x.ds y.ds i).1) K=K (.exit 0) (O111_4 (rowV m (addS x.ds y.ds i).1).av (rowM m (addS x.ds y.ds i).1)):=by
  intro i h1 h2 h3 h4
  rw[L111_4_eq,len_nv,oBs,n_lss,oBs,ifA_dec,if_neg (by omega),len_nv,oBs,n_lss,oBs,ifA_dec,if_neg (by omega),u_gtr0,oBs,ifA_dec,if_neg (by omega)]
 intro j
 induction j with
 | zero=>
  intro i hi
  have hi:i=max x.ds.length y.ds.length:=by omega
  by_cases hc:(addS x.ds y.ds i).2>0
  ·have ht:addT x.ds y.ds=i+1:=by unfold addT;rw[← hi,if_pos hc]
   have o1:x.ds.getD i 0=0:=getD_out (by omega)
   have o2:y.ds.getD i 0=0:=getD_out (by omega)
   have hcc:=addS_carry hx.dg hy.dg i
   refine ⟨rowM m (addS x.ds y.ds (i+1)).1,?_⟩
   rw[L111_4_eq,len_nv,oBs,n_lss,oBs,ifA_dec,if_neg (by omega),len_nv,oBs,n_lss,oBs,ifA_dec,if_neg (by omega),u_gtr0,oBs,ifA_dec,if_pos hc,B111 hx hy m K i (by omega) fx fy,ht]
   exact lst (i+1) (by omega) (by omega) (by omega) (by simp only[addS,o1,o2];omega)
  ·have ht:addT x.ds y.ds=i:=by unfold addT;rw[← hi,if_neg hc]
   rw[ht]
   exact ⟨_,lst i (by omega) (by omega) (by omega) (by omega)⟩
 | succ j ih=>
  intro i hi
  obtain ⟨v,ih⟩:=ih (i+1) (by omega)
  refine ⟨v,?_⟩
  rw[L111_4_eq,len_nv,oBs,n_lss,oBs,ifA_dec]
  by_cases h1:i<x.ds.length
  ·rw[if_pos h1,B111 hx hy m K i (by omega) fx fy]
   exact ih
  ·rw[if_neg h1,len_nv,oBs,n_lss,oBs,ifA_dec,if_pos (by omega),B111 hx hy m K i (by omega) fx fy]
   exact ih
theorem V111 {x y:NV} (hx:NOk x) (hy:NOk y) (fx:x.fr=x) (fy:y.fr=y):AP cfg 111 [x.av,y.av]=some (refN (x.v+y.v)).av:=by
 have lx:=hx.len
 have ly:=hy.len
 obtain ⟨v,hw⟩:=W111 hx hy [] (K111_4 (finK cfg.P f111.results.toList)) fx fy (max x.ds.length y.ds.length) 0 (by omega)
 have hl:=addS_length x.ds y.ds (addT x.ds y.ds)
 have hT:addT x.ds y.ds≤max x.ds.length y.ds.length+1:=by unfold addT;split<;>omega
 have hd:=addS_dg x.ds y.ds (addT x.ds y.ds)
 refine AP_ofz _ _ (fz_ref _) (noV_nv _) (m:=v) ?_
 rw[T111]
 refine hw.trans ?_
 rw[K111_4_x0,pcall1 (fz_row _ _),P103 _ (by rw[rowN_ds];exact hd) (by rw[rowN_ds,hl];omega),rowN_v,addT_val hx.dg hy.dg]
 rfl
def subA (a b:List Nat):Nat→List Nat×Nat
 | 0=>([],0)
 | i+1=>if a.getD i 0<b.getD i 0+(subA a b i).2 then ((subA a b i).1++[a.getD i 0+4294967296-(b.getD i 0+(subA a b i).2)],1)
  else ((subA a b i).1++[a.getD i 0-(b.getD i 0+(subA a b i).2)],0)
theorem subA_length (a b:List Nat):∀ i,(subA a b i).1.length=i
 | 0=>rfl
 | i+1=>by simp only[subA];split<;>simp[subA_length a b i]
theorem subA_borrow (a b:List Nat):∀ i,(subA a b i).2≤1
 | 0=>by simp[subA]
 | i+1=>by simp only[subA];split<;>simp
theorem subA_dg {a b:List Nat} (ha:Dg a) (hb:Dg b):∀ i,Dg (subA a b i).1
 | 0=>dg_nil
 | i+1=>by
  have:=subA_borrow a b i
  have h1:=ha i
  have h2:=hb i
  simp only[subA]
  split
  ·exact dg_app (subA_dg ha hb i) (dg_one (by omega))
  ·exact dg_app (subA_dg ha hb i) (dg_one (by omega))
theorem subA_val {a b:List Nat} (ha:Dg a) (hb:Dg b) (i:Nat):val (subA a b i).1+vs b i=vs a i+4294967296^i*(subA a b i).2:=by
 induction i with
 | zero=>
  rw[subA,vs_zero,vs_zero]
  rfl
 | succ i ih=>
  have hl:=subA_length a b i
  have hc:=subA_borrow a b i
  have h1:=ha i
  have h2:=hb i
  rw[vs_succ,vs_succ,Nat.pow_succ,subA]
  obtain ⟨s1,s2⟩:=subS_step (x:=a.getD i 0) (y:=b.getD i 0) (v1:=4294967296) ih
  rw[Nat.add_comm (subA a b i).2] at s1 s2
  split
  ·rename_i hlt
   simp only[]
   rw[val_app,hl,val,val,Nat.mul_zero,Nat.add_zero]
   exact s1 hlt (by omega)
  ·rename_i hlt
   simp only[]
   rw[val_app,hl,val,val,Nat.mul_zero,Nat.add_zero]
   exact s2 hlt
theorem subA_end {a b:List Nat} (ha:Dg a) (hb:Dg b) (h:val b≤val a):val (subA a b a.length).1=val a-val b:=by
 have h1:=subA_val ha hb a.length
 rw[vs_all (Nat.le_refl _),vs_cut ha h] at h1
 have h2:=val_lt (subA_dg ha hb a.length)
 rw[subA_length] at h2
 have h3:=val_lt ha
 have hc:=subA_borrow a b a.length
 have:(subA a b a.length).2=0:=by
  apply Classical.byContradiction
  intro hn
  have e:(subA a b a.length).2=1:=by omega
  rw[e,Nat.mul_one] at h1
  omega
 rw[this,Nat.mul_zero,Nat.add_zero] at h1
 omega
theorem W112 {x y:NV} (hx:NOk x) (hy:NOk y) (m:Mem) (K:KT) (fx:x.fr=x) (fy:y.fr=y):∀ j i:Nat,i+j=x.ds.length →
  L112_6 x.av y.av (rowV m (subA x.ds y.ds i).1).av (.int .u64 (subA x.ds y.ds i).2) (.int .i64 i) (rowM m (subA x.ds y.ds i).1) K
   = K (.exit 0) (O112_6 (rowV m (subA x.ds y.ds x.ds.length).1).av (rowM m (subA x.ds y.ds x.ds.length).1)):=by
 have lx:=hx.len
 have fzx:=fz_nv x
 have fzy:=fz_nv y
 rw[fx] at fzx
 rw[fy] at fzy
 intro j
 induction j with
 | zero=>
  intro i hi
  have:i=x.ds.length:=by omega
  subst this
  rw[L112_6_eq,len_nv,oBs,n_lss,oBs,ifA_dec,if_neg (by omega)]
 | succ j ih=>
  intro i hi
  have ih:=ih (i+1) (by omega)
  have hc:=subA_borrow x.ds y.ds i
  have h1:=hx.dg i
  have h2:=hy.dg i
  have hl:=subA_length x.ds y.ds i
  have s1:binA .other .mul (.int .u64 1) (.int .u64 4294967296)=some (.int .u64 (4294967296:Nat)):=rfl
  have s0:binA .other .mul (.int .u64 0) (.int .u64 4294967296)=some (.int .u64 (0:Nat)):=rfl
  rw[L112_6_eq,len_nv,oBs,n_lss,oBs,ifA_dec,if_pos (by omega),pcall2 fzy (fz_int _ _),V133 hy (by omega),Option.map_some,oBs,u_add (by omega),oBs,pcall2 fzx (fz_int _ _),V133 hx (by omega),Option.map_some,oBs,n_lss,oBs,ifA_dec]
  simp only[subA] at ih
  by_cases h:x.ds.getD i 0<y.ds.getD i 0+(subA x.ds y.ds i).2
  ·rw[if_pos h] at ih ⊢
   rw[pcall2 fzx (fz_int _ _),V133 hx (by omega),Option.map_some,oBs,s1,oBs,u_add (by omega),oBs,u_sub (by omega) (by omega),oBs,c_dn,oBs,build_u32,oBs,Nat.mod_eq_of_lt (by omega),
    app_row1 (by rw[hl];simp only[roomA];omega),oBs,i_add1 (by omega),oBs]
   exact ih
  ·rw[if_neg h] at ih ⊢
   rw[pcall2 fzx (fz_int _ _),V133 hx (by omega),Option.map_some,oBs,s0,oBs,u_add (by omega),oBs,u_sub (by omega) (by omega),oBs,c_dn,oBs,build_u32,oBs,Nat.mod_eq_of_lt (by omega),
    app_row1 (by rw[hl];simp only[roomA];omega),oBs,i_add1 (by omega),oBs]
   exact ih
def subR (x y:NV):AV:=if x.v<y.v then .tup [nilN,.int .i64 1] else .tup [(refN (x.v-y.v)).av,.int .i64 0]
theorem V112 {x y:NV} (hx:NOk x) (hy:NOk y) (fx:x.fr=x) (fy:y.fr=y):AP cfg 112 [x.av,y.av]=some (subR x y):=by
 have lx:=hx.len
 have fzx:=fz_nv x
 have fzy:=fz_nv y
 rw[fx] at fzx
 rw[fy] at fzy
 unfold subR
 by_cases h:x.v<y.v
 ·rw[if_pos h]
  refine AP_ofz _ _ (fz_tup2 fza_nil (fza_int _ _)) rfl (m:=[]) ?_
  rw[T112,pcall2 fzx fzy,V98 hx hy,Option.map_some,oBs,binA_lss,oBs,ifA_dec,cmpV,if_pos h,if_pos (by omega)]
 ·rw[if_neg h]
  have hl:=subA_length x.ds y.ds x.ds.length
  have hd:=subA_dg hx.dg hy.dg x.ds.length
  refine AP_ofz _ _ (fz_tup2 (fza_ref (x.v-y.v)) (fza_int _ _)) rfl (m:=rowM [] (subA x.ds y.ds x.ds.length).1) ?_
  have hc:¬ cmpV x.v y.v<0:=by unfold cmpV;rw[if_neg h];split<;>omega
  rw[T112,pcall2 fzx fzy,V98 hx hy,Option.map_some,oBs,binA_lss,oBs,ifA_dec,if_neg hc]
  refine (W112 hx hy [] _ fx fy x.ds.length 0 (by omega)).trans ?_
  rw[K112_6_x0,pcall1 (fz_row _ _),P103 _ (by rw[rowN_ds];exact hd) (by rw[rowN_ds,hl];omega),rowN_v,subA_end hx.dg hy.dg (Nat.le_of_not_lt h)]
  rfl
theorem W72b (x y:NV) (m:Mem) (K:KT) (i n:Nat) (s:List Nat×Nat) (hl:n<2^42) (hn:s.1.length=n) (hi:i+y.ds.length≤n) (hix:i<x.ds.length) (dx:Dg x.ds) (dy:Dg y.ds) (hs:Dg s.1) (hc:s.2<4294967296):∀ j k:Nat,k+j=y.ds.length →
  L72_8 x.av y.av (.arr m.length 0 n none) (.int .i64 i) (.int .u64 (mulS y.ds (x.ds.getD i 0) i k s).2) (.int .i64 k) (m++[oc (mulS y.ds (x.ds.getD i 0) i k s).1]) K
   = K (.exit 2) (O72_8 x.av y.av (.arr m.length 0 n none) (.int .i64 i) (.int .u64 (mulS y.ds (x.ds.getD i 0) i y.ds.length s).2) (m++[oc (mulS y.ds (x.ds.getD i 0) i y.ds.length s).1])):=by
 intro j
 induction j with
 | zero=>
  intro k hk
  have:k=y.ds.length:=by omega
  subst this
  rw[L72_8_eq,len_nv,oBs,n_lss,oBs,ifA_dec,if_neg (by omega)]
 | succ j ih=>
  intro k hk
  have ih:=ih (k+1) (by omega)
  have hx:=dx i
  obtain ⟨h1,h2⟩:=mulS_bound (i:=i) dy hx hs hc k
  have h3:=h1 (i+k)
  have h4:=dy k
  have h5:x.ds.getD i 0*y.ds.getD k 0≤4294967295*4294967295:=Nat.mul_le_mul (by omega) (by omega)
  have hlen:=mulS_length y.ds (x.ds.getD i 0) i s k
  have hget:∀ l,(m++[oc l])[m.length]?=some (oc l):=fun l=>List.getElem?_concat_length ..
  have hset:∀ l l',(m++[oc l]).set m.length (oc l')=m++[oc l']:=by
   intro l l'
   rw[List.set_append_right _ _ (Nat.le_refl _),Nat.sub_self,List.set_cons_zero]
  rw[L72_8_eq,len_nv,oBs,n_lss,oBs,ifA_dec,if_pos (by omega)]
  simp only[mulS] at ih
  generalize mulS y.ds (x.ds.getD i 0) i k s=t at *
  rw[index_nv hix,oBs,load_v,oBs,c_dg _ hx,oBs,index_nv (by omega),oBs,load_v,oBs,c_dg _ h4,oBs,u_mul (by omega),oBs,i_add (by omega),oBs,index_arr (by omega),oBs,load_at (hget _) (by omega),oBs,c_dg _ h3,oBs,
   u_add (by omega),oBs,u_add (by omega),oBs,oBs,u_remB (by omega),oBs,c_dn,oBs,mod_mod',index_arr (by omega),oBs,store_at (hget _) (by omega),hset,oBs,u_quoB (by omega),oBs,i_add1 (by omega),oBs]
  have e:t.2+(t.1.getD (i+k) 0+x.ds.getD i 0*y.ds.getD k 0)=x.ds.getD i 0*y.ds.getD k 0+t.1.getD (i+k) 0+t.2:=by omega
  rw[e] at ih
  exact ih
theorem W72 (x y:NV) (m:Mem) (K:KT) (hx:x.ds.length<2^40) (hy:y.ds.length<2^40) (dx:Dg x.ds) (dy:Dg y.ds):∀ j i:Nat,i+j=x.ds.length →
  L72_4 x.av y.av (.arr m.length 0 (x.ds.length+y.ds.length) none) (.int .i64 i) (m++[oc (mulO x.ds y.ds i)]) K
   = K (.exit 0) (O72_4 (.arr m.length 0 (x.ds.length+y.ds.length) none) (m++[oc (mulO x.ds y.ds x.ds.length)])):=by
 intro j
 induction j with
 | zero=>
  intro i hi
  have:i=x.ds.length:=by omega
  subst this
  rw[L72_4_eq,len_nv,oBs,n_lss,oBs,ifA_dec,if_neg (by omega)]
 | succ j ih=>
  intro i hi
  have ih:=ih (i+1) (by omega)
  rw[L72_4_eq,len_nv,oBs,n_lss,oBs,ifA_dec,if_pos (by omega)]
  have hb:=W72b x y m (K72_8 K) i (x.ds.length+y.ds.length) (mulO x.ds y.ds i,0) (by omega) (mulO_length ..) (by omega) (by omega) dx dy (mulO_dg dx dy i) (by simp) y.ds.length 0 (by omega)
  refine Eq.trans ?_ (hb.trans ?_)
  ·rfl
  obtain ⟨h1,h2⟩:=mulS_bound (i:=i) (s:=(mulO x.ds y.ds i,0)) dy (dx i) (mulO_dg dx dy i) (by simp) y.ds.length
  have hl:=mulS_length y.ds (x.ds.getD i 0) i (mulO x.ds y.ds i,0) y.ds.length
  simp only[mulO_length] at hl
  have hget:∀ l,(m++[oc l])[m.length]?=some (oc l):=fun l=>List.getElem?_concat_length ..
  have hset:∀ l l',(m++[oc l]).set m.length (oc l')=m++[oc l']:=by
   intro l l'
   rw[List.set_append_right _ _ (Nat.le_refl _),Nat.sub_self,List.set_cons_zero]
  rw[K72_8_x2,len_nv,oBs,i_add (by omega),oBs,c_dn,oBs,Nat.mod_eq_of_lt h2,index_arr (by omega),oBs,store_at (hget _) (by omega),hset,oBs,i_add1 (by omega),oBs]
  exact ih
theorem V72 {x y:NV} (hx:NOk x) (hy:NOk y):AP cfg 72 [x.av,y.av]=some (refN (x.v*y.v)).av:=by
 have lx:=hx.v_len'
 have ly:=hy.v_len'
 have hd:=mulO_dg (dg_digs x.v) (dg_digs y.v) (digs x.v).length
 have hlen:=mulO_length (digs x.v) (digs y.v) (digs x.v).length
 have hval:=mulO_val (digs x.v) (digs y.v) (digs x.v).length (Nat.le_refl _)
 rw[vs_all (Nat.le_refl _),val_digs,val_digs] at hval
 refine AP_ofz _ _ (fz_ref _) (noV_nv _) (m:=[none]) ?_
 rw[T72,pcall1 (fz_nv x),V103 hx.fr,Option.map_some,oBs,pcall1 (fz_nv y),V103 hy.fr,Option.map_some,oBs]
 rw[show x.fr.v=x.v from rfl,show y.fr.v=y.v from rfl,refN_len,oBs,refN_len,oBs,i_add (by omega),oBs,make_oc (by omega) (by omega),oBs]
 have hw:=W72 (refN x.v) (refN y.v) [] (K72_4 (finK cfg.P f72.results.toList)) (by rw[refN_ds];omega) (by rw[refN_ds];omega) (by rw[refN_ds];exact dg_digs _) (by rw[refN_ds];exact dg_digs _) (digs x.v).length 0 (by rw[refN_ds];omega)
 simp only[refN_ds] at hw
 refine Eq.trans ?_ (hw.trans ?_)
 ·rfl
 have hp:=pcall_at (cp:=AP cfg) (g:=103) (m:=[]++[oc (mulO (digs x.v) (digs y.v) (digs x.v).length)]) (nm:=0) (ds:=mulO (digs x.v) (digs y.v) (digs x.v).length) rfl
 rw[hlen] at hp
 rw[K72_4_x0,show ([]:Mem).length=0 from rfl,hp,P103 _ hd (by simp only[hlen];omega)]
 simp only[NV.v] at hval ⊢
 rw[hval]
 rfl
theorem W129 (x:NV) (d:Nat) (m:Mem) (K:KT) (hl:x.ds.length<2^40) (dx:Dg x.ds) (hd:0<d) (hd':d<4294967296):∀ j k:Nat,k+j=x.ds.length →
  L129_4 x.av (.int .u64 d) (.arr m.length 0 x.ds.length none) (.int .u64 (shS x.ds d k).2) (.int .i64 ((j:Int)-1)) (m++[oc (shS x.ds d k).1]) K
   = K (.exit 0) (O129_4 (.arr m.length 0 x.ds.length none) (.int .u64 (shS x.ds d x.ds.length).2) (m++[oc (shS x.ds d x.ds.length).1])):=by
 intro j
 induction j with
 | zero=>
  intro k hk
  have:k=x.ds.length:=by omega
  subst this
  rw[L129_4_eq]
  simp[binA_geq,ifA]
 | succ j ih=>
  intro k hk
  have ih:=ih (k+1) (by omega)
  have hr:=shS_rest (a:=x.ds) hd k
  have hq:=shS_quo (a:=x.ds) dx hd k j
  have hlen:=shS_length x.ds d k
  have hj:=dx j
  have ej:x.ds.length-1-k=j:=by omega
  have mB:∀ a:Nat,a<4294967296→binA .other .mul (.int .u64 a) (.int .u64 4294967296)=some (.int .u64 (a*4294967296:Nat)):=fun a h=>u_mul (b:=4294967296) (by omega)
  have hset:∀ l l',(m++[oc l]).set m.length (oc l')=m++[oc l']:=by
   intro l l'
   rw[List.set_append_right _ _ (Nat.le_refl _),Nat.sub_self,List.set_cons_zero]
  rw[L129_4_eq,show ((j+1:Nat):Int)-1=(j:Nat) by omega,n_geq0,oBs,ifA_true]
  simp only[shS,ej] at ih
  generalize shS x.ds d k=t at *
  rw[mB _ (by omega),oBs,index_nv (by omega),oBs,load_v,oBs,c_dg _ hj,oBs,u_add (by omega),oBs,u_quo (by omega) (by omega),oBs,c_dn,oBs,index_arr (by omega),oBs,Nat.mod_eq_of_lt hq,store_at (List.getElem?_concat_length ..) (by omega),hset,oBs,u_rem (by omega) (by omega),oBs,i_sub1z (by omega),oBs]
  exact ih
theorem V129 {x:NV} {d:Nat} (hx:NOk x) (hd:0<d) (hd':d<4294967296):AP cfg 129 [x.av,.int .u64 d]=some (.tup [(refN (x.v/d)).av,.int .u64 (x.v%d:Nat)]):=by
 have lx:=hx.len
 obtain ⟨k1,k2⟩:=short_eq hx.dg hd
 refine AP_ofz _ _ (fz_tup2 (fza_ref (x.v/d)) (fza_int _ _)) rfl (m:=[none]) ?_
 rw[T129,len_nv,oBs,make_oc (by omega) (by omega),oBs,oBs,i_sub1z (by omega),oBs]
 have:=W129 x d [] (K129_4 (finK cfg.P f129.results.toList)) lx hx.dg hd hd' x.ds.length 0 (by omega)
 refine this.trans ?_
 have hp:=pcall_at (cp:=AP cfg) (g:=103) (m:=[]++[oc (shS x.ds d x.ds.length).1]) (nm:=0) (ds:=(shS x.ds d x.ds.length).1) rfl
 rw[shS_length] at hp
 rw[shortL,tr_eq (shS_dg hx.dg hd _)] at k1
 rw[K129_4_x0,show ([]:Mem).length=0 from rfl,hp,P103 _ (shS_dg hx.dg hd _) (by simp only[shS_length];omega),k2]
 simp only[Option.map_some,oBs,NV.v]
 rw[digs_inj k1]
 rfl
theorem V128 {x:NV} (hx:NOk x):AP cfg 128 [x.av]=some (refN (x.v/2)).av:=by
 refine AP_ofz _ _ (fz_ref _) (noV_nv _) (m:=[]) ?_
 have h:=V129 (d:=2) (refN_ok hx.v_len') (by omega) (by omega)
 rw[refN_v] at h
 rw[T128,pcall1 (fz_nv x),V103 hx.fr,Option.map_some,oBs,show x.fr.v=x.v from rfl,pcall2 (fz_ref _) (fz_int _ _)]
 simp only[]
 rw[show AV.int .u64 2=.int .u64 ((2:Nat):Int) from rfl,h]
 rfl
theorem getD0_mod (ds:List Nat):ds.getD 0 0%2=val ds%2:=by
 cases ds with
 | nil=>rfl
 | cons d ds=>rw[List.getD_cons_zero,val];omega
theorem V127 {x:NV} (hx:NOk x):AP cfg 127 [x.av]=some (.bool (decide (x.v%2=0))):=by
 have h0:=hx.dg 0
 have h:=V133 (i:=0) hx.fr (by omega)
 refine AP_of (m:=[]) ?_ (fz_bool _ _) (by simp[noV])
 rw[T127,pcall2 (fz_nv x) (fz_int _ _),show AV.int .i64 0=.int .i64 ((0:Nat):Int) from rfl,h,Option.map_some,oBs]
 simp only[NV.fr]
 rw[show AV.int .u64 2=.int .u64 ((2:Nat):Int) from rfl,u_rem (by omega) (by omega),oBs,n_eql0,oBs,getD0_mod]
 rfl
end Go.Ab
set_option linter.unusedVariables false
set_option linter.unusedSimpArgs false
namespace Go.Ab
open Go.Proofs.Try
def timS (b:List Nat) (d s:Nat):Nat→List Nat×Nat
 | 0=>(List.replicate s 0,0)
 | i+1=>((timS b d s i).1++[(b.getD i 0*d+(timS b d s i).2)%4294967296],(b.getD i 0*d+(timS b d s i).2)/4294967296)
theorem timS_length (b:List Nat) (d s:Nat):∀ i,(timS b d s i).1.length=s+i
 | 0=>by simp[timS]
 | i+1=>by simp only[timS,List.length_append,timS_length b d s i,List.length_cons,List.length_nil];omega
theorem timS_carry {b:List Nat} {d:Nat} (hb:Dg b) (hd:d<4294967296) (s:Nat):∀ i,(timS b d s i).2<4294967296
 | 0=>by simp[timS]
 | i+1=>by
  have:=timS_carry hb hd s i
  have h1:=hb i
  have h5:b.getD i 0*d≤4294967295*4294967295:=Nat.mul_le_mul (by omega) (by omega)
  simp only[timS]
  omega
theorem timS_dg (b:List Nat) (d s:Nat):∀ i,Dg (timS b d s i).1
 | 0=>dg_rep _
 | i+1=>dg_app (timS_dg b d s i) (dg_one (Nat.mod_lt _ (by omega)))
theorem timS_val (b:List Nat) (d s:Nat):∀ i,val (timS b d s i).1+4294967296^(s+i)*(timS b d s i).2=4294967296^s*(vs b i*d)
 | 0=>by simp[timS,val_rep,vs_zero]
 | i+1=>by
  have ih:=timS_val b d s i
  simp only[timS,val_app,timS_length,val,vs_succ]
  have h1:=pmd (4294967296^(s+i)) 4294967296 (b.getD i 0*d+(timS b d s i).2)
  generalize hw:b.getD i 0*d+(timS b d s i).2=w at *
  rw[← hw,Nat.mul_add,hw] at h1
  have e:4294967296^s*((vs b i+4294967296^i*b.getD i 0)*d)=4294967296^s*(vs b i*d)+4294967296^(s+i)*(b.getD i 0*d):=by
   rw[Nat.add_mul,Nat.mul_add,Nat.pow_add,Nat.mul_assoc,Nat.mul_assoc]
  rw[e,← ih,← Nat.add_assoc,Nat.pow_succ,Nat.mul_zero,Nat.add_zero]
  omega
def tV (m:Mem) (i:Nat) (ds:List Nat):NV:=if i=0 then ⟨false,.full,ds⟩ else ⟨false,.tok m.length 116,ds⟩
def tM (m:Mem) (i:Nat) (ds:List Nat):Mem:=if i=0 then m else tokM m ds.length
theorem app_t {m:Mem} {i:Nat} {ds:List Nat} {v:Nat} (h:(ds.length+1)*4≤roomA):appA none false 116 none 4 (tM m i ds) (tV m i ds).av (.lst none false .full [.int .u32 v])=some ((tV m (i+1) (ds++[v])).av,tM m (i+1) (ds++[v])):=by
 by_cases hi:i=0
 ·subst hi
  simp only[tV,tM,if_true,NV.av,appA,List.length_map,List.length_cons,List.length_nil,Nat.zero_add,h,newAt,tokM,Sh.size,Bool.false_eq_true,if_false,true_or,List.map_append,List.map_cons,List.map_nil,dg,List.length_append,Nat.add_eq_zero_iff,Nat.one_ne_zero,and_false,Nat.succ_ne_zero]
 ·have:=app_tok (e:=116) (b:=4) (m:=m) (es:=ds.map dg) (z:=false) (o:=.full) (y:=.int .u32 v) (by rw[List.length_map];exact h)
  rw[List.length_map] at this
  simp only[tV,tM,if_neg hi,NV.av,if_neg (Nat.succ_ne_zero i)]
  rw[this]
  simp[dg]
theorem W131 (x:NV) (d s:Nat) (m:Mem) (K:KT) (hl:x.ds.length<2^40) (dx:Dg x.ds) (hd:d<4294967296) (hs:s<2^40):∀ j i:Nat,i+j=x.ds.length →
  L131_4 x.av (.int .u64 d) (tV m i (timS x.ds d s i).1).av (.int .u64 (timS x.ds d s i).2) (.int .i64 i) (tM m i (timS x.ds d s i).1) K
   = K (.exit 0) (O131_4 (tV m x.ds.length (timS x.ds d s x.ds.length).1).av (.int .u64 (timS x.ds d s x.ds.length).2) (tM m x.ds.length (timS x.ds d s x.ds.length).1)):=by
 intro j
 induction j with
 | zero=>
  intro i hi
  have:i=x.ds.length:=by omega
  subst this
  rw[L131_4_eq,len_nv,oBs,n_lss,oBs,ifA_dec,if_neg (by omega)]
 | succ j ih=>
  intro i hi
  have ih:=ih (i+1) (by omega)
  have h1:=dx i
  have h2:=timS_carry dx hd s i
  have hlen:=timS_length x.ds d s i
  have h5:x.ds.getD i 0*d≤4294967295*4294967295:=Nat.mul_le_mul (by omega) (by omega)
  simp only[timS] at ih
  rw[L131_4_eq,len_nv,oBs,n_lss,oBs,ifA_dec,if_pos (by omega),index_nv (by omega),oBs,load_v,oBs,c_dg _ h1,oBs,u_mul (by omega),oBs,u_add (by omega),oBs,u_remB (by omega),oBs,c_dn,oBs,mod_mod',build_u32,oBs,
   app_t (by rw[hlen];simp only[roomA];omega),oBs,u_quoB (by omega),oBs,i_add1 (by omega),oBs]
  exact ih
theorem V131 {x:NV} {d s:Nat} (hx:NOk x) (hd:d<4294967296) (hs:s<2^40):AP cfg 131 [x.av,.int .u64 d,.int .i64 s]=some (refN (4294967296^s*(x.v*d))).av:=by
 have lx:=hx.len
 have hlen:=timS_length x.ds d s x.ds.length
 have hc:=timS_carry hx.dg hd s x.ds.length
 have hv:=timS_val x.ds d s x.ds.length
 rw[vs_all (Nat.le_refl _)] at hv
 have hdg:Dg ((timS x.ds d s x.ds.length).1++[(timS x.ds d s x.ds.length).2]):=dg_app (timS_dg _ _ _ _) (dg_one hc)
 have hmk:makeT none none (.int .u32 0) 4 [] (.int .i64 s) (.int .i64 s)=some ((NV.mk false .full (List.replicate s 0)).av,[]):=by
  have h1:(s:Int)*4≤281474976710656:=by omega
  have h2:(s:Int)≤9223372036854775807:=by omega
  have h3:(0:Int)≤s:=by omega
  simp only[makeT,NV.av,List.map_replicate,dg]
  rw[if_pos ⟨⟨h3,trivial,h1,h2⟩,rfl,rfl⟩]
  rfl
 refine AP_ofz _ _ (fz_ref _) (noV_nv _) (m:=tM [] (x.ds.length+1) ((timS x.ds d s x.ds.length).1++[(timS x.ds d s x.ds.length).2])) ?_
 rw[T131,hmk,oBs]
 refine (W131 x d s [] _ lx hx.dg hd hs x.ds.length 0 (by omega)).trans ?_
 have hfz:Fz (tV [] (x.ds.length+1) ((timS x.ds d s x.ds.length).1++[(timS x.ds d s x.ds.length).2])).av (NV.mk false .no ((timS x.ds d s x.ds.length).1++[(timS x.ds d s x.ds.length).2])).av:=by
  have:=fz_nv (tV [] (x.ds.length+1) ((timS x.ds d s x.ds.length).1++[(timS x.ds d s x.ds.length).2]))
  unfold tV at this ⊢
  rw[if_neg (by omega)] at this ⊢
  exact this
 rw[K131_4_x0,c_dn,oBs,build_u32,oBs,Nat.mod_eq_of_lt hc,app_t (by rw[hlen];simp only[roomA];omega),oBs,pcall1 hfz,P103 _ hdg (by simp only[List.length_append,hlen,List.length_cons,List.length_nil];omega)]
 simp only[Option.map_some,oBs,NV.v] at hv ⊢
 rw[val_app,hlen,val,val,Nat.mul_zero,Nat.add_zero,hv]
theorem q_le {a b p q top lead:Nat} (hq:q*b≤a) (ha:a<(top+1)*p) (hb:lead*p≤b) (hl:0<lead):q≤top/lead:=by
 rw[Nat.le_div_iff_mul_le hl]
 have h1:q*lead*p≤q*b:=by rw[Nat.mul_assoc];exact Nat.mul_le_mul_left _ hb
 have h2:q*lead*p<(top+1)*p:=by omega
 have:=Nat.lt_of_mul_lt_mul_right h2
 omega
theorem q_ge {a b p top lead:Nat} (ha:top*p≤a) (hb:b≤(lead+1)*p) (hb0:0<b):top/(lead+1)≤a/b:=by
 rw[Nat.le_div_iff_mul_le hb0]
 have h1:top/(lead+1)*b≤top/(lead+1)*((lead+1)*p):=Nat.mul_le_mul_left _ hb
 rw[← Nat.mul_assoc] at h1
 have h2:top/(lead+1)*(lead+1)*p≤top*p:=Nat.mul_le_mul_right _ (Nat.div_mul_le_self _ _)
 omega
theorem two_top {a:List Nat} {k:Nat} (ha:Dg a) (h:val a<4294967296^(k+2)):(a.getD (k+1) 0*4294967296+a.getD k 0)*4294967296^k≤val a∧val a<(a.getD (k+1) 0*4294967296+a.getD k 0+1)*4294967296^k:=by
 have h1:val a=vs a (k+2):=by
  have hz:∀ j,vs a (k+2+j)=vs a (k+2):=by
   intro j
   induction j with
   | zero=>rfl
   | succ j ih=>
    rw[← Nat.add_assoc,vs_succ,ih]
    have hle:=vs_le a (k+2+j+1)
    rw[vs_succ] at hle
    have hp:4294967296^(k+2)≤4294967296^(k+2+j):=Nat.pow_le_pow_right (by omega) (by omega)
    have h0:a.getD (k+2+j) 0=0:=by
     apply Classical.byContradiction
     intro hn
     have:4294967296^(k+2+j)*1≤4294967296^(k+2+j)*a.getD (k+2+j) 0:=Nat.mul_le_mul_left _ (by omega)
     omega
    rw[h0,Nat.mul_zero,Nat.add_zero]
  rw[← vs_all (a:=a) (i:=k+2+a.length) (by omega)]
  exact hz a.length
 have h2:=vs_lt ha k
 rw[h1,vs_succ,vs_succ,Nat.pow_succ,Nat.add_mul _ 1,Nat.add_mul,Nat.mul_assoc,Nat.mul_comm (4294967296^k) (a.getD k 0),Nat.mul_comm (4294967296^k) 4294967296,Nat.mul_comm (4294967296*4294967296^k)]
 omega
theorem V130 {x y:NV} {i n:Nat} (hx:NOk x) (hy:NOk y) (hi:i<2^40) (hn:y.ds.length=n) (hn1:1≤n) (hlead:y.ds.getD (n-1) 0≠0) (hq:x.v/(y.v*4294967296^i)<4294967296) :
  ∃ lo hi:Nat,AP cfg 130 [x.av,y.av,.int .i64 i]=some (.tup [.int .u64 lo,.int .u64 hi])∧lo≤x.v/(y.v*4294967296^i)∧x.v/(y.v*4294967296^i)≤hi∧hi<4294967296:=by
 have lx:=hx.len
 have ly:=hy.len
 obtain ⟨k,rfl⟩:∃ k,n=k+1:=⟨n-1,by omega⟩
 rw[Nat.add_sub_cancel] at hlead
 have hyv:y.v=vs y.ds k+4294967296^k*y.ds.getD k 0:=by rw[NV.v,← vs_all (Nat.le_of_eq hn),vs_succ]
 have hlo:=vs_lt hy.dg k
 have hld:=hy.dg k
 have hpi:0<4294967296^i:=Nat.pow_pos (by omega)
 have hpk:0<4294967296^k:=Nat.pow_pos (by omega)
 have hyp:0<y.v:=by
  rw[hyv]
  have:4294967296^k*1≤4294967296^k*y.ds.getD k 0:=Nat.mul_le_mul_left _ (by omega)
  omega
 have hb0:0<y.v*4294967296^i:=Nat.mul_pos hyp hpi
 have hb1:y.ds.getD k 0*4294967296^(k+i)≤y.v*4294967296^i:=by
  rw[Nat.pow_add,← Nat.mul_assoc]
  exact Nat.mul_le_mul_right _ (by rw[hyv,Nat.mul_comm];omega)
 have hb2:y.v*4294967296^i≤(y.ds.getD k 0+1)*4294967296^(k+i):=by
  rw[Nat.pow_add,← Nat.mul_assoc]
  refine Nat.mul_le_mul_right _ ?_
  rw[hyv,Nat.add_mul,Nat.one_mul,Nat.mul_comm]
  omega
 have hxlt:val x.ds<4294967296^(k+i+2):=by
  rw[Nat.div_lt_iff_lt_mul hb0] at hq
  have h1:(y.ds.getD k 0+1)*4294967296^(k+i)≤4294967296*4294967296^(k+i):=Nat.mul_le_mul_right _ hld
  have h2:4294967296*(y.v*4294967296^i)≤4294967296*(4294967296*4294967296^(k+i)):=Nat.mul_le_mul_left _ (Nat.le_trans hb2 h1)
  rw[Nat.pow_succ,Nat.pow_succ]
  have h3:4294967296^(k+i)*4294967296*4294967296=4294967296*(4294967296*4294967296^(k+i)):=by
   rw[Nat.mul_comm,Nat.mul_comm (4294967296^(k+i))]
  rw[h3]
  exact Nat.lt_of_lt_of_le hq h2
 obtain ⟨t1,t2⟩:=two_top hx.dg hxlt
 have d1:=hx.dg (k+i+1)
 have d2:=hx.dg (k+i)
 have qle:x.v/(y.v*4294967296^i)≤(x.ds.getD (k+i+1) 0*4294967296+x.ds.getD (k+i) 0)/y.ds.getD k 0:=q_le (Nat.div_mul_le_self _ _) t2 hb1 (by omega)
 have qge:(x.ds.getD (k+i+1) 0*4294967296+x.ds.getD (k+i) 0)/(y.ds.getD k 0+1)≤x.v/(y.v*4294967296^i):=q_ge t1 hb2 hb0
 have hfz:=fz_tup2 (fza_int .u64 0) (fza_int .u64 0)
 have key:∃ lo hi:Nat,AC cfg 130 [x.av,y.av,.int .i64 i] []=some (.tup [.int .u64 lo,.int .u64 hi],[])∧lo≤x.v/(y.v*4294967296^i)∧x.v/(y.v*4294967296^i)≤hi∧hi<4294967296:=by
  have e1:i+(k+1)=k+i+1:=by omega
  have uB:∀ a:Nat,binA .other .lss (.int .u64 a) (.int .u64 4294967295)=some (.bool (decide (a<4294967295))):=fun a=>n_lss (b:=4294967295)
  have u0:∀ a:Nat,binA .other .gtr (.int .u64 0) (.int .u64 a)=some (.bool (decide (0>a))):=fun a=>n_gtr (a:=0)
  have u0B:binA .other .gtr (.int .u64 0) (.int .u64 4294967295)=some (.bool false):=rfl
  have uaB:∀ a:Nat,binA .other .gtr (.int .u64 a) (.int .u64 4294967295)=some (.bool (decide (a>4294967295))):=fun a=>n_gtr (b:=4294967295)
  have ua1:∀ a:Nat,a<4294967296→binA .other .add (.int .u64 a) (.int .u64 1)=some (.int .u64 (a+1:Nat)):=fun a h=>u_add (b:=1) (by omega)
  rw[T130,len_nv,hn,oBs,i_add (by omega),oBs,pcall2 (fz_nv x) (fz_int _ _),V133 hx.fr (by omega),Option.map_some,oBs]
  rw[show x.fr.ds=x.ds from rfl,e1,u_shl32 (hx.dg _),oBs,oBs,i_sub1 (by omega) (by omega),oBs,Nat.add_sub_cancel,pcall2 (fz_nv x) (fz_int _ _),V133 hx.fr (by omega),Option.map_some,oBs]
  rw[show x.fr.ds=x.ds from rfl,u_orlo (hx.dg _) (hx.dg _),oBs,i_sub1 (by omega) (by omega),oBs,Nat.add_sub_cancel,index_nv (by omega),oBs,load_v,oBs,c_dg _ hld,oBs,u_quo (by omega) (by omega),oBs,uB,oBs,ifA_dec]
  have hdl:=Nat.div_le_self (x.ds.getD (k+i+1) 0*4294967296+x.ds.getD (k+i) 0) (y.ds.getD k 0+1)
  have uq:binA .other .quo (.int .u64 (x.ds.getD (k+i+1) 0*4294967296+x.ds.getD (k+i) 0:Nat)) (.int .u64 (y.ds.getD k 0+1:Nat))=some (.int .u64 ((x.ds.getD (k+i+1) 0*4294967296+x.ds.getD (k+i) 0)/(y.ds.getD k 0+1):Nat)):=u_quo (by omega) (by omega)
  by_cases c1:(x.ds.getD (k+i+1) 0*4294967296+x.ds.getD (k+i) 0)/y.ds.getD k 0<4294967295
  ·rw[if_pos c1,oBs,ua1 _ hld,oBs,n_lssB,oBs,ifA_dec]
   by_cases c2:y.ds.getD k 0+1<4294967296
   ·rw[if_pos c2,oBs,uq,oBs,n_lssB,oBs,ifA_dec]
    by_cases c3:(x.ds.getD (k+i+1) 0*4294967296+x.ds.getD (k+i) 0)/(y.ds.getD k 0+1)<4294967296
    ·rw[if_pos c3,oBs,uq,oBs,n_gtr,oBs,ifA_dec,if_neg (by omega)]
     exact ⟨_,_,rfl,qge,qle,by omega⟩
    ·rw[if_neg c3,u0,oBs,ifA_dec,if_neg (Nat.not_lt_zero _)]
     exact ⟨0,_,rfl,Nat.zero_le _,qle,by omega⟩
   ·rw[if_neg c2,u0,oBs,ifA_dec,if_neg (Nat.not_lt_zero _)]
    exact ⟨0,_,rfl,Nat.zero_le _,qle,by omega⟩
  ·rw[if_neg c1,ua1 _ hld,oBs,n_lssB,oBs,ifA_dec]
   by_cases c2:y.ds.getD k 0+1<4294967296
   ·rw[if_pos c2,oBs,uq,oBs,n_lssB,oBs,ifA_dec]
    by_cases c3:(x.ds.getD (k+i+1) 0*4294967296+x.ds.getD (k+i) 0)/(y.ds.getD k 0+1)<4294967296
    ·rw[if_pos c3,oBs,uq,oBs,uaB,oBs,ifA_dec,if_neg (by omega)]
     exact ⟨_,4294967295,rfl,qge,by omega,by omega⟩
    ·rw[if_neg c3,u0B,oBs,ifA_false]
     exact ⟨0,4294967295,rfl,Nat.zero_le _,by omega,by omega⟩
   ·rw[if_neg c2,u0B,oBs,ifA_false]
    exact ⟨0,4294967295,rfl,Nat.zero_le _,by omega,by omega⟩
 obtain ⟨lo,hi',k1,k2⟩:=key
 exact ⟨lo,hi',AP_ofz _ _ (fz_tup2 (fza_int _ _) (fza_int _ _)) rfl k1,k2⟩
end Go.Ab
set_option linter.unusedVariables false
set_option linter.unusedSimpArgs false
namespace Go.Ab
open Go.Proofs.Try
theorem digs_pow_len {b s d:Nat} (hd:d<4294967296):(digs (4294967296^s*(b*d))).length≤s+((digs b).length+1):=by
 refine digs_length_le ?_
 rw[Nat.pow_add]
 refine Nat.mul_lt_mul_of_pos_left ?_ (Nat.pow_pos (by omega))
 have h:=val_lt (dg_digs b)
 rw[val_digs] at h
 rw[Nat.pow_succ]
 exact Nat.mul_lt_mul'' h hd
theorem W102_14 {a b i q:Nat} (K:KT) (x9:AV) (m:Mem) (la:(digs a).length<2^40) (lb:(digs b).length<2^40) (hi:i<2^39) (lb2:(digs b).length+i+1<2^40) (hq:q=a/(b*4294967296^i)) (hb:0<b):∀ (r lo hi':Nat),hi'-lo≤r→lo≤q→q≤hi'→hi'<4294967296 →
  L102_14 (refN a).av (refN b).av x9 (.int .i64 i) (.int .u64 lo) (.int .u64 hi') m K=K (.exit 2) (O102_14 (refN a).av (refN b).av x9 (.int .i64 i) (.int .u64 q) m):=by
 have hpi:0<4294967296^i:=Nat.pow_pos (by omega)
 have hbp:0<b*4294967296^i:=Nat.mul_pos hb hpi
 intro r
 induction r with
 | zero=>
  intro lo hi' hr h1 h2 h3
  have:lo=q:=by omega
  subst this
  rw[L102_14_eq,n_lss,oBs,ifA_dec,if_neg (by omega)]
 | succ r ih=>
  intro lo hi' hr h1 h2 h3
  rw[L102_14_eq,n_lss,oBs,ifA_dec]
  by_cases hlt:lo<hi'
  ·have u1:∀ a:Nat,a<4294967296→binA .other .add (.int .u64 a) (.int .u64 1)=some (.int .u64 (a+1:Nat)):=fun a h=>u_add (b:=1) (by omega)
   have u2:∀ a:Nat,a<4294967298→binA .other .quo (.int .u64 a) (.int .u64 2)=some (.int .u64 (a/2:Nat)):=fun a h=>u_quo (b:=2) (by omega) (by omega)
   rw[if_pos hlt,u_sub (by omega) (by omega),oBs,u1 _ (by omega),oBs,u2 _ (by omega),oBs,u_add (by omega),oBs]
   generalize hmid:lo+(hi'-lo+1)/2=mid
   have hm1:lo<mid:=by omega
   have hm2:mid≤hi':=by omega
   have hpl:=digs_pow_len (b:=b) (s:=i) (d:=mid) (by omega)
   rw[pcall3 (fz_ref b) (fz_int _ _) (fz_int _ _),V131 (refN_ok lb) (by omega) (by omega),Option.map_some,oBs,refN_v,pcall2 (fz_ref _) (fz_ref a),V98 (refN_ok (by omega)) (refN_ok la),Option.map_some,oBs,binA_leq,oBs,ifA_dec,refN_v,refN_v]
   have hcmp:cmpV (4294967296^i*(b*mid)) a≤0↔mid≤q:=by
    rw[hq,Nat.le_div_iff_mul_le hbp]
    have e:mid*(b*4294967296^i)=4294967296^i*(b*mid):=by rw[Nat.mul_comm,Nat.mul_comm b,Nat.mul_assoc]
    rw[e]
    unfold cmpV
    constructor
    ·intro h
     apply Nat.le_of_not_lt
     intro hc
     rw[if_neg (by omega),if_pos hc] at h
     omega
    ·intro h
     split
     ·omega
     ·rw[if_neg (by omega)];omega
   by_cases hc:mid≤q
   ·rw[if_pos (hcmp.2 hc)]
    exact ih mid hi' (by omega) hc h2 h3
   ·rw[if_neg (fun h=>hc (hcmp.1 h)),u_sub1 (by omega) (by omega),oBs]
    exact ih lo (mid-1) (by omega) h1 (by omega) (by omega)
  ·have:lo=q:=by omega
   subst this
   rw[if_neg hlt]
structure DInv (a0 b la j:Nat) (a:Nat) (q:List Nat):Prop where
 dq:Dg q
 lq:q.length=la
 lt:a<b*4294967296^j
 eq:wn q j (la-j)*(b*4294967296^j)+a=a0
theorem DInv.step {a0 b la j a:Nat} {q:List Nat} (hb:0<b) (hj:j<la) (h:DInv a0 b la (j+1) a q) :
  a/(b*4294967296^j)<4294967296∧DInv a0 b la j (a%(b*4294967296^j)) (q.set j (a/(b*4294967296^j))):=by
 have hp:0<b*4294967296^j:=Nat.mul_pos hb (Nat.pow_pos (by omega))
 have e0:b*4294967296^(j+1)=4294967296*(b*4294967296^j):=by rw[Nat.pow_succ,← Nat.mul_assoc,Nat.mul_comm]
 have hlt:=h.lt
 have heq:=h.eq
 rw[e0] at hlt heq
 have hq:a/(b*4294967296^j)<4294967296:=by rw[Nat.div_lt_iff_lt_mul hp];exact hlt
 refine ⟨hq,h.dq.set _ _ hq,by rw[List.length_set,h.lq],Nat.mod_lt _ hp,?_⟩
 obtain ⟨r,hr⟩:∃ r,la-j=r+1:=⟨la-j-1,by omega⟩
 rw[hr,wn_first,getD_set_eq (by rw[h.lq];exact hj),wn_set_out (by omega),← heq,show la-(j+1)=r by omega]
 have h2:=Nat.div_add_mod a (b*4294967296^j)
 generalize b*4294967296^j=p at *
 rw[Nat.add_mul,Nat.mul_comm (a/p),Nat.mul_comm 4294967296,Nat.mul_assoc]
 omega
theorem W102_11 {a0 b la:Nat} (K:KT) (hb:0<b) (lla:la<2^39) (l0:(digs a0).length<2^39) (lb:(digs b).length<2^39):∀ (j a:Nat) (q:List Nat),j≤la→a≤a0→DInv a0 b la j a q →
  ∃ a' q',DInv a0 b la 0 a' q'∧L102_11 (refN a).av (refN b).av (.arr 0 0 la none) (.int .i64 ((j:Int)-1)) [oc q] K=K (.exit 0) (O102_11 (refN a').av (.arr 0 0 la none) [oc q']):=by
 intro j
 induction j with
 | zero=>
  intro a q _ _ hI
  refine ⟨a,q,hI,?_⟩
  rw[L102_11_eq]
  simp[binA_geq,ifA]
 | succ j ih=>
  intro a q hj ha hI
  obtain ⟨hq,hI'⟩:=hI.step hb (by omega)
  have la':(digs a).length<2^39:=Nat.lt_of_le_of_lt (digs_mono ha) l0
  have hlq:=hI.lq
  obtain ⟨a',q',i1,i2⟩:=ih _ _ (by omega) (Nat.le_trans (Nat.mod_le _ _) ha) hI'
  refine ⟨a',q',i1,?_⟩
  have hbne:b≠0:=by omega
  have hl0:(digs b).length≠0:=fun e=>hbne (digs_len0.1 e)
  obtain ⟨lo,hi',g1,g2,g3,g4⟩:=V130 (i:=j) (n:=(digs b).length) (refN_ok (n:=a) (by omega)) (refN_ok (n:=b) (by omega)) (by omega) (by rw[refN_ds]) (by omega) (by rw[refN_ds];exact digs_last hbne) (by rw[refN_v,refN_v];exact hq)
  rw[refN_v,refN_v] at g2 g3
  rw[L102_11_eq,show ((j+1:Nat):Int)-1=(j:Nat) by omega,n_geq0,oBs,ifA_true,pcall3 (fz_ref a) (fz_ref b) (fz_int _ _),g1,Option.map_some,oBs]
  simp only[extractA]
  rw[show ([AV.int .u64 lo,AV.int .u64 hi']:List AV)[0]?=some (.int .u64 lo) from rfl,show ([AV.int .u64 lo,AV.int .u64 hi']:List AV)[1]?=some (.int .u64 hi') from rfl,oBs,oBs,
   W102_14 (K102_14 K) _ _ (by omega) (by omega) (by omega) (by omega) rfl hb (hi'-lo) lo hi' (Nat.le_refl _) g2 g3 g4]
  have hpl:=digs_pow_len (b:=b) (s:=j) (d:=a/(b*4294967296^j)) hq
  have he:4294967296^j*(b*(a/(b*4294967296^j)))=b*4294967296^j*(a/(b*4294967296^j)):=by rw[← Nat.mul_assoc,Nat.mul_comm b]
  have hsub:a-4294967296^j*(b*(a/(b*4294967296^j)))=a%(b*4294967296^j):=by
   rw[he]
   have:=Nat.div_add_mod a (b*4294967296^j)
   omega
  have hle:¬ a<4294967296^j*(b*(a/(b*4294967296^j))):=by
   rw[he]
   have:=Nat.div_add_mod a (b*4294967296^j)
   omega
  rw[K102_14_x2,c_dn,oBs,Nat.mod_eq_of_lt hq,index_arr (by omega),oBs,store_at (m:=[oc q]) (n:=0) (ds:=q) rfl (by omega),oBs,pcall3 (fz_ref b) (fz_int _ _) (fz_int _ _),V131 (refN_ok (n:=b) (by omega)) hq (by omega),Option.map_some,oBs,refN_v,
   pcall2 (fz_ref a) (fz_ref (4294967296^j*(b*(a/(b*4294967296^j))))),V112 (refN_ok (n:=a) (by omega)) (refN_ok (n:=4294967296^j*(b*(a/(b*4294967296^j)))) (by omega)) (refN_fr a) (refN_fr (4294967296^j*(b*(a/(b*4294967296^j))))),Option.map_some,oBs]
  unfold subR
  rw[refN_v,refN_v,if_neg hle,hsub]
  simp only[extractA]
  rw[show ([(refN (a%(b*4294967296^j))).av,AV.int .i64 0]:List AV)[0]?=some (refN (a%(b*4294967296^j))).av from rfl,show ([(refN (a%(b*4294967296^j))).av,AV.int .i64 0]:List AV)[1]?=some (.int .i64 0) from rfl,oBs,oBs,i_sub1z (by omega),oBs]
  exact i2
def divR2 (x y:NV):AV:=if y.v=0 then .tup [nilN,nilN,.int .i64 31] else .tup [(refN (x.v/y.v)).av,(refN (x.v%y.v)).av,.int .i64 0]
theorem refN_zero:(refN 0).av=.lst none true .full []:=by rw[refN,digs_zero];rfl
theorem V102 {x y:NV} (hx:NOk x) (hy:NOk y) (lx:(digs x.v).length<2^39) (ly:(digs y.v).length<2^39):AP cfg 102 [x.av,y.av]=some (divR2 x y):=by
 have e1:=V103 hx.fr
 have e2:=V103 hy.fr
 rw[show x.fr.v=x.v from rfl] at e1
 rw[show y.fr.v=y.v from rfl] at e2
 have hX:=refN_ok (n:=x.v) (by omega)
 have hY:=refN_ok (n:=y.v) (by omega)
 unfold divR2
 by_cases h0:y.v=0
 ·rw[if_pos h0]
  refine AP_ofz _ _ (fz_tup3 fza_nil fza_nil (fza_int _ _)) rfl (m:=[]) ?_
  rw[T102,pcall1 (fz_nv x),e1,Option.map_some,oBs,pcall1 (fz_nv y),e2,Option.map_some,oBs,refN_len,oBs,n_eql0,oBs,ifA_dec,if_pos (digs_len0.2 h0)]
 ·rw[if_neg h0]
  have hn0:¬ (digs y.v).length=0:=fun e=>h0 (digs_len0.1 e)
  by_cases h2:y.v<4294967296
  ·have hn1:(digs y.v).length=1:=digs_len1.2 ⟨h0,h2⟩
   have hdig:(digs y.v).getD 0 0=y.v:=by
    rw[digs_pos h0,List.getD_cons_zero,Nat.mod_eq_of_lt h2]
   have hlt:x.v%y.v<y.v:=Nat.mod_lt _ (by omega)
   refine AP_ofz _ _ (fz_tup3 (fza_ref (x.v/y.v)) (fza_ref (x.v%y.v)) (fza_int _ _)) rfl (m:=[]) ?_
   have e4:=V129 (d:=y.v) hX (by omega) h2
   rw[refN_v] at e4
   rw[T102,pcall1 (fz_nv x),e1,Option.map_some,oBs,pcall1 (fz_nv y),e2,Option.map_some,oBs,refN_len,oBs,n_eql0,oBs,ifA_dec,if_neg hn0,oBs,n_eql1,oBs,ifA_dec,if_pos hn1,
    index_nv0 (by rw[refN_ds,hn1];omega),oBs,load_v,oBs,refN_ds,hdig,c_dg _ h2,oBs,pcall2 (fz_ref _) (fz_int _ _),e4,Option.map_some,oBs]
   simp only[extractA]
   rw[show ([(refN (x.v/y.v)).av,AV.int .u64 (x.v%y.v:Nat)]:List AV)[0]?=some (refN (x.v/y.v)).av from rfl,show ([(refN (x.v/y.v)).av,AV.int .u64 (x.v%y.v:Nat)]:List AV)[1]?=some (AV.int .u64 (x.v%y.v:Nat)) from rfl,oBs,oBs,
    pcall1 (fz_int _ _),V70 (by omega),Option.map_some,oBs]
  ·have hn1:¬ (digs y.v).length=1:=fun e=>h2 (digs_len1.1 e).2
   by_cases h3:(digs x.v).length<(digs y.v).length
   ·have hlt:x.v<y.v:=by
     apply Nat.lt_of_not_le
     intro h
     have:=digs_mono h
     omega
    rw[Nat.div_eq_of_lt hlt,Nat.mod_eq_of_lt hlt]
    refine AP_ofz _ _ (fz_tup3 (fza_ref 0) (fza_ref x.v) (fza_int _ _)) rfl (m:=[]) ?_
    rw[T102,pcall1 (fz_nv x),e1,Option.map_some,oBs,pcall1 (fz_nv y),e2,Option.map_some,oBs,refN_len,oBs,n_eql0,oBs,ifA_dec,if_neg hn0,oBs,n_eql1,oBs,ifA_dec,if_neg hn1,
     refN_len,oBs,oBs,n_lss,oBs,ifA_dec,if_pos h3,refN_zero]
   ·have hb:0<y.v:=Nat.pos_of_ne_zero h0
    have hI:DInv x.v y.v (digs x.v).length ((digs x.v).length-(digs y.v).length+1) x.v (List.replicate (digs x.v).length 0):=by
     refine ⟨dg_rep _,List.length_replicate,?_,?_⟩
     ·have h4:=val_lt (dg_digs x.v)
      rw[val_digs] at h4
      have h5:=digs_length_pos (n:=y.v) (k:=(digs y.v).length-1) (by omega)
      refine Nat.lt_of_lt_of_le h4 ?_
      refine Nat.le_trans ?_ (Nat.mul_le_mul_right _ h5)
      rw[← Nat.pow_add]
      exact Nat.pow_le_pow_right (by omega) (by omega)
     ·rw[wn_zero _ (fun k _=>getD_rep _ _),Nat.zero_mul,Nat.zero_add]
    obtain ⟨a',q',i1,i2⟩:=W102_11 (K102_11 (finK cfg.P f102.results.toList)) hb lx lx ly _ _ _ (by omega) (Nat.le_refl _) hI
    have heq:=i1.eq
    have hlt:=i1.lt
    have hlq:=i1.lq
    rw[Nat.pow_zero,Nat.mul_one] at heq hlt
    rw[Nat.sub_zero,wn_vs,vs_all (by omega)] at heq
    obtain ⟨k1,k2⟩:=div_of heq.symm hlt
    refine AP_ofz _ _ (fz_tup3 (fza_ref (x.v/y.v)) (fza_ref (x.v%y.v)) (fza_int _ _)) rfl (m:=[none]) ?_
    have hp:=pcall_at (cp:=AP cfg) (g:=103) (m:=[oc q']) (nm:=0) (ds:=q') rfl
    rw[hlq] at hp
    rw[T102,pcall1 (fz_nv x),e1,Option.map_some,oBs,pcall1 (fz_nv y),e2,Option.map_some,oBs,refN_len,oBs,n_eql0,oBs,ifA_dec,if_neg hn0,oBs,n_eql1,oBs,ifA_dec,if_neg hn1,
     refN_len,oBs,oBs,n_lss,oBs,ifA_dec,if_neg h3,oBs,make_oc (by omega) (by omega),oBs,oBs,oBs,i_sub (by omega) (by omega),oBs]
    rw[show (((digs x.v).length-(digs y.v).length+1:Nat):Int)-1=(((digs x.v).length-(digs y.v).length:Nat):Int) by omega] at i2
    refine Eq.trans ?_ (i2.trans ?_)
    ·rfl
    rw[K102_11_x0,hp,P103 _ i1.dq (by simp only[hlq];omega),Option.map_some,oBs]
    simp only[NV.v] at k1 k2 ⊢
    rw[k1,k2]
    rfl
end Go.Ab
set_option linter.unusedVariables false
set_option linter.unusedSimpArgs false
namespace Go.Ab
open Go.Proofs.Try
theorem u32_quo2 {tk:TK} {a:Nat} (h:a<4294967296):binA tk .quo (.int .u32 a) (.int .u32 2)=some (.int .u32 (a/2:Nat)):=by
 have e:binA tk .quo (.int .u32 a) (.int .u32 2)=some (.int .u32 (IntKind.wrap .u32 ((a:Int).tdiv 2))):=by cases tk<;>rfl
 have e2:(a:Int).tdiv 2=((a/2:Nat):Int):=rfl
 rw[e,e2,wrap_u32 (by omega) (by omega)]
theorem W101 (K:KT) (m:Mem):∀ (r x n:Nat),x<2^r→r≤32→n+r<2^60→∃ k,k≤n+r∧(0<n∨0<x→0<k)∧(n=0→x=0→k=0)∧L101_6 (.int .i64 n) (.int .u32 x) m K=K (.exit 0) (O101_6 (.int .i64 k) m):=by
 intro r
 induction r with
 | zero=>
  intro x n hx hr hn
  have:x=0:=by simpa using hx
  subst this
  refine ⟨n,by omega,by omega,fun h _=>h,?_⟩
  rw[L101_6_eq,n_gtr0,oBs,ifA_dec,if_neg (by omega)]
 | succ r ih=>
  intro x n hx hr hn
  rw[L101_6_eq,n_gtr0,oBs,ifA_dec]
  by_cases h:x>0
  ·have hp:2^(r+1)≤2^32:=Nat.pow_le_pow_right (by omega) hr
   rw[if_pos h,i_add1 (by omega),oBs,u32_quo2 (by omega),oBs]
   rw[Nat.pow_succ] at hx
   obtain ⟨k,k1,k2,k3,k4⟩:=ih (x/2) (n+1) (by omega) (by omega) (by omega)
   exact ⟨k,by omega,fun _=>k2 (.inl (by omega)),by omega,k4⟩
  ·rw[if_neg h]
   exact ⟨n,by omega,by omega,fun h _=>h,rfl⟩
theorem V101 {x:NV} (hx:NOk x):∃ k:Nat,AP cfg 101 [x.av]=some (.int .i64 k)∧(k=0↔x.v=0):=by
 have lx:=hx.v_len'
 have e1:=V103 hx.fr
 rw[show x.fr.v=x.v from rfl] at e1
 by_cases h0:x.v=0
 ·refine ⟨0,AP_of (m:=[]) (v:=.int .i64 (0:Nat)) ?_ (fz_int _ _ _) (by simp[noV]),by simp[h0]⟩
  rw[T101,pcall1 (fz_nv x),e1,Option.map_some,oBs,refN_len,oBs,n_eql0,oBs,ifA_dec,if_pos (digs_len0.2 h0)]
  rfl
 ·have hn0:¬ (digs x.v).length=0:=fun e=>h0 (digs_len0.1 e)
  have hlast:=digs_last h0
  have hd:=dg_digs x.v ((digs x.v).length-1)
  obtain ⟨k,k1,k2,k3,k4⟩:=W101 (K101_6 (finK cfg.P f101.results.toList)) [] 32 ((digs x.v).getD ((digs x.v).length-1) 0) (32*((digs x.v).length-1)) (by omega) (by omega) (by omega)
  have m32:∀ a:Nat,a<2^41→binA .other .mul (.int .i64 32) (.int .i64 a)=some (.int .i64 (32*a:Nat)):=by
   intro a ha
   rw[binA_mul,wrap_i64 (by omega) (by omega)];rfl
  have hkp:=k2 (.inr (Nat.pos_of_ne_zero hlast))
  refine ⟨k,AP_of (m:=[]) (v:=.int .i64 (k:Nat)) ?_ (fz_int _ _ _) (by simp[noV]),by omega⟩
  rw[T101,pcall1 (fz_nv x),e1,Option.map_some,oBs,refN_len,oBs,n_eql0,oBs,ifA_dec,if_neg hn0,oBs,i_sub1 (by omega) (by omega),oBs,m32 _ (by omega),oBs,oBs,i_sub1 (by omega) (by omega),oBs,index_nv (by rw[refN_ds];omega),oBs,load_v,oBs,refN_ds]
  refine k4.trans ?_
  rw[K101_6_x0]
theorem even_half {a:Nat} (h:a%2=0):2*(a/2)=a:=by omega
theorem gcd_half {a b:Nat} (ha:a%2=0) (hb:b%2=1):Nat.gcd (a/2) b=Nat.gcd a b:=by
 have hc:Nat.Coprime 2 b:=by
  rw[Nat.coprime_iff_gcd_eq_one,Nat.gcd_rec,hb]
  rfl
 have:=Nat.Coprime.gcd_mul_left_cancel (a/2) hc
 rw[even_half ha] at this
 exact this.symm
theorem half_len {a:Nat} (h:(digs a).length<2^39):(digs (a/2)).length<2^39:=Nat.lt_of_le_of_lt (digs_mono (Nat.div_le_self _ _)) h
theorem W99_5 (K:KT) (m:Mem):∀ (n x y:Nat),y=n→x<18446744073709551616→y<18446744073709551616→L99_5 (.int .u64 x) (.int .u64 y) m K=K (.exit 0) (O99_5 (.int .u64 (Nat.gcd x y:Nat)) m):=by
 intro n
 induction n using Nat.strongRecOn with
 | ind n ih=>
  intro x y hn hx hy
  rw[L99_5_eq,n_neq0,oBs,ifA_dec]
  by_cases h:y=0
  ·rw[if_neg (fun hh=>hh h),h,Nat.gcd_zero_right]
  ·have hlt:x%y<y:=Nat.mod_lt _ (Nat.pos_of_ne_zero h)
   rw[if_pos h,u_rem h hx,oBs,ih (x%y) (by omega) y (x%y) rfl hy (by omega),Nat.gcd_comm y,← Nat.gcd_rec,Nat.gcd_comm]
theorem W99_13 (K:KT) (m:Mem):∀ (n a b t:Nat),a=n→0<a→0<b→0<t→(digs (a*t)).length<2^39→(digs a).length<2^39→(digs b).length<2^39→(digs t).length<2^39 →
  ∃ a' b' t',0<a'∧0<b'∧0<t'∧a'≤a∧b'≤b∧(a'%2=1∨b'%2=1)∧Nat.gcd a' b'*t'=Nat.gcd a b*t∧(digs t').length<2^39∧L99_13 (refN a).av (refN b).av (refN t).av m K=K (.exit 2) (O99_13 (refN a').av (refN b').av (refN t').av m):=by
 intro n
 induction n using Nat.strongRecOn with
 | ind n ih=>
  intro a b t hn ha hb ht hat la lb lt
  rw[L99_13_eq,pcall1 (fz_ref a),V127 (refN_ok (by omega)),refN_v,Option.map_some,oBs,ifA_dec]
  by_cases h1:a%2=0
  ·rw[if_pos h1,pcall1 (fz_ref b),V127 (refN_ok (by omega)),refN_v,Option.map_some,oBs,ifA_dec]
   by_cases h2:b%2=0
   ·have ea:=even_half h1
    have eb:=even_half h2
    have e:a/2*(t+t)=a*t:=by
     rw[← Nat.mul_two,← Nat.mul_assoc,Nat.mul_right_comm,Nat.mul_comm (a/2) 2,ea]
    have ltt:(digs (t+t)).length<2^39:=by
     refine Nat.lt_of_le_of_lt (digs_mono (b:=a*t) ?_) hat
     rw[← e]
     exact Nat.le_mul_of_pos_left _ (by omega)
    obtain ⟨a',b',t',k1,k2,k3,k4,k5,k6,k7,k8,k9⟩:=ih (a/2) (by omega) (a/2) (b/2) (t+t) rfl (by omega) (by omega) (by omega) (by rw[e];exact hat) (half_len la) (half_len lb) ltt
    refine ⟨a',b',t',k1,k2,k3,by omega,by omega,k6,?_,k8,?_⟩
    ·rw[k7]
     have:Nat.gcd a b=2*Nat.gcd (a/2) (b/2):=by
      conv=>lhs;rw[← ea,← eb]
      exact Nat.gcd_mul_left _ _ _
     rw[this,← Nat.mul_two,← Nat.mul_assoc,Nat.mul_right_comm,Nat.mul_comm _ 2]
    ·rw[if_pos h2,pcall1 (fz_ref a),V128 (refN_ok (by omega)),refN_v,Option.map_some,oBs,pcall1 (fz_ref b),V128 (refN_ok (by omega)),refN_v,Option.map_some,oBs,pcall2 (fz_ref t) (fz_ref t),V111 (refN_ok (by omega)) (refN_ok (by omega)) (refN_fr _) (refN_fr _),refN_v,Option.map_some,oBs]
     exact k9
   ·rw[if_neg h2]
    exact ⟨a,b,t,ha,hb,ht,Nat.le_refl _,Nat.le_refl _,.inr (by omega),rfl,lt,rfl⟩
  ·rw[if_neg h1]
   exact ⟨a,b,t,ha,hb,ht,Nat.le_refl _,Nat.le_refl _,.inl (by omega),rfl,lt,rfl⟩
theorem W99_16 (K:KT) (m:Mem) (xb xt:AV) (b:Nat):∀ (n a:Nat),a=n→0<a→(a%2=1∨b%2=1)→(digs a).length<2^39 →
  ∃ a',0<a'∧a'≤a∧a'%2=1∧Nat.gcd a' b=Nat.gcd a b∧L99_16 (refN a).av xb xt m K=K (.exit 6) (O99_16 (refN a').av xb xt m):=by
 intro n
 induction n using Nat.strongRecOn with
 | ind n ih=>
  intro a hn ha hab la
  rw[L99_16_eq,pcall1 (fz_ref a),V127 (refN_ok (by omega)),refN_v,Option.map_some,oBs,ifA_dec]
  by_cases h1:a%2=0
  ·have hb1:b%2=1:=by omega
   obtain ⟨a',k1,k2,k3,k4,k5⟩:=ih (a/2) (by omega) (a/2) rfl (by omega) (.inr hb1) (half_len la)
   rw[if_pos h1,pcall1 (fz_ref a),V128 (refN_ok (by omega)),refN_v,Option.map_some,oBs]
   exact ⟨a',k1,by omega,k3,by rw[k4,gcd_half h1 hb1],k5⟩
  ·rw[if_neg h1]
   exact ⟨a,ha,Nat.le_refl _,by omega,rfl,rfl⟩
theorem W99_18 (K:KT) (m:Mem) (xa xt:AV) (a:Nat) (ha:a%2=1):∀ (n b:Nat),b=n→0<b→(digs b).length<2^39 →
  ∃ b',0<b'∧b'≤b∧b'%2=1∧Nat.gcd a b'=Nat.gcd a b∧L99_18 xa (refN b).av xt m K=K (.exit 8) (O99_18 xa (refN b').av xt m):=by
 intro n
 induction n using Nat.strongRecOn with
 | ind n ih=>
  intro b hn hb lb
  rw[L99_18_eq,pcall1 (fz_ref b),V127 (refN_ok (by omega)),refN_v,Option.map_some,oBs,ifA_dec]
  by_cases h1:b%2=0
  ·obtain ⟨b',k1,k2,k3,k4,k5⟩:=ih (b/2) (by omega) (b/2) rfl (by omega) (half_len lb)
   rw[if_pos h1,pcall1 (fz_ref b),V128 (refN_ok (by omega)),refN_v,Option.map_some,oBs]
   exact ⟨b',k1,by omega,k3,by rw[k4,Nat.gcd_comm a,gcd_half h1 ha,Nat.gcd_comm],k5⟩
  ·rw[if_neg h1]
   exact ⟨b,hb,Nat.le_refl _,by omega,rfl,rfl⟩
theorem W99_15 (K:KT) (m:Mem) (xt:AV):∀ (n a b:Nat),a+b=n→0<a→(a%2=1∨b%2=1)→(digs a).length<2^39→(digs b).length<2^39 →
  L99_15 (refN a).av (refN b).av xt m K=K (.exit 4) (O99_15 (refN (Nat.gcd a b)).av xt m):=by
 intro n
 induction n using Nat.strongRecOn with
 | ind n ih=>
  intro a b hn ha hab la lb
  rw[L99_15_eq,refN_len,oBs,n_gtr0,oBs,ifA_dec]
  by_cases hb:b=0
  ·rw[if_neg (by rw[hb,digs_zero];simp),hb,Nat.gcd_zero_right]
  ·have hl0:(digs b).length≠0:=fun e=>hb (digs_len0.1 e)
   obtain ⟨a',k1,k2,k3,k4,k5⟩:=W99_16 (K99_16 K) m (refN b).av xt b a a rfl ha hab la
   obtain ⟨b',j1,j2,j3,j4,j5⟩:=W99_18 (K99_18 K) m (refN a').av xt a' k3 b b rfl (by omega) lb
   have la':(digs a').length<2^39:=Nat.lt_of_le_of_lt (digs_mono k2) la
   have lb':(digs b').length<2^39:=Nat.lt_of_le_of_lt (digs_mono j2) lb
   rw[if_pos (by omega),k5,K99_16_x6,j5,K99_18_x8,pcall2 (fz_ref a') (fz_ref b'),V98 (refN_ok (by omega)) (refN_ok (by omega)),refN_v,refN_v,Option.map_some,oBs,binA_gtr,oBs,ifA_dec]
   have hg:Nat.gcd a' b'=Nat.gcd a b:=by rw[j4,k4]
   by_cases hgt:a'>b'
   ·have hc:cmpV a' b'>0:=by unfold cmpV;rw[if_neg (by omega),if_pos hgt];omega
    rw[if_pos hc,pcall2 (fz_ref a') (fz_ref b'),V112 (refN_ok (by omega)) (refN_ok (by omega)) (refN_fr _) (refN_fr _),subR,refN_v,refN_v,if_neg (by omega),Option.map_some,oBs]
    simp only[extractA]
    rw[show ([(refN (a'-b')).av,AV.int .i64 0]:List AV)[0]?=some (refN (a'-b')).av from rfl,show ([(refN (a'-b')).av,AV.int .i64 0]:List AV)[1]?=some (.int .i64 0) from rfl,oBs,oBs]
    have lab:(digs (a'-b')).length<2^39:=Nat.lt_of_le_of_lt (digs_mono (Nat.sub_le _ _)) la'
    rw[ih (b'+(a'-b')) (by omega) b' (a'-b') rfl j1 (.inl j3) lb' lab]
    have:Nat.gcd b' (a'-b')=Nat.gcd a b:=by
     rw[← hg,Nat.gcd_sub_self_right (by omega),Nat.gcd_comm]
    rw[this]
   ·have hc:¬ cmpV a' b'>0:=by unfold cmpV;split<;>first|omega|(rw[if_neg hgt];omega)
    rw[if_neg hc,pcall2 (fz_ref b') (fz_ref a'),V112 (refN_ok (by omega)) (refN_ok (by omega)) (refN_fr _) (refN_fr _),subR,refN_v,refN_v,if_neg (by omega),Option.map_some,oBs]
    simp only[extractA]
    rw[show ([(refN (b'-a')).av,AV.int .i64 0]:List AV)[0]?=some (refN (b'-a')).av from rfl,show ([(refN (b'-a')).av,AV.int .i64 0]:List AV)[1]?=some (.int .i64 0) from rfl,oBs,oBs]
    have lab:(digs (b'-a')).length<2^39:=Nat.lt_of_le_of_lt (digs_mono (Nat.sub_le _ _)) lb'
    rw[ih (a'+(b'-a')) (by omega) a' (b'-a') rfl k1 (.inl k3) la' lab]
    have:Nat.gcd a' (b'-a')=Nat.gcd a b:=by
     rw[← hg,Nat.gcd_sub_self_right (by omega)]
    rw[this]
theorem V99 {x y:NV} (hx:NOk x) (hy:NOk y) (lx:(digs x.v).length<2^38) (ly:(digs y.v).length<2^38):AP cfg 99 [x.av,y.av]=some (refN (Nat.gcd x.v y.v)).av:=by
 have e1:=V103 hx.fr
 have e2:=V103 hy.fr
 rw[show x.fr.v=x.v from rfl] at e1
 rw[show y.fr.v=y.v from rfl] at e2
 have s1:=V126 (refN_ok (n:=x.v) (by omega))
 have s2:=V126 (refN_ok (n:=y.v) (by omega))
 rw[refN_v] at s1 s2
 have hx1:∀ n,extractA (smallV n) 1=some (.bool (decide (n<18446744073709551616))):=by
  intro n;unfold smallV;split<;>(rename_i h;simp[extractA,h])
 have hx0:∀ n,∃ k:Nat,extractA (smallV n) 0=some (.int .u64 k)∧(n<18446744073709551616→k=n):=by
  intro n;unfold smallV
  split
  ·exact ⟨n,rfl,fun _=>rfl⟩
  ·rename_i h;exact ⟨0,rfl,fun h'=>absurd h' h⟩
 obtain ⟨kx,hkx,hkx'⟩:=hx0 x.v
 obtain ⟨ky,hky,hky'⟩:=hx0 y.v
 have big:∀ {R:OM},R=((lenA false (refN x.v).av).bind fun v9=>(binA .other .eql v9 (.int .i64 0)).bind fun v10=>ifA v10 (some ((refN y.v).av,[])) (
   (lenA false (refN y.v).av).bind fun v11=>(binA .other .eql v11 (.int .i64 0)).bind fun v12=>ifA v12 (some ((refN x.v).av,[])) (
   (pcall (AP cfg) none [] 70 [(.int .u64 1)]).bind fun r13=>L99_13 (refN x.v).av (refN y.v).av r13.1 r13.2 (K99_13 (finK cfg.P f99.results.toList)))))→R=some ((refN (Nat.gcd x.v y.v)).av,[]):=by
  intro R hR
  rw[hR,refN_len,oBs,n_eql0,oBs,ifA_dec]
  by_cases h0:x.v=0
  ·rw[if_pos (digs_len0.2 h0),h0,Nat.gcd_zero_left]
  ·rw[if_neg (fun e=>h0 (digs_len0.1 e)),refN_len,oBs,n_eql0,oBs,ifA_dec]
   by_cases h1:y.v=0
   ·rw[if_pos (digs_len0.2 h1),h1,Nat.gcd_zero_right]
   ·have h70:=V70 (n:=1) (by omega)
    have l1:(digs 1).length<2^39:=Nat.lt_of_le_of_lt (digs_length_le (k:=1) (by omega)) (by omega)
    obtain ⟨a',b',t',k1,k2,k3,k4,k5,k6,k7,k8,k9⟩:=W99_13 (K99_13 (finK cfg.P f99.results.toList)) [] x.v x.v y.v 1 rfl (by omega) (by omega) (by omega) (by rw[Nat.mul_one];omega) (by omega) (by omega) l1
    have la':(digs a').length<2^39:=Nat.lt_of_le_of_lt (digs_mono k4) (by omega)
    have lb':(digs b').length<2^39:=Nat.lt_of_le_of_lt (digs_mono k5) (by omega)
    have lg:(digs (Nat.gcd a' b')).length<2^39:=Nat.lt_of_le_of_lt (digs_mono (Nat.gcd_le_left _ k1)) la'
    rw[if_neg (fun e=>h1 (digs_len0.1 e)),pcall1 (fz_int _ _),show AV.int .u64 1=.int .u64 ((1:Nat):Int) from rfl,h70,Option.map_some,oBs,k9,K99_13_x2,W99_15 _ _ _ (a'+b') a' b' rfl k1 k6 la' lb',K99_15_x4,pcall2 (fz_ref _) (fz_ref _),V72 (refN_ok (by omega)) (refN_ok (by omega)),refN_v,refN_v,k7,Nat.mul_one]
    rfl
 refine AP_ofz _ _ (fz_ref _) (noV_nv _) (m:=[]) ?_
 rw[T99,pcall1 (fz_nv x),e1,Option.map_some,oBs,pcall1 (fz_nv y),e2,Option.map_some,oBs,pcall1 (fz_ref _),s1,Option.map_some,oBs,hkx,oBs,hx1,oBs,pcall1 (fz_ref _),s2,Option.map_some,oBs,hky,oBs,hx1,oBs,ifA_dec]
 by_cases c1:x.v<18446744073709551616
 ·rw[if_pos c1,ifA_dec]
  by_cases c2:y.v<18446744073709551616
  ·have hgl:Nat.gcd x.v y.v<18446744073709551616:=by
    by_cases h0:x.v=0
    ·rw[h0,Nat.gcd_zero_left];exact c2
    ·exact Nat.lt_of_le_of_lt (Nat.gcd_le_left _ (Nat.pos_of_ne_zero h0)) c1
   rw[if_pos c2,hkx' c1,hky' c2,W99_5 _ _ y.v x.v y.v rfl c1 c2,K99_5_x0,pcall1 (fz_int _ _),V70 hgl]
   rfl
  ·rw[if_neg c2]
   exact big rfl
 ·rw[if_neg c1]
  exact big rfl
end Go.Ab
set_option linter.unusedVariables false
set_option linter.unusedSimpArgs false
namespace Go.Ab
def sgn (neg:Bool) (n:Nat):Int:=if neg then -(n:Int) else n
def qOf (neg:Bool) (n d:Nat):Rat:=mkRat (sgn neg n) d
theorem sgn_abs (neg:Bool) (n:Nat):(sgn neg n).natAbs=n:=by cases neg<;>simp[sgn]
theorem qOf_den0 (neg:Bool) (n:Nat):qOf neg n 0=0:=by simp[qOf,Rat.mkRat_zero]
theorem qOf_num0 (neg:Bool) (d:Nat):qOf neg 0 d=0:=by
 have:sgn neg 0=0:=by cases neg<;>rfl
 rw[qOf,this,Rat.zero_mkRat]
theorem qOf_abs {neg:Bool} {n d:Nat} (hd:d≠0):(qOf neg n d).num.natAbs=n/Nat.gcd n d:=by
 rw[qOf,Rat.num_mkRat,if_neg hd,sgn_abs,Nat.gcd_comm]
 cases neg with
 | false=>rfl
 | true=>
  have hdv:((Nat.gcd n d:Nat):Int)∣(n:Int):=Int.natCast_dvd_natCast.2 (Nat.gcd_dvd_left _ _)
  show (-(n:Int)/((Nat.gcd n d:Nat):Int)).natAbs=_
  rw[Int.neg_ediv_of_dvd hdv,Int.natAbs_neg]
  rfl
theorem qOf_den {neg:Bool} {n d:Nat} (hd:d≠0):(qOf neg n d).den=d/Nat.gcd n d:=by
 rw[qOf,Rat.den_mkRat,if_neg hd,sgn_abs,Nat.gcd_comm]
theorem qOf_neg {neg:Bool} {n d:Nat} (hd:d≠0):decide ((qOf neg n d).num<0)=(neg&&decide (n/Nat.gcd n d>0)):=by
 have hdv:((Nat.gcd n d:Nat):Int)∣(n:Int):=Int.natCast_dvd_natCast.2 (Nat.gcd_dvd_left _ _)
 have e:(qOf neg n d).num=sgn neg (n/Nat.gcd n d):=by
  rw[qOf,Rat.num_mkRat,if_neg hd,sgn_abs,Nat.gcd_comm]
  cases neg with
  | false=>rfl
  | true=>
   show -(n:Int)/((Nat.gcd n d:Nat):Int)=_
   rw[Int.neg_ediv_of_dvd hdv]
   rfl
 rw[e]
 cases neg with
 | false=>
  rw[Bool.false_and]
  exact decide_eq_false (Int.not_lt.2 (Int.natCast_nonneg _))
 | true=>
  simp only[sgn,if_true,Bool.true_and]
  exact decide_eq_decide.2 (by omega)
theorem qOf_eq0 {neg:Bool} {n d:Nat} (hd:d≠0):qOf neg n d=0↔n=0:=by
 rw[qOf,Rat.mkRat_eq_zero hd]
 cases neg<;>simp[sgn]
theorem qOf_negate (neg:Bool) (n d:Nat):qOf (!neg) n d=-qOf neg n d:=by
 rw[qOf,qOf,Rat.neg_mkRat]
 cases neg<;>simp[sgn]
theorem qOf_mul (s t:Bool) (n d k e:Nat):qOf s n d*qOf t k e=qOf (s != t) (n*k) (d*e):=by
 rw[qOf,qOf,qOf,Rat.mkRat_mul_mkRat]
 congr 1
 cases s<;>cases t<;>simp[sgn,Int.natCast_mul,Int.neg_mul,Int.mul_neg]
theorem qOf_add {s t:Bool} {n d k e:Nat} (hd:d≠0) (he:e≠0):qOf s n d+qOf t k e=mkRat (sgn s (n*e)+sgn t (k*d)) (d*e):=by
 rw[qOf,qOf,Rat.mkRat_add_mkRat _ _ hd he]
 congr 1
 cases s<;>cases t<;>simp[sgn,Int.natCast_mul,Int.neg_mul]
theorem sgn_same {s:Bool} {x y:Nat}:sgn s x+sgn s y=sgn s (x+y):=by cases s<;>simp[sgn]<;>omega
theorem sgn_gt {s t:Bool} {x y:Nat} (h:s≠t) (hxy:¬ x<y):sgn s x+sgn t y=sgn s (x-y):=by
 cases s<;>cases t<;>simp[sgn] at h ⊢<;>omega
theorem sgn_lt {s t:Bool} {x y:Nat} (h:s≠t) (hxy:x<y):sgn s x+sgn t y=sgn t (y-x):=by
 cases s<;>cases t<;>simp[sgn] at h ⊢<;>omega
structure RV where
 neg:Bool
 num:NV
 den:NV
def RV.av (r:RV):AV:=.agg [.bool r.neg,r.num.av,r.den.av]
def RV.fr (r:RV):RV:=⟨r.neg,r.num.fr,r.den.fr⟩
def RV.q (r:RV):Rat:=qOf r.neg r.num.v r.den.v
structure ROk (k:Nat) (r:RV):Prop where
 num:NOk r.num
 den:NOk r.den
 ln:r.num.ds.length≤k
 ld:r.den.ds.length≤k
theorem ROk.fr {k:Nat} {r:RV} (h:ROk k r):ROk k r.fr:=⟨h.num.fr,h.den.fr,h.ln,h.ld⟩
theorem ROk.mono {k k':Nat} {r:RV} (h:ROk k r) (hk:k≤k'):ROk k' r:=⟨h.num,h.den,Nat.le_trans h.ln hk,Nat.le_trans h.ld hk⟩
theorem RV.fr_q (r:RV):r.fr.q=r.q:=rfl
theorem fz_rv (r:RV):Fz r.av r.fr.av:=by
 intro m
 have e:frz m fuelF r.av=(mapF (frz m 8) [.bool r.neg,r.num.av,r.den.av]).map fun r=>(.agg r.1,r.2):=rfl
 rw[e]
 simp[mapF,fza_bool r.neg m 7,fza_nv r.num m 7,fza_nv r.den m 7,RV.fr,RV.av]
theorem noV_rv (r:RV):noV r.av=true:=by simp[RV.av,noV,noVL,NV.av]
structure Can (r:RV) (q:Rat):Prop where
 neg:r.neg=decide (q.num<0)
 num:r.num.ds=digs q.num.natAbs
 den:r.den.ds=digs q.den
 numz:r.num.z=true→r.num.ds=[]
 denz:r.den.z=true→r.den.ds=[]
theorem Can.q {r:RV} {q:Rat} (h:Can r q):r.q=q:=by
 rw[RV.q,NV.v,NV.v,h.num,h.den,val_digs,val_digs,h.neg,qOf]
 have e:sgn (decide (q.num<0)) q.num.natAbs=q.num:=by
  by_cases hq:q.num<0
  ·simp[sgn,hq];omega
  ·simp[sgn,hq];omega
 rw[e]
 exact Rat.mkRat_self q
def Bd (k:Nat) (q:Rat):Prop:=(digs q.num.natAbs).length≤k∧(digs q.den).length≤k
theorem Can.ok {r:RV} {q:Rat} {k:Nat} (h:Can r q) (hb:Bd k q) (hk:k<2^40):ROk k r:=by
 refine ⟨⟨by rw[h.num];exact dg_digs _,by rw[h.num];exact Nat.lt_of_le_of_lt hb.1 hk,h.numz⟩,⟨by rw[h.den];exact dg_digs _,by rw[h.den];exact Nat.lt_of_le_of_lt hb.2 hk,h.denz⟩,by rw[h.num];exact hb.1,by rw[h.den];exact hb.2⟩
theorem Can.den0 {r:RV} {q:Rat} (h:Can r q):r.den.v≠0:=by
 rw[NV.v,h.den,val_digs];exact q.den_nz
theorem ln_mul {a b i j:Nat} (ha:(digs a).length≤i) (hb:(digs b).length≤j):(digs (a*b)).length≤i+j:=by
 refine digs_length_le ?_
 have h1:=val_lt (dg_digs a)
 have h2:=val_lt (dg_digs b)
 rw[val_digs] at h1 h2
 have h3:4294967296^(digs a).length≤4294967296^i:=Nat.pow_le_pow_right (by omega) ha
 have h4:4294967296^(digs b).length≤4294967296^j:=Nat.pow_le_pow_right (by omega) hb
 rw[Nat.pow_add]
 exact Nat.mul_lt_mul'' (by omega) (by omega)
theorem ln_add {a b i:Nat} (ha:(digs a).length≤i) (hb:(digs b).length≤i):(digs (a+b)).length≤i+1:=by
 refine digs_length_le ?_
 have h1:=val_lt (dg_digs a)
 have h2:=val_lt (dg_digs b)
 rw[val_digs] at h1 h2
 have h3:4294967296^(digs a).length≤4294967296^i:=Nat.pow_le_pow_right (by omega) ha
 have h4:4294967296^(digs b).length≤4294967296^i:=Nat.pow_le_pow_right (by omega) hb
 rw[Nat.pow_succ]
 omega
theorem ln_one:(digs 1).length≤1:=digs_length_le (by omega)
theorem Bd_qOf {neg:Bool} {n d k:Nat} (hn:(digs n).length≤k) (hd:(digs d).length≤k) (hk:1≤k):Bd k (qOf neg n d):=by
 by_cases h0:d=0
 ·subst h0
  rw[qOf_den0]
  refine ⟨?_,?_⟩
  ·show (digs 0).length≤k
   rw[digs_zero];exact Nat.zero_le _
  ·show (digs 1).length≤k
   exact Nat.le_trans ln_one hk
 ·refine ⟨?_,?_⟩
  ·rw[qOf_abs h0];exact Nat.le_trans (digs_mono (Nat.div_le_self _ _)) hn
  ·rw[qOf_den h0];exact Nat.le_trans (digs_mono (Nat.div_le_self _ _)) hd
theorem Bd.mono {k k':Nat} {q:Rat} (h:Bd k q) (hk:k≤k'):Bd k' q:=⟨Nat.le_trans h.1 hk,Nat.le_trans h.2 hk⟩
theorem qOf_self (q:Rat):qOf (decide (q.num<0)) q.num.natAbs q.den=q:=by
 have e:sgn (decide (q.num<0)) q.num.natAbs=q.num:=by
  by_cases hq:q.num<0
  ·simp[sgn,hq];omega
  ·simp[sgn,hq];omega
 rw[qOf,e]
 exact Rat.mkRat_self q
theorem Bd_mul {p q:Rat} {k l:Nat} (hp:Bd k p) (hq:Bd l q) (hk:1≤k):Bd (k+l) (p*q):=by
 rw[← qOf_self p,← qOf_self q,qOf_mul]
 exact Bd_qOf (ln_mul hp.1 hq.1) (ln_mul hp.2 hq.2) (by omega)
theorem mk_sgn (x:Int):∃ s n,x=sgn s n∧n=x.natAbs:=⟨decide (x<0),x.natAbs,by
 by_cases hq:x<0
 ·simp[sgn,hq];omega
 ·simp[sgn,hq];omega,rfl⟩
theorem Bd_add {p q:Rat} {k l:Nat} (hp:Bd k p) (hq:Bd l q) (hk:1≤k):Bd (k+l+1) (p+q):=by
 have h1:=ln_mul hp.1 hq.2
 have h2:=ln_mul hq.1 hp.2
 rw[← qOf_self p,← qOf_self q,qOf_add p.den_nz q.den_nz]
 obtain ⟨s,n,e1,e2⟩:=mk_sgn (sgn (decide (p.num<0)) (p.num.natAbs*q.den)+sgn (decide (q.num<0)) (q.num.natAbs*p.den))
 have hle:n≤p.num.natAbs*q.den+q.num.natAbs*p.den:=by
  rw[e2]
  refine Nat.le_trans (Int.natAbs_add_le _ _) ?_
  rw[sgn_abs,sgn_abs]
  exact Nat.le_refl _
 have h2':(digs (q.num.natAbs*p.den)).length≤k+l:=by omega
 have h3:=ln_add h1 h2'
 rw[e1,← qOf]
 exact Bd_qOf (Nat.le_trans (digs_mono hle) h3) (Nat.le_trans (ln_mul hp.2 hq.2) (by omega)) (by omega)
theorem Bd_zero {k:Nat} (hk:1≤k):Bd k 0:=⟨by show (digs 0).length≤k;rw[digs_zero];exact Nat.zero_le _,Nat.le_trans (by show (digs 1).length≤1;exact ln_one) hk⟩
theorem Bd_one {k:Nat} (hk:1≤k):Bd k 1:=⟨Nat.le_trans (by show (digs 1).length≤1;exact ln_one) hk,Nat.le_trans (by show (digs 1).length≤1;exact ln_one) hk⟩
theorem ROk.bd {k:Nat} {r:RV} (h:ROk k r) (hk:1≤k):Bd k r.q:=Bd_qOf (Nat.le_trans h.num.v_len h.ln) (Nat.le_trans h.den.v_len h.ld) hk
def rightR (r:RV):Bool:=canB r.num.ds&&(canB r.den.ds&&(decide (r.den.v≠0)&&(!(decide (r.num.v=0)&&r.neg)&&decide (Nat.gcd r.num.v r.den.v=1))))
theorem rightR_can {r:RV} (hr:rightR r=true) (hz:r.num.z=true→r.num.ds=[]) (hz':r.den.z=true→r.den.ds=[]):Can r r.q:=by
 simp only[rightR,canB,Bool.and_eq_true,decide_eq_true_eq,Bool.not_eq_true',Bool.and_eq_false_iff,decide_eq_false_iff_not] at hr
 obtain ⟨h1,h2,h3,h4,h5⟩:=hr
 have e1:r.q.num.natAbs=r.num.v:=by rw[RV.q,qOf_abs h3,h5,Nat.div_one]
 have e2:r.q.den=r.den.v:=by rw[RV.q,qOf_den h3,h5,Nat.div_one]
 refine ⟨?_,by rw[e1];exact h1,by rw[e2];exact h2,hz,hz'⟩
 rw[RV.q,qOf_neg h3,h5,Nat.div_one]
 rcases h4 with h4|h4
 ·cases hn:r.neg with
  | false=>rfl
  | true=>simp;omega
 ·rw[h4];rfl
end Go.Ab
set_option linter.unusedVariables false
set_option linter.unusedSimpArgs false
namespace Go.Ab
def cR (r:RV):Option Ent:=some (.obj true [.bool r.neg,r.num.av,r.den.av])
def nilV:NV:=⟨true,.full,[]⟩
def zR:RV:=⟨false,nilV,nilV⟩
theorem box_rv (m:Mem) (r:RV):boxA none (some 3) m r.av=some (.ptr m.length 0,m++[cR r]):=rfl
theorem new_z (m:Mem):newAt none m (.obj true [.bool false,nilV.av,nilV.av])=(m.length,m++[cR zR]):=rfl
theorem new_r (m:Mem):newAt none m .resv=(m.length,m++[some .resv]):=rfl
theorem new_zs (m:Mem) (n:Nat):newAt (some n) m (.obj true [.bool false,nilV.av,nilV.av])=(n,m.set n (cR zR)):=rfl
theorem new_rs (m:Mem) (n:Nat):newAt (some n) m .resv=(n,m.set n (some .resv)):=rfl
theorem fld0 (n:Nat):fieldAddrA 0 (.ptr n 0)=some (.ptr n 0):=rfl
theorem fld1 (n:Nat):fieldAddrA 1 (.ptr n 0)=some (.ptr n 1):=rfl
theorem fld2 (n:Nat):fieldAddrA 2 (.ptr n 0)=some (.ptr n 2):=rfl
theorem res1 (m:Mem):reserve m 1=m++[some .resv]:=rfl
theorem res2 (m:Mem):reserve m 2=m++[some .resv,some .resv]:=rfl
theorem ld0neg {M:Mem} {r:RV}:loadA none (cR r::M) (.ptr 0 0)=some (.bool r.neg):=rfl
theorem ld0num {M:Mem} {r:RV}:loadA none (cR r::M) (.ptr 0 1)=some (r.num.av):=rfl
theorem ld0den {M:Mem} {r:RV}:loadA none (cR r::M) (.ptr 0 2)=some (r.den.av):=rfl
theorem ld0all {M:Mem} {r:RV}:loadA (some 3) (cR r::M) (.ptr 0 0)=some r.av:=rfl
theorem st0all {M:Mem} {r r':RV}:storeA (some 3) (cR r::M) (.ptr 0 0) r'.av=some (cR r'::M):=rfl
theorem st0neg {M:Mem} {r:RV} {b:Bool}:storeA none (cR r::M) (.ptr 0 0) (.bool b)=some (cR ⟨b,r.num,r.den⟩::M):=rfl
theorem ld1neg {c0:Option Ent} {M:Mem} {r:RV}:loadA none (c0::cR r::M) (.ptr 1 0)=some (.bool r.neg):=rfl
theorem ld1num {c0:Option Ent} {M:Mem} {r:RV}:loadA none (c0::cR r::M) (.ptr 1 1)=some (r.num.av):=rfl
theorem ld1den {c0:Option Ent} {M:Mem} {r:RV}:loadA none (c0::cR r::M) (.ptr 1 2)=some (r.den.av):=rfl
theorem ld1all {c0:Option Ent} {M:Mem} {r:RV}:loadA (some 3) (c0::cR r::M) (.ptr 1 0)=some r.av:=rfl
theorem st1all {c0:Option Ent} {M:Mem} {r r':RV}:storeA (some 3) (c0::cR r::M) (.ptr 1 0) r'.av=some (c0::cR r'::M):=rfl
theorem st1neg {c0:Option Ent} {M:Mem} {r:RV} {b:Bool}:storeA none (c0::cR r::M) (.ptr 1 0) (.bool b)=some (c0::cR ⟨b,r.num,r.den⟩::M):=rfl
theorem ld2neg {c0 c1:Option Ent} {M:Mem} {r:RV}:loadA none (c0::c1::cR r::M) (.ptr 2 0)=some (.bool r.neg):=rfl
theorem ld2num {c0 c1:Option Ent} {M:Mem} {r:RV}:loadA none (c0::c1::cR r::M) (.ptr 2 1)=some (r.num.av):=rfl
theorem ld2den {c0 c1:Option Ent} {M:Mem} {r:RV}:loadA none (c0::c1::cR r::M) (.ptr 2 2)=some (r.den.av):=rfl
theorem ld2all {c0 c1:Option Ent} {M:Mem} {r:RV}:loadA (some 3) (c0::c1::cR r::M) (.ptr 2 0)=some r.av:=rfl
theorem st2all {c0 c1:Option Ent} {M:Mem} {r r':RV}:storeA (some 3) (c0::c1::cR r::M) (.ptr 2 0) r'.av=some (c0::c1::cR r'::M):=rfl
theorem st2neg {c0 c1:Option Ent} {M:Mem} {r:RV} {b:Bool}:storeA none (c0::c1::cR r::M) (.ptr 2 0) (.bool b)=some (c0::c1::cR ⟨b,r.num,r.den⟩::M):=rfl
theorem ld3neg {c0 c1 c2:Option Ent} {M:Mem} {r:RV}:loadA none (c0::c1::c2::cR r::M) (.ptr 3 0)=some (.bool r.neg):=rfl
theorem ld3num {c0 c1 c2:Option Ent} {M:Mem} {r:RV}:loadA none (c0::c1::c2::cR r::M) (.ptr 3 1)=some (r.num.av):=rfl
theorem ld3den {c0 c1 c2:Option Ent} {M:Mem} {r:RV}:loadA none (c0::c1::c2::cR r::M) (.ptr 3 2)=some (r.den.av):=rfl
theorem ld3all {c0 c1 c2:Option Ent} {M:Mem} {r:RV}:loadA (some 3) (c0::c1::c2::cR r::M) (.ptr 3 0)=some r.av:=rfl
theorem st3all {c0 c1 c2:Option Ent} {M:Mem} {r r':RV}:storeA (some 3) (c0::c1::c2::cR r::M) (.ptr 3 0) r'.av=some (c0::c1::c2::cR r'::M):=rfl
theorem st3neg {c0 c1 c2:Option Ent} {M:Mem} {r:RV} {b:Bool}:storeA none (c0::c1::c2::cR r::M) (.ptr 3 0) (.bool b)=some (c0::c1::c2::cR ⟨b,r.num,r.den⟩::M):=rfl
theorem ld4neg {c0 c1 c2 c3:Option Ent} {M:Mem} {r:RV}:loadA none (c0::c1::c2::c3::cR r::M) (.ptr 4 0)=some (.bool r.neg):=rfl
theorem ld4num {c0 c1 c2 c3:Option Ent} {M:Mem} {r:RV}:loadA none (c0::c1::c2::c3::cR r::M) (.ptr 4 1)=some (r.num.av):=rfl
theorem ld4den {c0 c1 c2 c3:Option Ent} {M:Mem} {r:RV}:loadA none (c0::c1::c2::c3::cR r::M) (.ptr 4 2)=some (r.den.av):=rfl
theorem ld4all {c0 c1 c2 c3:Option Ent} {M:Mem} {r:RV}:loadA (some 3) (c0::c1::c2::c3::cR r::M) (.ptr 4 0)=some r.av:=rfl
theorem st4all {c0 c1 c2 c3:Option Ent} {M:Mem} {r r':RV}:storeA (some 3) (c0::c1::c2::c3::cR r::M) (.ptr 4 0) r'.av=some (c0::c1::c2::c3::cR r'::M):=rfl
theorem st4neg {c0 c1 c2 c3:Option Ent} {M:Mem} {r:RV} {b:Bool}:storeA none (c0::c1::c2::c3::cR r::M) (.ptr 4 0) (.bool b)=some (c0::c1::c2::c3::cR ⟨b,r.num,r.den⟩::M):=rfl
theorem ex0 (a:AV) (l:List AV):extractA (.tup (a::l)) 0=some a:=rfl
theorem ex1 (a b:AV) (l:List AV):extractA (.tup (a::b::l)) 1=some b:=rfl
theorem ex2 (a b c:AV) (l:List AV):extractA (.tup (a::b::c::l)) 2=some c:=rfl
theorem bld0:buildA (.agg [.bool false,nilV.av,nilV.av]) []=some zR.av:=rfl
theorem bld2 (x:NV):buildA (.agg [.bool false,nilV.av,nilV.av]) [(2,none,x.av)]=some (RV.av ⟨false,nilV,x⟩):=rfl
theorem bld12 (x y:NV):buildA (.agg [.bool false,nilV.av,nilV.av]) [(1,none,x.av),(2,none,y.av)]=some (RV.av ⟨false,x,y⟩):=rfl
theorem bld012 (b:Bool) (x y:NV):buildA (.agg [.bool false,nilV.av,nilV.av]) [(0,none,.bool b),(1,none,x.av),(2,none,y.av)]=some (RV.av ⟨b,x,y⟩):=rfl
theorem nil_av:AV.lst none true .full []=nilV.av:=rfl
theorem not_b (b:Bool):unA .not (.bool b)=some (.bool (!b)):=rfl
theorem bl_neq (a b:Bool):binA .bl .neq (.bool a) (.bool b)=some (.bool (a != b)):=rfl
theorem bl_eql (a b:Bool):binA .bl .eql (.bool a) (.bool b)=some (.bool (a==b)):=rfl
section
variable {cp:Nat→List AV→Option AV} {d:Option Nat} {m:Mem} {g:Nat}
theorem pcN (x:NV):pcall cp d m g [x.av]=(cp g [x.fr.av]).map fun v=>(v,m):=pcall1 (fz_nv x)
theorem pcI (k:IntKind) (n:Int):pcall cp d m g [.int k n]=(cp g [.int k n]).map fun v=>(v,m):=pcall1 (fz_int k n)
theorem pcNN (x y:NV):pcall cp d m g [x.av,y.av]=(cp g [x.fr.av,y.fr.av]).map fun v=>(v,m):=pcall2 (fz_nv x) (fz_nv y)
theorem pcBNN (b:Bool) (x y:NV):pcall cp d m g [.bool b,x.av,y.av]=(cp g [.bool b,x.fr.av,y.fr.av]).map fun v=>(v,m):=pcall3 (fz_bool b) (fz_nv x) (fz_nv y)
theorem pcR (r:RV):pcall cp d m g [r.av]=(cp g [r.fr.av]).map fun v=>(v,m):=pcall1 (fz_rv r)
theorem pcRR (r s:RV):pcall cp d m g [r.av,s.av]=(cp g [r.fr.av,s.fr.av]).map fun v=>(v,m):=pcall2 (fz_rv r) (fz_rv s)
theorem pc0:pcall cp d m g []=(cp g []).map fun v=>(v,m):=pcall0
end
theorem frz_rv (m:Mem) (r:RV):frz m 8 r.av=some (r.fr.av,[]):=by
 have e:frz m 8 r.av=(mapF (frz m 7) [.bool r.neg,r.num.av,r.den.av]).map fun r=>(.agg r.1,r.2):=rfl
 rw[e]
 simp[mapF,fza_bool r.neg m 6,fza_nv r.num m 6,fza_nv r.den m 6,RV.fr,RV.av]
theorem fz_tupR2 (r:RV) {b b':AV} (hb:∀ m k,frz m (k+1) b=some (b',[])):Fz (.tup [r.av,b]) (.tup [r.fr.av,b']):=by
 intro m
 show (mapF (frz m 8) [r.av,b]).map _=_
 simp[mapF,frz_rv,hb m 7]
end Go.Ab
set_option linter.unusedVariables false
set_option linter.unusedSimpArgs false
namespace Go.Ab
structure LV where
 sh:Sh
 z:Bool
 o:Own
 es:List RV
def LV.av (l:LV):AV:=.lst l.sh l.z l.o (l.es.map RV.av)
def LV.fr (l:LV):LV:=⟨l.sh,l.z,l.o.fr,l.es⟩
structure LOk (k:Nat) (l:LV):Prop where
 sh:l.sh=some 3∨l.es=[]
 z:l.z=true→l.es=[]
 fr:∀ r∈l.es,r.fr=r
 ok:∀ r∈l.es,ROk k r
structure MV where
 rows:Int
 cols:Int
 lv:LV
def MV.av (x:MV):AV:=.agg [.int .i64 x.rows,.int .i64 x.cols,x.lv.av]
def MV.fr (x:MV):MV:=⟨x.rows,x.cols,x.lv.fr⟩
theorem LOk.fr' {k:Nat} {l:LV} (h:LOk k l):LOk k l.fr:=⟨h.sh,h.z,h.fr,h.ok⟩
theorem LOk.mono {k k':Nat} {l:LV} (h:LOk k l) (hk:k≤k'):LOk k' l:=⟨h.sh,h.z,h.fr,fun r hr=>(h.ok r hr).mono hk⟩
theorem fz_mv (x:MV):Fz x.av x.fr.av:=by
 intro m
 have e:frz m fuelF x.av=(mapF (frz m 8) [.int .i64 x.rows,.int .i64 x.cols,x.lv.av]).map fun r=>(.agg r.1,r.2):=rfl
 rw[e]
 simp[mapF,fza_int .i64 x.rows m 7,fza_int .i64 x.cols m 7,fza_lst x.lv.sh x.lv.z x.lv.o (x.lv.es.map RV.av) m 7,MV.fr,MV.av,LV.fr,LV.av]
theorem noV_mv (x:MV):noV x.av=true:=rfl
theorem frz_mv (m:Mem) (x:MV):frz m 8 x.av=some (x.fr.av,[]):=by
 have e:frz m 8 x.av=(mapF (frz m 7) [.int .i64 x.rows,.int .i64 x.cols,x.lv.av]).map fun r=>(.agg r.1,r.2):=rfl
 rw[e]
 simp[mapF,fza_int .i64 x.rows m 6,fza_int .i64 x.cols m 6,fza_lst x.lv.sh x.lv.z x.lv.o (x.lv.es.map RV.av) m 6,MV.fr,MV.av,LV.fr,LV.av]
theorem fz_tupM2 (r:MV) {b b':AV} (hb:∀ m k,frz m (k+1) b=some (b',[])):Fz (.tup [r.av,b]) (.tup [r.fr.av,b']):=by
 intro m
 show (mapF (frz m 8) [r.av,b]).map _=_
 simp[mapF,frz_mv,hb m 7]
theorem len_lv (l:LV):lenA false l.av=some (.int .i64 l.es.length):=by simp[LV.av,lenA]
theorem index_lv {l:LV} {k k':Nat} {kk:IntKind} (h:LOk k' l) (hk:k<l.es.length):indexAddrA (some 3) l.av (.int kk k)=some (.vptr (l.es[k].av).cells):=by
 have hs:l.sh=some 3:=h.sh.resolve_right (fun e=>by rw[e] at hk;simp at hk)
 simp[LV.av,indexAddrA,hs,hk]
theorem load_row (m:Mem) (r:RV):loadA (some 3) m (.vptr r.av.cells)=some r.av:=rfl
theorem build_row {r:RV} (h:r.fr=r):buildSliceA (some 3) [r.av]=some (.lst (some 3) false .full [r.av]):=by
 obtain ⟨n,⟨z1,o1,d1⟩,⟨z2,o2,d2⟩⟩:=r
 simp only[RV.fr,NV.fr,RV.mk.injEq,NV.mk.injEq,true_and,and_true] at h
 cases o1<;>cases o2<;>simp[Own.fr] at h<;>rfl
def cM (x:MV):Option Ent:=some (.obj true [.int .i64 x.rows,.int .i64 x.cols,x.lv.av])
def nilL:LV:=⟨none,true,.full,[]⟩
def zM:MV:=⟨0,0,nilL⟩
theorem box_mv (m:Mem) (x:MV):boxA none (some 3) m x.av=some (.ptr m.length 0,m++[cM x]):=rfl
theorem new_m (m:Mem):newAt none m (.obj true [.int .i64 0,.int .i64 0,.lst none true .full []])=(m.length,m++[cM zM]):=rfl
theorem mget {m:Mem} {n:Nat} {e:Ent} (h:m[n]?=some (some e)):m.get n=some e:=by simp[Mem.get,h]
theorem mobj {m:Mem} {n:Nat} {bx:Bool} {cs:List AV} (h:m[n]?=some (some (.obj bx cs))):m.obj? n=some (bx,cs):=by simp[Mem.obj?,Mem.get,h]
theorem mld0 {m:Mem} {n:Nat} {x:MV} (h:m[n]?=some (cM x)):loadA none m (.ptr n 0)=some (.int .i64 x.rows):=by
 simp[loadA,mobj h,cutSh]
theorem mld1 {m:Mem} {n:Nat} {x:MV} (h:m[n]?=some (cM x)):loadA none m (.ptr n 1)=some (.int .i64 x.cols):=by
 simp[loadA,mobj h,cutSh]
theorem mld2 {m:Mem} {n:Nat} {x:MV} (h:m[n]?=some (cM x)):loadA none m (.ptr n 2)=some x.lv.av:=by
 simp[loadA,mobj h,cutSh]
theorem mldA {m:Mem} {n:Nat} {x:MV} (h:m[n]?=some (cM x)):loadA (some 3) m (.ptr n 0)=some x.av:=by
 simp[loadA,mobj h,cutSh,MV.av]
theorem mstA {m:Mem} {n:Nat} {x y:MV} (h:m[n]?=some (cM x)):storeA (some 3) m (.ptr n 0) y.av=some (m.set n (cM y)):=by
 simp only[storeA,mobj h,oBs]
 rfl
theorem mst2 {m:Mem} {n:Nat} {x:MV} {l:LV} (h:m[n]?=some (cM x)):storeA none m (.ptr n 2) l.av=some (m.set n (cM ⟨x.rows,x.cols,l⟩)):=by
 simp only[storeA,mobj h,oBs]
 rfl
theorem rldA {m:Mem} {n:Nat} {x:RV} (h:m[n]?=some (cR x)):loadA (some 3) m (.ptr n 0)=some x.av:=by
 simp[loadA,mobj h,cutSh,RV.av]
theorem rld0 {m:Mem} {n:Nat} {x:RV} (h:m[n]?=some (cR x)):loadA none m (.ptr n 0)=some (.bool x.neg):=by simp[loadA,mobj h,cutSh]
theorem rld1 {m:Mem} {n:Nat} {x:RV} (h:m[n]?=some (cR x)):loadA none m (.ptr n 1)=some x.num.av:=by simp[loadA,mobj h,cutSh]
theorem rld2 {m:Mem} {n:Nat} {x:RV} (h:m[n]?=some (cR x)):loadA none m (.ptr n 2)=some x.den.av:=by simp[loadA,mobj h,cutSh]
theorem rstA {m:Mem} {n:Nat} {x y:RV} (h:m[n]?=some (cR x)):storeA (some 3) m (.ptr n 0) y.av=some (m.set n (cR y)):=by
 simp only[storeA,mobj h,oBs]
 rfl
def Kp (m m':Mem):Prop:=m.length≤m'.length∧∀ (n:Nat) (bx:Bool) (cs:List AV),m[n]?=some (some (Ent.obj bx cs))→m'[n]?=some (some (Ent.obj bx cs))
theorem Kp.refl (m:Mem):Kp m m:=⟨Nat.le_refl _,fun _ _ _ h=>h⟩
theorem Kp.trans {a b c:Mem} (h:Kp a b) (k:Kp b c):Kp a c:=⟨Nat.le_trans h.1 k.1,fun n bx cs hh=>k.2 n bx cs (h.2 n bx cs hh)⟩
theorem Kp.app (m e:Mem):Kp m (m++e):=⟨by simp,fun n bx cs h=>by
 have hn:n<m.length:=by
  apply Classical.byContradiction
  intro hc
  rw[List.getElem?_eq_none (by omega)] at h
  cases h
 rw[List.getElem?_append_left hn];exact h⟩
def RowAt (m:Mem) (l:LV):Prop:=(l=nilL)∨(l.sh=some 3∧l.z=false∧l.es≠[]∧∃ nm,l.o=.tok nm 43∧m[nm]?=some (some (.tok l.es.length 3)))
theorem RowAt.app {m:Mem} {l:LV} (h:RowAt m l) (e:Mem):RowAt (m++e) l:=by
 rcases h with h|⟨h1,h2,h3,nm,h4,h5⟩
 ·exact .inl h
 ·refine .inr ⟨h1,h2,h3,nm,h4,?_⟩
  have hn:nm<m.length:=by
   apply Classical.byContradiction
   intro hc
   rw[List.getElem?_eq_none (by omega)] at h5
   cases h5
  rw[List.getElem?_append_left hn];exact h5
theorem RowAt.set {m:Mem} {l:LV} (h:RowAt m l) {n:Nat} {bx:Bool} {cs:List AV} (hn:m[n]?=some (some (.obj bx cs))) (e:Option Ent):RowAt (m.set n e) l:=by
 rcases h with h|⟨h1,h2,h3,nm,h4,h5⟩
 ·exact .inl h
 ·refine .inr ⟨h1,h2,h3,nm,h4,?_⟩
  have hne:n≠nm:=fun e=>by rw[e,h5] at hn;cases hn
  rw[List.getElem?_set_ne hne];exact h5
theorem app_mat {m:Mem} {l:LV} {k:Nat} {r:RV} (h:RowAt m l) (hk:m[k]?=some (some .resv)) (hlen:(l.es.length+1)*56≤roomA) :
  ∃ l' m',appA (some k) false 43 (some 3) 56 m l.av (.lst (some 3) false .full [r.av])=some (l'.av,m')∧RowAt m' l'∧l'.es=l.es++[r]∧Kp m m':=by
 have hkl:k<m.length:=by
  apply Classical.byContradiction
  intro hc
  rw[List.getElem?_eq_none (by omega)] at hk
  cases hk
 rcases h with rfl|⟨h1,h2,h3,nm,h4,h5⟩
 ·refine ⟨⟨some 3,false,.tok k 43,[r]⟩,m.set k (some (.tok 1 3)),rfl,.inr ⟨rfl,rfl,by simp,k,rfl,by rw[List.getElem?_set_self hkl];rfl⟩,rfl,by simp,?_⟩
  intro n bx cs hn
  have hne:k≠n:=fun e=>by rw[← e,hk] at hn;cases hn
  rw[List.getElem?_set_ne hne];exact hn
 ·have hnl:nm<m.length:=by
   apply Classical.byContradiction
   intro hc
   rw[List.getElem?_eq_none (by omega)] at h5
   cases h5
  refine ⟨⟨some 3,false,.tok nm 43,l.es++[r]⟩,m.set nm (some (.tok (l.es.length+1) 3)),?_,.inr ⟨rfl,rfl,by simp,nm,rfl,by rw[List.getElem?_set_self hnl];simp⟩,rfl,by simp,?_⟩
  ·obtain ⟨sh,z,o,es⟩:=l
   simp only at h1 h2 h4
   subst h1;subst h2;subst h4
   simp[LV.av,appA,hlen,mget h5,Sh.size]
  ·intro n bx cs hn
   have hne:nm≠n:=fun e=>by rw[← e,h5] at hn;cases hn
   rw[List.getElem?_set_ne hne];exact hn
theorem get_last {m:Mem} {e:Option Ent}:(m++[e])[m.length]?=some e:=by simp
end Go.Ab
set_option linter.unusedVariables false
namespace Go.Ab
open Go.Proofs.Try
theorem T60 (m:Mem):AC cfg 60 [] m =
 (pcall (AP cfg) none (newAt none m (.obj true [(.bool false),(.lst none true .full []),(.lst none true .full [])])).2 93 [(.int .u64 1)]).bind fun r1=>
 (buildA (.agg [(.bool false),(.lst none true .full []),(.lst none true .full [])]) [(2,none,r1.1)]).bind fun v2=>
 (storeA (some 3) r1.2 (.ptr (newAt none m .resv).1 0) v2).bind fun m3=>
 (loadA (some 3) m3 (.ptr (newAt none m .resv).1 0)).bind fun v4=>
 some (v4,m3):=
(AC_eq cfg 60 [] m (fn:=f60) (c:=bodyOf f60) at60 rfl).trans (by kernel_rfl)
theorem T64 (a0:AV) (m:Mem):AC cfg 64 [a0] m =
 (boxA none (some 3) m a0).bind fun r1=>
 (fieldAddrA 1 r1.1).bind fun v2=>
 (loadA none r1.2 v2).bind fun v3=>
 (pcall (AP cfg) none r1.2 94 [v3]).bind fun r4=>
 (unA .not r4.1).bind fun v5=>
 ifA v5 (
 some ((.bool false),r4.2)) (
 (fieldAddrA 2 r1.1).bind fun v6=>
 (loadA none r4.2 v6).bind fun v7=>
 (pcall (AP cfg) none r4.2 94 [v7]).bind fun r8=>
 (unA .not r8.1).bind fun v9=>
 ifA v9 (
 some ((.bool false),r8.2)) (
 (fieldAddrA 2 r1.1).bind fun v10=>
 (loadA none r8.2 v10).bind fun v11=>
 (lenA false v11).bind fun v12=>
 (binA .other .eql v12 (.int .i64 0)).bind fun v13=>
 ifA v13 (
 some ((.bool false),r8.2)) (
 (fieldAddrA 1 r1.1).bind fun v14=>
 (loadA none r8.2 v14).bind fun v15=>
 (lenA false v15).bind fun v16=>
 (binA .other .eql v16 (.int .i64 0)).bind fun v17=>
 ifA v17 (
 (fieldAddrA 0 r1.1).bind fun v18=>
 (loadA none r8.2 v18).bind fun v19=>
 ifA v19 (
 some ((.bool false),r8.2)) (
 (fieldAddrA 1 r1.1).bind fun v20=>
 (loadA none r8.2 v20).bind fun v21=>
 (fieldAddrA 2 r1.1).bind fun v22=>
 (loadA none r8.2 v22).bind fun v23=>
 (pcall (AP cfg) none r8.2 96 [v21,v23]).bind fun r24=>
 (pcall (AP cfg) none r24.2 95 [r24.1]).bind fun r25=>
 (extractA r25.1 0).bind fun v26=>
 (extractA r25.1 1).bind fun v27=>
 ifA v27 (
 (binA .other .eql v26 (.int .u64 1)).bind fun v28=>
 some (v28,r25.2)) (
 some ((.bool false),r25.2)))) (
 (fieldAddrA 1 r1.1).bind fun v29=>
 (loadA none r8.2 v29).bind fun v30=>
 (fieldAddrA 2 r1.1).bind fun v31=>
 (loadA none r8.2 v31).bind fun v32=>
 (pcall (AP cfg) none r8.2 96 [v30,v32]).bind fun r33=>
 (pcall (AP cfg) none r33.2 95 [r33.1]).bind fun r34=>
 (extractA r34.1 0).bind fun v35=>
 (extractA r34.1 1).bind fun v36=>
 ifA v36 (
 (binA .other .eql v35 (.int .u64 1)).bind fun v37=>
 some (v37,r34.2)) (
 some ((.bool false),r34.2)))))):=
(AC_eq cfg 64 [a0] m (fn:=f64) (c:=bodyOf f64) at64 rfl).trans (by kernel_rfl)
theorem T75 (a0 a1:AV) (m:Mem):AC cfg 75 [a0,a1] m =
 (boxA none (some 3) m a0).bind fun r1=>
 (boxA none (some 3) r1.2 a1).bind fun r2=>
 (loadA (some 3) (newAt none r2.2 (.obj true [(.bool false),(.lst none true .full []),(.lst none true .full [])])).2 r1.1).bind fun v3=>
 (pcall (AP cfg) none (newAt none r2.2 (.obj true [(.bool false),(.lst none true .full []),(.lst none true .full [])])).2 105 [v3]).bind fun r4=>
 (binA .other .eql r4.1 (.int .i64 0)).bind fun v5=>
 ifA v5 (
 (fieldAddrA 0 r2.1).bind fun v6=>
 (loadA none r4.2 v6).bind fun v7=>
 (fieldAddrA 1 r2.1).bind fun v8=>
 (loadA none r4.2 v8).bind fun v9=>
 (fieldAddrA 2 r2.1).bind fun v10=>
 (loadA none r4.2 v10).bind fun v11=>
 (pcall (AP cfg) none r4.2 106 [v7,v9,v11]).bind fun r12=>
 (storeA (some 3) r12.2 (.ptr (newAt none r2.2 .resv).1 0) r12.1).bind fun m13=>
 (loadA (some 3) m13 (.ptr (newAt none r2.2 .resv).1 0)).bind fun v14=>
 some (v14,m13)) (
 (loadA (some 3) r4.2 r2.1).bind fun v15=>
 (pcall (AP cfg) none r4.2 105 [v15]).bind fun r16=>
 (binA .other .eql r16.1 (.int .i64 0)).bind fun v17=>
 ifA v17 (
 (fieldAddrA 0 r1.1).bind fun v18=>
 (loadA none r16.2 v18).bind fun v19=>
 (fieldAddrA 1 r1.1).bind fun v20=>
 (loadA none r16.2 v20).bind fun v21=>
 (fieldAddrA 2 r1.1).bind fun v22=>
 (loadA none r16.2 v22).bind fun v23=>
 (pcall (AP cfg) none r16.2 106 [v19,v21,v23]).bind fun r24=>
 (storeA (some 3) r24.2 (.ptr (newAt none r2.2 .resv).1 0) r24.1).bind fun m25=>
 (loadA (some 3) m25 (.ptr (newAt none r2.2 .resv).1 0)).bind fun v26=>
 some (v26,m25)) (
 (fieldAddrA 1 r1.1).bind fun v27=>
 (loadA none r16.2 v27).bind fun v28=>
 (fieldAddrA 2 r2.1).bind fun v29=>
 (loadA none r16.2 v29).bind fun v30=>
 (pcall (AP cfg) (some r16.2.length) r16.2 107 [v28,v30]).bind fun r31=>
 (fieldAddrA 1 r2.1).bind fun v32=>
 (loadA none r31.2 v32).bind fun v33=>
 (fieldAddrA 2 r1.1).bind fun v34=>
 (loadA none r31.2 v34).bind fun v35=>
 (pcall (AP cfg) (some r16.2.length) r31.2 107 [v33,v35]).bind fun r36=>
 (fieldAddrA 2 r1.1).bind fun v37=>
 (loadA none r36.2 v37).bind fun v38=>
 (fieldAddrA 2 r2.1).bind fun v39=>
 (loadA none r36.2 v39).bind fun v40=>
 (pcall (AP cfg) (some r16.2.length) r36.2 107 [v38,v40]).bind fun r41=>
 (fieldAddrA 0 r1.1).bind fun v42=>
 (loadA none r41.2 v42).bind fun v43=>
 (fieldAddrA 0 r2.1).bind fun v44=>
 (loadA none r41.2 v44).bind fun v45=>
 (binA .bl .eql v43 v45).bind fun v46=>
 ifA v46 (
 (fieldAddrA 0 r1.1).bind fun v47=>
 (loadA none r41.2 v47).bind fun v48=>
 (pcall (AP cfg) (some r41.2.length) r41.2 108 [r31.1,r36.1]).bind fun r49=>
 (pcall (AP cfg) (some r41.2.length) r49.2 106 [v48,r49.1,r41.1]).bind fun r50=>
 (storeA (some 3) r50.2 (.ptr (newAt none r2.2 .resv).1 0) r50.1).bind fun m51=>
 (loadA (some 3) m51 (.ptr (newAt none r2.2 .resv).1 0)).bind fun v52=>
 some (v52,m51)) (
 (pcall (AP cfg) none r41.2 109 [r31.1,r36.1]).bind fun r53=>
 (binA .other .lss r53.1 (.int .i64 0)).bind fun v54=>
 ifA v54 (
 (loadA (some 3) r53.2 r2.1).bind fun v55=>
 (storeA (some 3) r53.2 r1.1 v55).bind fun m56=>
 (pcall (AP cfg) none m56 110 [r36.1,r31.1]).bind fun r57=>
 (extractA r57.1 0).bind fun v58=>
 (extractA r57.1 1).bind fun v59=>
 (fieldAddrA 0 r1.1).bind fun v60=>
 (loadA none r57.2 v60).bind fun v61=>
 (pcall (AP cfg) none r57.2 106 [v61,v58,r41.1]).bind fun r62=>
 (storeA (some 3) r62.2 (.ptr (newAt none r2.2 .resv).1 0) r62.1).bind fun m63=>
 (loadA (some 3) m63 (.ptr (newAt none r2.2 .resv).1 0)).bind fun v64=>
 some (v64,m63)) (
 (pcall (AP cfg) none r53.2 110 [r31.1,r36.1]).bind fun r65=>
 (extractA r65.1 0).bind fun v66=>
 (extractA r65.1 1).bind fun v67=>
 (fieldAddrA 0 r1.1).bind fun v68=>
 (loadA none r65.2 v68).bind fun v69=>
 (pcall (AP cfg) none r65.2 106 [v69,v66,r41.1]).bind fun r70=>
 (storeA (some 3) r70.2 (.ptr (newAt none r2.2 .resv).1 0) r70.1).bind fun m71=>
 (loadA (some 3) m71 (.ptr (newAt none r2.2 .resv).1 0)).bind fun v72=>
 some (v72,m71))))):=
(AC_eq cfg 75 [a0,a1] m (fn:=f75) (c:=bodyOf f75) at75 rfl).trans (by kernel_rfl)
theorem T78 (a0 a1:AV) (m:Mem):AC cfg 78 [a0,a1] m =
 (boxA none (some 3) m a0).bind fun r1=>
 (boxA none (some 3) r1.2 a1).bind fun r2=>
 (fieldAddrA 0 r1.1).bind fun v3=>
 (loadA none (newAt none r2.2 (.obj true [(.bool false),(.lst none true .full []),(.lst none true .full [])])).2 v3).bind fun v4=>
 (fieldAddrA 0 r2.1).bind fun v5=>
 (loadA none (newAt none r2.2 (.obj true [(.bool false),(.lst none true .full []),(.lst none true .full [])])).2 v5).bind fun v6=>
 (binA .bl .neq v4 v6).bind fun v7=>
 (fieldAddrA 1 r1.1).bind fun v8=>
 (loadA none (newAt none r2.2 (.obj true [(.bool false),(.lst none true .full []),(.lst none true .full [])])).2 v8).bind fun v9=>
 (fieldAddrA 1 r2.1).bind fun v10=>
 (loadA none (newAt none r2.2 (.obj true [(.bool false),(.lst none true .full []),(.lst none true .full [])])).2 v10).bind fun v11=>
 (pcall (AP cfg) (some (newAt none r2.2 (.obj true [(.bool false),(.lst none true .full []),(.lst none true .full [])])).2.length) (newAt none r2.2 (.obj true [(.bool false),(.lst none true .full []),(.lst none true .full [])])).2 107 [v9,v11]).bind fun r12=>
 (fieldAddrA 2 r1.1).bind fun v13=>
 (loadA none r12.2 v13).bind fun v14=>
 (fieldAddrA 2 r2.1).bind fun v15=>
 (loadA none r12.2 v15).bind fun v16=>
 (pcall (AP cfg) (some (newAt none r2.2 (.obj true [(.bool false),(.lst none true .full []),(.lst none true .full [])])).2.length) r12.2 107 [v14,v16]).bind fun r17=>
 (pcall (AP cfg) (some (newAt none r2.2 (.obj true [(.bool false),(.lst none true .full []),(.lst none true .full [])])).2.length) r17.2 106 [v7,r12.1,r17.1]).bind fun r18=>
 (storeA (some 3) r18.2 (.ptr (newAt none r2.2 .resv).1 0) r18.1).bind fun m19=>
 (loadA (some 3) m19 (.ptr (newAt none r2.2 .resv).1 0)).bind fun v20=>
 some (v20,m19):=
(AC_eq cfg 78 [a0,a1] m (fn:=f78) (c:=bodyOf f78) at78 rfl).trans (by kernel_rfl)
theorem T84 (m:Mem):AC cfg 84 [] m =
 (pcall (AP cfg) none (newAt none m (.obj true [(.bool false),(.lst none true .full []),(.lst none true .full [])])).2 93 [(.int .u64 1)]).bind fun r1=>
 (pcall (AP cfg) none r1.2 93 [(.int .u64 1)]).bind fun r2=>
 (buildA (.agg [(.bool false),(.lst none true .full []),(.lst none true .full [])]) [(1,none,r1.1),(2,none,r2.1)]).bind fun v3=>
 (storeA (some 3) r2.2 (.ptr (newAt none m .resv).1 0) v3).bind fun m4=>
 (loadA (some 3) m4 (.ptr (newAt none m .resv).1 0)).bind fun v5=>
 some (v5,m4):=
(AC_eq cfg 84 [] m (fn:=f84) (c:=bodyOf f84) at84 rfl).trans (by kernel_rfl)
theorem T89 (a0:AV) (m:Mem):AC cfg 89 [a0] m =
 (boxA none (some 3) m a0).bind fun r1=>
 (fieldAddrA 0 r1.1).bind fun v2=>
 (loadA none (newAt none r1.2 (.obj true [(.bool false),(.lst none true .full []),(.lst none true .full [])])).2 v2).bind fun v3=>
 (unA .not v3).bind fun v4=>
 (fieldAddrA 1 r1.1).bind fun v5=>
 (loadA none (newAt none r1.2 (.obj true [(.bool false),(.lst none true .full []),(.lst none true .full [])])).2 v5).bind fun v6=>
 (fieldAddrA 2 r1.1).bind fun v7=>
 (loadA none (newAt none r1.2 (.obj true [(.bool false),(.lst none true .full []),(.lst none true .full [])])).2 v7).bind fun v8=>
 (pcall (AP cfg) none (newAt none r1.2 (.obj true [(.bool false),(.lst none true .full []),(.lst none true .full [])])).2 106 [v4,v6,v8]).bind fun r9=>
 (storeA (some 3) r9.2 (.ptr (newAt none r1.2 .resv).1 0) r9.1).bind fun m10=>
 (loadA (some 3) m10 (.ptr (newAt none r1.2 .resv).1 0)).bind fun v11=>
 some (v11,m10):=
(AC_eq cfg 89 [a0] m (fn:=f89) (c:=bodyOf f89) at89 rfl).trans (by kernel_rfl)
theorem T105 (a0:AV) (m:Mem):AC cfg 105 [a0] m =
 (boxA none (some 3) m a0).bind fun r1=>
 (fieldAddrA 1 r1.1).bind fun v2=>
 (loadA none r1.2 v2).bind fun v3=>
 (pcall (AP cfg) none r1.2 109 [v3,(.lst none true .full [])]).bind fun r4=>
 (binA .other .eql r4.1 (.int .i64 0)).bind fun v5=>
 ifA v5 (
 some ((.int .i64 0),r4.2)) (
 (fieldAddrA 2 r1.1).bind fun v6=>
 (loadA none r4.2 v6).bind fun v7=>
 (pcall (AP cfg) none r4.2 109 [v7,(.lst none true .full [])]).bind fun r8=>
 (binA .other .eql r8.1 (.int .i64 0)).bind fun v9=>
 ifA v9 (
 some ((.int .i64 0),r8.2)) (
 (fieldAddrA 0 r1.1).bind fun v10=>
 (loadA none r8.2 v10).bind fun v11=>
 ifA v11 (
 some ((.int .i64 (-1)),r8.2)) (
 some ((.int .i64 1),r8.2)))):=
(AC_eq cfg 105 [a0] m (fn:=f105) (c:=bodyOf f105) at105 rfl).trans (by kernel_rfl)
theorem T106 (a0 a1 a2:AV) (m:Mem):AC cfg 106 [a0,a1,a2] m =
 (pcall (AP cfg) none (newAt none m (.obj true [(.bool false),(.lst none true .full []),(.lst none true .full [])])).2 132 [a0,a1,a2]).bind fun r1=>
 (extractA r1.1 0).bind fun v2=>
 (extractA r1.1 1).bind fun v3=>
 (storeA (some 3) (newAt none r1.2 (.obj true [(.bool false),(.lst none true .full []),(.lst none true .full [])])).2 (.ptr (newAt none r1.2 .resv).1 0) v2).bind fun m4=>
 (binA .other .neq v3 (.int .i64 0)).bind fun v5=>
 ifA v5 (
 (pcall (AP cfg) none m4 60 []).bind fun r6=>
 (storeA (some 3) r6.2 (.ptr (newAt none m .resv).1 0) r6.1).bind fun m7=>
 (loadA (some 3) m7 (.ptr (newAt none m .resv).1 0)).bind fun v8=>
 some (v8,m7)) (
 (loadA (some 3) m4 (.ptr (newAt none r1.2 .resv).1 0)).bind fun v9=>
 (storeA (some 3) m4 (.ptr (newAt none m .resv).1 0) v9).bind fun m10=>
 (loadA (some 3) m10 (.ptr (newAt none m .resv).1 0)).bind fun v11=>
 some (v11,m10)):=
(AC_eq cfg 106 [a0,a1,a2] m (fn:=f106) (c:=bodyOf f106) at106 rfl).trans (by kernel_rfl)
theorem T122 (a0 a1:AV) (m:Mem):AC cfg 122 [a0,a1] m =
 (boxA none (some 3) m a0).bind fun r1=>
 (boxA none (some 3) r1.2 a1).bind fun r2=>
 (loadA (some 3) (newAt none r2.2 (.obj true [(.bool false),(.lst none true .full []),(.lst none true .full [])])).2 r2.1).bind fun v3=>
 (pcall (AP cfg) none (newAt none r2.2 (.obj true [(.bool false),(.lst none true .full []),(.lst none true .full [])])).2 105 [v3]).bind fun r4=>
 (binA .other .eql r4.1 (.int .i64 0)).bind fun v5=>
 ifA v5 (
 (buildA (.agg [(.bool false),(.lst none true .full []),(.lst none true .full [])]) []).bind fun v6=>
 (storeA (some 3) r4.2 (.ptr (newAt none r2.2 .resv).1 0) v6).bind fun m7=>
 (loadA (some 3) m7 (.ptr (newAt none r2.2 .resv).1 0)).bind fun v8=>
 some ((.tup [v8,(.int .i64 31)]),m7)) (
 (fieldAddrA 0 r1.1).bind fun v9=>
 (loadA none r4.2 v9).bind fun v10=>
 (fieldAddrA 0 r2.1).bind fun v11=>
 (loadA none r4.2 v11).bind fun v12=>
 (binA .bl .neq v10 v12).bind fun v13=>
 (fieldAddrA 1 r1.1).bind fun v14=>
 (loadA none r4.2 v14).bind fun v15=>
 (fieldAddrA 2 r2.1).bind fun v16=>
 (loadA none r4.2 v16).bind fun v17=>
 (pcall (AP cfg) (some r4.2.length) r4.2 107 [v15,v17]).bind fun r18=>
 (fieldAddrA 2 r1.1).bind fun v19=>
 (loadA none r18.2 v19).bind fun v20=>
 (fieldAddrA 1 r2.1).bind fun v21=>
 (loadA none r18.2 v21).bind fun v22=>
 (pcall (AP cfg) (some r4.2.length) r18.2 107 [v20,v22]).bind fun r23=>
 (pcall (AP cfg) (some r4.2.length) r23.2 106 [v13,r18.1,r23.1]).bind fun r24=>
 (storeA (some 3) r24.2 (.ptr (newAt none r2.2 .resv).1 0) r24.1).bind fun m25=>
 (loadA (some 3) m25 (.ptr (newAt none r2.2 .resv).1 0)).bind fun v26=>
 some ((.tup [v26,(.int .i64 0)]),m25)):=
(AC_eq cfg 122 [a0,a1] m (fn:=f122) (c:=bodyOf f122) at122 rfl).trans (by kernel_rfl)
theorem T132 (a0 a1 a2:AV) (m:Mem):AC cfg 132 [a0,a1,a2] m =
 (pcall (AP cfg) none (newAt none m (.obj true [(.bool false),(.lst none true .full []),(.lst none true .full [])])).2 96 [a1,a2]).bind fun r1=>
 (pcall (AP cfg) none r1.2 109 [a2,(.lst none true .full [])]).bind fun r2=>
 (binA .other .eql r2.1 (.int .i64 0)).bind fun v3=>
 ifA v3 (
 (buildA (.agg [(.bool false),(.lst none true .full []),(.lst none true .full [])]) []).bind fun v4=>
 (storeA (some 3) r2.2 (.ptr (newAt none m .resv).1 0) v4).bind fun m5=>
 (loadA (some 3) m5 (.ptr (newAt none m .resv).1 0)).bind fun v6=>
 some ((.tup [v6,(.int .i64 31)]),m5)) (
 (pcall (AP cfg) none r2.2 125 [a1,r1.1]).bind fun r7=>
 (extractA r7.1 0).bind fun v8=>
 (extractA r7.1 1).bind fun v9=>
 (extractA r7.1 2).bind fun v10=>
 (pcall (AP cfg) none r7.2 125 [a2,r1.1]).bind fun r11=>
 (extractA r11.1 0).bind fun v12=>
 (extractA r11.1 1).bind fun v13=>
 (extractA r11.1 2).bind fun v14=>
 ifA a0 (
 (lenA false v8).bind fun v15=>
 (binA .other .gtr v15 (.int .i64 0)).bind fun v16=>
 (buildA (.agg [(.bool false),(.lst none true .full []),(.lst none true .full [])]) [(0,none,v16),(1,none,v8),(2,none,v12)]).bind fun v17=>
 (storeA (some 3) r11.2 (.ptr (newAt none m .resv).1 0) v17).bind fun m18=>
 (loadA (some 3) m18 (.ptr (newAt none m .resv).1 0)).bind fun v19=>
 some ((.tup [v19,(.int .i64 0)]),m18)) (
 (buildA (.agg [(.bool false),(.lst none true .full []),(.lst none true .full [])]) [(0,none,(.bool false)),(1,none,v8),(2,none,v12)]).bind fun v20=>
 (storeA (some 3) r11.2 (.ptr (newAt none m .resv).1 0) v20).bind fun m21=>
 (loadA (some 3) m21 (.ptr (newAt none m .resv).1 0)).bind fun v22=>
 some ((.tup [v22,(.int .i64 0)]),m21))):=
(AC_eq cfg 132 [a0,a1,a2] m (fn:=f132) (c:=bodyOf f132) at132 rfl).trans (by kernel_rfl)
theorem T135 (a0 a1:AV) (m:Mem):AC cfg 135 [a0,a1] m =
 (boxA none (some 3) m a0).bind fun r1=>
 (boxA none (some 3) r1.2 a1).bind fun r2=>
 (loadA (some 3) (newAt none r2.2 (.obj true [(.bool false),(.lst none true .full []),(.lst none true .full [])])).2 r1.1).bind fun v3=>
 (loadA (some 3) (newAt none r2.2 (.obj true [(.bool false),(.lst none true .full []),(.lst none true .full [])])).2 r2.1).bind fun v4=>
 (pcall (AP cfg) (some (newAt none r2.2 (.obj true [(.bool false),(.lst none true .full []),(.lst none true .full [])])).2.length) (newAt none r2.2 (.obj true [(.bool false),(.lst none true .full []),(.lst none true .full [])])).2 89 [v4]).bind fun r5=>
 (pcall (AP cfg) (some (newAt none r2.2 (.obj true [(.bool false),(.lst none true .full []),(.lst none true .full [])])).2.length) r5.2 75 [v3,r5.1]).bind fun r6=>
 (storeA (some 3) r6.2 (.ptr (newAt none r2.2 .resv).1 0) r6.1).bind fun m7=>
 (loadA (some 3) m7 (.ptr (newAt none r2.2 .resv).1 0)).bind fun v8=>
 some (v8,m7):=
(AC_eq cfg 135 [a0,a1] m (fn:=f135) (c:=bodyOf f135) at135 rfl).trans (by kernel_rfl)
end Go.Ab
set_option linter.unusedVariables false
set_option linter.unusedSimpArgs false
namespace Go.Ab
open Go.Proofs.Try
theorem nilV_ok:NOk nilV:=⟨dg_nil,by simp[nilV],by simp[nilV]⟩
theorem nilV_v:nilV.v=0:=rfl
theorem ln1':(digs 1).length<2^40:=Nat.lt_of_le_of_lt ln_one (by omega)
def oneV:NV:=⟨false,.no,digs 1⟩
theorem V93one:AP cfg 93 [.int .u64 1]=some oneV.av:=V93 (n:=1) (by omega)
def zeroR:RV:=⟨false,nilV,oneV⟩
def oneR:RV:=⟨false,oneV,oneV⟩
theorem can_zero:Can zeroR 0:=⟨rfl,digs_zero.symm,rfl,fun _=>rfl,by simp[zeroR,oneV]⟩
theorem can_one:Can oneR 1:=⟨rfl,rfl,rfl,by simp[oneR,oneV],by simp[oneR,oneV]⟩
theorem V60:AP cfg 60 []=some zeroR.av:=by
 refine AP_ofz _ _ (fz_rv zeroR) (noV_rv _) (m:=[cR zeroR]) ?_
 rw[T60]
 simp only[oBs,Option.map_some,box_rv,new_z,new_r,new_zs,new_rs,fld0,fld1,fld2,res1,res2,ld0neg,ld0num,ld0den,ld0all,st0all,st0neg,ld1neg,ld1num,ld1den,ld1all,st1all,st1neg,ld2neg,ld2num,ld2den,ld2all,st2all,st2neg,ld3neg,ld3num,ld3den,ld3all,st3all,st3neg,ld4neg,ld4num,ld4den,ld4all,st4all,st4neg,ex0,ex1,ex2,bld0,bld2,bld12,bld012,nil_av,not_b,bl_neq,bl_eql,List.length_cons,List.length_nil,List.length_append,List.nil_append,List.cons_append,List.append_nil,Nat.zero_add,List.set_cons_zero,List.set_cons_succ,List.set_nil,pcN,pcI,pcNN,pcBNN,pcR,pcRR,pc0,V93one]
 rfl
theorem V84:AP cfg 84 []=some oneR.av:=by
 refine AP_ofz _ _ (fz_rv oneR) (noV_rv _) (m:=[cR oneR]) ?_
 rw[T84]
 simp only[oBs,Option.map_some,box_rv,new_z,new_r,new_zs,new_rs,fld0,fld1,fld2,res1,res2,ld0neg,ld0num,ld0den,ld0all,st0all,st0neg,ld1neg,ld1num,ld1den,ld1all,st1all,st1neg,ld2neg,ld2num,ld2den,ld2all,st2all,st2neg,ld3neg,ld3num,ld3den,ld3all,st3all,st3neg,ld4neg,ld4num,ld4den,ld4all,st4all,st4neg,ex0,ex1,ex2,bld0,bld2,bld12,bld012,nil_av,not_b,bl_neq,bl_eql,List.length_cons,List.length_nil,List.length_append,List.nil_append,List.cons_append,List.append_nil,Nat.zero_add,List.set_cons_zero,List.set_cons_succ,List.set_nil,pcN,pcI,pcNN,pcBNN,pcR,pcRR,pc0,V93one]
 rfl
theorem cmp0 (n:Nat):(cmpV n 0=0)↔n=0:=by unfold cmpV;constructor<;>intro h<;>(repeat' split at *)<;>omega
theorem V132 {x y:NV} (neg:Bool) (hx:NOk x) (hy:NOk y):(y.v=0∧AP cfg 132 [.bool neg,x.av,y.av]=some (.tup [zR.av,.int .i64 31])) ∨
  (y.v≠0∧∃ r:RV,AP cfg 132 [.bool neg,x.av,y.av]=some (.tup [r.av,.int .i64 0])∧Can r (qOf neg x.v y.v)∧r.fr=r):=by
 have e1:=V96 hx.fr hy.fr
 have e2:=V109 hy.fr nilV_ok
 have hg:=gcdV_ok hx.fr hy.fr
 have hgf:(gcdV x.fr y.fr).fr=gcdV x.fr y.fr:=gcdV_fr _ _
 have hgv:(gcdV x.fr y.fr).v=Nat.gcd x.v y.v:=gcdV_v _ _
 have e3:=V125 hx.fr hg
 have e4:=V125 hy.fr hg
 have nf:nilV.fr=nilV:=rfl
 have hyv:y.fr.v=y.v:=rfl
 rw[nilV_v,hyv] at e2
 by_cases h0:y.v=0
 ·refine .inl ⟨h0,AP_ofz _ _ (fz_tupR2 zR (fza_int _ _)) rfl (m:=[cR zR]) ?_⟩
  rw[T132]
  simp only[oBs,Option.map_some,box_rv,new_z,new_r,new_zs,new_rs,fld0,fld1,fld2,res1,res2,ld0neg,ld0num,ld0den,ld0all,st0all,st0neg,ld1neg,ld1num,ld1den,ld1all,st1all,st1neg,ld2neg,ld2num,ld2den,ld2all,st2all,st2neg,ld3neg,ld3num,ld3den,ld3all,st3all,st3neg,ld4neg,ld4num,ld4den,ld4all,st4all,st4neg,ex0,ex1,ex2,bld0,bld2,bld12,bld012,nil_av,not_b,bl_neq,bl_eql,List.length_cons,List.length_nil,List.length_append,List.nil_append,List.cons_append,List.append_nil,Nat.zero_add,List.set_cons_zero,List.set_cons_succ,List.set_nil,pcN,pcI,pcNN,pcBNN,pcR,pcRR,pc0,e1,nf,e2,binA_eql,ifA_dec]
  rw[if_pos ((cmp0 _).2 h0)]
 ·refine .inr ⟨h0,?_⟩
  have hgp:Nat.gcd x.v y.v≠0:=by
   have:=Nat.gcd_pos_of_pos_right x.v (Nat.pos_of_ne_zero h0)
   omega
  have hgn:¬ (gcdV x.fr y.fr).v=0:=by rw[hgv];exact hgp
  unfold divV at e3 e4
  rw[if_neg hgn] at e3 e4
  have hq:(divQ x.fr (gcdV x.fr y.fr)).ds=digs (x.v/Nat.gcd x.v y.v):=by rw[divQ_ds,hgv];rfl
  have hd:(divQ y.fr (gcdV x.fr y.fr)).ds=digs (y.v/Nat.gcd x.v y.v):=by rw[divQ_ds,hgv];rfl
  refine ⟨⟨neg&&decide (x.v/Nat.gcd x.v y.v>0),divQ x.fr (gcdV x.fr y.fr),divQ y.fr (gcdV x.fr y.fr)⟩,?_,⟨(qOf_neg h0).symm,?_,?_,(divQ_ok hx.fr).nil,(divQ_ok hy.fr).nil⟩,?_⟩
  ·refine (AP_ofz _ _ (fz_tupR2 ⟨neg&&decide (x.v/Nat.gcd x.v y.v>0),divQ x.fr (gcdV x.fr y.fr),divQ y.fr (gcdV x.fr y.fr)⟩ (fza_int .i64 0)) rfl (m:=[cR ⟨neg&&decide (x.v/Nat.gcd x.v y.v>0),divQ x.fr (gcdV x.fr y.fr),divQ y.fr (gcdV x.fr y.fr)⟩]) ?_).trans (by simp only[RV.fr,divQ_fr])
   rw[T132]
   simp only[oBs,Option.map_some,box_rv,new_z,new_r,new_zs,new_rs,fld0,fld1,fld2,res1,res2,ld0neg,ld0num,ld0den,ld0all,st0all,st0neg,ld1neg,ld1num,ld1den,ld1all,st1all,st1neg,ld2neg,ld2num,ld2den,ld2all,st2all,st2neg,ld3neg,ld3num,ld3den,ld3all,st3all,st3neg,ld4neg,ld4num,ld4den,ld4all,st4all,st4neg,ex0,ex1,ex2,bld0,bld2,bld12,bld012,nil_av,not_b,bl_neq,bl_eql,List.length_cons,List.length_nil,List.length_append,List.nil_append,List.cons_append,List.append_nil,Nat.zero_add,List.set_cons_zero,List.set_cons_succ,List.set_nil,pcN,pcI,pcNN,pcBNN,pcR,pcRR,pc0,e1,nf,e2,binA_eql,ifA_dec]
   rw[if_neg (fun h=>h0 ((cmp0 _).1 h))]
   simp only[oBs,Option.map_some,box_rv,new_z,new_r,new_zs,new_rs,fld0,fld1,fld2,res1,res2,ld0neg,ld0num,ld0den,ld0all,st0all,st0neg,ld1neg,ld1num,ld1den,ld1all,st1all,st1neg,ld2neg,ld2num,ld2den,ld2all,st2all,st2neg,ld3neg,ld3num,ld3den,ld3all,st3all,st3neg,ld4neg,ld4num,ld4den,ld4all,st4all,st4neg,ex0,ex1,ex2,bld0,bld2,bld12,bld012,nil_av,not_b,bl_neq,bl_eql,List.length_cons,List.length_nil,List.length_append,List.nil_append,List.cons_append,List.append_nil,Nat.zero_add,List.set_cons_zero,List.set_cons_succ,List.set_nil,pcN,pcI,pcNN,pcBNN,pcR,pcRR,pc0,hgf,e3,e4,len_nv,n_gtr0,hq]
   have hlen:decide ((digs (x.v/Nat.gcd x.v y.v)).length>0)=decide (x.v/Nat.gcd x.v y.v>0):=decide_eq_decide.2 (by
    constructor
    ·intro h
     apply Nat.pos_of_ne_zero
     intro e
     rw[e,digs_zero] at h
     simp at h
    ·intro h
     have:(digs (x.v/Nat.gcd x.v y.v)).length≠0:=fun e=>by have:=digs_len0.1 e;omega
     omega)
   cases neg with
   | false=>rfl
   | true=>
    rw[ifA_true,hlen]
    simp only[oBs,Option.map_some,box_rv,new_z,new_r,new_zs,new_rs,fld0,fld1,fld2,res1,res2,ld0neg,ld0num,ld0den,ld0all,st0all,st0neg,ld1neg,ld1num,ld1den,ld1all,st1all,st1neg,ld2neg,ld2num,ld2den,ld2all,st2all,st2neg,ld3neg,ld3num,ld3den,ld3all,st3all,st3neg,ld4neg,ld4num,ld4den,ld4all,st4all,st4neg,ex0,ex1,ex2,bld0,bld2,bld12,bld012,nil_av,not_b,bl_neq,bl_eql,List.length_cons,List.length_nil,List.length_append,List.nil_append,List.cons_append,List.append_nil,Nat.zero_add,List.set_cons_zero,List.set_cons_succ,List.set_nil,pcN,pcI,pcNN,pcBNN,pcR,pcRR,pc0,Bool.true_and]
  ·rw[qOf_abs h0];exact hq
  ·rw[qOf_den h0];exact hd
  ·simp only[RV.fr,divQ_fr]
theorem zeroR_fr:zeroR.fr=zeroR:=rfl
theorem oneR_fr:oneR.fr=oneR:=rfl
theorem V106 {x y:NV} (neg:Bool) (hx:NOk x) (hy:NOk y):∃ r:RV,AP cfg 106 [.bool neg,x.av,y.av]=some r.av∧Can r (qOf neg x.v y.v)∧r.fr=r:=by
 rcases V132 neg hx.fr hy.fr with ⟨h0,h1⟩|⟨h0,r,h1,h2,h3⟩
 ·refine ⟨zeroR,AP_ofz _ _ (fz_rv zeroR) (noV_rv _) (m:=[cR zeroR,cR zR]) ?_,?_,zeroR_fr⟩
  ·rw[T106]
   simp only[oBs,Option.map_some,box_rv,new_z,new_r,new_zs,new_rs,fld0,fld1,fld2,res1,res2,ld0neg,ld0num,ld0den,ld0all,st0all,st0neg,ld1neg,ld1num,ld1den,ld1all,st1all,st1neg,ld2neg,ld2num,ld2den,ld2all,st2all,st2neg,ld3neg,ld3num,ld3den,ld3all,st3all,st3neg,ld4neg,ld4num,ld4den,ld4all,st4all,st4neg,ex0,ex1,ex2,bld0,bld2,bld12,bld012,nil_av,not_b,bl_neq,bl_eql,List.length_cons,List.length_nil,List.length_append,List.nil_append,List.cons_append,List.append_nil,Nat.zero_add,List.set_cons_zero,List.set_cons_succ,List.set_nil,pcN,pcI,pcNN,pcBNN,pcR,pcRR,pc0,h1,binA_neq,ifA_dec]
   rw[if_pos (by decide)]
   simp only[oBs,Option.map_some,box_rv,new_z,new_r,new_zs,new_rs,fld0,fld1,fld2,res1,res2,ld0neg,ld0num,ld0den,ld0all,st0all,st0neg,ld1neg,ld1num,ld1den,ld1all,st1all,st1neg,ld2neg,ld2num,ld2den,ld2all,st2all,st2neg,ld3neg,ld3num,ld3den,ld3all,st3all,st3neg,ld4neg,ld4num,ld4den,ld4all,st4all,st4neg,ex0,ex1,ex2,bld0,bld2,bld12,bld012,nil_av,not_b,bl_neq,bl_eql,List.length_cons,List.length_nil,List.length_append,List.nil_append,List.cons_append,List.append_nil,Nat.zero_add,List.set_cons_zero,List.set_cons_succ,List.set_nil,pcN,pcI,pcNN,pcBNN,pcR,pcRR,pc0,V60]
  ·have:y.v=0:=h0
   rw[this,qOf_den0];exact can_zero
 ·refine ⟨r,(AP_ofz _ _ (fz_rv r) (noV_rv _) (m:=[cR r,cR r]) ?_).trans (by rw[h3]),h2,h3⟩
  rw[T106]
  simp only[oBs,Option.map_some,box_rv,new_z,new_r,new_zs,new_rs,fld0,fld1,fld2,res1,res2,ld0neg,ld0num,ld0den,ld0all,st0all,st0neg,ld1neg,ld1num,ld1den,ld1all,st1all,st1neg,ld2neg,ld2num,ld2den,ld2all,st2all,st2neg,ld3neg,ld3num,ld3den,ld3all,st3all,st3neg,ld4neg,ld4num,ld4den,ld4all,st4all,st4neg,ex0,ex1,ex2,bld0,bld2,bld12,bld012,nil_av,not_b,bl_neq,bl_eql,List.length_cons,List.length_nil,List.length_append,List.nil_append,List.cons_append,List.append_nil,Nat.zero_add,List.set_cons_zero,List.set_cons_succ,List.set_nil,pcN,pcI,pcNN,pcBNN,pcR,pcRR,pc0,h1,binA_neq,ifA_dec]
  rw[if_neg (by decide)]
def signR (r:RV):Int:=if r.num.v=0∨r.den.v=0 then 0 else if r.neg then -1 else 1
theorem V105 {r:RV} {k:Nat} (h:ROk k r):AP cfg 105 [r.av]=some (.int .i64 (signR r)):=by
 have nf:nilV.fr=nilV:=rfl
 have e1:=V109 h.num.fr nilV_ok
 have e2:=V109 h.den.fr nilV_ok
 have v1:r.num.fr.v=r.num.v:=rfl
 have v2:r.den.fr.v=r.den.v:=rfl
 rw[nilV_v,v1] at e1
 rw[nilV_v,v2] at e2
 refine AP_ofz _ _ (fz_int _ _) rfl (m:=[cR r]) ?_
 rw[T105]
 simp only[oBs,Option.map_some,box_rv,new_z,new_r,new_zs,new_rs,fld0,fld1,fld2,res1,res2,ld0neg,ld0num,ld0den,ld0all,st0all,st0neg,ld1neg,ld1num,ld1den,ld1all,st1all,st1neg,ld2neg,ld2num,ld2den,ld2all,st2all,st2neg,ld3neg,ld3num,ld3den,ld3all,st3all,st3neg,ld4neg,ld4num,ld4den,ld4all,st4all,st4neg,ex0,ex1,ex2,bld0,bld2,bld12,bld012,nil_av,not_b,bl_neq,bl_eql,List.length_cons,List.length_nil,List.length_append,List.nil_append,List.cons_append,List.append_nil,Nat.zero_add,List.set_cons_zero,List.set_cons_succ,List.set_nil,pcN,pcI,pcNN,pcBNN,pcR,pcRR,pc0,nf,e1,binA_eql,ifA_dec]
 unfold signR
 by_cases h1:r.num.v=0
 ·rw[if_pos ((cmp0 _).2 h1),if_pos (.inl h1)]
 ·rw[if_neg (fun h=>h1 ((cmp0 _).1 h))]
  simp only[oBs,Option.map_some,box_rv,new_z,new_r,new_zs,new_rs,fld0,fld1,fld2,res1,res2,ld0neg,ld0num,ld0den,ld0all,st0all,st0neg,ld1neg,ld1num,ld1den,ld1all,st1all,st1neg,ld2neg,ld2num,ld2den,ld2all,st2all,st2neg,ld3neg,ld3num,ld3den,ld3all,st3all,st3neg,ld4neg,ld4num,ld4den,ld4all,st4all,st4neg,ex0,ex1,ex2,bld0,bld2,bld12,bld012,nil_av,not_b,bl_neq,bl_eql,List.length_cons,List.length_nil,List.length_append,List.nil_append,List.cons_append,List.append_nil,Nat.zero_add,List.set_cons_zero,List.set_cons_succ,List.set_nil,pcN,pcI,pcNN,pcBNN,pcR,pcRR,pc0,e2,binA_eql,ifA_dec]
  by_cases h2:r.den.v=0
  ·rw[if_pos ((cmp0 _).2 h2),if_pos (.inr h2)]
  ·rw[if_neg (fun h=>h2 ((cmp0 _).1 h)),if_neg (fun h=>h.elim h1 h2)]
   cases hn:r.neg<;>rfl
end Go.Ab
set_option linter.unusedVariables false
namespace Go.Ab
open Go.Proofs.Try
theorem T23 (a0 a1:AV) (m:Mem):AC cfg 23 [a0,a1] m =
 (boxA none (some 3) m a0).bind fun r1=>
 (boxA none (some 3) r1.2 a1).bind fun r2=>
 (loadA (some 3) r2.2 r1.1).bind fun v3=>
 (loadA (some 3) r2.2 r2.1).bind fun v4=>
 (pcall (AP cfg) none r2.2 66 [v3,v4]).bind fun r5=>
 (binA .other .eql r5.1 (.int .i64 0)).bind fun v6=>
 some (v6,r5.2):=
(AC_eq cfg 23 [a0,a1] m (fn:=f23) (c:=bodyOf f23) at23 rfl).trans (by kernel_rfl)
theorem T28 (m:Mem):AC cfg 28 [] m =
 (pcall (AP cfg) none (newAt none m (.obj true [(.bool false),(.lst none true .full []),(.lst none true .full [])])).2 70 [(.int .u64 1)]).bind fun r1=>
 (pcall (AP cfg) none r1.2 70 [(.int .u64 1)]).bind fun r2=>
 (buildA (.agg [(.bool false),(.lst none true .full []),(.lst none true .full [])]) [(1,none,r1.1),(2,none,r2.1)]).bind fun v3=>
 (storeA (some 3) r2.2 (.ptr (newAt none m .resv).1 0) v3).bind fun m4=>
 (loadA (some 3) m4 (.ptr (newAt none m .resv).1 0)).bind fun v5=>
 some (v5,m4):=
(AC_eq cfg 28 [] m (fn:=f28) (c:=bodyOf f28) at28 rfl).trans (by kernel_rfl)
theorem T29 (a0 a1:AV) (m:Mem):AC cfg 29 [a0,a1] m =
 (boxA none (some 3) m a0).bind fun r1=>
 (boxA none (some 3) r1.2 a1).bind fun r2=>
 (loadA (some 3) (newAt none r2.2 (.obj true [(.bool false),(.lst none true .full []),(.lst none true .full [])])).2 r1.1).bind fun v3=>
 (pcall (AP cfg) (some (newAt none r2.2 (.obj true [(.bool false),(.lst none true .full []),(.lst none true .full [])])).2.length) (newAt none r2.2 (.obj true [(.bool false),(.lst none true .full []),(.lst none true .full [])])).2 71 [v3]).bind fun r4=>
 (loadA (some 3) r4.2 r2.1).bind fun v5=>
 (pcall (AP cfg) (some (newAt none r2.2 (.obj true [(.bool false),(.lst none true .full []),(.lst none true .full [])])).2.length) r4.2 71 [v5]).bind fun r6=>
 (storeA (some 3) r6.2 r1.1 r4.1).bind fun m7=>
 (storeA (some 3) m7 r2.1 r6.1).bind fun m8=>
 (fieldAddrA 0 r1.1).bind fun v9=>
 (loadA none (reserve m8 1) v9).bind fun v10=>
 (fieldAddrA 0 r2.1).bind fun v11=>
 (loadA none (reserve m8 1) v11).bind fun v12=>
 (binA .bl .neq v10 v12).bind fun v13=>
 (fieldAddrA 1 r1.1).bind fun v14=>
 (loadA none (reserve m8 1) v14).bind fun v15=>
 (fieldAddrA 1 r2.1).bind fun v16=>
 (loadA none (reserve m8 1) v16).bind fun v17=>
 (pcall (AP cfg) (some m8.length) (reserve m8 1) 72 [v15,v17]).bind fun r18=>
 (fieldAddrA 2 r1.1).bind fun v19=>
 (loadA none r18.2 v19).bind fun v20=>
 (fieldAddrA 2 r2.1).bind fun v21=>
 (loadA none r18.2 v21).bind fun v22=>
 (pcall (AP cfg) (some m8.length) r18.2 72 [v20,v22]).bind fun r23=>
 (pcall (AP cfg) (some m8.length) r23.2 69 [v13,r18.1,r23.1]).bind fun r24=>
 (extractA r24.1 0).bind fun v25=>
 (extractA r24.1 1).bind fun v26=>
 (storeA (some 3) (newAt (some m8.length) r24.2 (.obj true [(.bool false),(.lst none true .full []),(.lst none true .full [])])).2 (.ptr (newAt (some m8.length) r24.2 .resv).1 0) v25).bind fun m27=>
 (loadA (some 3) m27 (.ptr (newAt (some m8.length) r24.2 .resv).1 0)).bind fun v28=>
 (storeA (some 3) m27 (.ptr (newAt none r2.2 .resv).1 0) v28).bind fun m29=>
 (loadA (some 3) m29 (.ptr (newAt none r2.2 .resv).1 0)).bind fun v30=>
 some (v30,m29):=
(AC_eq cfg 29 [a0,a1] m (fn:=f29) (c:=bodyOf f29) at29 rfl).trans (by kernel_rfl)
theorem T31 (m:Mem):AC cfg 31 [] m =
 (pcall (AP cfg) none (newAt none m (.obj true [(.bool false),(.lst none true .full []),(.lst none true .full [])])).2 70 [(.int .u64 1)]).bind fun r1=>
 (buildA (.agg [(.bool false),(.lst none true .full []),(.lst none true .full [])]) [(2,none,r1.1)]).bind fun v2=>
 (storeA (some 3) r1.2 (.ptr (newAt none m .resv).1 0) v2).bind fun m3=>
 (loadA (some 3) m3 (.ptr (newAt none m .resv).1 0)).bind fun v4=>
 some (v4,m3):=
(AC_eq cfg 31 [] m (fn:=f31) (c:=bodyOf f31) at31 rfl).trans (by kernel_rfl)
theorem T65 (a0:AV) (m:Mem):AC cfg 65 [a0] m =
 (boxA none (some 3) m a0).bind fun r1=>
 (fieldAddrA 1 r1.1).bind fun v2=>
 (loadA none r1.2 v2).bind fun v3=>
 (pcall (AP cfg) none r1.2 97 [v3]).bind fun r4=>
 (unA .not r4.1).bind fun v5=>
 ifA v5 (
 some ((.bool false),r4.2)) (
 (fieldAddrA 2 r1.1).bind fun v6=>
 (loadA none r4.2 v6).bind fun v7=>
 (pcall (AP cfg) none r4.2 97 [v7]).bind fun r8=>
 (unA .not r8.1).bind fun v9=>
 ifA v9 (
 some ((.bool false),r8.2)) (
 (fieldAddrA 2 r1.1).bind fun v10=>
 (loadA none r8.2 v10).bind fun v11=>
 (lenA false v11).bind fun v12=>
 (binA .other .eql v12 (.int .i64 0)).bind fun v13=>
 ifA v13 (
 some ((.bool false),r8.2)) (
 (fieldAddrA 1 r1.1).bind fun v14=>
 (loadA none r8.2 v14).bind fun v15=>
 (lenA false v15).bind fun v16=>
 (binA .other .eql v16 (.int .i64 0)).bind fun v17=>
 ifA v17 (
 (fieldAddrA 0 r1.1).bind fun v18=>
 (loadA none r8.2 v18).bind fun v19=>
 (unA .not v19).bind fun v20=>
 ifA v20 (
 (fieldAddrA 2 r1.1).bind fun v21=>
 (loadA none r8.2 v21).bind fun v22=>
 (pcall (AP cfg) (some r8.2.length) r8.2 70 [(.int .u64 1)]).bind fun r23=>
 (pcall (AP cfg) (some r8.2.length) r23.2 98 [v22,r23.1]).bind fun r24=>
 (binA .other .eql r24.1 (.int .i64 0)).bind fun v25=>
 some (v25,r24.2)) (
 some ((.bool false),r8.2))) (
 (fieldAddrA 1 r1.1).bind fun v26=>
 (loadA none r8.2 v26).bind fun v27=>
 (fieldAddrA 2 r1.1).bind fun v28=>
 (loadA none r8.2 v28).bind fun v29=>
 (pcall (AP cfg) none r8.2 99 [v27,v29]).bind fun r30=>
 (pcall (AP cfg) none r30.2 70 [(.int .u64 1)]).bind fun r31=>
 (pcall (AP cfg) none r31.2 98 [r30.1,r31.1]).bind fun r32=>
 (binA .other .eql r32.1 (.int .i64 0)).bind fun v33=>
 some (v33,r32.2))))):=
(AC_eq cfg 65 [a0] m (fn:=f65) (c:=bodyOf f65) at65 rfl).trans (by kernel_rfl)
theorem T66 (a0 a1:AV) (m:Mem):AC cfg 66 [a0,a1] m =
 (boxA none (some 3) m a0).bind fun r1=>
 (boxA none (some 3) r1.2 a1).bind fun r2=>
 (loadA (some 3) r2.2 r1.1).bind fun v3=>
 (loadA (some 3) r2.2 r2.1).bind fun v4=>
 (pcall (AP cfg) none r2.2 100 [v3,v4]).bind fun r5=>
 (pcall (AP cfg) none r5.2 86 [r5.1]).bind fun r6=>
 some (r6.1,r6.2):=
(AC_eq cfg 66 [a0,a1] m (fn:=f66) (c:=bodyOf f66) at66 rfl).trans (by kernel_rfl)
theorem T69 (a0 a1 a2:AV) (m:Mem):AC cfg 69 [a0,a1,a2] m =
 (pcall (AP cfg) none (newAt none m (.obj true [(.bool false),(.lst none true .full []),(.lst none true .full [])])).2 101 [a2]).bind fun r1=>
 (binA .other .eql r1.1 (.int .i64 0)).bind fun v2=>
 ifA v2 (
 (buildA (.agg [(.bool false),(.lst none true .full []),(.lst none true .full [])]) []).bind fun v3=>
 (storeA (some 3) r1.2 (.ptr (newAt none m .resv).1 0) v3).bind fun m4=>
 (loadA (some 3) m4 (.ptr (newAt none m .resv).1 0)).bind fun v5=>
 some ((.tup [v5,(.int .i64 31)]),m4)) (
 (pcall (AP cfg) none r1.2 99 [a1,a2]).bind fun r6=>
 (pcall (AP cfg) none r6.2 102 [a1,r6.1]).bind fun r7=>
 (extractA r7.1 0).bind fun v8=>
 (extractA r7.1 1).bind fun v9=>
 (extractA r7.1 2).bind fun v10=>
 (pcall (AP cfg) none r7.2 102 [a2,r6.1]).bind fun r11=>
 (extractA r11.1 0).bind fun v12=>
 (extractA r11.1 1).bind fun v13=>
 (extractA r11.1 2).bind fun v14=>
 ifA a0 (
 (lenA false v8).bind fun v15=>
 (binA .other .gtr v15 (.int .i64 0)).bind fun v16=>
 (buildA (.agg [(.bool false),(.lst none true .full []),(.lst none true .full [])]) [(0,none,v16),(1,none,v8),(2,none,v12)]).bind fun v17=>
 (storeA (some 3) r11.2 (.ptr (newAt none m .resv).1 0) v17).bind fun m18=>
 (loadA (some 3) m18 (.ptr (newAt none m .resv).1 0)).bind fun v19=>
 some ((.tup [v19,(.int .i64 0)]),m18)) (
 (buildA (.agg [(.bool false),(.lst none true .full []),(.lst none true .full [])]) [(0,none,(.bool false)),(1,none,v8),(2,none,v12)]).bind fun v20=>
 (storeA (some 3) r11.2 (.ptr (newAt none m .resv).1 0) v20).bind fun m21=>
 (loadA (some 3) m21 (.ptr (newAt none m .resv).1 0)).bind fun v22=>
 some ((.tup [v22,(.int .i64 0)]),m21))):=
(AC_eq cfg 69 [a0,a1,a2] m (fn:=f69) (c:=bodyOf f69) at69 rfl).trans (by kernel_rfl)
theorem T71 (a0:AV) (m:Mem):AC cfg 71 [a0] m =
 (boxA none (some 3) m a0).bind fun r1=>
 (fieldAddrA 0 r1.1).bind fun v2=>
 (loadA none (newAt none r1.2 (.obj true [(.bool false),(.lst none true .full []),(.lst none true .full [])])).2 v2).bind fun v3=>
 (fieldAddrA 1 r1.1).bind fun v4=>
 (loadA none (newAt none r1.2 (.obj true [(.bool false),(.lst none true .full []),(.lst none true .full [])])).2 v4).bind fun v5=>
 (fieldAddrA 2 r1.1).bind fun v6=>
 (loadA none (newAt none r1.2 (.obj true [(.bool false),(.lst none true .full []),(.lst none true .full [])])).2 v6).bind fun v7=>
 (pcall (AP cfg) none (newAt none r1.2 (.obj true [(.bool false),(.lst none true .full []),(.lst none true .full [])])).2 69 [v3,v5,v7]).bind fun r8=>
 (extractA r8.1 0).bind fun v9=>
 (extractA r8.1 1).bind fun v10=>
 (storeA (some 3) (newAt none r8.2 (.obj true [(.bool false),(.lst none true .full []),(.lst none true .full [])])).2 (.ptr (newAt none r8.2 .resv).1 0) v9).bind fun m11=>
 (binA .other .neq v10 (.int .i64 0)).bind fun v12=>
 ifA v12 (
 (pcall (AP cfg) none m11 31 []).bind fun r13=>
 (storeA (some 3) r13.2 (.ptr (newAt none r1.2 .resv).1 0) r13.1).bind fun m14=>
 (loadA (some 3) m14 (.ptr (newAt none r1.2 .resv).1 0)).bind fun v15=>
 some (v15,m14)) (
 (loadA (some 3) m11 (.ptr (newAt none r8.2 .resv).1 0)).bind fun v16=>
 (storeA (some 3) m11 (.ptr (newAt none r1.2 .resv).1 0) v16).bind fun m17=>
 (loadA (some 3) m17 (.ptr (newAt none r1.2 .resv).1 0)).bind fun v18=>
 some (v18,m17)):=
(AC_eq cfg 71 [a0] m (fn:=f71) (c:=bodyOf f71) at71 rfl).trans (by kernel_rfl)
theorem T76 (a0 a1:AV) (m:Mem):AC cfg 76 [a0,a1] m =
 (boxA none (some 3) m a0).bind fun r1=>
 (boxA none (some 3) r1.2 a1).bind fun r2=>
 (loadA (some 3) (newAt none r2.2 (.obj true [(.bool false),(.lst none true .full []),(.lst none true .full [])])).2 r1.1).bind fun v3=>
 (pcall (AP cfg) (some (newAt none r2.2 (.obj true [(.bool false),(.lst none true .full []),(.lst none true .full [])])).2.length) (newAt none r2.2 (.obj true [(.bool false),(.lst none true .full []),(.lst none true .full [])])).2 71 [v3]).bind fun r4=>
 (loadA (some 3) r4.2 r2.1).bind fun v5=>
 (pcall (AP cfg) (some (newAt none r2.2 (.obj true [(.bool false),(.lst none true .full []),(.lst none true .full [])])).2.length) r4.2 71 [v5]).bind fun r6=>
 (storeA (some 3) r6.2 r1.1 r4.1).bind fun m7=>
 (storeA (some 3) m7 r2.1 r6.1).bind fun m8=>
 (fieldAddrA 1 r1.1).bind fun v9=>
 (loadA none m8 v9).bind fun v10=>
 (fieldAddrA 2 r2.1).bind fun v11=>
 (loadA none m8 v11).bind fun v12=>
 (pcall (AP cfg) (some m8.length) m8 72 [v10,v12]).bind fun r13=>
 (fieldAddrA 1 r2.1).bind fun v14=>
 (loadA none r13.2 v14).bind fun v15=>
 (fieldAddrA 2 r1.1).bind fun v16=>
 (loadA none r13.2 v16).bind fun v17=>
 (pcall (AP cfg) (some m8.length) r13.2 72 [v15,v17]).bind fun r18=>
 (fieldAddrA 2 r1.1).bind fun v19=>
 (loadA none r18.2 v19).bind fun v20=>
 (fieldAddrA 2 r2.1).bind fun v21=>
 (loadA none r18.2 v21).bind fun v22=>
 (pcall (AP cfg) (some m8.length) r18.2 72 [v20,v22]).bind fun r23=>
 (fieldAddrA 0 r1.1).bind fun v24=>
 (loadA none r23.2 v24).bind fun v25=>
 (pcall (AP cfg) (some r23.2.length) r23.2 111 [r13.1,r18.1]).bind fun r26=>
 (fieldAddrA 0 r1.1).bind fun v27=>
 (loadA none r26.2 v27).bind fun v28=>
 (fieldAddrA 0 r2.1).bind fun v29=>
 (loadA none r26.2 v29).bind fun v30=>
 (binA .bl .neq v28 v30).bind fun v31=>
 ifA v31 (
 (pcall (AP cfg) none r26.2 98 [r13.1,r18.1]).bind fun r32=>
 (binA .other .geq r32.1 (.int .i64 0)).bind fun v33=>
 ifA v33 (
 (pcall (AP cfg) none r32.2 112 [r13.1,r18.1]).bind fun r34=>
 (extractA r34.1 0).bind fun v35=>
 (extractA r34.1 1).bind fun v36=>
 (pcall (AP cfg) none r34.2 69 [v25,v35,r23.1]).bind fun r37=>
 (extractA r37.1 0).bind fun v38=>
 (extractA r37.1 1).bind fun v39=>
 (storeA (some 3) (newAt none r37.2 (.obj true [(.bool false),(.lst none true .full []),(.lst none true .full [])])).2 (.ptr (newAt none r37.2 .resv).1 0) v38).bind fun m40=>
 (loadA (some 3) m40 (.ptr (newAt none r37.2 .resv).1 0)).bind fun v41=>
 (storeA (some 3) m40 (.ptr (newAt none r2.2 .resv).1 0) v41).bind fun m42=>
 (loadA (some 3) m42 (.ptr (newAt none r2.2 .resv).1 0)).bind fun v43=>
 some (v43,m42)) (
 (fieldAddrA 0 r2.1).bind fun v44=>
 (loadA none r32.2 v44).bind fun v45=>
 (pcall (AP cfg) none r32.2 112 [r18.1,r13.1]).bind fun r46=>
 (extractA r46.1 0).bind fun v47=>
 (extractA r46.1 1).bind fun v48=>
 (pcall (AP cfg) none r46.2 69 [v45,v47,r23.1]).bind fun r49=>
 (extractA r49.1 0).bind fun v50=>
 (extractA r49.1 1).bind fun v51=>
 (storeA (some 3) (newAt none r49.2 (.obj true [(.bool false),(.lst none true .full []),(.lst none true .full [])])).2 (.ptr (newAt none r49.2 .resv).1 0) v50).bind fun m52=>
 (loadA (some 3) m52 (.ptr (newAt none r49.2 .resv).1 0)).bind fun v53=>
 (storeA (some 3) m52 (.ptr (newAt none r2.2 .resv).1 0) v53).bind fun m54=>
 (loadA (some 3) m54 (.ptr (newAt none r2.2 .resv).1 0)).bind fun v55=>
 some (v55,m54))) (
 (pcall (AP cfg) none r26.2 69 [v25,r26.1,r23.1]).bind fun r56=>
 (extractA r56.1 0).bind fun v57=>
 (extractA r56.1 1).bind fun v58=>
 (storeA (some 3) (newAt none r56.2 (.obj true [(.bool false),(.lst none true .full []),(.lst none true .full [])])).2 (.ptr (newAt none r56.2 .resv).1 0) v57).bind fun m59=>
 (loadA (some 3) m59 (.ptr (newAt none r56.2 .resv).1 0)).bind fun v60=>
 (storeA (some 3) m59 (.ptr (newAt none r2.2 .resv).1 0) v60).bind fun m61=>
 (loadA (some 3) m61 (.ptr (newAt none r2.2 .resv).1 0)).bind fun v62=>
 some (v62,m61)):=
(AC_eq cfg 76 [a0,a1] m (fn:=f76) (c:=bodyOf f76) at76 rfl).trans (by kernel_rfl)
theorem T86 (a0:AV) (m:Mem):AC cfg 86 [a0] m =
 (boxA none (some 3) m a0).bind fun r1=>
 (loadA (some 3) r1.2 r1.1).bind fun v2=>
 (pcall (AP cfg) none r1.2 71 [v2]).bind fun r3=>
 (storeA (some 3) r3.2 r1.1 r3.1).bind fun m4=>
 (fieldAddrA 1 r1.1).bind fun v5=>
 (loadA none m4 v5).bind fun v6=>
 (lenA false v6).bind fun v7=>
 (binA .other .eql v7 (.int .i64 0)).bind fun v8=>
 ifA v8 (
 some ((.int .i64 0),m4)) (
 (fieldAddrA 0 r1.1).bind fun v9=>
 (loadA none m4 v9).bind fun v10=>
 ifA v10 (
 some ((.int .i64 (-1)),m4)) (
 some ((.int .i64 1),m4))):=
(AC_eq cfg 86 [a0] m (fn:=f86) (c:=bodyOf f86) at86 rfl).trans (by kernel_rfl)
theorem T100 (a0 a1:AV) (m:Mem):AC cfg 100 [a0,a1] m =
 (boxA none (some 3) m a0).bind fun r1=>
 (boxA none (some 3) r1.2 a1).bind fun r2=>
 (loadA (some 3) (newAt none r2.2 (.obj true [(.bool false),(.lst none true .full []),(.lst none true .full [])])).2 r1.1).bind fun v3=>
 (loadA (some 3) (newAt none r2.2 (.obj true [(.bool false),(.lst none true .full []),(.lst none true .full [])])).2 r2.1).bind fun v4=>
 (pcall (AP cfg) (some (newAt none r2.2 (.obj true [(.bool false),(.lst none true .full []),(.lst none true .full [])])).2.length) (newAt none r2.2 (.obj true [(.bool false),(.lst none true .full []),(.lst none true .full [])])).2 118 [v4]).bind fun r5=>
 (pcall (AP cfg) (some (newAt none r2.2 (.obj true [(.bool false),(.lst none true .full []),(.lst none true .full [])])).2.length) r5.2 76 [v3,r5.1]).bind fun r6=>
 (storeA (some 3) r6.2 (.ptr (newAt none r2.2 .resv).1 0) r6.1).bind fun m7=>
 (loadA (some 3) m7 (.ptr (newAt none r2.2 .resv).1 0)).bind fun v8=>
 some (v8,m7):=
(AC_eq cfg 100 [a0,a1] m (fn:=f100) (c:=bodyOf f100) at100 rfl).trans (by kernel_rfl)
theorem T118 (a0:AV) (m:Mem):AC cfg 118 [a0] m =
 (boxA none (some 3) m a0).bind fun r1=>
 (loadA (some 3) (newAt none r1.2 (.obj true [(.bool false),(.lst none true .full []),(.lst none true .full [])])).2 r1.1).bind fun v2=>
 (pcall (AP cfg) none (newAt none r1.2 (.obj true [(.bool false),(.lst none true .full []),(.lst none true .full [])])).2 71 [v2]).bind fun r3=>
 (storeA (some 3) r3.2 r1.1 r3.1).bind fun m4=>
 (fieldAddrA 0 r1.1).bind fun v5=>
 (loadA none m4 v5).bind fun v6=>
 (unA .not v6).bind fun v7=>
 ifA v7 (
 (fieldAddrA 1 r1.1).bind fun v8=>
 (loadA none m4 v8).bind fun v9=>
 (lenA false v9).bind fun v10=>
 (binA .other .gtr v10 (.int .i64 0)).bind fun v11=>
 (fieldAddrA 0 r1.1).bind fun v12=>
 (storeA none m4 v12 v11).bind fun m13=>
 (loadA (some 3) m13 r1.1).bind fun v14=>
 (storeA (some 3) m13 (.ptr (newAt none r1.2 .resv).1 0) v14).bind fun m15=>
 (loadA (some 3) m15 (.ptr (newAt none r1.2 .resv).1 0)).bind fun v16=>
 some (v16,m15)) (
 (fieldAddrA 0 r1.1).bind fun v17=>
 (storeA none m4 v17 (.bool false)).bind fun m18=>
 (loadA (some 3) m18 r1.1).bind fun v19=>
 (storeA (some 3) m18 (.ptr (newAt none r1.2 .resv).1 0) v19).bind fun m20=>
 (loadA (some 3) m20 (.ptr (newAt none r1.2 .resv).1 0)).bind fun v21=>
 some (v21,m20)):=
(AC_eq cfg 118 [a0] m (fn:=f118) (c:=bodyOf f118) at118 rfl).trans (by kernel_rfl)
end Go.Ab
set_option linter.unusedVariables false
set_option linter.unusedSimpArgs false
namespace Go.Ab
open Go.Proofs.Try
theorem canB_len {x:NV} (h:canB x.ds=true):decide (x.ds.length=0)=decide (x.v=0):=by
 have:x.ds=digs x.v:=of_decide_eq_true h
 rw[this]
 exact decide_eq_decide.2 digs_len0
theorem V64 {r:RV} {k:Nat} (h:ROk k r):AP cfg 64 [r.av]=some (.bool (rightR r)):=by
 have e1:=V94 h.num.fr
 have e2:=V94 h.den.fr
 have e3:=V96 h.num.fr h.den.fr
 have hg:=gcdV_ok h.num.fr h.den.fr
 have e4:=V95 hg.fr
 have v4:(gcdV r.num.fr r.den.fr).fr.v=Nat.gcd r.num.v r.den.v:=gcdV_v _ _
 rw[v4] at e4
 have d1:r.num.fr.ds=r.num.ds:=rfl
 have d2:r.den.fr.ds=r.den.ds:=rfl
 rw[d1] at e1
 rw[d2] at e2
 refine AP_ofz _ _ (fz_bool _) rfl (m:=[cR r]) ?_
 have one:∀ n:Nat,binA .other .eql (.int .u64 n) (.int .u64 1)=some (.bool (decide (n=1))):=fun n=>n_eql1
 have tail:∀ m:Mem,((some (smallV (Nat.gcd r.num.v r.den.v),m)).bind fun r25=>(extractA r25.1 0).bind fun v26=>(extractA r25.1 1).bind fun v27=>
   ifA v27 ((binA .other .eql v26 (.int .u64 1)).bind fun v28=>some (v28,r25.2)) (some ((.bool false),r25.2)))=some (.bool (decide (Nat.gcd r.num.v r.den.v=1)),m):=by
  intro m
  unfold smallV
  split
  ·simp only[Nat.reduceAdd,oBs,Option.map_some,box_rv,new_z,new_r,new_zs,new_rs,fld0,fld1,fld2,res1,res2,ld0neg,ld0num,ld0den,ld0all,st0all,st0neg,ld1neg,ld1num,ld1den,ld1all,st1all,st1neg,ld2neg,ld2num,ld2den,ld2all,st2all,st2neg,ld3neg,ld3num,ld3den,ld3all,st3all,st3neg,ld4neg,ld4num,ld4den,ld4all,st4all,st4neg,ex0,ex1,ex2,bld0,bld2,bld12,bld012,nil_av,not_b,bl_neq,bl_eql,List.length_cons,List.length_nil,List.length_append,List.nil_append,List.cons_append,List.append_nil,Nat.zero_add,List.set_cons_zero,List.set_cons_succ,List.set_nil,pcN,pcI,pcNN,pcBNN,pcR,pcRR,pc0,ifA_true,one]
  ·rename_i hb
   simp only[Nat.reduceAdd,oBs,Option.map_some,box_rv,new_z,new_r,new_zs,new_rs,fld0,fld1,fld2,res1,res2,ld0neg,ld0num,ld0den,ld0all,st0all,st0neg,ld1neg,ld1num,ld1den,ld1all,st1all,st1neg,ld2neg,ld2num,ld2den,ld2all,st2all,st2neg,ld3neg,ld3num,ld3den,ld3all,st3all,st3neg,ld4neg,ld4num,ld4den,ld4all,st4all,st4neg,ex0,ex1,ex2,bld0,bld2,bld12,bld012,nil_av,not_b,bl_neq,bl_eql,List.length_cons,List.length_nil,List.length_append,List.nil_append,List.cons_append,List.append_nil,Nat.zero_add,List.set_cons_zero,List.set_cons_succ,List.set_nil,pcN,pcI,pcNN,pcBNN,pcR,pcRR,pc0,ifA_false]
   rw[decide_eq_false (by omega:¬ Nat.gcd r.num.v r.den.v=1)]
 rw[T64]
 simp only[Nat.reduceAdd,oBs,Option.map_some,box_rv,new_z,new_r,new_zs,new_rs,fld0,fld1,fld2,res1,res2,ld0neg,ld0num,ld0den,ld0all,st0all,st0neg,ld1neg,ld1num,ld1den,ld1all,st1all,st1neg,ld2neg,ld2num,ld2den,ld2all,st2all,st2neg,ld3neg,ld3num,ld3den,ld3all,st3all,st3neg,ld4neg,ld4num,ld4den,ld4all,st4all,st4neg,ex0,ex1,ex2,bld0,bld2,bld12,bld012,nil_av,not_b,bl_neq,bl_eql,List.length_cons,List.length_nil,List.length_append,List.nil_append,List.cons_append,List.append_nil,Nat.zero_add,List.set_cons_zero,List.set_cons_succ,List.set_nil,pcN,pcI,pcNN,pcBNN,pcR,pcRR,pc0,e1]
 unfold rightR
 cases h1:canB r.num.ds with
 | false=>rfl
 | true=>
  simp only[Nat.reduceAdd,oBs,Option.map_some,box_rv,new_z,new_r,new_zs,new_rs,fld0,fld1,fld2,res1,res2,ld0neg,ld0num,ld0den,ld0all,st0all,st0neg,ld1neg,ld1num,ld1den,ld1all,st1all,st1neg,ld2neg,ld2num,ld2den,ld2all,st2all,st2neg,ld3neg,ld3num,ld3den,ld3all,st3all,st3neg,ld4neg,ld4num,ld4den,ld4all,st4all,st4neg,ex0,ex1,ex2,bld0,bld2,bld12,bld012,nil_av,not_b,bl_neq,bl_eql,List.length_cons,List.length_nil,List.length_append,List.nil_append,List.cons_append,List.append_nil,Nat.zero_add,List.set_cons_zero,List.set_cons_succ,List.set_nil,pcN,pcI,pcNN,pcBNN,pcR,pcRR,pc0,Bool.not_true,ifA_false,e2,Bool.true_and]
  cases h2:canB r.den.ds with
  | false=>rfl
  | true=>
   simp only[Nat.reduceAdd,oBs,Option.map_some,box_rv,new_z,new_r,new_zs,new_rs,fld0,fld1,fld2,res1,res2,ld0neg,ld0num,ld0den,ld0all,st0all,st0neg,ld1neg,ld1num,ld1den,ld1all,st1all,st1neg,ld2neg,ld2num,ld2den,ld2all,st2all,st2neg,ld3neg,ld3num,ld3den,ld3all,st3all,st3neg,ld4neg,ld4num,ld4den,ld4all,st4all,st4neg,ex0,ex1,ex2,bld0,bld2,bld12,bld012,nil_av,not_b,bl_neq,bl_eql,List.length_cons,List.length_nil,List.length_append,List.nil_append,List.cons_append,List.append_nil,Nat.zero_add,List.set_cons_zero,List.set_cons_succ,List.set_nil,pcN,pcI,pcNN,pcBNN,pcR,pcRR,pc0,Bool.not_true,ifA_false,len_nv,n_eql0,Bool.true_and,canB_len h2]
   rw[ifA_dec]
   by_cases h3:r.den.v=0
   ·rw[if_pos h3];simp[h3]
   ·rw[if_neg h3]
    simp only[Nat.reduceAdd,oBs,Option.map_some,box_rv,new_z,new_r,new_zs,new_rs,fld0,fld1,fld2,res1,res2,ld0neg,ld0num,ld0den,ld0all,st0all,st0neg,ld1neg,ld1num,ld1den,ld1all,st1all,st1neg,ld2neg,ld2num,ld2den,ld2all,st2all,st2neg,ld3neg,ld3num,ld3den,ld3all,st3all,st3neg,ld4neg,ld4num,ld4den,ld4all,st4all,st4neg,ex0,ex1,ex2,bld0,bld2,bld12,bld012,nil_av,not_b,bl_neq,bl_eql,List.length_cons,List.length_nil,List.length_append,List.nil_append,List.cons_append,List.append_nil,Nat.zero_add,List.set_cons_zero,List.set_cons_succ,List.set_nil,pcN,pcI,pcNN,pcBNN,pcR,pcRR,pc0,len_nv,n_eql0,canB_len h1]
    rw[ifA_dec]
    by_cases h4:r.num.v=0
    ·rw[if_pos h4]
     cases hn:r.neg with
     | true=>rw[ifA_true];simp[h4]
     | false=>
      rw[ifA_false]
      simp only[Nat.reduceAdd,oBs,Option.map_some,box_rv,new_z,new_r,new_zs,new_rs,fld0,fld1,fld2,res1,res2,ld0neg,ld0num,ld0den,ld0all,st0all,st0neg,ld1neg,ld1num,ld1den,ld1all,st1all,st1neg,ld2neg,ld2num,ld2den,ld2all,st2all,st2neg,ld3neg,ld3num,ld3den,ld3all,st3all,st3neg,ld4neg,ld4num,ld4den,ld4all,st4all,st4neg,ex0,ex1,ex2,bld0,bld2,bld12,bld012,nil_av,not_b,bl_neq,bl_eql,List.length_cons,List.length_nil,List.length_append,List.nil_append,List.cons_append,List.append_nil,Nat.zero_add,List.set_cons_zero,List.set_cons_succ,List.set_nil,pcN,pcI,pcNN,pcBNN,pcR,pcRR,pc0,e3,e4]
      refine (tail _).trans ?_
      simp[h3]
    ·rw[if_neg h4]
     simp only[Nat.reduceAdd,oBs,Option.map_some,box_rv,new_z,new_r,new_zs,new_rs,fld0,fld1,fld2,res1,res2,ld0neg,ld0num,ld0den,ld0all,st0all,st0neg,ld1neg,ld1num,ld1den,ld1all,st1all,st1neg,ld2neg,ld2num,ld2den,ld2all,st2all,st2neg,ld3neg,ld3num,ld3den,ld3all,st3all,st3neg,ld4neg,ld4num,ld4den,ld4all,st4all,st4neg,ex0,ex1,ex2,bld0,bld2,bld12,bld012,nil_av,not_b,bl_neq,bl_eql,List.length_cons,List.length_nil,List.length_append,List.nil_append,List.cons_append,List.append_nil,Nat.zero_add,List.set_cons_zero,List.set_cons_succ,List.set_nil,pcN,pcI,pcNN,pcBNN,pcR,pcRR,pc0,e3,e4]
     refine (tail _).trans ?_
     simp[h3,h4]
theorem V70one:AP cfg 70 [.int .u64 1]=some (refN 1).av:=V70 (n:=1) (by omega)
def zeroF:RV:=⟨false,nilV,refN 1⟩
def oneF:RV:=⟨false,refN 1,refN 1⟩
theorem refN_can (n:Nat):(refN n).z=true→(refN n).ds=[]:=by
 intro h
 unfold refN rowN at h ⊢
 split at h
 ·split<;>first|rfl|(rename_i h1 h2;exact absurd h1 h2)
 ·cases h
theorem canF_zero:Can zeroF 0:=⟨rfl,digs_zero.symm,refN_ds 1,fun _=>rfl,refN_can 1⟩
theorem canF_one:Can oneF 1:=⟨rfl,refN_ds 1,refN_ds 1,refN_can 1,refN_can 1⟩
theorem zeroF_fr:zeroF.fr=zeroF:=by simp only[zeroF,RV.fr,refN_fr];rfl
theorem oneF_fr:oneF.fr=oneF:=by simp only[oneF,RV.fr,refN_fr]
theorem V31:AP cfg 31 []=some zeroF.av:=by
 refine (AP_ofz _ _ (fz_rv zeroF) (noV_rv _) (m:=[cR zeroF]) ?_).trans (by rw[zeroF_fr])
 rw[T31]
 simp only[Nat.reduceAdd,oBs,Option.map_some,box_rv,new_z,new_r,new_zs,new_rs,fld0,fld1,fld2,res1,res2,ld0neg,ld0num,ld0den,ld0all,st0all,st0neg,ld1neg,ld1num,ld1den,ld1all,st1all,st1neg,ld2neg,ld2num,ld2den,ld2all,st2all,st2neg,ld3neg,ld3num,ld3den,ld3all,st3all,st3neg,ld4neg,ld4num,ld4den,ld4all,st4all,st4neg,ex0,ex1,ex2,bld0,bld2,bld12,bld012,nil_av,not_b,bl_neq,bl_eql,List.length_cons,List.length_nil,List.length_append,List.nil_append,List.cons_append,List.append_nil,Nat.zero_add,List.set_cons_zero,List.set_cons_succ,List.set_nil,pcN,pcI,pcNN,pcBNN,pcR,pcRR,pc0,V70one]
 rfl
theorem V28:AP cfg 28 []=some oneF.av:=by
 refine (AP_ofz _ _ (fz_rv oneF) (noV_rv _) (m:=[cR oneF]) ?_).trans (by rw[oneF_fr])
 rw[T28]
 simp only[Nat.reduceAdd,oBs,Option.map_some,box_rv,new_z,new_r,new_zs,new_rs,fld0,fld1,fld2,res1,res2,ld0neg,ld0num,ld0den,ld0all,st0all,st0neg,ld1neg,ld1num,ld1den,ld1all,st1all,st1neg,ld2neg,ld2num,ld2den,ld2all,st2all,st2neg,ld3neg,ld3num,ld3den,ld3all,st3all,st3neg,ld4neg,ld4num,ld4den,ld4all,st4all,st4neg,ex0,ex1,ex2,bld0,bld2,bld12,bld012,nil_av,not_b,bl_neq,bl_eql,List.length_cons,List.length_nil,List.length_append,List.nil_append,List.cons_append,List.append_nil,Nat.zero_add,List.set_cons_zero,List.set_cons_succ,List.set_nil,pcN,pcI,pcNN,pcBNN,pcR,pcRR,pc0,V70one]
 rfl
theorem eq0' (k:Nat):binA .other .eql (.int .i64 k) (.int .i64 0)=some (.bool (decide (k=0))):=n_eql0
theorem V69 {x y:NV} (neg:Bool) (hx:NOk x) (hy:NOk y) (lx:(digs x.v).length<2^38) (ly:(digs y.v).length<2^38):(y.v=0∧AP cfg 69 [.bool neg,x.av,y.av]=some (.tup [zR.av,.int .i64 31])) ∨
  (y.v≠0∧∃ r:RV,AP cfg 69 [.bool neg,x.av,y.av]=some (.tup [r.av,.int .i64 0])∧Can r (qOf neg x.v y.v)∧r.fr=r):=by
 obtain ⟨kb,e0,e0'⟩:=V101 hy.fr
 have e1:=V99 hx.fr hy.fr lx ly
 have v1:x.fr.v=x.v:=rfl
 have v2:y.fr.v=y.v:=rfl
 rw[v1,v2] at e1
 rw[v2] at e0'
 have lg:(digs (Nat.gcd x.v y.v)).length<2^38:=by
  by_cases h0:x.v=0
  ·rw[h0,Nat.gcd_zero_left];exact ly
  ·exact Nat.lt_of_le_of_lt (digs_mono (Nat.gcd_le_left _ (Nat.pos_of_ne_zero h0))) lx
 have hg:NOk (refN (Nat.gcd x.v y.v)):=refN_ok (by omega)
 have e3:=V102 hx.fr hg (by rw[v1];omega) (by rw[refN_v];omega)
 have e4:=V102 hy.fr hg (by rw[v2];omega) (by rw[refN_v];omega)
 by_cases h0:y.v=0
 ·refine .inl ⟨h0,AP_ofz _ _ (fz_tupR2 zR (fza_int _ _)) rfl (m:=[cR zR]) ?_⟩
  rw[T69]
  simp only[Nat.reduceAdd,oBs,Option.map_some,box_rv,new_z,new_r,new_zs,new_rs,fld0,fld1,fld2,res1,res2,ld0neg,ld0num,ld0den,ld0all,st0all,st0neg,ld1neg,ld1num,ld1den,ld1all,st1all,st1neg,ld2neg,ld2num,ld2den,ld2all,st2all,st2neg,ld3neg,ld3num,ld3den,ld3all,st3all,st3neg,ld4neg,ld4num,ld4den,ld4all,st4all,st4neg,ex0,ex1,ex2,bld0,bld2,bld12,bld012,nil_av,not_b,bl_neq,bl_eql,List.length_cons,List.length_nil,List.length_append,List.nil_append,List.cons_append,List.append_nil,Nat.zero_add,List.set_cons_zero,List.set_cons_succ,List.set_nil,pcN,pcI,pcNN,pcBNN,pcR,pcRR,pc0,e0,eq0',ifA_dec]
  rw[if_pos (e0'.2 h0)]
 ·refine .inr ⟨h0,?_⟩
  have hgp:Nat.gcd x.v y.v≠0:=by
   have:=Nat.gcd_pos_of_pos_right x.v (Nat.pos_of_ne_zero h0)
   omega
  unfold divR2 at e3 e4
  rw[refN_v,if_neg hgp,v1] at e3
  rw[refN_v,if_neg hgp,v2] at e4
  refine ⟨⟨neg&&decide (x.v/Nat.gcd x.v y.v>0),refN (x.v/Nat.gcd x.v y.v),refN (y.v/Nat.gcd x.v y.v)⟩,?_,⟨(qOf_neg h0).symm,?_,?_,refN_can _,refN_can _⟩,?_⟩
  ·refine (AP_ofz _ _ (fz_tupR2 ⟨neg&&decide (x.v/Nat.gcd x.v y.v>0),refN (x.v/Nat.gcd x.v y.v),refN (y.v/Nat.gcd x.v y.v)⟩ (fza_int .i64 0)) rfl (m:=[cR ⟨neg&&decide (x.v/Nat.gcd x.v y.v>0),refN (x.v/Nat.gcd x.v y.v),refN (y.v/Nat.gcd x.v y.v)⟩]) ?_).trans (by simp only[RV.fr,refN_fr])
   rw[T69]
   simp only[Nat.reduceAdd,oBs,Option.map_some,box_rv,new_z,new_r,new_zs,new_rs,fld0,fld1,fld2,res1,res2,ld0neg,ld0num,ld0den,ld0all,st0all,st0neg,ld1neg,ld1num,ld1den,ld1all,st1all,st1neg,ld2neg,ld2num,ld2den,ld2all,st2all,st2neg,ld3neg,ld3num,ld3den,ld3all,st3all,st3neg,ld4neg,ld4num,ld4den,ld4all,st4all,st4neg,ex0,ex1,ex2,bld0,bld2,bld12,bld012,nil_av,not_b,bl_neq,bl_eql,List.length_cons,List.length_nil,List.length_append,List.nil_append,List.cons_append,List.append_nil,Nat.zero_add,List.set_cons_zero,List.set_cons_succ,List.set_nil,pcN,pcI,pcNN,pcBNN,pcR,pcRR,pc0,e0,eq0',ifA_dec]
   rw[if_neg (fun h=>h0 (e0'.1 h))]
   simp only[Nat.reduceAdd,oBs,Option.map_some,box_rv,new_z,new_r,new_zs,new_rs,fld0,fld1,fld2,res1,res2,ld0neg,ld0num,ld0den,ld0all,st0all,st0neg,ld1neg,ld1num,ld1den,ld1all,st1all,st1neg,ld2neg,ld2num,ld2den,ld2all,st2all,st2neg,ld3neg,ld3num,ld3den,ld3all,st3all,st3neg,ld4neg,ld4num,ld4den,ld4all,st4all,st4neg,ex0,ex1,ex2,bld0,bld2,bld12,bld012,nil_av,not_b,bl_neq,bl_eql,List.length_cons,List.length_nil,List.length_append,List.nil_append,List.cons_append,List.append_nil,Nat.zero_add,List.set_cons_zero,List.set_cons_succ,List.set_nil,pcN,pcI,pcNN,pcBNN,pcR,pcRR,pc0,e1,refN_fr,e3,e4,refN_len,n_gtr0]
   have hlen:decide ((digs (x.v/Nat.gcd x.v y.v)).length>0)=decide (x.v/Nat.gcd x.v y.v>0):=decide_eq_decide.2 (by
    constructor
    ·intro h
     apply Nat.pos_of_ne_zero
     intro e
     rw[e,digs_zero] at h
     simp at h
    ·intro h
     have:(digs (x.v/Nat.gcd x.v y.v)).length≠0:=fun e=>by have:=digs_len0.1 e;omega
     omega)
   cases neg with
   | false=>rfl
   | true=>
    rw[ifA_true,hlen]
    simp only[Nat.reduceAdd,oBs,Option.map_some,box_rv,new_z,new_r,new_zs,new_rs,fld0,fld1,fld2,res1,res2,ld0neg,ld0num,ld0den,ld0all,st0all,st0neg,ld1neg,ld1num,ld1den,ld1all,st1all,st1neg,ld2neg,ld2num,ld2den,ld2all,st2all,st2neg,ld3neg,ld3num,ld3den,ld3all,st3all,st3neg,ld4neg,ld4num,ld4den,ld4all,st4all,st4neg,ex0,ex1,ex2,bld0,bld2,bld12,bld012,nil_av,not_b,bl_neq,bl_eql,List.length_cons,List.length_nil,List.length_append,List.nil_append,List.cons_append,List.append_nil,Nat.zero_add,List.set_cons_zero,List.set_cons_succ,List.set_nil,pcN,pcI,pcNN,pcBNN,pcR,pcRR,pc0,Bool.true_and]
  ·rw[qOf_abs h0];exact refN_ds _
  ·rw[qOf_den h0];exact refN_ds _
  ·simp only[RV.fr,refN_fr]
theorem V71 {r:RV} {k:Nat} (h:ROk k r) (hk:k<2^38):∃ s:RV,AP cfg 71 [r.av]=some s.av∧Can s r.q∧s.fr=s:=by
 have ln:=Nat.le_trans h.num.v_len h.ln
 have ld:=Nat.le_trans h.den.v_len h.ld
 rcases V69 r.neg h.num.fr h.den.fr (by show (digs r.num.v).length<_;omega) (by show (digs r.den.v).length<_;omega) with ⟨h0,h1⟩|⟨h0,s,h1,h2,h3⟩
 ·refine ⟨zeroF,(AP_ofz _ _ (fz_rv zeroF) (noV_rv _) (m:=[cR r,cR zeroF,cR zR]) ?_).trans (by rw[zeroF_fr]),?_,zeroF_fr⟩
  ·rw[T71]
   simp only[Nat.reduceAdd,oBs,Option.map_some,box_rv,new_z,new_r,new_zs,new_rs,fld0,fld1,fld2,res1,res2,ld0neg,ld0num,ld0den,ld0all,st0all,st0neg,ld1neg,ld1num,ld1den,ld1all,st1all,st1neg,ld2neg,ld2num,ld2den,ld2all,st2all,st2neg,ld3neg,ld3num,ld3den,ld3all,st3all,st3neg,ld4neg,ld4num,ld4den,ld4all,st4all,st4neg,ex0,ex1,ex2,bld0,bld2,bld12,bld012,nil_av,not_b,bl_neq,bl_eql,List.length_cons,List.length_nil,List.length_append,List.nil_append,List.cons_append,List.append_nil,Nat.zero_add,List.set_cons_zero,List.set_cons_succ,List.set_nil,pcN,pcI,pcNN,pcBNN,pcR,pcRR,pc0,h1,binA_neq,ifA_dec]
   rw[if_pos (by decide)]
   simp only[Nat.reduceAdd,oBs,Option.map_some,box_rv,new_z,new_r,new_zs,new_rs,fld0,fld1,fld2,res1,res2,ld0neg,ld0num,ld0den,ld0all,st0all,st0neg,ld1neg,ld1num,ld1den,ld1all,st1all,st1neg,ld2neg,ld2num,ld2den,ld2all,st2all,st2neg,ld3neg,ld3num,ld3den,ld3all,st3all,st3neg,ld4neg,ld4num,ld4den,ld4all,st4all,st4neg,ex0,ex1,ex2,bld0,bld2,bld12,bld012,nil_av,not_b,bl_neq,bl_eql,List.length_cons,List.length_nil,List.length_append,List.nil_append,List.cons_append,List.append_nil,Nat.zero_add,List.set_cons_zero,List.set_cons_succ,List.set_nil,pcN,pcI,pcNN,pcBNN,pcR,pcRR,pc0,V31]
  ·have:r.den.v=0:=h0
   rw[RV.q,this,qOf_den0];exact canF_zero
 ·refine ⟨s,(AP_ofz _ _ (fz_rv s) (noV_rv _) (m:=[cR r,cR s,cR s]) ?_).trans (by rw[h3]),h2,h3⟩
  rw[T71]
  simp only[Nat.reduceAdd,oBs,Option.map_some,box_rv,new_z,new_r,new_zs,new_rs,fld0,fld1,fld2,res1,res2,ld0neg,ld0num,ld0den,ld0all,st0all,st0neg,ld1neg,ld1num,ld1den,ld1all,st1all,st1neg,ld2neg,ld2num,ld2den,ld2all,st2all,st2neg,ld3neg,ld3num,ld3den,ld3all,st3all,st3neg,ld4neg,ld4num,ld4den,ld4all,st4all,st4neg,ex0,ex1,ex2,bld0,bld2,bld12,bld012,nil_av,not_b,bl_neq,bl_eql,List.length_cons,List.length_nil,List.length_append,List.nil_append,List.cons_append,List.append_nil,Nat.zero_add,List.set_cons_zero,List.set_cons_succ,List.set_nil,pcN,pcI,pcNN,pcBNN,pcR,pcRR,pc0,h1,binA_neq,ifA_dec]
  rw[if_neg (by decide)]
end Go.Ab
set_option linter.unusedVariables false
set_option linter.unusedSimpArgs false
namespace Go.Ab
open Go.Proofs.Try
def sgQ (q:Rat):Int:=if q=0 then 0 else if q.num<0 then -1 else 1
theorem sgQ_zero (q:Rat):sgQ q=0↔q=0:=by
 unfold sgQ
 constructor
 ·intro h
  split at h
  ·assumption
  ·split at h<;>omega
 ·intro h;rw[if_pos h]
theorem Can.len0 {r:RV} {q:Rat} (h:Can r q):r.num.ds.length=0↔q=0:=by
 rw[h.num,digs_len0,Int.natAbs_eq_zero,Rat.num_eq_zero]
theorem V86 {r:RV} {k:Nat} (h:ROk k r) (hk:k<2^38):AP cfg 86 [r.av]=some (.int .i64 (sgQ r.q)):=by
 obtain ⟨s,e1,e2,e3⟩:=V71 h.fr hk
 rw[RV.fr_q] at e2
 refine AP_ofz _ _ (fz_int _ _) rfl (m:=[cR s]) ?_
 rw[T86]
 simp only[Nat.reduceAdd,oBs,Option.map_some,box_rv,new_z,new_r,new_zs,new_rs,fld0,fld1,fld2,res1,res2,ld0neg,ld0num,ld0den,ld0all,st0all,st0neg,ld1neg,ld1num,ld1den,ld1all,st1all,st1neg,ld2neg,ld2num,ld2den,ld2all,st2all,st2neg,ld3neg,ld3num,ld3den,ld3all,st3all,st3neg,ld4neg,ld4num,ld4den,ld4all,st4all,st4neg,ex0,ex1,ex2,bld0,bld2,bld12,bld012,nil_av,not_b,bl_neq,bl_eql,List.length_cons,List.length_nil,List.length_append,List.nil_append,List.cons_append,List.append_nil,Nat.zero_add,List.set_cons_zero,List.set_cons_succ,List.set_nil,pcN,pcI,pcNN,pcBNN,pcR,pcRR,pc0,e1,len_nv,n_eql0,ifA_dec]
 unfold sgQ
 by_cases h0:r.q=0
 ·rw[if_pos (e2.len0.2 h0),if_pos h0]
 ·rw[if_neg (fun hh=>h0 (e2.len0.1 hh)),if_neg h0,e2.neg,ifA_dec]
  split<;>rfl
theorem V118 {r:RV} {k:Nat} (h:ROk k r) (hk:k<2^38):∃ s:RV,AP cfg 118 [r.av]=some s.av∧Can s (-r.q)∧s.fr=s:=by
 obtain ⟨s,e1,e2,e3⟩:=V71 h.fr hk
 rw[RV.fr_q] at e2
 have hlen:∀ b:Bool,decide (s.num.ds.length>0)=decide (r.q≠0):=by
  intro b
  refine decide_eq_decide.2 ?_
  have:=e2.len0
  constructor
  ·intro h1 h2
   have:=this.2 h2
   omega
  ·intro h1
   have:s.num.ds.length≠0:=fun e=>h1 (this.1 e)
   omega
 have hs1:s.num.fr=s.num:=congrArg RV.num e3
 have hs2:s.den.fr=s.den:=congrArg RV.den e3
 have hc:∀ b:Bool,b=decide ((-r.q).num<0)→Can ⟨b,s.num,s.den⟩ (-r.q):=by
  intro b hb
  refine ⟨hb,?_,?_,e2.numz,e2.denz⟩
  ·rw[Rat.neg_num,Int.natAbs_neg];exact e2.num
  ·rw[Rat.neg_den];exact e2.den
 cases hn:s.neg with
 | true=>
  have hq:r.q.num<0:=by have:=e2.neg;rw[hn] at this;exact of_decide_eq_true this.symm
  refine ⟨⟨false,s.num,s.den⟩,(AP_ofz _ _ (fz_rv ⟨false,s.num,s.den⟩) (noV_rv _) (m:=[cR ⟨false,s.num,s.den⟩,cR ⟨false,s.num,s.den⟩]) ?_).trans (by simp only[RV.fr,hs1,hs2]),hc false ?_,by simp only[RV.fr,hs1,hs2]⟩
  ·rw[T118]
   simp only[Nat.reduceAdd,oBs,Option.map_some,box_rv,new_z,new_r,new_zs,new_rs,fld0,fld1,fld2,res1,res2,ld0neg,ld0num,ld0den,ld0all,st0all,st0neg,ld1neg,ld1num,ld1den,ld1all,st1all,st1neg,ld2neg,ld2num,ld2den,ld2all,st2all,st2neg,ld3neg,ld3num,ld3den,ld3all,st3all,st3neg,ld4neg,ld4num,ld4den,ld4all,st4all,st4neg,ex0,ex1,ex2,bld0,bld2,bld12,bld012,nil_av,not_b,bl_neq,bl_eql,List.length_cons,List.length_nil,List.length_append,List.nil_append,List.cons_append,List.append_nil,Nat.zero_add,List.set_cons_zero,List.set_cons_succ,List.set_nil,pcN,pcI,pcNN,pcBNN,pcR,pcRR,pc0,e1,hn,Bool.not_true,ifA_false]
  ·rw[Rat.neg_num];exact (decide_eq_false (by omega)).symm
 | false=>
  have hq:¬ r.q.num<0:=by have:=e2.neg;rw[hn] at this;exact of_decide_eq_false this.symm
  refine ⟨⟨decide (r.q≠0),s.num,s.den⟩,(AP_ofz _ _ (fz_rv ⟨decide (r.q≠0),s.num,s.den⟩) (noV_rv _) (m:=[cR ⟨decide (r.q≠0),s.num,s.den⟩,cR ⟨decide (r.q≠0),s.num,s.den⟩]) ?_).trans (by simp only[RV.fr,hs1,hs2]),hc _ ?_,by simp only[RV.fr,hs1,hs2]⟩
  ·rw[T118]
   simp only[Nat.reduceAdd,oBs,Option.map_some,box_rv,new_z,new_r,new_zs,new_rs,fld0,fld1,fld2,res1,res2,ld0neg,ld0num,ld0den,ld0all,st0all,st0neg,ld1neg,ld1num,ld1den,ld1all,st1all,st1neg,ld2neg,ld2num,ld2den,ld2all,st2all,st2neg,ld3neg,ld3num,ld3den,ld3all,st3all,st3neg,ld4neg,ld4num,ld4den,ld4all,st4all,st4neg,ex0,ex1,ex2,bld0,bld2,bld12,bld012,nil_av,not_b,bl_neq,bl_eql,List.length_cons,List.length_nil,List.length_append,List.nil_append,List.cons_append,List.append_nil,Nat.zero_add,List.set_cons_zero,List.set_cons_succ,List.set_nil,pcN,pcI,pcNN,pcBNN,pcR,pcRR,pc0,e1,hn,Bool.not_false,ifA_true,len_nv,n_gtr0,hlen true]
  ·rw[Rat.neg_num]
   refine decide_eq_decide.2 ?_
   have h0:r.q=0↔r.q.num=0:=Rat.num_eq_zero.symm
   constructor
   ·intro h1
    have:r.q.num≠0:=fun e=>h1 (h0.2 e)
    omega
   ·intro h1 h2
    have:=h0.1 h2
    omega
theorem V76 {a b:RV} {k:Nat} (ha:ROk k a) (hb:ROk k b) (hk1:1≤k) (hk:k<2^36):∃ s:RV,AP cfg 76 [a.av,b.av]=some s.av∧Can s (a.q+b.q)∧s.fr=s:=by
 obtain ⟨s,e1,e2,e3⟩:=V71 ha.fr (by omega)
 obtain ⟨t,f1,f2,f3⟩:=V71 hb.fr (by omega)
 rw[RV.fr_q] at e2 f2
 have os:=e2.ok (ha.bd hk1) (by omega)
 have ot:=f2.ok (hb.bd hk1) (by omega)
 have hs1:s.num.fr=s.num:=congrArg RV.num e3
 have hs2:s.den.fr=s.den:=congrArg RV.den e3
 have ht1:t.num.fr=t.num:=congrArg RV.num f3
 have ht2:t.den.fr=t.den:=congrArg RV.den f3
 have lx:=ln_mul (Nat.le_trans os.num.v_len os.ln) (Nat.le_trans ot.den.v_len ot.ld)
 have ly:=ln_mul (Nat.le_trans ot.num.v_len ot.ln) (Nat.le_trans os.den.v_len os.ld)
 have ld:=ln_mul (Nat.le_trans os.den.v_len os.ld) (Nat.le_trans ot.den.v_len ot.ld)
 have lxy:=ln_add lx ly
 have g1:=V72 os.num ot.den
 have g2:=V72 ot.num os.den
 have g3:=V72 os.den ot.den
 have ox:NOk (refN (s.num.v*t.den.v)):=refN_ok (by omega)
 have oy:NOk (refN (t.num.v*s.den.v)):=refN_ok (by omega)
 have od:NOk (refN (s.den.v*t.den.v)):=refN_ok (by omega)
 have g4:=V111 ox oy (refN_fr _) (refN_fr _)
 have g5:=V98 ox oy
 have g6:=V112 ox oy (refN_fr _) (refN_fr _)
 have g7:=V112 oy ox (refN_fr _) (refN_fr _)
 rw[refN_v,refN_v] at g4 g5
 unfold subR at g6 g7
 rw[refN_v,refN_v] at g6 g7
 have hd0:s.den.v*t.den.v≠0:=Nat.mul_ne_zero e2.den0 f2.den0
 have hsum:a.q+b.q=mkRat (sgn s.neg (s.num.v*t.den.v)+sgn t.neg (t.num.v*s.den.v)) (s.den.v*t.den.v):=by
  rw[← e2.q,← f2.q]
  exact qOf_add e2.den0 f2.den0
 have fin:∀ (neg:Bool) (n:Nat),(digs n).length<2^38→mkRat (sgn s.neg (s.num.v*t.den.v)+sgn t.neg (t.num.v*s.den.v)) (s.den.v*t.den.v)=qOf neg n (s.den.v*t.den.v)→∃ r:RV,AP cfg 69 [.bool neg,(refN n).av,(refN (s.den.v*t.den.v)).av]=some (.tup [r.av,.int .i64 0])∧Can r (a.q+b.q)∧r.fr=r:=by
  intro neg n hn he
  rcases V69 neg (refN_ok (n:=n) (by omega)) od (by rw[refN_v];exact hn) (by rw[refN_v];omega) with ⟨h0,_⟩|⟨_,r,h1,h2,h3⟩
  ·rw[refN_v] at h0;exact absurd h0 hd0
  ·rw[refN_v,refN_v,← he,← hsum] at h2
   exact ⟨r,h1,h2,h3⟩
 by_cases hn:s.neg=t.neg
 ·obtain ⟨r,h1,h2,h3⟩:=fin s.neg (s.num.v*t.den.v+t.num.v*s.den.v) (by omega) (by rw[← hn,sgn_same];rfl)
  refine ⟨r,(AP_ofz _ _ (fz_rv r) (noV_rv _) (m:=[cR s,cR t,cR r,cR r]) ?_).trans (by rw[h3]),h2,h3⟩
  rw[T76]
  simp only[Nat.reduceAdd,oBs,Option.map_some,box_rv,new_z,new_r,new_zs,new_rs,fld0,fld1,fld2,res1,res2,ld0neg,ld0num,ld0den,ld0all,st0all,st0neg,ld1neg,ld1num,ld1den,ld1all,st1all,st1neg,ld2neg,ld2num,ld2den,ld2all,st2all,st2neg,ld3neg,ld3num,ld3den,ld3all,st3all,st3neg,ld4neg,ld4num,ld4den,ld4all,st4all,st4neg,ex0,ex1,ex2,bld0,bld2,bld12,bld012,nil_av,not_b,bl_neq,bl_eql,List.length_cons,List.length_nil,List.length_append,List.nil_append,List.cons_append,List.append_nil,Nat.zero_add,List.set_cons_zero,List.set_cons_succ,List.set_nil,pcN,pcI,pcNN,pcBNN,pcR,pcRR,pc0,e1,f1,hs1,hs2,ht1,ht2,g1,g2,g3,refN_fr,g4,hn,bne_self_eq_false,ifA_false]
  rw[hn] at h1
  simp only[Nat.reduceAdd,oBs,Option.map_some,box_rv,new_z,new_r,new_zs,new_rs,fld0,fld1,fld2,res1,res2,ld0neg,ld0num,ld0den,ld0all,st0all,st0neg,ld1neg,ld1num,ld1den,ld1all,st1all,st1neg,ld2neg,ld2num,ld2den,ld2all,st2all,st2neg,ld3neg,ld3num,ld3den,ld3all,st3all,st3neg,ld4neg,ld4num,ld4den,ld4all,st4all,st4neg,ex0,ex1,ex2,bld0,bld2,bld12,bld012,nil_av,not_b,bl_neq,bl_eql,List.length_cons,List.length_nil,List.length_append,List.nil_append,List.cons_append,List.append_nil,Nat.zero_add,List.set_cons_zero,List.set_cons_succ,List.set_nil,pcN,pcI,pcNN,pcBNN,pcR,pcRR,pc0,h1]
 ·have hne:(s.neg != t.neg)=true:=by simpa using hn
  by_cases hlt:s.num.v*t.den.v<t.num.v*s.den.v
  ·obtain ⟨r,h1,h2,h3⟩:=fin t.neg (t.num.v*s.den.v-s.num.v*t.den.v) (Nat.lt_of_le_of_lt (digs_mono (Nat.sub_le _ _)) (by omega)) (by rw[sgn_lt hn hlt];rfl)
   refine ⟨r,(AP_ofz _ _ (fz_rv r) (noV_rv _) (m:=[cR s,cR t,cR r,cR r]) ?_).trans (by rw[h3]),h2,h3⟩
   have hc:¬ cmpV (s.num.v*t.den.v) (t.num.v*s.den.v)≥0:=by unfold cmpV;rw[if_pos hlt];omega
   rw[if_neg (by omega)] at g7
   rw[T76]
   simp only[Nat.reduceAdd,oBs,Option.map_some,box_rv,new_z,new_r,new_zs,new_rs,fld0,fld1,fld2,res1,res2,ld0neg,ld0num,ld0den,ld0all,st0all,st0neg,ld1neg,ld1num,ld1den,ld1all,st1all,st1neg,ld2neg,ld2num,ld2den,ld2all,st2all,st2neg,ld3neg,ld3num,ld3den,ld3all,st3all,st3neg,ld4neg,ld4num,ld4den,ld4all,st4all,st4neg,ex0,ex1,ex2,bld0,bld2,bld12,bld012,nil_av,not_b,bl_neq,bl_eql,List.length_cons,List.length_nil,List.length_append,List.nil_append,List.cons_append,List.append_nil,Nat.zero_add,List.set_cons_zero,List.set_cons_succ,List.set_nil,pcN,pcI,pcNN,pcBNN,pcR,pcRR,pc0,e1,f1,hs1,hs2,ht1,ht2,g1,g2,g3,refN_fr,g4,hne,ifA_true,g5,binA_geq,ifA_dec]
   rw[if_neg hc]
   simp only[Nat.reduceAdd,oBs,Option.map_some,box_rv,new_z,new_r,new_zs,new_rs,fld0,fld1,fld2,res1,res2,ld0neg,ld0num,ld0den,ld0all,st0all,st0neg,ld1neg,ld1num,ld1den,ld1all,st1all,st1neg,ld2neg,ld2num,ld2den,ld2all,st2all,st2neg,ld3neg,ld3num,ld3den,ld3all,st3all,st3neg,ld4neg,ld4num,ld4den,ld4all,st4all,st4neg,ex0,ex1,ex2,bld0,bld2,bld12,bld012,nil_av,not_b,bl_neq,bl_eql,List.length_cons,List.length_nil,List.length_append,List.nil_append,List.cons_append,List.append_nil,Nat.zero_add,List.set_cons_zero,List.set_cons_succ,List.set_nil,pcN,pcI,pcNN,pcBNN,pcR,pcRR,pc0,refN_fr,g7,h1]
  ·obtain ⟨r,h1,h2,h3⟩:=fin s.neg (s.num.v*t.den.v-t.num.v*s.den.v) (Nat.lt_of_le_of_lt (digs_mono (Nat.sub_le _ _)) (by omega)) (by rw[sgn_gt hn hlt];rfl)
   refine ⟨r,(AP_ofz _ _ (fz_rv r) (noV_rv _) (m:=[cR s,cR t,cR r,cR r]) ?_).trans (by rw[h3]),h2,h3⟩
   have hc:cmpV (s.num.v*t.den.v) (t.num.v*s.den.v)≥0:=by unfold cmpV;rw[if_neg hlt];split<;>omega
   rw[if_neg hlt] at g6
   rw[T76]
   simp only[Nat.reduceAdd,oBs,Option.map_some,box_rv,new_z,new_r,new_zs,new_rs,fld0,fld1,fld2,res1,res2,ld0neg,ld0num,ld0den,ld0all,st0all,st0neg,ld1neg,ld1num,ld1den,ld1all,st1all,st1neg,ld2neg,ld2num,ld2den,ld2all,st2all,st2neg,ld3neg,ld3num,ld3den,ld3all,st3all,st3neg,ld4neg,ld4num,ld4den,ld4all,st4all,st4neg,ex0,ex1,ex2,bld0,bld2,bld12,bld012,nil_av,not_b,bl_neq,bl_eql,List.length_cons,List.length_nil,List.length_append,List.nil_append,List.cons_append,List.append_nil,Nat.zero_add,List.set_cons_zero,List.set_cons_succ,List.set_nil,pcN,pcI,pcNN,pcBNN,pcR,pcRR,pc0,e1,f1,hs1,hs2,ht1,ht2,g1,g2,g3,refN_fr,g4,hne,ifA_true,g5,binA_geq,ifA_dec]
   rw[if_pos hc]
   simp only[Nat.reduceAdd,oBs,Option.map_some,box_rv,new_z,new_r,new_zs,new_rs,fld0,fld1,fld2,res1,res2,ld0neg,ld0num,ld0den,ld0all,st0all,st0neg,ld1neg,ld1num,ld1den,ld1all,st1all,st1neg,ld2neg,ld2num,ld2den,ld2all,st2all,st2neg,ld3neg,ld3num,ld3den,ld3all,st3all,st3neg,ld4neg,ld4num,ld4den,ld4all,st4all,st4neg,ex0,ex1,ex2,bld0,bld2,bld12,bld012,nil_av,not_b,bl_neq,bl_eql,List.length_cons,List.length_nil,List.length_append,List.nil_append,List.cons_append,List.append_nil,Nat.zero_add,List.set_cons_zero,List.set_cons_succ,List.set_nil,pcN,pcI,pcNN,pcBNN,pcR,pcRR,pc0,refN_fr,g6,h1]
theorem V100 {a b:RV} {k:Nat} (ha:ROk k a) (hb:ROk k b) (hk1:1≤k) (hk:k<2^36):∃ s:RV,AP cfg 100 [a.av,b.av]=some s.av∧Can s (a.q-b.q)∧s.fr=s:=by
 obtain ⟨t,f1,f2,f3⟩:=V118 hb.fr (by omega)
 rw[RV.fr_q] at f2
 have bt:Bd k (-b.q):=by
  have:=hb.bd hk1
  refine ⟨?_,?_⟩
  ·rw[Rat.neg_num,Int.natAbs_neg];exact this.1
  ·rw[Rat.neg_den];exact this.2
 have ot:=f2.ok bt (by omega)
 obtain ⟨s,e1,e2,e3⟩:=V76 ha.fr ot hk1 hk
 rw[f2.q,RV.fr_q,← Rat.sub_eq_add_neg] at e2
 refine ⟨s,(AP_ofz _ _ (fz_rv s) (noV_rv _) (m:=[cR a,cR b,cR s]) ?_).trans (by rw[e3]),e2,e3⟩
 rw[T100]
 simp only[Nat.reduceAdd,oBs,Option.map_some,box_rv,new_z,new_r,new_zs,new_rs,fld0,fld1,fld2,res1,res2,ld0neg,ld0num,ld0den,ld0all,st0all,st0neg,ld1neg,ld1num,ld1den,ld1all,st1all,st1neg,ld2neg,ld2num,ld2den,ld2all,st2all,st2neg,ld3neg,ld3num,ld3den,ld3all,st3all,st3neg,ld4neg,ld4num,ld4den,ld4all,st4all,st4neg,ex0,ex1,ex2,bld0,bld2,bld12,bld012,nil_av,not_b,bl_neq,bl_eql,List.length_cons,List.length_nil,List.length_append,List.nil_append,List.cons_append,List.append_nil,Nat.zero_add,List.set_cons_zero,List.set_cons_succ,List.set_nil,pcN,pcI,pcNN,pcBNN,pcR,pcRR,pc0,f1,f3,e1]
theorem V66 {a b:RV} {k:Nat} (ha:ROk k a) (hb:ROk k b) (hk1:1≤k) (hk:k<2^36):AP cfg 66 [a.av,b.av]=some (.int .i64 (sgQ (a.q-b.q))):=by
 obtain ⟨s,e1,e2,e3⟩:=V100 ha.fr hb.fr hk1 hk
 rw[RV.fr_q,RV.fr_q] at e2
 have bs:=Bd_add (ha.bd hk1) (q:=-b.q) (l:=k) (by
  have:=hb.bd hk1
  refine ⟨?_,?_⟩
  ·rw[Rat.neg_num,Int.natAbs_neg];exact this.1
  ·rw[Rat.neg_den];exact this.2) hk1
 rw[← Rat.sub_eq_add_neg] at bs
 have os:=e2.ok bs (by omega)
 have e4:=V86 os (by omega)
 rw[e2.q] at e4
 refine AP_ofz _ _ (fz_int _ _) rfl (m:=[cR a,cR b]) ?_
 rw[T66]
 simp only[Nat.reduceAdd,oBs,Option.map_some,box_rv,new_z,new_r,new_zs,new_rs,fld0,fld1,fld2,res1,res2,ld0neg,ld0num,ld0den,ld0all,st0all,st0neg,ld1neg,ld1num,ld1den,ld1all,st1all,st1neg,ld2neg,ld2num,ld2den,ld2all,st2all,st2neg,ld3neg,ld3num,ld3den,ld3all,st3all,st3neg,ld4neg,ld4num,ld4den,ld4all,st4all,st4neg,ex0,ex1,ex2,bld0,bld2,bld12,bld012,nil_av,not_b,bl_neq,bl_eql,List.length_cons,List.length_nil,List.length_append,List.nil_append,List.cons_append,List.append_nil,Nat.zero_add,List.set_cons_zero,List.set_cons_succ,List.set_nil,pcN,pcI,pcNN,pcBNN,pcR,pcRR,pc0,e1,e3,e4]
theorem V23 {a b:RV} {k:Nat} (ha:ROk k a) (hb:ROk k b) (hk1:1≤k) (hk:k<2^36):AP cfg 23 [a.av,b.av]=some (.bool (decide (a.q=b.q))):=by
 have e1:=V66 ha.fr hb.fr hk1 hk
 rw[RV.fr_q,RV.fr_q] at e1
 refine AP_ofz _ _ (fz_bool _) rfl (m:=[cR a,cR b]) ?_
 rw[T23]
 simp only[Nat.reduceAdd,oBs,Option.map_some,box_rv,new_z,new_r,new_zs,new_rs,fld0,fld1,fld2,res1,res2,ld0neg,ld0num,ld0den,ld0all,st0all,st0neg,ld1neg,ld1num,ld1den,ld1all,st1all,st1neg,ld2neg,ld2num,ld2den,ld2all,st2all,st2neg,ld3neg,ld3num,ld3den,ld3all,st3all,st3neg,ld4neg,ld4num,ld4den,ld4all,st4all,st4neg,ex0,ex1,ex2,bld0,bld2,bld12,bld012,nil_av,not_b,bl_neq,bl_eql,List.length_cons,List.length_nil,List.length_append,List.nil_append,List.cons_append,List.append_nil,Nat.zero_add,List.set_cons_zero,List.set_cons_succ,List.set_nil,pcN,pcI,pcNN,pcBNN,pcR,pcRR,pc0,e1,binA_eql]
 congr 3
 refine decide_eq_decide.2 ?_
 rw[sgQ_zero]
 constructor
 ·intro h
  have:=Rat.sub_add_cancel (a:=a.q) (b:=b.q)
  rw[h,Rat.zero_add] at this
  exact this.symm
 ·intro h;rw[h,Rat.sub_self]
end Go.Ab
