/- What the interpreter does, function by function. -/
import Derived.Test.YtiipgpkgcdhbfaaGreatDoorGP1
set_option maxRecDepth 100000
set_option linter.unusedVariables false
set_option linter.unusedSimpArgs false
set_option linter.unusedSectionVars false
namespace Go.Ab
noncomputable section
variable (a0 a1 a2 x0 x1 x2 x4 x6 x7 x8 x9 aN aX:AV) (m:ai) (K:KT)
open Go.Proofs.Tryz
theorem T32:AC af 32 [a0] m=(aM false a0).bind fun v1=>(ag .o .gtr v1 (.I 16)).bind fun v2=>aB v2 (some ((.tup [.nilp,(.I 2)]),m)) ((AC af 92 [a0,(.fn 93 [])] m).bind fun r3=>aB r3.1 (some ((.tup [.nilp,(.I 1)]),r3.2)) ((aF (AP af) none r3.2 88 [a0]).bind fun r4=>(fR (.agg [aD,aD,.nilm,(.I 0)]) [(0,none,r4.1),(2,none,(.mref (az none r4.2 .resv).1)),(3,none,(.I 4000))]).bind fun v5=>(dp none (some 4) (az none r4.2 (.mp .str [])).2 v5).bind fun r6=>some ((.tup [r6.1,(.I 0)]),r6.2))):=
(bm af 32 [a0] m (fn:=f32) (c:=aE f32) qnt rfl).trans au
theorem T92:AC af 92 [a0,a1] m=(AC af 145 [a0,a1] m).bind fun r1=>(ag .o .geq r1.1 (.I 0)).bind fun v2=>some (v2,r1.2):=
(bm af 92 [a0,a1] m (fn:=f92) (c:=aE f92) qoa rfl).trans au
def UW:St:=⟨(br (aK (aJ []))),m⟩
def Vb:St:=⟨(aO (x4::aV (aO (aK [])))),m⟩
def BM:OM:=bY 145 (b8 (c2 (aE f145))) 2 (x0::x1::aO (aJ (x7::x8::aV (aK [])))) m K
abbrev qfl:KT:=bI 145 (c2 (c2 (aE f145))) K
abbrev qfm:KT:=bw 0 (qfl K)
abbrev BI:KT:=(qfm K)
theorem qj1:AC af 145 [a0,a1] m=(aM false a0).bind fun v1=>BM a0 a1 v1 (.I 0) m (BI (aH f145)):=
(bm af 145 [a0,a1] m (fn:=f145) (c:=aE f145) qmJ rfl).trans au
theorem TJ:BM x0 x1 x7 x8 m K=(ag .o .lss x8 x7).bind fun v1=>aB v1 ((aI none x0 x8).bind fun v2=>(aj none m v2).bind fun v3=>(kI x1).bind fun g4=>jZ af 145 (AP af) (AC af) none g4.1 ([v3]++g4.2) m fun v5 m6=>aB v5 (K .ret (Vb x8 m6)) ((ag .o .add x8 (.I 1)).bind fun v7=>BM x0 x1 x7 v7 m6 K)) (K (.exit 0) (UW m)):=
(bX (bQ _) _ _ _).trans au
theorem qfo:BI (aH f145) (.exit 0) (UW  m)=some ((.I (-1)),m):=au
theorem qfn:BI (aH f145) .ret (Vb x4 m)=some (x4,m):=au
theorem T93:AC af 93 [a0] m=(ag .o .lss a0 (.I 1)).bind fun v1=>aB v1 (some ((.bool true),m)) ((ag .o .gtr a0 (.I 64)).bind fun v2=>some (v2,m)):=
(bm af 93 [a0] m (fn:=f93) (c:=aE f93) qob rfl).trans au
theorem Oz:AC af 88 [a0] m=(ag .sl .eql a0 aD).bind fun v1=>aB v1 (some (aD,m)) ((df none []).bind fun v2=>(bL none false 3 none 8 m v2 a0).bind fun r3=>some (r3.1,r3.2)):=
(bm af 88 [a0] m (fn:=f88) (c:=aE f88) qn7 rfl).trans au
theorem T80:AC af 80 [a0] m=(ag .pt .eql a0 .nilp).bind fun v1=>aB v1 (some ((.bool true),m)) ((jb a0).bind fun v2=>(aL 3 v2).bind fun v3=>(aj none m v3).bind fun v4=>(ag .o .eql v4 (.I 0)).bind fun v5=>some (v5,m)):=
(bm af 80 [a0] m (fn:=f80) (c:=aE f80) qn4 rfl).trans au
theorem Vy:AC af 94 [a0] m=(ag .o .geq a0 (.I 0)).bind fun v1=>aB v1 ((ag .o .leq a0 (.I 2147483647)).bind fun v2=>some (v2,m)) (some ((.bool false),m)):=
(bm af 94 [a0] m (fn:=f94) (c:=aE f94) qoc rfl).trans au
theorem Vx:AC af 84 [a0,a1] m=(dp none none m a0).bind fun r1=>(aj none (az none (az none r1.2 (.B [(.I 0)])).2 (.B [(.I 0)])).2 r1.1).bind fun v2=>(jb v2).bind fun v3=>(aL 1 v3).bind fun v4=>(aj none (az none (az none r1.2 (.B [(.I 0)])).2 (.B [(.I 0)])).2 v4).bind fun v5=>(aM false v5).bind fun v6=>(aP none (az none (az none (az none r1.2 (.B [(.I 0)])).2 (.B [(.I 0)])).2 (.B [(.I 0)])).2 (.ptr (az none (az none (az none r1.2 (.B [(.I 0)])).2 (.B [(.I 0)])).2 .resv).1 0) v6).bind fun m7=>(kI a1).bind fun g8=>jZ af 84 (AP af) (AC af) none g8.1 ([]++g8.2) m7 fun v9 m10=>(aP none m10 (.ptr (az none r1.2 .resv).1 0) v9).bind fun m11=>(aP none m11 (.ptr (az none (az none r1.2 (.B [(.I 0)])).2 .resv).1 0) (.I 0)).bind fun m12=>(aj none m12 (.ptr (az none r1.2 .resv).1 0)).bind fun bg=>(aj none m12 (.ptr (az none (az none r1.2 (.B [(.I 0)])).2 .resv).1 0)).bind fun bf=>some ((.tup [bg,bf]),m12):=
(bm af 84 [a0,a1] m (fn:=f84) (c:=aE f84) qn6 rfl).trans au
theorem T95:AC af 95 [a0,a1] m=(aj none m a0).bind fun v1=>(aj none m a1).bind fun v2=>(AC af 96 [v1,v2] m).bind fun r3=>some (r3.1,r3.2):=
(bm af 95 [a0,a1] m (fn:=f95) (c:=aE f95) qod rfl).trans au
theorem T96:AC af 96 [a0,a1] m=(fR (.agg [(.I 0),aD,(.I 0)]) [(0,none,(.I (-1))),(2,none,a1)]).bind fun v1=>(AC af 139 [a0,v1] m).bind fun r2=>some (r2.1,r2.2):=
(bm af 96 [a0,a1] m (fn:=f96) (c:=aE f96) qoe rfl).trans au
theorem T81:AC af 81 [a0,a1] m=(ag .o .geq a1 (.I 0)).bind fun v1=>aB v1 ((jb a0).bind fun v2=>(aL 1 v2).bind fun v3=>(aj none m v3).bind fun v4=>(aM false v4).bind fun v5=>(ag .o .lss a1 v5).bind fun v6=>some (v6,m)) (some ((.bool false),m)):=
(bm af 81 [a0,a1] m (fn:=f81) (c:=aE f81) qn5 rfl).trans au
theorem T68:AC af 68 [a0,a1] m=(jb a0).bind fun v1=>(aL 1 v1).bind fun v2=>(aj none m v2).bind fun v3=>(aI (some 3) v3 a1).bind fun v4=>(aj (some 3) m v4).bind fun v5=>(aP (some 3) (az none m (.B [(.I 0),aD,(.I 0)])).2 (.ptr (az none m .resv).1 0) v5).bind fun m6=>(aL 0 (.ptr (az none m .resv).1 0)).bind fun v7=>(aj none m6 v7).bind fun v8=>(ag .o .geq v8 (.I 0)).bind fun v9=>aB v9 ((aL 0 (.ptr (az none m .resv).1 0)).bind fun v10=>(aj none m6 v10).bind fun v11=>some (v11,m6)) ((jb a0).bind fun v12=>(aL 0 v12).bind fun bg=>(aj none m6 bg).bind fun bf=>(aM false bf).bind fun bh=>some (bh,m6)):=
(bm af 68 [a0,a1] m (fn:=f68) (c:=aE f68) qnS rfl).trans au
def Ol:St:=⟨(aK (x2::br (aV (aK [])))),m⟩
def Ov:St:=⟨(aO (aK (x6::br (aO (aK []))))),m⟩
def Iw:OM:=bY 99 (b8 (c2 (aE f99))) 2 (x0::x1::x2::aO (aK (x9::aN::aX::br (aJ [])))) m K
abbrev qiX:KT:=bI 99 (c2 (c2 (aE f99))) K
abbrev qiY:KT:=bw 0 (qiX K)
abbrev HB:KT:=(qiY K)
theorem T99:AC af 99 [a0,a1,a2] m=(aM false a2).bind fun v1=>Iw a0 a1 a2 a2 v1 (.I 0) m (HB (aH f99)):=
(bm af 99 [a0,a1,a2] m (fn:=f99) (c:=aE f99) qoh rfl).trans au
theorem UM:Iw x0 x1 x2 x9 aN aX m K=(ag .o .lss aX aN).bind fun v1=>aB v1 ((aI none x9 aX).bind fun v2=>(aj none m v2).bind fun v3=>(aI none x2 (.I 0)).bind fun v4=>(aj none m v4).bind fun v5=>(ag .o .neq v3 v5).bind fun v6=>aB v6 ((fR (.agg [(.I 0),aD,(.I 0)]) [(0,none,x1),(1,none,x2)]).bind fun v7=>(AC af 139 [x0,v7] m).bind fun r8=>K .ret (Ov r8.1 r8.2)) ((ag .o .add aX (.I 1)).bind fun v9=>Iw x0 x1 x2 x9 aN v9 m K)) (K (.exit 0) (Ol x2 m)):=
(bX (bQ _) _ _ _).trans au
theorem qi0:HB (aH f99) (.exit 0) (Ol x2 m)=(aI none x2 (.I 0)).bind fun v1=>(aj none m v1).bind fun v2=>some (v2,m):=au
theorem qiZ:HB (aH f99) .ret (Ov x6 m)=some (x6,m):=au
theorem Ow:AC af 139 [a0,a1] m=(dp none (some 3) m a1).bind fun r1=>(aj (some 3) r1.2 r1.1).bind fun v2=>(A8 [v2]).bind fun v3=>(jb a0).bind fun v4=>(aL 2 v4).bind fun v5=>(aj none r1.2 v5).bind fun v6=>(p6 .str (.I 0) r1.2 v6 v3).bind fun q7=>(a8 (.tup [q7.1,.bool q7.2]) 0).bind fun v8=>(a8 (.tup [q7.1,.bool q7.2]) 1).bind fun v9=>aB v9 (some (v8,r1.2)) ((jb a0).bind fun v10=>(aL 1 v10).bind fun v11=>(aj none r1.2 v11).bind fun v12=>(aM false v12).bind fun bg=>(jb a0).bind fun bf=>(aL 3 bf).bind fun bh=>(aj none r1.2 bh).bind fun bK=>(ag .o .geq bg bK).bind fun bH=>aB bH ((fR (.agg []) []).bind fun cV=>none) ((jb a0).bind fun cP=>(aL 1 cP).bind fun v20=>(aj none (bV r1.2 1) v20).bind fun v21=>(aj (some 3) (bV r1.2 1) r1.1).bind fun v22=>(df (some 3) [v22]).bind fun v23=>(bL (some r1.2.length) false 74 (some 3) 40 (bV r1.2 1) v21 v23).bind fun lE=>(jb a0).bind fun v25=>(aL 1 v25).bind fun v26=>(aP none lE.2 v26 lE.1).bind fun m27=>(jb a0).bind fun v28=>(aL 2 v28).bind fun jh=>(aj none m27 jh).bind fun v30=>(jb a0).bind fun v31=>(aL 1 v31).bind fun jN=>(aj none m27 jN).bind fun kR=>(aM false kR).bind fun nC=>(ag .o .sub nC (.I 1)).bind fun kF=>(lY .str m27 v30 v3 kF).bind fun m36=>(jb a0).bind fun v37=>(aL 1 v37).bind fun qe=>(aj none m36 qe).bind fun rm=>(aM false rm).bind fun v40=>(ag .o .sub v40 (.I 1)).bind fun GH=>some (GH,m36))):=
(bm af 139 [a0,a1] m (fn:=f139) (c:=aE f139) qmE rfl).trans au
theorem Vr:AC af 33 [a0,a1] m=(dp none none m a0).bind fun r1=>(dp none none r1.2 a1).bind fun r2=>(aj none r2.2 r1.1).bind fun v3=>(AC af 80 [v3] r2.2).bind fun r4=>aB r4.1 (some ((.tup [(.I 0),(.I 4)]),r4.2)) ((aj none r4.2 r2.1).bind fun v5=>(aF (AP af) none r4.2 94 [v5]).bind fun r6=>(gH .not r6.1).bind fun v7=>aB v7 (some ((.tup [(.I 0),(.I 1)]),r6.2)) ((aj none r6.2 r1.1).bind fun v8=>(AC af 84 [v8,(.fn 95 [r1.1,r2.1])] r6.2).bind fun r9=>(a8 r9.1 0).bind fun v10=>(a8 r9.1 1).bind fun v11=>some ((.tup [v10,v11]),r9.2))):=
(bm af 33 [a0,a1] m (fn:=f33) (c:=aE f33) qnu rfl).trans au
end
end Go.Ab
namespace Go.Ab
theorem quR(x:Int):IntKind.wrap .i64 x=if x%18446744073709551616≥9223372036854775808 then x%18446744073709551616-18446744073709551616 else x%18446744073709551616:=by
 show (if (true&&decide (x%18446744073709551616≥9223372036854775808))=true then x%18446744073709551616-18446744073709551616 else x%18446744073709551616)=_
 simp
theorem qc3(x:Int):IntKind.wrap .u64 x=x%18446744073709551616:=by
 rfl
theorem zi(x:Int):IntKind.wrap .u32 x=x%4294967296:=by
 rfl
theorem iV{x:Int}(h:-9223372036854775808<=x)(h':x<9223372036854775808):IntKind.wrap .i64 x=x:=by
 rw[quR];split<;>omega
theorem jO{x:Int}(h:0<=x)(h':x<18446744073709551616):IntKind.wrap .u64 x=x:=by
 rw[qc3];omega
theorem By{x:Int}(h:0<=x)(h':x<4294967296):IntKind.wrap .u32 x=x:=by
 rw[zi];omega
structure NV where
 z:Bool
 o:Own
 ds:List Nat
def dg(d:Nat):AV:=.int .u32 d
def NV.av(x:NV):AV:=.lst none x.z x.o (x.ds.map dg)
section
variable {R:Type}
theorem gE(tk:TK)(k:IntKind)(a b:Int):ag tk .gtr (.int k a) (.int k b)=some (.bool (decide (a>b))):=by cases tk<;>simp[ag,sC]
theorem bz(tk:TK)(k:IntKind)(a b:Int):ag tk .lss (.int k a) (.int k b)=some (.bool (decide (a<b))):=by cases tk<;>simp[ag,sC]
theorem ki(tk:TK)(k:IntKind)(a b:Int):ag tk .geq (.int k a) (.int k b)=some (.bool (decide (a≥b))):=by cases tk<;>simp[ag,sC]
theorem rG(tk:TK)(k:IntKind)(a b:Int):ag tk .leq (.int k a) (.int k b)=some (.bool (decide (a<=b))):=by cases tk<;>simp[ag,sC]
theorem iK(tk:TK)(k:IntKind)(a b:Int):ag tk .eql (.int k a) (.int k b)=some (.bool (decide (a=b))):=by cases tk<;>simp[ag,sC]<;>rfl
theorem gm(tk:TK)(k:IntKind)(a b:Int):ag tk .neq (.int k a) (.int k b)=some (.bool (decide (a≠b))):=by cases tk<;>simp[ag,sC]<;>by_cases h:a=b<;>simp[h]
theorem l9(tk:TK)(k:IntKind)(a b:Int):ag tk .add (.int k a) (.int k b)=some (.int k (k.wrap (a+b))):=by cases tk<;>simp[ag,sC]
theorem pz(tk:TK)(k:IntKind)(a b:Int):ag tk .sub (.int k a) (.int k b)=some (.int k (k.wrap (a-b))):=by cases tk<;>simp[ag,sC]
theorem xZ(tk:TK)(k:IntKind)(a b:Int):ag tk .mul (.int k a) (.int k b)=some (.int k (k.wrap (a*b))):=by cases tk<;>simp[ag,sC]
theorem qy(sh:Sh)(z:Bool)(o:Own)(es:List AV):aM false (.lst sh z o es)=some (.int .i64 es.length):=rfl
theorem aC(p:Prop)[Decidable p](x y:Option R):aB (.bool (decide p)) x y=if p then x else y:=by
 by_cases h:p<;>simp[aB,h]
theorem vh{z:Bool}{o:Own}{ds:List Nat}{k:IntKind}{i:Int}(h:0<=i)(h':i<ds.length):aI none (.lst none z o (ds.map dg)) (.int k i)=some (.vptr [dg (ds.getD i.toNat 0)]):=by
 have hi:i.toNat<ds.length:=aa;simp[aI,h,hi,AV.cells,dg,aT]
theorem gP(m:ai)(x:AV):aj none m (.vptr [x])=some x:=rfl
theorem qco{z:Bool}{o:Own}{ds:List Nat}{k:IntKind}{i:Int}(h:0<=i)(h':i<=ds.length):gX none (.lst none z o (ds.map dg)) none (some (.int k i)) none=some (.lst none z .no ((ds.take i.toNat).map dg)):=by
 simp[gX,o0,je,h,h',qm]
end
def Own.fr:Own->Own
 | .tok ..=>.no
 | o=>o
def NV.fr(x:NV):NV:=⟨x.z,x.o.fr,x.ds⟩
def Fz(v v':AV):Prop:=∀m,cq m kX v=some (v',[])
theorem cX(x:NV):Fz x.av x.fr.av:=by
 intro m;obtain ⟨z,o,ds⟩:=x;cases o<;>rfl
theorem gJ(k:IntKind)(n:Int):Fz (.int k n) (.int k n):=fun _=>rfl
theorem km(b:Bool):Fz (.bool b) (.bool b):=fun _=>rfl
section
variable {cp:Nat->List AV->Option AV} {d:Option Nat} {m:ai} {g:Nat}
theorem Rp:aF cp d m g []=(cp g []).map fun v=>(v,m):=by
 simp[aF,fU,kB]
theorem cI{a a':AV}(ha:Fz a a'):aF cp d m g [a]=(cp g [a']).map fun v=>(v,m):=by
 simp[aF,fU,kB,ha m]
theorem fN{a a' b b':AV}(ha:Fz a a')(hb:Fz b b'):aF cp d m g [a,b]=(cp g [a',b']).map fun v=>(v,m):=by
 simp[aF,fU,kB,ha m,hb m]
theorem Db{a a' b b' c c':AV}(ha:Fz a a')(hb:Fz b b')(hc:Fz c c'):aF cp d m g [a,b,c]=(cp g [a',b',c']).map fun v=>(v,m):=by
 simp[aF,fU,kB,ha m,hb m,hc m]
theorem qbt{a a' b b' c c' e e':AV}(ha:Fz a a')(hb:Fz b b')(hc:Fz c c')(he:Fz e e'):aF cp d m g [a,b,c,e]=(cp g [a',b',c',e']).map fun v=>(v,m):=by
 simp[aF,fU,kB,ha m,hb m,hc m,he m]
end
theorem iW{C:Cfg}{f:Nat}{args:List AV}{v v':AV}{m:ai}{l:List Nat}(h:AC C f args []=some (v,m))(hf:cq m kX v=some (v',l))(hv:(nr args||jo v')=true):AP C f args=some v':=by
 unfold AP jY;rw[h];simp only[ae,hf,aq hv]
theorem qC(x:NV):jo x.av=true:=rfl
def o9(m:ai)(n:Nat):ai:=m++[some (.tok n 1)]
theorem qaG{e b:Nat}{z:AV}{m:ai}{c:Int}(h:0<c)(h':c*b<=281474976710656)(h2:c<=9223372036854775807):jy none e none z b m (.int .i64 0) (.int .i64 c)=some (.lst none false (.tok m.length e) [],o9 m 0):=by
 have h3:¬ (0:Int)=c:=aa;have h4:0<=c:=aa;simp[jy,h3,h4,h',h2,az,o9,Sh.size]
theorem EJ{e b:Nat}{m:ai}{es:List AV}{z:Bool}{o:Own}{y:AV}(h:(es.length+1)*b<=ft):bL none false e none b (o9 m es.length) (.lst none false (.tok m.length e) es) (.lst none z o [y])=some (.lst none false (.tok m.length e) (es++[y]),o9 m (es.length+1)):=by
 simp[bL,o9,ai.get,Sh.size,h]
theorem qM(k:IntKind)(n:Int):df none [.int k n]=some (.lst none false .full [.int k n]):=rfl
theorem mX(k k':IntKind)(n:Int):bE k (.int k' n)=some (.int k (k.wrap n)):=rfl
theorem Xb(tk:TK)(k k':IntKind)(a b:Int)(h:0<=b):ag tk .shr (.int k a) (.int k' b)=some (.int k (a.fdiv (2^(min b.toNat k.bits)))):=by
 have:¬ b<0:=aa;cases tk<;>simp[ag,ug,this]
theorem EK(tk:TK)(k':IntKind)(a:Int)(h:0<=a):ag tk .shr (.int .u64 a) (.int k' 32)=some (.int .u64 (a/4294967296)):=by
 rw[Xb tk .u64 k' a 32 aa];show some (AV.int .u64 (a.fdiv 4294967296))=_;rw[Int.fdiv_eq_ediv_of_nonneg _ aa]
def oC(m:ai)(ds:List Nat):ai:=m++[some (.obj false (ds.map dg))]
theorem qaF{e b:Nat}{m:ai}{n:Nat}(h':n*b<=281474976710656)(h2:n<=9223372036854775807):jy none e none (.int .u32 0) b m (.int .i64 n) (.int .i64 n)=some (.arr m.length 0 n none,oC m (List.replicate n 0)):=by
 have h3:(n:Int)*b<=281474976710656:=by
  have:=Int.ofNat_le.2 h';rw[ta] at this;exact this
 have h4:(n:Int)<=9223372036854775807:=aa;have h5:(0:Int)<=n:=aa;simp only[jy,h3,h4,h5,az,oC,sZ,qG,and_self,bJ,cU,List.map_replicate]
 rfl
theorem Rf(m:ai)(ds:List Nat):(oC m ds).obj? m.length=some (false,ds.map dg):=by
 simp[oC,ai.obj?,ai.get]
theorem gF{nm n:Nat}{k:IntKind}{i:Nat}(h:i<n):aI none (.arr nm 0 n none) (.int k i)=some (.ptr nm i):=by
 have:(i:Int)<n:=aa;simp[aI,this,Sh.size]
theorem qrI{m:ai}{ds:List Nat}{i:Nat}(h:i<ds.length):aj none (oC m ds) (.ptr m.length i)=some (dg (ds.getD i 0)):=by
 simp[aj,Rf,kH,aT,h]
theorem Dm{m:ai}{ds:List Nat}{i v:Nat}(h:i<ds.length):aP none (oC m ds) (.ptr m.length i) (.int .u32 v)=some (oC m (ds.set i v)):=by
 have h1:i+1<=ds.length:=h;simp only[aP,Rf,ae,Sh.size,bu,h1,bJ,dJ,fG,AV.cells];congr 1;simp only[oC,b9,ba,bo];rw[tg _ _ (aR _)];simp only[qn,cW];congr 4;rw[List.map_set,Ee];simp[h,dg,qm,List.map_drop]
theorem QT(m:ai)(k:Nat):∀ds:List Nat,fU (cq m (k+1)) (ds.map dg)=some (ds.map dg,[])
 | []=>rfl
 | d::ds=>by
  have:cq m (k+1) (dg d)=some (dg d,[]):=rfl;simp[fU,this,QT m k ds]
theorem Rs:∀ds:List Nat,oE (ds.map dg)=true
 | []=>rfl
 | d::ds=>by
  have:pl (dg d)=true:=rfl;simp[oE,this,Rs ds]
theorem qpt(m:ai)(ds:List Nat):cq (oC m ds) kX (.arr m.length 0 ds.length none)=some (.lst none false .no (ds.map dg),[m.length]):=by
 have h1:((ds.map dg).all fG)=true:=by simp[List.all_map,dg,fG]
 show ((oC m ds).obj? m.length).bind _=_;rw[Rf];simp only[ae,Sh.size,bu,bq,mV,aR,decide_true,my,ru,bJ,gC,iX (by simp:(ds.map dg).length<=ds.length)];rw[QT];simp only[ae,h1,Rs,ru,bJ,oQ];rw[iX aA]
theorem qsN{cp:Nat->List AV->Option AV}{m:ai}{g:Nat}{ds:List Nat}:aF cp none (oC m ds) g [.arr m.length 0 ds.length none]=(cp g [.lst none false .no (ds.map dg)]).map fun v=>(v,m++[none]):=by
 simp only[aF,fU,qpt,ae,kB,Option.isSome_none,iv,cu,vP,List.foldl_nil];simp[oC]
theorem Xa(tk:TK)(k':IntKind)(a:Nat)(h:a<4294967296):ag tk .shl (.int .u64 a) (.int k' 32)=some (.int .u64 (a*4294967296:Nat)):=by
 have e:ag tk .shl (.int .u64 a) (.int k' 32)=some (.int .u64 (IntKind.wrap .u64 ((a:Int)*4294967296))):=by cases tk<;>rfl
 rw[e,jO aa aa]
 rfl
theorem qom(tk:TK)(lo hi:Nat)(h:lo<4294967296)(h':hi<4294967296):ag tk .or (.int .u64 lo) (.int .u64 (hi*4294967296:Nat))=some (.int .u64 (lo+hi*4294967296:Nat)):=by
 have e:ag tk .or (.int .u64 lo) (.int .u64 (hi*4294967296:Nat))=some (.int .u64 (IntKind.wrap .u64 ((BitVec.ofInt 64 lo ||| BitVec.ofInt 64 (hi*4294967296:Nat)).toNat:Nat))):=by cases tk<;>rfl
 have e2:(BitVec.ofInt 64 (lo:Int) ||| BitVec.ofInt 64 ((hi*4294967296:Nat):Int)).toNat=lo+hi*4294967296:=by
  rw[BitVec.toNat_or,zm,zm];have h1:(((lo:Nat):Int)%((2^64:Nat):Int)).toNat=lo:=aa;have h2:(((hi*4294967296:Nat):Int)%((2^64:Nat):Int)).toNat=hi*4294967296:=aa;rw[h1,h2,Nat.or_comm];have:=Nat.two_pow_add_eq_or_of_lt (i:=32) (b:=lo) aa hi;rw[show hi*4294967296=2^32*hi by omega,<- this];omega
 rw[e,e2,jO aa aa]
end Go.Ab
namespace Go.Ab
def mR(ds:List Nat):Nat->Nat
 | 0=>0
 | n+1=>if ds.getD n 0=0 then mR ds n else n+1
theorem Gz(ds:List Nat):∀n,mR ds n<=n
 | 0=>aR _
 | n+1=>by
  rw[mR]
  split
  .exact Nat.le_succ_of_le (Gz ds n)
  .exact aR _
def tr(ds:List Nat):List Nat:=ds.take (mR ds ds.length)
theorem Dt(a:List Nat):(tr a).length<=a.length:=by simp only[tr,im];omega
def Dg(a:List Nat):Prop:=∀i,a.getD i 0<4294967296
theorem Dg.take{a:List Nat}(h:Dg a)(n:Nat):Dg (a.take n):=by
 intro i;have:=h i;simp only[aT,rB] at this ⊢
 split
 .exact this
 .simp
theorem Dg.set{a:List Nat}(h:Dg a)(n v:Nat)(hv:v<4294967296):Dg (a.set n v):=by
 intro i;have:=h i;simp only[aT,List.getElem?_set] at this ⊢
 split
 .split
  .exact hv
  .simp
 .exact this
theorem uk{a:List Nat}(h:Dg a):Dg (tr a):=h.take _
theorem Aq{l:List Nat}{i:Nat}(h:¬ (i:Int)<(l.length:Int)):l.getD i 0=0:=by
 rw[aT,pk aa];rfl
theorem Ah:Dg []:=by intro i;simp
theorem nN{d:Nat}{ds:List Nat}:Dg (d::ds)↔d<4294967296/\Dg ds:=by
 constructor
 .intro h;exact ⟨h 0,fun i=>h (i+1)⟩
 .intro h i
  cases i with
  | zero=>exact h.1
  | succ i=>exact h.2 i
theorem Ag{a b:List Nat}(ha:Dg a)(hb:Dg b):Dg (a++b):=by
 induction a with
 | nil=>exact hb
 | cons d a ih=>exact nN.2 ⟨(nN.1 ha).1,ih (nN.1 ha).2⟩
theorem wz{d:Nat}(h:d<4294967296):Dg [d]:=nN.2 ⟨h,Ah⟩
theorem Ai(n:Nat):Dg (List.replicate n 0):=by
 induction n with
 | zero=>exact Ah
 | succ n ih=>exact nN.2 ⟨by decide,ih⟩
theorem wE{l:List Nat}{i j v:Nat}(h:i≠j):(l.set i v).getD j 0=l.getD j 0:=by
 simp only[aT];rw[ql h]
theorem sF{l:List Nat}{i v:Nat}(h:i<l.length):(l.set i v).getD i 0=v:=by
 simp only[aT];rw[qH h];rfl
theorem JS(n i:Nat):(List.replicate n 0).getD i 0=0:=by
 simp only[aT,BZ];split<;>rfl
theorem Dc(p b c:Nat):p*c=p*(c%b)+p*b*(c/b):=by
 rw[fQ,<- gL,Nat.mod_add_div]
theorem qbG(p b x s:Nat)(h:s<=x+b):p*(x+b-s)+p*s=p*x+p*b:=by
 rw[<- gL,Nat.sub_add_cancel h,gL]
theorem K2(p x s:Nat)(h:s<=x):p*(x-s)+p*s=p*x:=by
 rw[<- gL,Nat.sub_add_cancel h]
def val:List Nat->Nat
 | []=>0
 | d::ds=>d+4294967296*val ds
def aG(n:Nat):List Nat:=if h:n=0 then [] else n%4294967296::aG (n/4294967296)
 termination_by n
 decreasing_by exact Nat.div_lt_self aa aa
theorem mC:aG 0=[]:=by rw[aG];rfl
theorem Aj{n:Nat}(h:n≠0):aG n=n%4294967296::aG (n/4294967296):=by rw[aG,dif_neg h]
theorem gQ(n:Nat):val (aG n)=n:=by
 induction n using Nat.strongRecOn with
 | ind n ih=>
  by_cases h:n=0
  .subst h;rw[mC];rfl
  .rw[Aj h,val,ih _ (Nat.div_lt_self aa aa)];omega
theorem gM(n:Nat):Dg (aG n):=by
 induction n using Nat.strongRecOn with
 | ind n ih=>
  by_cases h:n=0
  .subst h;rw[mC];exact Ah
  .rw[Aj h];exact nN.2 ⟨kV _ aa,ih _ (Nat.div_lt_self aa aa)⟩
theorem oN{k:Nat}:∀{n:Nat},n<4294967296^k->(aG n).length<=k:=by
 induction k with
 | zero=>
   intro n h;have:n=0:=by simpa using h
   subst this;rw[mC];exact aR _
 | succ k ih=>
  intro n h
  by_cases h0:n=0
  .subst h0;rw[mC];exact oJ _
  .rw[Aj h0,ba];refine Nat.succ_le_succ (ih ?_);rw[kh] at h;exact Nat.div_lt_of_lt_mul (by rw[dF];exact h)
theorem nX{ds:List Nat}(h:Dg ds):val ds<4294967296^ds.length:=by
 induction ds with
 | nil=>exact Nat.one_pos
 | cons d ds ih=>
  have ih:=ih (nN.1 h).2;have hd:=(nN.1 h).1;rw[val,ba,kh];omega
theorem XL{ds:List Nat}(h:Dg ds):(aG (val ds)).length<=ds.length:=oN (nX h)
theorem GK{n:Nat}:aG n=[]↔n=0:=by
 constructor
 .intro h;have:=gQ n;rw[h] at this;exact this.symm
 .intro h;subst h;exact mC
theorem qo1{a b:Nat}(h:aG a=aG b):a=b:=by
 have:=dc val h
 rwa [gQ,gQ] at this
theorem qcM(d:Nat)(ds:List Nat):∀n,mR (d::ds) (n+1)=if mR ds n=0 then (if d=0 then 0 else 1) else mR ds n+1
 | 0=>by
  simp only[mR,qk,bJ]
 | n+1=>by
  rw[mR,qcM d ds n];simp only[zH];rw[mR]
  by_cases h:ds.getD n 0=0
  .rw[aq h,aq h]
  .rw[an h,an h,an aa]
theorem quq(d:Nat)(ds:List Nat):tr (d::ds)=if tr ds=[] then (if d=0 then [] else [d]) else d::tr ds:=by
 have h0:tr ds=[]↔mR ds ds.length=0:=by
  have:=Gz ds ds.length;rw[tr,<- List.length_eq_zero_iff,im];omega
 rw[tr,ba,qcM]
 by_cases h:mR ds ds.length=0
 .rw[aq h,aq (h0.2 h)];split<;>rfl
 .rw[an h,an (fun e=>h (h0.1 e))]
  rfl
theorem mo{ds:List Nat}(h:Dg ds):tr ds=aG (val ds):=by
 induction ds with
 | nil=>rw[val,mC];rfl
 | cons d ds ih=>
  have hd:=(nN.1 h).1;rw[quq,ih (nN.1 h).2,val]
  by_cases h0:val ds=0
  .rw[aq (GK.2 h0),h0]
   split
   .subst d;exact mC.symm
   .rw[Aj aa,show (d+4294967296*0)%4294967296=d by omega,show (d+4294967296*0)/4294967296=0 by omega,mC]
  .rw[an (fun e=>h0 (GK.1 e)),Aj (n:=d+4294967296*val ds) aa,show (d+4294967296*val ds)%4294967296=d by omega,show (d+4294967296*val ds)/4294967296=val ds by omega]
theorem zd{ds:List Nat}(h:Dg ds):val (tr ds)=val ds:=by rw[mo h,gQ]
theorem zc(a b:List Nat):val (a++b)=val a+4294967296^a.length*val b:=by
 induction a with
 | nil=>simp[val]
 | cons d a ih=>
  rw[b6,val,val,ih,ba,kh,gL,oH,dF (4294967296^a.length) 4294967296,fQ]
theorem GL:∀(l:List Nat) (i v:Nat),i<l.length->val (l.set i v)+4294967296^i*l.getD i 0=val l+4294967296^i*v
 | [],i,v,h=>by simp at h
 | d::l,0,v,h=>by simp[val];omega
 | d::l,i+1,v,h=>by
  have ih:=GL l i v (by simpa using h);simp only[dO,val,zH,kh];rw[dF (4294967296^i) 4294967296,fQ,fQ];omega
def vs(a:List Nat)(i:Nat):Nat:=val (a.take i)
theorem sW(a:List Nat):vs a 0=0:=rfl
theorem jI{a:List Nat}{i:Nat}(h:a.length<=i):vs a i=val a:=by rw[vs,iX h]
theorem kf(a:List Nat)(i:Nat):vs a (i+1)=vs a i+4294967296^i*a.getD i 0:=by
 by_cases h:i<a.length
 .rw[vs,mU h,zc,im,Eg aa,aT,bP h,vs];simp[val]
 .rw[jI aa,jI aa,aT,pk aa];simp
theorem zf{a:List Nat}(h:Dg a)(i:Nat):vs a i<4294967296^i:=by
 have h1:=nX (h.take i);refine so h1 (qI aa ?_);rw[im];omega
theorem LM(n:Nat):val (List.replicate n 0)=0:=by
 induction n with
 | zero=>rfl
 | succ n ih=>rw[zL,val,ih]
def nL(a b:List Nat):Nat->Int
 | 0=>0
 | n+1=>if a.getD n 0<b.getD n 0 then -1 else if a.getD n 0>b.getD n 0 then 1 else nL a b n
def wo(a b:List Nat):Int:=if a.length<b.length then -1 else if a.length>b.length then 1 else nL a b a.length
def gZ(a b:Nat):Int:=if a<b then -1 else if a>b then 1 else 0
theorem Xy{a b:List Nat}(ha:Dg a)(hb:Dg b):∀n,nL a b n=gZ (vs a n) (vs b n)
 | 0=>by simp[nL,sW,gZ]
 | n+1=>by
  have ih:=Xy ha hb n;have h1:=zf ha n;have h2:=zf hb n;rw[nL,kf,kf,ih];generalize 4294967296^n=p at *;generalize a.getD n 0=x;generalize b.getD n 0=y;unfold gZ
  by_cases h:x<y
  .have:p*(x+1)<=p*y:=lG _ h;rw[gL] at this;rw[aq h,aq aa]
  .by_cases h':x>y
   .have:p*(y+1)<=p*x:=lG _ h';rw[gL] at this;rw[an h,aq h',an aa,aq aa]
   .have:x=y:=aa;subst this;rw[an h,an h'];simp only[Nat.add_lt_add_iff_right,gt_iff_lt]
theorem JG{n k:Nat}(h:k<(aG n).length):4294967296^k<=n:=by
 apply s8;intro hn;have:=oN (Nat.lt_of_not_le hn);omega
theorem Xx(a b:Nat):wo (aG a) (aG b)=gZ a b:=by
 have ha:=nX (gM a);have hb:=nX (gM b);rw[gQ] at ha hb;unfold wo
 by_cases h:(aG a).length<(aG b).length
 .have:=JG h;rw[aq h,gZ,aq aa]
 .rw[an h]
  by_cases h':(aG a).length>(aG b).length
  .have:=JG h';rw[aq h',gZ,an aa,aq aa]
  .rw[an h',Xy (gM a) (gM b),jI (aR _),jI aa,gQ,gQ]
theorem qoO{a b:List Nat}(ha:Dg a)(hb:Dg b):wo (tr a) (tr b)=gZ (val a) (val b):=by rw[mo ha,mo hb,Xx]
def de(a b:List Nat):Nat->List Nat×Nat
 | 0=>([],0)
 | i+1=>((de a b i).1++[((de a b i).2+a.getD i 0+b.getD i 0)%4294967296],((de a b i).2+a.getD i 0+b.getD i 0)/4294967296)
theorem xW(a b:List Nat):∀i,(de a b i).1.length=i
 | 0=>rfl
 | i+1=>by simp[de,xW a b i]
theorem zY{a b:List Nat}(ha:Dg a)(hb:Dg b):∀i,(de a b i).2<=1
 | 0=>by simp[de]
 | i+1=>by
  have:=zY ha hb i;have h1:=ha i;have h2:=hb i;simp only[de];omega
theorem ON(a b:List Nat):∀i,Dg (de a b i).1
 | 0=>Ah
 | i+1=>Ag (ON a b i) (wz (kV _ aa))
theorem OO(a b:List Nat):∀i,val (de a b i).1+4294967296^i*(de a b i).2=vs a i+vs b i
 | 0=>by simp[de,val,sW]
 | i+1=>by
  have ih:=OO a b i;simp only[de,zc,xW,val,kf,kh];have h1:=Dc (4294967296^i) 4294967296 ((de a b i).2+a.getD i 0+b.getD i 0);generalize hs:(de a b i).2+a.getD i 0+b.getD i 0=s at *;rw[<- hs,gL,gL,hs] at h1;rw[oI,kU];omega
def EG(a b:List Nat):List Nat:=tr ((de a b a.length).1++[(de a b a.length).2])
def Cc(a b:List Nat):List Nat:=if a.length<b.length then EG b a else EG a b
theorem WK{a b:List Nat}(ha:Dg a)(hb:Dg b)(h:b.length<=a.length):EG a b=aG (val a+val b):=by
 have hc:=zY ha hb a.length;rw[EG,mo (Ag (ON _ _ _) (wz aa)),zc,xW];have:=OO a b a.length;rw[jI (aR _),jI h] at this;simp only[val,oI,kU,this]
theorem qlK{a b:List Nat}(ha:Dg a)(hb:Dg b):Cc a b=aG (val a+val b):=by
 unfold Cc
 split
 .rw[WK hb ha aa,th]
 .rw[WK ha hb aa]
theorem qlL{a b:List Nat}(ha:Dg a)(hb:Dg b):Cc (tr a) (tr b)=aG (val a+val b):=by
 rw[qlK (uk ha) (uk hb),zd ha,zd hb]
def ir(b:List Nat)(x i:Nat):Nat->List Nat×Nat->List Nat×Nat
 | 0,s=>s
 | k+1,s=>let t:=ir b x i k s
  (t.1.set (i+k) ((t.2+(t.1.getD (i+k) 0+x*b.getD k 0))%4294967296),(t.2+(t.1.getD (i+k) 0+x*b.getD k 0))/4294967296)
theorem yT(b:List Nat)(x i:Nat)(s:List Nat×Nat):∀k,(ir b x i k s).1.length=s.1.length
 | 0=>rfl
 | k+1=>by simp[ir,yT b x i s k]
theorem C2{b:List Nat}{x i:Nat}{s:List Nat×Nat}(hb:Dg b)(hx:x<4294967296)(hs:Dg s.1)(hc:s.2<4294967296):∀k,Dg (ir b x i k s).1/\(ir b x i k s).2<4294967296
 | 0=>⟨hs,hc⟩
 | k+1=>by
  obtain ⟨h1,h2⟩:=C2 hb hx hs hc k;have h3:=h1 (i+k);have h4:=hb k;have h5:x*b.getD k 0<=4294967295*4294967295:=ti aa aa;refine ⟨h1.set _ _ (kV _ aa),?_⟩;simp only[ir];omega
theorem qaU(b:List Nat)(x i:Nat)(s:List Nat×Nat):∀k,i+k<=s.1.length->val (ir b x i k s).1+4294967296^(i+k)*(ir b x i k s).2=val s.1+4294967296^i*(s.2+x*vs b k)
 | 0,_=>by simp[ir,sW]
 | k+1,h=>by
  have ih:=qaU b x i s k aa;have hl:=yT b x i s k;simp only[ir,kf];generalize ir b x i k s=t at *;have h1:=GL t.1 (i+k) ((t.2+(t.1.getD (i+k) 0+x*b.getD k 0))%4294967296) aa;have h2:=Dc (4294967296^(i+k)) 4294967296 (t.2+(t.1.getD (i+k) 0+x*b.getD k 0))
  have h3:4294967296^i*(s.2+x*(vs b k+4294967296^k*b.getD k 0))=4294967296^i*(s.2+x*vs b k)+4294967296^(i+k)*(x*b.getD k 0):=by
   rw[sr];simp only[gL,oH];congr 2;simp only[<- fQ];congr 1;rw[Nat.mul_right_comm]
  rw[h3];generalize hw:t.2+(t.1.getD (i+k) 0+x*b.getD k 0)=w at *;rw[<- hw,gL,gL,hw] at h2;rw[<- oH,kh];omega
def jf(a b:List Nat):Nat->List Nat
 | 0=>List.replicate (a.length+b.length) 0
 | i+1=>(ir b (a.getD i 0) i b.length (jf a b i,0)).1.set (i+b.length) (ir b (a.getD i 0) i b.length (jf a b i,0)).2
def Gc(a b:List Nat):List Nat:=tr (jf a b a.length)
theorem yS(a b:List Nat):∀i,(jf a b i).length=a.length+b.length
 | 0=>by simp[jf]
 | i+1=>by simp[jf,yT,yS a b i]
theorem A6{a b:List Nat}(ha:Dg a)(hb:Dg b):∀i,Dg (jf a b i)
 | 0=>Ai _
 | i+1=>by
  have ih:=A6 ha hb i;obtain ⟨h1,h2⟩:=C2 (i:=i) (s:=(jf a b i,0)) hb (ha i) ih aA b.length;exact h1.set _ _ h2
theorem Q1(b:List Nat)(x i:Nat)(s:List Nat×Nat)(j:Nat):∀k,i+k<=j->(ir b x i k s).1.getD j 0=s.1.getD j 0
 | 0,_=>rfl
 | k+1,h=>by
  have ih:=Q1 b x i s j k aa;rw[<- ih];simp only[ir,aT];rw[ql aa]
theorem qaT(a b:List Nat)(j:Nat):∀i,i+b.length<=j->(jf a b i).getD j 0=0
 | 0,h=>by
  simp only[jf,aT,BZ];split<;>rfl
 | i+1,h=>by
  have ih:=qaT a b j i aa;rw[jf,wE aa,Q1 b (a.getD i 0) i (jf a b i,0) j b.length aa];exact ih
theorem Q0(a b:List Nat):∀i,i<=a.length->val (jf a b i)=vs a i*val b
 | 0,_=>by simp[jf,LM,sW]
 | i+1,h=>by
  have ih:=Q0 a b i aa;have hl:=yS a b i;have h1:=qaU b (a.getD i 0) i (jf a b i,0) b.length (by simp only[hl];omega)
  have h0:(ir b (a.getD i 0) i b.length (jf a b i,0)).1.getD (i+b.length) 0=0:=by
   rw[Q1 _ _ _ _ _ _ (aR _)];exact qaT a b _ i (aR _)
  have h2:=GL (ir b (a.getD i 0) i b.length (jf a b i,0)).1 (i+b.length) (ir b (a.getD i 0) i b.length (jf a b i,0)).2 (by rw[yT];simp only[hl];omega);rw[h0,oI,kU] at h2;rw[jf,h2,h1,ih,jI (aR _),kf,iI,bq,fQ]
theorem qr1{a b:List Nat}(ha:Dg a)(hb:Dg b):Gc a b=aG (val a*val b):=by
 rw[Gc,mo (A6 ha hb _),Q0 _ _ _ (aR _),jI (aR _)]
theorem qr2{a b:List Nat}(ha:Dg a)(hb:Dg b):Gc (tr a) (tr b)=aG (val a*val b):=by
 rw[qr1 (uk ha) (uk hb),zd ha,zd hb]
def gY(a b:List Nat):Nat->List Nat×Nat
 | 0=>(List.replicate a.length 0,0)
 | i+1=>if a.getD i 0<(gY a b i).2+b.getD i 0 then ((gY a b i).1.set i (a.getD i 0+4294967296-((gY a b i).2+b.getD i 0)),1)
  else ((gY a b i).1.set i (a.getD i 0-((gY a b i).2+b.getD i 0)),0)
def Lw(a b:List Nat):List Nat:=tr (gY a b a.length).1
theorem Dq(a b:List Nat):∀i,(gY a b i).1.length=a.length
 | 0=>by simp[gY]
 | i+1=>by simp only[gY];split<;>simp[Dq a b i]
theorem Lx(a b:List Nat):∀i,(gY a b i).2<=1
 | 0=>by simp[gY]
 | i+1=>by simp only[gY];split<;>simp
theorem Dp{a b:List Nat}(ha:Dg a)(hb:Dg b):∀i,Dg (gY a b i).1
 | 0=>Ai _
 | i+1=>by
  have:=Lx a b i;have h1:=ha i;have h2:=hb i;simp only[gY]
  split
  .exact (Dp ha hb i).set _ _ aa
  .exact (Dp ha hb i).set _ _ aa
theorem qcz(a b:List Nat)(j:Nat):∀i,i<=j->(gY a b i).1.getD j 0=0
 | 0,_=>by
  simp only[gY,aT,BZ];split<;>rfl
 | i+1,h=>by
  have ih:=qcz a b j i aa;simp only[gY];split<;>simp only[]<;>rw[wE aa,ih]
theorem qcA{p x y b v1:Nat}{va vb r:Nat}(ih:r+vb=va+p*b) :
  (x<b+y->b+y<=x+v1->r+p*(x+v1-(b+y))+(vb+p*y)=va+p*x+p*v1*1)/\(¬ x<b+y->r+p*(x-(b+y))+(vb+p*y)=va+p*x+p*v1*0):=by
 constructor
 .intro h h';have e:=qbG p v1 x (b+y) h';rw[gL _ b] at e;rw[mV];omega
 .intro h;have e:=K2 p x (b+y) aa;rw[gL _ b] at e;rw[oI];omega
theorem qt3{a b:List Nat}(ha:Dg a)(hb:Dg b)(i:Nat):i<=a.length->val (gY a b i).1+vs b i=vs a i+4294967296^i*(gY a b i).2:=by
 induction i with
 | zero=>
  intro _;rw[gY,LM,sW,sW]
  rfl
 | succ i ih=>
  intro h;have ih:=ih aa;have hl:=Dq a b i;have h0:=qcz a b i i (aR _);have hc:=Lx a b i;have h1:=ha i;have h2:=hb i;rw[kf,kf,kh,gY];obtain ⟨s1,s2⟩:=qcA (x:=a.getD i 0) (y:=b.getD i 0) (v1:=4294967296) ih
  have hs:∀v,val ((gY a b i).1.set i v)=val (gY a b i).1+4294967296^i*v:=by
   intro v;have:=GL (gY a b i).1 i v aa
   rwa [h0,oI,kU] at this
  split
  .rename_i hlt;rw[hs];exact s1 hlt aa
  .rename_i hlt;rw[hs];exact s2 hlt
theorem qc0(a:List Nat)(i:Nat):∀k,vs a i<=vs a (i+k)
 | 0=>aR _
 | k+1=>by rw[<- oH,kf];exact fC (qc0 a i k) (Nat.le_add_right _ _)
theorem qcZ(a:List Nat)(i:Nat):vs a i<=val a:=by
 have:=qc0 a i a.length
 rwa [jI (by omega:a.length<=i+a.length)] at this
theorem qcY{a b:List Nat}(ha:Dg a)(h:val b<=val a):vs b a.length=val b:=by
 have h1:=nX ha;apply s8;intro hn;have hlt:vs b a.length<val b:=Nat.lt_of_le_of_ne (qcZ _ _) hn
 have:∀k,vs b a.length<vs b (a.length+k)->4294967296^a.length<=vs b (a.length+k):=by
  intro k
  induction k with
  | zero=>intro h;exact absurd h (xR _)
  | succ k ih=>
   intro hk;rw[<- oH,kf] at hk ⊢
   by_cases h0:vs b a.length<vs b (a.length+k)
   .exact fC (ih h0) (Nat.le_add_right _ _)
   .have:b.getD (a.length+k) 0≠0:=by
     intro e;rw[e] at hk;omega
    have h3:4294967296^a.length<=4294967296^(a.length+k):=qI aa aa;have h4:4294967296^(a.length+k)*1<=4294967296^(a.length+k)*b.getD (a.length+k) 0:=lG _ aa;omega
 have:=this b.length (by rwa [jI (by omega:b.length<=a.length+b.length)]);rw[jI (by omega:b.length<=a.length+b.length)] at this;omega
theorem qt1{a b:List Nat}(ha:Dg a)(hb:Dg b)(h:val b<=val a):Lw a b=aG (val a-val b):=by
 rw[Lw,mo (Dp ha hb _)];have h1:=qt3 ha hb a.length (aR _);rw[jI (aR _),qcY ha h] at h1;have h2:=nX (Dp ha hb a.length);rw[Dq] at h2;have h3:=nX ha;have hc:=Lx a b a.length;congr 1
 have:(gY a b a.length).2=0:=by
  apply s8;intro hn;have e:(gY a b a.length).2=1:=aa;rw[e,mV] at h1;omega
 rw[this,oI,kU] at h1;omega
theorem qt2{a b:List Nat}(ha:Dg a)(hb:Dg b)(h:val b<=val a):Lw (tr a) (tr b)=aG (val a-val b):=by
 rw[qt1 (uk ha) (uk hb) (by rwa [zd ha,zd hb]),zd ha,zd hb]
end Go.Ab
namespace Go.Ab
section
variable {tk:TK} {k k':IntKind} {a b:Nat}
theorem A7:ag tk .gtr (.int k a) (.int k b)=some (.bool (decide (a>b))):=by rw[gE];congr 2;exact jm.2 aa
theorem bS:ag tk .lss (.int k a) (.int k b)=some (.bool (decide (a<b))):=by rw[bz];congr 2;exact jm.2 aa
theorem KJ:ag tk .geq (.int k a) (.int k b)=some (.bool (decide (a≥b))):=by rw[ki];congr 2;exact jm.2 aa
theorem Gd:ag tk .eql (.int k a) (.int k b)=some (.bool (decide (a=b))):=by rw[iK];congr 2;exact jm.2 aa
theorem Q2:ag tk .neq (.int k a) (.int k b)=some (.bool (decide (a≠b))):=by rw[gm];congr 2;exact jm.2 aa
theorem xh:ag tk .gtr (.int k a) (.int k 0)=some (.bool (decide (a>0))):=A7 (b:=0)
theorem Ge:ag tk .geq (.int k a) (.int k 0)=some (.bool true):=by rw[ki];congr 2
theorem KL:ag tk .lss (.int k a) (.int k 0)=some (.bool false):=by rw[bz];congr 2
theorem mN:ag tk .eql (.int k a) (.int k 0)=some (.bool (decide (a=0))):=Gd (b:=0)
theorem qaX:ag tk .neq (.int k a) (.int k 0)=some (.bool (decide (a≠0))):=Q2 (b:=0)
theorem xg:ag tk .eql (.int k a) (.int k 1)=some (.bool (decide (a=1))):=Gd (b:=1)
theorem qaW:ag tk .eql (.int k a) (.int k 2)=some (.bool (decide (a=2))):=Gd (b:=2)
theorem qr4:ag tk .geq (.int k a) (.int k 4294967296)=some (.bool (decide (a≥4294967296))):=KJ (b:=4294967296)
theorem KM:ag tk .lss (.int k a) (.int k 4294967296)=some (.bool (decide (a<4294967296))):=bS (b:=4294967296)
theorem pg(h:a+b<18446744073709551616):ag tk .add (.int .u64 a) (.int .u64 b)=some (.int .u64 (a+b:Nat)):=by
 rw[l9,jO aa aa];rfl
theorem GC(h:a*b<18446744073709551616):ag tk .mul (.int .u64 a) (.int .u64 b)=some (.int .u64 (a*b:Nat)):=by
 rw[xZ,<- ta,jO aa aa]
theorem Bu(h:b<=a)(h':a<18446744073709551616):ag tk .sub (.int .u64 a) (.int .u64 b)=some (.int .u64 (a-b:Nat)):=by
 rw[pz,jO aa aa];congr 2;omega
theorem LG(h:1<=a)(h':a<18446744073709551616):ag tk .sub (.int .u64 a) (.int .u64 1)=some (.int .u64 (a-1:Nat)):=Bu (b:=1) h h'
theorem Bt(h:b≠0)(h':a<18446744073709551616):ag tk .quo (.int .u64 a) (.int .u64 b)=some (.int .u64 (a/b:Nat)):=by
 have e:ag tk .quo (.int .u64 a) (.int .u64 b)=if (b:Int)=0 then none else some (.int .u64 (IntKind.wrap .u64 ((a:Int).tdiv b))):=by cases tk<;>rfl
 rw[e,an aa];have e2:(a:Int).tdiv b=((a/b:Nat):Int):=rfl;have:=B3 a b;rw[e2];generalize a/b=q at *;rw[jO aa aa]
theorem Du(h:b≠0)(h':a<18446744073709551616):ag tk .rem (.int .u64 a) (.int .u64 b)=some (.int .u64 (a%b:Nat)):=by
 have e:ag tk .rem (.int .u64 a) (.int .u64 b)=if (b:Int)=0 then none else some (.int .u64 ((a:Int).tmod b)):=by cases tk<;>rfl
 rw[e,an aa]
 rfl
theorem quE(h':a<18446744073709551616):ag tk .and (.int .u64 a) (.int .u64 4294967295)=some (.int .u64 (a%4294967296:Nat)):=by
 have e:ag tk .and (.int .u64 a) (.int .u64 4294967295)=some (.int .u64 (IntKind.wrap .u64 ((BitVec.ofInt 64 a &&& BitVec.ofInt 64 4294967295).toNat:Nat))):=by cases tk<;>rfl
 have e2:(BitVec.ofInt 64 (a:Int) &&& BitVec.ofInt 64 4294967295).toNat=a%4294967296:=by
  rw[BitVec.toNat_and,zm,zm];have h1:(((a:Nat):Int)%((2^64:Nat):Int)).toNat=a:=aa;have h2:((4294967295:Int)%((2^64:Nat):Int)).toNat=2^32-1:=aa;rw[h1,h2,Nat.and_two_pow_sub_one_eq_mod]
 rw[e,e2,jO aa aa]
theorem GF(h:a<4294967296):ag tk .shl (.int .u64 a) (.int k' 32)=some (.int .u64 (a*4294967296:Nat)):=Xa tk k' a h
theorem LF:ag tk .shr (.int .u64 a) (.int k' 32)=some (.int .u64 (a/4294967296:Nat)):=by
 rw[EK tk k' a aa];rfl
theorem GD(h:a<4294967296)(h':b<4294967296):ag tk .or (.int .u64 (a*4294967296:Nat)) (.int .u64 b)=some (.int .u64 (a*4294967296+b:Nat)):=by
 have e:ag tk .or (.int .u64 (a*4294967296:Nat)) (.int .u64 b)=some (.int .u64 (IntKind.wrap .u64 ((BitVec.ofInt 64 (a*4294967296:Nat) ||| BitVec.ofInt 64 b).toNat:Nat))):=by cases tk<;>rfl
 have e2:(BitVec.ofInt 64 ((a*4294967296:Nat):Int) ||| BitVec.ofInt 64 (b:Int)).toNat=a*4294967296+b:=by
  rw[BitVec.toNat_or,zm,zm];have h1:(((b:Nat):Int)%((2^64:Nat):Int)).toNat=b:=aa;have h2:(((a*4294967296:Nat):Int)%((2^64:Nat):Int)).toNat=a*4294967296:=aa;rw[h1,h2];have:=Nat.two_pow_add_eq_or_of_lt (i:=32) (b:=b) aa a;rw[show a*4294967296=2^32*a by omega,<- this]
 rw[e,e2,jO aa aa]
theorem lU(h:a+b<9223372036854775808):ag tk .add (.int .i64 a) (.int .i64 b)=some (.int .i64 (a+b:Nat)):=by
 rw[l9,iV aa aa];rfl
theorem bU(h:a+1<9223372036854775808):ag tk .add (.int .i64 a) (.int .i64 1)=some (.int .i64 (a+1:Nat)):=lU (b:=1) h
theorem om(h:b<=a)(h':a<9223372036854775808):ag tk .sub (.int .i64 a) (.int .i64 b)=some (.int .i64 (a-b:Nat)):=by
 rw[pz,iV aa aa];congr 2;omega
theorem oT(h:1<=a)(h':a<9223372036854775808):ag tk .sub (.int .i64 a) (.int .i64 1)=some (.int .i64 (a-1:Nat)):=om (b:=1) h h'
theorem ZN(h:2<=a)(h':a<9223372036854775808):ag tk .sub (.int .i64 a) (.int .i64 2)=some (.int .i64 (a-2:Nat)):=om (b:=2) h h'
theorem vg(h':a<9223372036854775808):ag tk .sub (.int .i64 a) (.int .i64 1)=some (.int .i64 ((a:Int)-1)):=by
 rw[pz,iV aa aa]
theorem Cg(h:a<18446744073709551616):bE .u64 (.int k a)=some (.int .u64 a):=by rw[mX,jO aa aa]
theorem nK:bE .u32 (.int k a)=some (.int .u32 (a%4294967296:Nat)):=by rw[mX,zi];rfl
theorem nH(d:Nat)(h:d<4294967296):bE .u64 (dg d)=some (.int .u64 d):=Cg aa
theorem qcQ{s:Nat}(hs:s<32)(h:a<4294967296):ag tk .shl (.int .u32 a) (.int .u64 s)=some (.int .u32 (a*2^s%4294967296:Nat)):=by
 have e:ag tk .shl (.int .u32 a) (.int .u64 s)=ug true .u32 a s:=by cases tk<;>rfl
 have e3:IntKind.bits .u32=32:=rfl;rw[e,ug,an aa,aq rfl,e3,cU,Eg aa,zi];congr 2
theorem Sf{s:Nat}(hs:s<32):ag tk .shr (.int .u32 a) (.int .u64 s)=some (.int .u32 (a/2^s:Nat)):=by
 have e:ag tk .shr (.int .u32 a) (.int .u64 s)=ug false .u32 a s:=by cases tk<;>rfl
 have e3:IntKind.bits .u32=32:=rfl;rw[e,ug,an aa,an (by decide),e3,cU,Eg aa,Int.fdiv_eq_ediv_of_nonneg _ (by exact Int.le_of_lt (Int.pow_pos aa))];congr 2
theorem quD{s:Nat}(hs:s<32)(h:a<4294967296):ag tk .shl (.int .u64 a) (.int .u64 s)=some (.int .u64 (a*2^s:Nat)):=by
 have e:ag tk .shl (.int .u64 a) (.int .u64 s)=ug true .u64 a s:=by cases tk<;>rfl
 have e3:IntKind.bits .u64=64:=rfl;have h1:2^s<=2^31:=qI aa aa;have h2:a*2^s<=a*2^31:=lG _ h1;have h3:(a:Int)*2^s=((a*2^s:Nat):Int):=by rw[ta,Int.natCast_pow];rfl
 rw[e,ug,an aa,aq rfl,e3,cU,Eg aa,h3,jO aa aa]
theorem qsx{x y s:Nat}(h:x<2^s)(hy:y%2^s=0):x ||| y=x+y:=by
 have e:y=2^s*(y/2^s):=by have:=xP y (2^s);omega
 rw[e,Nat.or_comm,<- Nat.two_pow_add_eq_or_of_lt h,th]
theorem qcP{s:Nat}(h:a<2^s)(hb:b%2^s=0)(hs:a+b<4294967296):ag tk .or (.int .u32 a) (.int .u32 b)=some (.int .u32 (a+b:Nat)):=by
 have e:ag tk .or (.int .u32 a) (.int .u32 b)=some (.int .u32 (IntKind.wrap .u32 ((BitVec.ofInt 32 a ||| BitVec.ofInt 32 b).toNat:Nat))):=by cases tk<;>rfl
 have e2:(BitVec.ofInt 32 (a:Int) ||| BitVec.ofInt 32 (b:Int)).toNat=a+b:=by
  rw[BitVec.toNat_or,zm,zm];have h1:(((a:Nat):Int)%((2^32:Nat):Int)).toNat=a:=aa;have h2:(((b:Nat):Int)%((2^32:Nat):Int)).toNat=b:=aa;rw[h1,h2,qsx h hb]
 rw[e,e2,By aa aa]
theorem quA:ag tk .add (.int .u32 a) (.int .u32 b)=some (.int .u32 ((a+b)%4294967296:Nat)):=by
 rw[l9,zi];rfl
end
theorem nk{x:NV}{k:IntKind}{i:Nat}(h:i<x.ds.length):aI none x.av (.int k i)=some (.vptr [dg (x.ds.getD i 0)]):=by
 rw[NV.av,vh aa aa];simp
theorem Ks{x:NV}{k:IntKind}(h:0<x.ds.length):aI none x.av (.int k 0)=some (.vptr [dg (x.ds.getD 0 0)]):=nk (i:=0) h
theorem iz(x:NV):aM false x.av=some (.int .i64 x.ds.length):=by simp[NV.av,aM]
theorem lr{m:ai}{x:AV}:aj none m (.vptr [x])=some x:=rfl
def oc(ds:List Nat):Option Ent:=some (.obj false (ds.map dg))
theorem Rg{m:ai}{n:Nat}{ds:List Nat}(h:m[n]?=some (oc ds)):m.obj? n=some (false,ds.map dg):=by
 simp[ai.obj?,ai.get,h,oc]
theorem ub{m:ai}{n:Nat}{ds:List Nat}{i:Nat}(h:m[n]?=some (oc ds))(hi:i<ds.length):aj none m (.ptr n i)=some (dg (ds.getD i 0)):=by
 simp[aj,Rg h,kH,aT,hi]
theorem qd{m:ai}{n:Nat}{ds:List Nat}{i v:Nat}(h:m[n]?=some (oc ds))(hi:i<ds.length):aP none m (.ptr n i) (.int .u32 v)=some (m.set n (oc (ds.set i v))):=by
 have h1:i+1<=ds.length:=hi;simp only[aP,Rg h,ae,Sh.size,bu,h1,bJ,dJ,fG,AV.cells,oc];congr 4;simp only[b9,ba,bo];rw[List.map_set,Ee];simp[hi,dg,qm,List.map_drop]
theorem yR{e b:Nat}{m:ai}{n:Nat}(h':n*b<=281474976710656)(h2:n<=9223372036854775807):jy none e none (.int .u32 0) b m (.int .i64 n) (.int .i64 n)=some (.arr m.length 0 n none,m++[oc (List.replicate n 0)]):=qaF h' h2
theorem qrD(nm n:Nat):aM false (.arr nm 0 n none)=some (.int .i64 n):=rfl
theorem qpu{m:ai}{nm:Nat}{ds:List Nat}(h:m[nm]?=some (oc ds)):cq m kX (.arr nm 0 ds.length none)=some (.lst none false .no (ds.map dg),[nm]):=by
 have h1:((ds.map dg).all fG)=true:=by simp[List.all_map,dg,fG]
 show (m.obj? nm).bind _=_;rw[Rg h];simp only[ae,Sh.size,bu,bq,mV,aR,decide_true,my,ru,bJ,gC,iX (by simp:(ds.map dg).length<=ds.length)];rw[QT];simp only[ae,h1,Rs,ru,bJ,oQ];rw[iX aA]
theorem yU{cp:Nat->List AV->Option AV}{m:ai}{g nm:Nat}{ds:List Nat}(h:m[nm]?=some (oc ds)):aF cp none m g [.arr nm 0 ds.length none]=(cp g [(NV.mk false .no ds).av]).map fun v=>(v,m.set nm none):=by
 simp only[aF,fU,qpu h,ae,kB,Option.isSome_none,iv,cu,vP,List.foldl_nil]
 rfl
end Go.Ab
namespace Go.Ab
open Go.Proofs
theorem cK{m:ai}{e:Option Ent}{nm:Nat}(h:nm<m.length):ai.get (m++[e]) nm=m.get nm:=by
 rw[PC,aq h]
theorem cJ{m:ai}{e:Option Ent}{nm:Nat}(h:nm=m.length):ai.get (m++[e]) nm=e:=by
 subst h;simp[ai.get]
theorem cQ{m:ai}{k nm:Nat}{e:Option Ent}(h:nm≠k):ai.get (m.set k e) nm=m.get nm:=by rw[gV,an h]
theorem di{m:ai}{k nm:Nat}{e:Option Ent}(h:nm=k)(hk:k<m.length):ai.get (m.set k e) nm=e:=by
 subst h;rw[gV,aq rfl,aq hk]
def C6:Option Ent->Option (Bool×List AV)
 | some (.obj b cs)=>some (b,cs)
 | _=>none
theorem mg(b:Bool)(cs:List AV):C6 (some (.obj b cs))=some (b,cs):=rfl
theorem sR(m:ai)(nm:Nat):m.obj? nm=C6 (m.get nm):=by
 unfold ai.obj? C6
 cases h:m.get nm with
 | none=>rfl
 | some e=>cases e<;>rfl
theorem fK(sh:Sh)(m:ai)(nm off:Nat):aj sh m (.ptr nm off)=(C6 (m.get nm)).bind fun o=>kH sh o.2 off:=by
 rw[<- sR];rfl
def dz(sh:Sh)(m:ai)(nm off:Nat)(v:AV)(o:Bool×List AV):Option ai:=
 if off+sh.size<=o.2.length then if dJ sh v then some (m.set nm (some (.obj o.1 (b9 o.2 off v.cells)))) else none else none
theorem sa(sh:Sh)(m:ai)(nm off:Nat)(v:AV):aP sh m (.ptr nm off) v=(C6 (m.get nm)).bind (dz sh m nm off v):=by
 rw[<- sR];rfl
theorem wq(cs:List AV)(off:Nat):kH none cs off=cs[off]?:=rfl
theorem XG(a b c:AV):kH (some 3) [a,b,c] 0=some (.agg [a,b,c]):=rfl
theorem XH(a b c d:AV):kH (some 4) [a,b,c,d] 0=some (.agg [a,b,c,d]):=rfl
theorem p8(nm off:Nat):jb (.ptr nm off)=some (.ptr nm off):=rfl
theorem iL(o nm off:Nat):aL o (.ptr nm off)=some (.ptr nm (off+o)):=rfl
theorem bs{α β:Type}{x:Option α}{v:α}{f:α->Option β}{r:Option β}(h:x=some v)(k:f v=r):x.bind f=r:=by rw[h];exact k
theorem fB{α:Type}{x:Option α}{v:α}{f:α->OM}(h:x=some v)(k:∃m',f v=some (.bool true,m')):∃m',x.bind f=some (.bool true,m'):=by rw[h];exact k
theorem rI(v w:AV):a8 (.tup [v,w]) 0=some v:=rfl
theorem rJ(v w:AV):a8 (.tup [v,w]) 1=some w:=rfl
structure Fr (m m':ai) (F:List Nat):Prop where
 len:m.length<=m'.length
 get:∀x,x<m.length->x∉F->m'.get x=m.get x
theorem Fr.refl(m:ai)(F:List Nat):Fr m m F:=⟨aR _,fun _ _ _=>rfl⟩
theorem Fr.trans{m m1 m2:ai}{F F1:List Nat}(h:Fr m m1 F)(k:Fr m1 m2 F1)(hF:∀x∈F1,x∈F\/m.length<=x):Fr m m2 F:=
 ⟨fC h.len k.len,fun x hx hn=>(k.get x (so hx h.len) fun h1=>by rcases hF x h1 with h2|h2<;>first|exact hn h2|omega).trans (h.get x hx hn)⟩
theorem Fr.mono{m m':ai}{F F':List Nat}(h:Fr m m' F)(hs:∀x∈F,x∈F'):Fr m m' F':=⟨h.len,fun x hx hn=>h.get x hx fun h'=>hn (hs x h')⟩
theorem Fr.app(m:ai)(e:Option Ent)(F:List Nat):Fr m (m++[e]) F:=⟨aA,fun x hx _=>cK hx⟩
theorem Fr.snoc{m m':ai}{F:List Nat}(h:Fr m m' F)(e:Option Ent):Fr m (m'++[e]) F:=h.trans (Fr.app m' e []) (fun _ h=>by cases h)
theorem Fr.set{m m':ai}{F:List Nat}(h:Fr m m' F){k:Nat}(e:Option Ent)(hk:k∈F\/m.length<=k):Fr m (m'.set k e) F:=
 ⟨by rw[il];exact h.len,fun x hx hn=>by
  rw[cQ (by rintro rfl;rcases hk with hk|hk;exact hn hk;omega)];exact h.get x hx hn⟩
def fD(n:ND):AV:=if n.var<0 then aD else .lst none false .no (n.kids.map (AV.int .i64))
def ND.av(n:ND):AV:=.agg [.I n.var,fD n,.I n.leaf]
def mZ:Nat->List ND->List (AV×AV)
 | _,[]=>[]
 | k,n::l=>(.str ⟨n.key.toArray⟩,.I k)::mZ (k+1) l
theorem Kt{a b:ND}(ha:a.ok)(hb:b.ok):jE (.str ⟨a.key.toArray⟩) (.str ⟨b.key.toArray⟩)=decide (a=b):=by
 simp only[jE,wi];refine jm.2 ⟨fun h=>qrp ha hb ?_,fun h=>by rw[h]⟩;have:=dc (fun s:ByteArray=>s.data.toList) h;simpa using this
theorem Po{n:ND}(hn:n.ok):∀(l:List ND) (k:Nat),(∀x∈l,x.ok)->(mZ k l).find? (fun p=>jE p.1 (.str ⟨n.key.toArray⟩))=if n∈l then some (.str ⟨n.key.toArray⟩,.I (k+l.idxOf n:Nat)) else none
 | [],k,_=>rfl
 | x::l,k,h=>by
  rw[mZ,List.find?_cons,Kt (h x gj) hn]
  by_cases he:x=n
  .subst he;simp
  .rw[bD he];simp only[];rw[Po hn l (k+1) fun y hy=>h y (fW _ hy)];have:n∈x::l↔n∈l:=⟨fun h=>(gI.1 h).resolve_left (fun e=>he e.symm),fW _⟩
   by_cases hm:n∈l
   .rw[aq hm,aq (this.2 hm),List.idxOf_cons,cond_eq_ite,an (by simpa using he)];congr 3;omega
   .rw[an hm,an (fun h=>hm (this.1 h))]
theorem XQ(n:ND):∀(l:List ND) (k:Nat),mZ k (l++[n])=mZ k l++[(.str ⟨n.key.toArray⟩,.I (k+l.length:Nat))]
 | [],k=>rfl
 | x::l,k=>by
  rw[b6,mZ,mZ,XQ n l (k+1)];simp only[b6,ba];congr 5;omega
theorem XS:∀(l:List ND) (k:Nat),(mZ k l).length=l.length
 | [],_=>rfl
 | _::l,k=>by rw[mZ,ba,XS l,ba]
theorem qrq{n:ND}(h:n.ok):n.key.length<=10000:=by
 rcases h with ⟨h1,h2,h3,h4⟩|⟨h1,h2,h3,h4,h5⟩
 .unfold ND.key Yd.nameB;rw[h1,aq (by decide)];have:=Yd.itoa_len (n:=n.leaf) ⟨aa,aa⟩;simp;omega
 .have:=Yd.part_len (var:=n.var) (ks:=n.kids) ⟨aa,aa⟩ (fun k hk=>by have:=h4 k hk;constructor<;>omega) n.kids.length (aR _);unfold Yd.part at this;rw[List.take_length] at this;unfold ND.key Yd.nameB;rw[an aa];omega
theorem Z3{n:ND}(h:n.ok):(⟨n.key.toArray⟩:ByteArray).size<=maxLen:=by
 have:=qrq h;simp only[ByteArray.size,List.size_toArray,maxLen];omega
theorem qaA{m:ai}{p:Nat}{l:List ND}{n:ND}(hp:m.get p=some (.mp .str (mZ 0 l)))(hl:∀x∈l,x.ok)(hn:n.ok)(z:AV) :
  p6 .str z m (.mref p) (.str ⟨n.key.toArray⟩)=some (if n∈l then (.I (l.idxOf n:Nat),true) else (z,false)):=by
 have h1:nq m .str (.mref p)=some (p,mZ 0 l):=by simp[nq,hp]
 have h2:ku .str (.str ⟨n.key.toArray⟩)=true:=bM (Z3 hn);unfold p6;rw[h1];simp only[ae,h2,bJ,C0,Po hn l 0 hl]
 by_cases hm:n∈l
 .rw[aq hm,aq hm];simp
 .rw[an hm,an hm]
theorem quJ{m:ai}{p:Nat}{l:List ND}{n:ND}(hp:m.get p=some (.mp .str (mZ 0 l)))(hl:∀x∈l,x.ok)(hn:n.ok)(hne:n∉l)(hlen:l.length<1073741824) :
  lY .str m (.mref p) (.str ⟨n.key.toArray⟩) (.I l.length)=some (m.set p (some (.mp .str (mZ 0 (l++[n]))))):=by
 have h1:nq m .str (.mref p)=some (p,mZ 0 l):=by simp[nq,hp]
 have h2:ku .str (.str ⟨n.key.toArray⟩)=true:=bM (Z3 hn)
 have h3:(mZ 0 l).any (fun p=>jE p.1 (.str ⟨n.key.toArray⟩))=false:=by
  have:=Po hn l 0 hl;rw[an hne,List.find?_eq_none] at this;rw[List.any_eq_false];exact this
 unfold lY;rw[h1,ae,aq ⟨h2,rfl,by rw[XS];unfold maxLen;omega⟩,XQ];simp only[oY,h3,bq]
inductive NA (m:ai):AV->List ND->List Nat->Prop
 | none:NA m aD [] []
 | some (t:Nat) (l:List ND) (ht:m.get t=some (.tok l.length 3)):NA m (.lst (some 3) false (.tok t 74) (l.map ND.av)) l [t]
structure SAt (m:ai) (s p:Nat) (arms na:AV) (most:Int) (l:List ND) (T:List Nat):Prop where
 hs:m.get s=some (.B [arms,na,.mref p,.I most])
 hp:m.get p=some (.mp .str (mZ 0 l))
 hn:NA m na l T
 ok:∀x∈l,x.ok
 ne:s≠p
 hT:∀t∈T,t≠s/\t≠p
end Go.Ab
namespace Go.Ab
open Go.Proofs Go.Proofs.Tryz
theorem mO(m:ai)(e:Ent):az none m e=(m.length,m++[some e]):=rfl
theorem Xe{sh:Sh}{m:ai}{v:AV}(h:dJ sh v=true):dp none sh m v=some (.ptr m.length 0,m++[some (Ent.B v.cells)]):=by
 unfold dp;rw[aq h];rfl
theorem wj(k:IntKind)(n:Int)(m:ai):dp none none m (.int k n)=some (.ptr m.length 0,m++[some (Ent.B [.int k n])]):=rfl
theorem qL(nm o:Nat)(m:ai):dp none none m (.ptr nm o)=some (.ptr m.length 0,m++[some (Ent.B [.ptr nm o])]):=rfl
theorem Cf(a b:Int)(z:Bool)(o:Own)(ks:List AV)(m:ai):dp none (some 3) m (.agg [.I a,.lst none z o ks,.I b])=some (.ptr m.length 0,m++[some (Ent.B [.I a,.lst none z o ks,.I b])]):=rfl
theorem ik(m:ai):bV m 1=m++[some Ent.resv]:=rfl
theorem nB(b:Bool):gH .not (.bool b)=some (.bool (!b)):=rfl
theorem A4(m:ai)(a b c:AV):aj (some 3) m (.vptr [a,b,c])=some (.agg [a,b,c]):=rfl
theorem qae(m:ai)(a b c:AV):aj none m (.vptr [a,b,c])=some a:=rfl
theorem Xm(k:IntKind)(n:Int):AV.cells (.int k n)=[.int k n]:=rfl
theorem OQ(k:IntKind)(n:Int):fG (.int k n)=true:=rfl
theorem Xk(b:Bool):AV.cells (.bool b)=[.bool b]:=rfl
theorem WQ(b:Bool):fG (.bool b)=true:=rfl
theorem Xr(s:ByteArray):AV.cells (.str s)=[.str s]:=rfl
theorem WX(s:ByteArray):fG (.str s)=true:=rfl
theorem Xn(sh:Sh)(z:Bool)(o:Own)(es:List AV):AV.cells (.lst sh z o es)=[.lst sh z o es]:=rfl
theorem WS(sh:Sh)(z:Bool)(o:Own)(es:List AV):fG (.lst sh z o es)=true:=rfl
theorem Xq(nm off:Nat):AV.cells (.ptr nm off)=[.ptr nm off]:=rfl
theorem WW(nm off:Nat):fG (.ptr nm off)=true:=rfl
theorem Xj(nm off n:Nat)(sh:Sh):AV.cells (.arr nm off n sh)=[.arr nm off n sh]:=rfl
theorem WO(nm off n:Nat)(sh:Sh):fG (.arr nm off n sh)=true:=rfl
theorem Xl(f:Nat)(cs:List AV):AV.cells (.fn f cs)=[.fn f cs]:=rfl
theorem WR(f:Nat)(cs:List AV):fG (.fn f cs)=true:=rfl
theorem Xo(nm:Nat):AV.cells (.mref nm)=[.mref nm]:=rfl
theorem WT(nm:Nat):fG (.mref nm)=true:=rfl
theorem Xp:AV.cells .nilp=[.nilp]:=rfl
theorem WU:fG .nilp=true:=rfl
theorem Xi(cs:List AV):AV.cells (.agg cs)=cs:=rfl
theorem qce(v:AV):dJ none v=fG v:=rfl
theorem qcf(n:Nat)(cs:List AV):dJ (some n) (.agg cs)=(cs.length==n&&cs.all fG):=rfl
theorem b7:type_of% @aW/\type_of% @il/\type_of% @ba/\type_of% @bo:=⟨@aW,@il,@ba,@bo⟩
theorem fA:type_of% @nF/\type_of% @List.all_nil.{0}/\type_of% @Bool.and_true/\type_of% @ru/\type_of% @ik/\type_of% @bu/\type_of% @A4/\type_of% @qae/\type_of% @iK/\type_of% @gm/\type_of% @bz/\type_of% @rG/\type_of% @gE/\type_of% @ki/\type_of% @gP/\type_of% @nB/\type_of% @fK/\type_of% @sa/\type_of% @mg/\type_of% @wq/\type_of% @XG/\type_of% @XH/\type_of% @p8/\type_of% @iL/\type_of% @cK/\type_of% @cJ/\type_of% @cQ/\type_of% @di/\type_of% @mO/\type_of% @Xe/\type_of% @List.getElem?_cons_zero.{0}/\type_of% @List.getElem?_cons_succ.{0}/\type_of% @rI/\type_of% @rJ/\type_of% @Xm/\type_of% @OQ/\type_of% @Xk/\type_of% @WQ/\type_of% @Xr/\type_of% @WX/\type_of% @Xn/\type_of% @WS/\type_of% @Xq/\type_of% @WW/\type_of% @Xj/\type_of% @WO/\type_of% @Xl/\type_of% @WR/\type_of% @Xo/\type_of% @WT/\type_of% @Xp/\type_of% @WU/\type_of% @Xi/\type_of% @qce/\type_of% @qcf/\type_of% @qy/\type_of% @ba/\type_of% @bo/\type_of% @List.take_succ_cons.{0}/\type_of% @List.take_zero.{0}/\type_of% @List.drop_succ_cons.{0}/\type_of% @gC/\type_of% @b6/\type_of% @bF/\type_of% @cu/\type_of% @bq/\type_of% @List.drop_nil.{0}/\type_of% @List.take_nil.{0}/\type_of% @aW/\type_of% @il:=⟨@nF,@List.all_nil.{0},@Bool.and_true,@ru,@ik,@bu,@A4,@qae,@iK,@gm,@bz,@rG,@gE,@ki,@gP,@nB,@fK,@sa,@mg,@wq,@XG,@XH,@p8,@iL,@cK,@cJ,@cQ,@di,@mO,@Xe,@List.getElem?_cons_zero.{0},@List.getElem?_cons_succ.{0},@rI,@rJ,@Xm,@OQ,@Xk,@WQ,@Xr,@WX,@Xn,@WS,@Xq,@WW,@Xj,@WO,@Xl,@WR,@Xo,@WT,@Xp,@WU,@Xi,@qce,@qcf,@qy,@ba,@bo,@List.take_succ_cons.{0},@List.take_zero.{0},@List.drop_succ_cons.{0},@gC,@b6,@bF,@cu,@bq,@List.drop_nil.{0},@List.take_nil.{0},@aW,@il⟩
theorem gT{R:Type}(x y:Option R):aB (.bool false) x y=y:=rfl
theorem ll{R:Type}(x y:Option R):aB (.bool true) x y=x:=rfl
theorem qsX{m:ai}{s p:Nat}{arms na:AV}{most:Int}{l:List ND}{T:List Nat}(h:SAt m s p arms na most l T){n:ND}(hn:n.ok)(hm:n∈l)(z:Bool)(o:Own) :
  AC af 139 [.ptr s 0,.agg [.I n.var,.lst none z o (n.kids.map (AV.int .i64)),.I n.leaf]] m=some (.I (l.idxOf n:Nat),m++[some (Ent.B [.I n.var,.lst none z o (n.kids.map (AV.int .i64)),.I n.leaf])]):=by
 have hs:=h.hs;have hp:=h.hp;have mM:=bW hs;have hpl:=bW hp;have Qi:ai.get (m++[some (Ent.B [.I n.var,.lst none z o (n.kids.map (AV.int .i64)),.I n.leaf])]) p=some (Ent.mp .str (mZ 0 l)):=by rw[cK hpl];exact hp
 have nm:=qa0 hn z o;have lk:=qaA Qi h.ok hn (.I 0);rw[aq hm] at lk;rw[Ow]
 repeat ((with_reducible first|apply bs|apply fB);(focus first|(simp (disch:=first|assumption|omega|simp only[b7]<;>omega|fail) only[fA,beq_self_eq_true,dz,ae,Sh.size,bJ,b9,Nat.reduceAdd,Nat.reduceLeDiff,aR,hs,Cf,nm,lk]<;>rfl)|rfl);try dsimp only)
 rw[ll]
theorem Jt(a b:Int)(z:Bool)(o:Own)(ks:List AV):df (some 3) [.agg [.I a,.lst none z o ks,.I b]]=some (.lst (some 3) false .full [.agg [.I a,rl (.lst none z o ks),.I b]]):=by
 cases o<;>rfl
theorem qlZ(b:Nat)(m:ai)(y:AV):bL (some b) false 74 (some 3) 40 m aD (.lst (some 3) false .full [y])=some (.lst (some 3) false (.tok b 74) [y],m.set b (some (Ent.tok 1 3))):=rfl
theorem ql1{b t:Nat}{m:ai}{es:List AV}{y:AV}(ht:m.get t=some (Ent.tok es.length 3))(h:es.length<1073741824):bL (some b) false 74 (some 3) 40 m (.lst (some 3) false (.tok t 74) es) (.lst (some 3) false .full [y])=some (.lst (some 3) false (.tok t 74) (es++[y]),m.set t (some (Ent.tok (es.length+1) 3))):=by
 have h2:(es.length+1)*40<=ft:=by unfold ft;omega
 simp[bL,ht,Sh.size,h2]
theorem NA.move{m m':ai}{na:AV}{l:List ND}{T:List Nat}(h:NA m na l T)(f:∀x∈T,m'.get x=m.get x):NA m' na l T:=by
 cases h with
 | none=>exact .none
 | some t l ht=>exact .some t l ((f t (by simp)).trans ht)
theorem SAt.move{m m':ai}{s p:Nat}{arms na:AV}{most:Int}{l:List ND}{T:List Nat}(h:SAt m s p arms na most l T)(f:∀x∈s::p::T,m'.get x=m.get x):SAt m' s p arms na most l T:=
 ⟨(f s (by simp)).trans h.hs,(f p (by simp)).trans h.hp,h.hn.move fun x hx=>f x (by simp[hx]),h.ok,h.ne,h.hT⟩
theorem SAt.lt{m:ai}{s p:Nat}{arms na:AV}{most:Int}{l:List ND}{T:List Nat}(h:SAt m s p arms na most l T):∀x∈s::p::T,x<m.length:=by
 intro x hx;simp only[gI] at hx
 rcases hx with rfl|rfl|hx
 .exact bW h.hs
 .exact bW h.hp
 .cases h.hn with
  | none=>cases hx
  | some t l ht=>
    obtain rfl:x=t:=by simpa using hx
    exact bW ht
def dW(m:ai)(s:Nat)(F:List Nat)(arms:AV)(most:Int)(l:List ND):Prop:=∃p na T,SAt m s p arms na most l T/\F=s::p::T
theorem dW.move{m m':ai}{s:Nat}{F:List Nat}{arms:AV}{most:Int}{l:List ND}(h:dW m s F arms most l)(f:∀x∈F,m'.get x=m.get x):dW m' s F arms most l:=by
 obtain ⟨p,na,T,h,rfl⟩:=h;exact ⟨p,na,T,h.move f,rfl⟩
theorem dW.lt{m:ai}{s:Nat}{F:List Nat}{arms:AV}{most:Int}{l:List ND}(h:dW m s F arms most l):∀x∈F,x<m.length:=by
 obtain ⟨p,na,T,h,rfl⟩:=h;exact h.lt
theorem dW.fr{m m':ai}{s:Nat}{F G:List Nat}{arms:AV}{most:Int}{l:List ND}(h:dW m s F arms most l)(f:Fr m m' G)(hd:∀x∈F,x∉G):dW m' s F arms most l:=h.move fun x hx=>f.get x (h.lt x hx) (hd x hx)
def Gr(m:ai)(F F':List Nat):Prop:=∀x∈F',x∈F\/m.length<=x
theorem Gr.refl(m:ai)(F:List Nat):Gr m F F:=fun _ h=>.inl h
theorem Gr.trans{m m1:ai}{F F1 F2:List Nat}(hl:m.length<=m1.length)(h:Gr m F F1)(k:Gr m1 F1 F2):Gr m F F2:=fun x hx=>by
 rcases k x hx with h1|h1
 .exact h x h1
 .exact .inr aa
def jD(l:List ND)(n:ND):List ND:=if n∈l then l else l++[n]
theorem FV{l:List ND}{n:ND}(h:n∉l):l.idxOf n=l.length:=List.idxOf_eq_length h
theorem qsW{m:ai}{s p:Nat}{arms na:AV}{most:Int}{l:List ND}{T:List Nat}(h:SAt m s p arms na most l T){n:ND}(hn:n.ok)(hm:n∉l){z:Bool}{o:Own}(hk:rl (.lst none z o (n.kids.map (AV.int .i64)))=fD n)
  (hl:(l.length:Int)<most) (oR:most<=1073741824):∃m' na' T',AC af 139 [.ptr s 0,.agg [.I n.var,.lst none z o (n.kids.map (AV.int .i64)),.I n.leaf]] m=some (.I l.length,m') /\
   SAt m' s p arms na' most (l++[n]) T'/\Fr m m' (s::p::T)/\∀t∈T',t∈T\/m.length<=t:=by
 have hs:=h.hs;have hp:=h.hp;have mM:=bW hs;have hpl:=bW hp;have hne:=h.ne;have Kf:p≠s:=fun e=>hne e.symm;have nm:=qa0 hn z o
 have bc:∀x∈l++[n],x.ok:=fun x hx=>by
  rcases hZ.1 hx with hx|hx
  .exact h.ok x hx
  .obtain rfl:x=n:=by simpa using hx
   exact hn
 have fI:l.length<1073741824:=aa;generalize hbx:some (Ent.B [.I n.var,.lst none z o (n.kids.map (AV.int .i64)),.I n.leaf])=bx;have Qi:ai.get (m++[bx]) p=some (Ent.mp .str (mZ 0 l)):=by rw[cK hpl];exact hp
 have lk:=qaA Qi h.ok hn (.I 0);rw[an hm] at lk;have tF:=Cf n.var n.leaf z o (n.kids.map (AV.int .i64)) m;rw[hbx] at tF;have ldb:C6 bx=some (true,[.I n.var,.lst none z o (n.kids.map (AV.int .i64)),.I n.leaf]):=by rw[<- hbx];rfl
 have hT:=h.hT;have pA:AV.agg [.I n.var,fD n,.I n.leaf]=n.av:=rfl;have up:=fun m' hp=>quJ (m:=m') (p:=p) hp h.ok hn hm fI;have len1:∀y:AV,((l.map ND.av)++[y]).length=l.length+1:=fun y=>aA;have wr1:IntKind.wrap .i64 (((l.length+1:Nat):Int)-1)=l.length:=by rw[iV aa aa];omega
 have key:∃m' na' T',AC af 139 [.ptr s 0,.agg [.I n.var,.lst none z o (n.kids.map (AV.int .i64)),.I n.leaf]] m=some (.I l.length,m') /\
   ai.get m' s=some (Ent.B [arms,na',.mref p,.I most])/\ai.get m' p=some (Ent.mp .str (mZ 0 (l++[n])))/\NA m' na' (l++[n]) T'/\Fr m m' (s::p::T)/\(∀t∈T',t≠s/\t≠p)/\∀t∈T',t∈T\/m.length<=t:=by
  cases h.hn with
  | none=>
   have e:AC af 139 [.ptr s 0,.agg [.I n.var,.lst none z o (n.kids.map (AV.int .i64)),.I n.leaf]] m=some (.I (0:Nat),(((((m++[bx])++[some Ent.resv]).set (m.length+1) (some (Ent.tok 1 3))).set s (some (Ent.B [arms,.lst (some 3) false (.tok (m.length+1) 74) [n.av],.mref p,.I most]))).set p (some (Ent.mp .str (mZ 0 ([]++[n])))))):=by
    rw[Ow]
    repeat ((with_reducible first|apply bs|apply fB);(focus first|(simp (disch:=first|assumption|omega|simp only[b7]<;>omega|fail) only[fA,beq_self_eq_true,dz,ae,Sh.size,bJ,b9,Nat.reduceAdd,Nat.reduceLeDiff,aR,hs,tF,nm,lk,ldb]<;>rfl)|rfl);try dsimp only)
    rw[gT]
    repeat ((with_reducible first|apply bs|apply fB);(focus first|(simp (disch:=first|assumption|omega|simp only[b7]<;>omega|fail) only[fA,beq_self_eq_true,dz,ae,Sh.size,bJ,b9,Nat.reduceAdd,Nat.reduceLeDiff,aR,hs,tF,nm,lk,ldb]<;>rfl)|rfl);try dsimp only)
    rw[aC,an (by simp at hl ⊢;omega)]
    repeat ((with_reducible first|apply bs|apply fB);(focus first|(simp (disch:=first|assumption|omega|simp only[b7]<;>omega|fail) only[fA,beq_self_eq_true,dz,ae,Sh.size,bJ,b9,Nat.reduceAdd,Nat.reduceLeDiff,aR,hs,tF,nm,lk,ldb,Jt,hk,qlZ,pA]<;>rfl)|rfl);try dsimp only)
    rw[show IntKind.wrap .i64 ((1:Nat)-1:Int)=((([]:List ND).length:Nat):Int) from rfl,up _ ?hq,ae]
    case hq=>exact (by simp (disch:=first|assumption|omega|simp only[b7]<;>omega|fail) only[ik,cK,cJ,cQ,di,hp]<;>rfl)
    repeat ((with_reducible first|apply bs|apply fB);(focus first|(simp (disch:=first|assumption|omega|simp only[b7]<;>omega|fail) only[fA,beq_self_eq_true,dz,ae,Sh.size,bJ,b9,Nat.reduceAdd,Nat.reduceLeDiff,aR,hs]<;>rfl)|rfl);try dsimp only)
    rfl
   refine ⟨_,_,[m.length+1],e,(by simp (disch:=first|assumption|omega|simp only[b7]<;>omega|fail) only[ik,cK,cJ,cQ,di]<;>rfl),(by simp (disch:=first|assumption|omega|simp only[b7]<;>omega|fail) only[ik,cK,cJ,cQ,di]<;>rfl),?_,?_,?_,?_⟩
   .exact .some _ [n] (by simp (disch:=first|assumption|omega|simp only[b7]<;>omega|fail) only[ik,cK,cJ,cQ,di]<;>rfl)
   .exact ((((Fr.app m bx _).snoc _).set _ (.inr (by omega))).set _ (.inl (by simp))).set _ (.inl aA)
   .intro t ht;obtain rfl:t=m.length+1:=by simpa using ht
    omega
   .intro t ht;obtain rfl:t=m.length+1:=by simpa using ht
    omega
  | some t l ht=>
   have fJ:=bW ht;have AW:=(hT t (by simp)).1;have ZD:=(hT t (by simp)).2;have qvb:s≠t:=fun e=>AW e.symm;have qva:p≠t:=fun e=>ZD e.symm
   have e:AC af 139 [.ptr s 0,.agg [.I n.var,.lst none z o (n.kids.map (AV.int .i64)),.I n.leaf]] m=some (.I l.length,(((((m++[bx])++[some Ent.resv]).set t (some (Ent.tok (l.length+1) 3))).set s (some (Ent.B [arms,.lst (some 3) false (.tok t 74) (l.map ND.av++[n.av]),.mref p,.I most]))).set p (some (Ent.mp .str (mZ 0 (l++[n])))))):=by
    have ap:=fun m' b ht=>ql1 (b:=b) (m:=m') (t:=t) (es:=l.map ND.av) (y:=n.av) ht (by simp;omega);simp only[bu] at ap;rw[Ow]
    repeat ((with_reducible first|apply bs|apply fB);(focus first|(simp (disch:=first|assumption|omega|simp only[b7]<;>omega|fail) only[fA,beq_self_eq_true,dz,ae,Sh.size,bJ,b9,Nat.reduceAdd,Nat.reduceLeDiff,aR,hs,tF,nm,lk,ldb]<;>rfl)|rfl);try dsimp only)
    rw[gT]
    repeat ((with_reducible first|apply bs|apply fB);(focus first|(simp (disch:=first|assumption|omega|simp only[b7]<;>omega|fail) only[fA,beq_self_eq_true,dz,ae,Sh.size,bJ,b9,Nat.reduceAdd,Nat.reduceLeDiff,aR,hs,tF,nm,lk,ldb,bu]<;>rfl)|rfl);try dsimp only)
    rw[aC,an aa]
    repeat ((with_reducible first|apply bs|apply fB);(focus first|(simp (disch:=first|assumption|omega|simp only[b7]<;>omega|fail) only[fA,beq_self_eq_true,dz,ae,Sh.size,bJ,b9,Nat.reduceAdd,Nat.reduceLeDiff,aR,hs,tF,nm,lk,ldb,Jt,hk,pA]<;>rfl)|rfl);try dsimp only)
    rw[ap _ _ ?hq,ae]
    case hq=>exact (by simp (disch:=first|assumption|omega|simp only[b7]<;>omega|fail) only[ik,cK,cJ,cQ,di,ht]<;>rfl)
    dsimp only
    repeat ((with_reducible first|apply bs|apply fB);(focus first|(simp (disch:=first|assumption|omega|simp only[b7]<;>omega|fail) only[fA,beq_self_eq_true,dz,ae,Sh.size,bJ,b9,Nat.reduceAdd,Nat.reduceLeDiff,aR,hs,len1]<;>rfl)|rfl);try dsimp only)
    rw[wr1,up _ ?hq,ae]
    case hq=>exact (by simp (disch:=first|assumption|omega|simp only[b7]<;>omega|fail) only[ik,cK,cJ,cQ,di,hp]<;>rfl)
    repeat ((with_reducible first|apply bs|apply fB);(focus first|(simp (disch:=first|assumption|omega|simp only[b7]<;>omega|fail) only[fA,beq_self_eq_true,dz,ae,Sh.size,bJ,b9,Nat.reduceAdd,Nat.reduceLeDiff,aR,hs,len1]<;>rfl)|rfl);try dsimp only)
    rw[wr1]
   refine ⟨_,_,[t],e,(by simp (disch:=first|assumption|omega|simp only[b7]<;>omega|fail) only[ik,cK,cJ,cQ,di]<;>rfl),(by simp (disch:=first|assumption|omega|simp only[b7]<;>omega|fail) only[ik,cK,cJ,cQ,di]<;>rfl),?_,?_,?_,?_⟩
   .have e2:(l++[n]).map ND.av=l.map ND.av++[n.av]:=aA;rw[<- e2];refine .some t (l++[n]) ?_;rw[aW]
    exact (by simp (disch:=first|assumption|omega|simp only[b7]<;>omega|fail) only[ik,cK,cJ,cQ,di]<;>rfl)
   .exact ((((Fr.app m bx _).snoc _).set _ (.inl (by simp))).set _ (.inl (by simp))).set _ (.inl aA)
   .intro x hx;obtain rfl:x=t:=by simpa using hx
    exact ⟨AW,ZD⟩
   .intro x hx;exact .inl hx
 obtain ⟨m',na',T',e,k1,k2,k3,k4,k5,k6⟩:=key;exact ⟨m',na',T',e,⟨k1,k2,k3,bc,hne,k5⟩,k4,k6⟩
theorem qbH{m:ai}{s:Nat}{F:List Nat}{arms:AV}{most:Int}{l:List ND}(h:dW m s F arms most l){n:ND}(hn:n.ok){z:Bool}{o:Own}(hk:rl (.lst none z o (n.kids.map (AV.int .i64)))=fD n)
  (hl:(l.length:Int)<most) (oR:most<=1073741824):∃m' F',AC af 139 [.ptr s 0,.agg [.I n.var,.lst none z o (n.kids.map (AV.int .i64)),.I n.leaf]] m=some (.I (l.idxOf n:Nat),m') /\
   dW m' s F' arms most (jD l n)/\Fr m m' F/\Gr m F F':=by
 obtain ⟨p,na,T,h,rfl⟩:=h
 by_cases hm:n∈l
 .refine ⟨_,s::p::T,qsX h hn hm z o,?_,Fr.app m _ _,Gr.refl _ _⟩;rw[jD,aq hm];exact ⟨p,na,T,h.move fun x hx=>cK (h.lt x hx),rfl⟩
 .obtain ⟨m',na',T',e,h1,h2,h3⟩:=qsW h hn hm hk hl oR
  refine ⟨m',s::p::T',by rw[FV hm];exact e,?_,h2,fun x hx=>?_⟩
  .rw[jD,an hm];exact ⟨p,na',T',h1,rfl⟩
  .simp only[gI] at hx ⊢
   rcases hx with rfl|rfl|hx
   .exact .inl (.inl rfl)
   .exact .inl (.inr (.inl rfl))
   .rcases h3 x hx with h|h
    .exact .inl (.inr (.inr h))
    .exact .inr h
end Go.Ab
namespace Go.Ab
noncomputable section
variable (a0 a1 a2:AV) (m:ai)
open Go.Proofs.Tryz
theorem Ev:AC af 34 [a0,a1,a2] m=(dp none none m a0).bind fun r1=>(dp none none r1.2 a1).bind fun r2=>(dp none none r2.2 a2).bind fun r3=>(aj none r3.2 r1.1).bind fun v4=>(AC af 80 [v4] r3.2).bind fun r5=>aB r5.1 (some ((.tup [(.I 0),(.I 4)]),r5.2)) ((aj none r5.2 r2.1).bind fun v6=>(ag .o .lss v6 (.I 0)).bind fun v7=>aB v7 (some ((.tup [(.I 0),(.I 1)]),r5.2)) ((aj none r5.2 r2.1).bind fun v8=>(aj none r5.2 r1.1).bind fun v9=>(jb v9).bind fun v10=>(aL 0 v10).bind fun v11=>(aj none r5.2 v11).bind fun v12=>(aM false v12).bind fun bg=>(ag .o .geq v8 bg).bind fun bf=>aB bf (some ((.tup [(.I 0),(.I 1)]),r5.2)) ((aj none r5.2 r3.1).bind fun bh=>(aM false bh).bind fun bK=>(aj none r5.2 r1.1).bind fun bH=>(jb bH).bind fun cV=>(aL 0 cV).bind fun cP=>(aj none r5.2 cP).bind fun v20=>(aj none r5.2 r2.1).bind fun v21=>(aI none v20 v21).bind fun v22=>(aj none r5.2 v22).bind fun v23=>(ag .o .neq bK v23).bind fun v24=>aB v24 (some ((.tup [(.I 0),(.I 1)]),r5.2)) ((aj none r5.2 r3.1).bind fun v25=>(AC af 92 [v25,(.fn 97 [r1.1,r2.1])] r5.2).bind fun kD=>aB kD.1 (some ((.tup [(.I 0),(.I 1)]),kD.2)) ((aj none kD.2 r1.1).bind fun iR=>(AC af 84 [iR,(.fn 98 [r1.1,r2.1,r3.1])] kD.2).bind fun yV=>(a8 yV.1 0).bind fun jh=>(a8 yV.1 1).bind fun v30=>some ((.tup [jh,v30]),yV.2)))))):=
(bm af 34 [a0,a1,a2] m (fn:=f34) (c:=aE f34) qnv rfl).trans au
theorem Vz:AC af 97 [a0,a1,a2] m=(aj none m a1).bind fun v1=>(AC af 81 [v1,a0] m).bind fun r2=>(gH .not r2.1).bind fun v3=>aB v3 (w6 (some (AV.tup [],r2.2)=some (AV.tup [],r2.2)) (some ((.bool true),r2.2))) ((aj none r2.2 a1).bind fun v4=>(aj none r2.2 a2).bind fun v5=>(AC af 68 [v4,a0] r2.2).bind fun r6=>w6 ((aj none r6.2 a2).bind (fun v=>some (v,r6.2))=some (v5,r6.2)) ((ag .o .leq r6.1 v5).bind fun v7=>some (v7,r6.2))):=
(bm af 97 [a0,a1,a2] m (fn:=f97) (c:=aE f97) qof rfl).trans au
theorem T98:AC af 98 [a0,a1,a2] m=(aj none m a0).bind fun v1=>(aj none m a1).bind fun v2=>(aj none m a2).bind fun v3=>(aF (AP af) none m 88 [v3]).bind fun r4=>w6 ((aj none r4.2 a0).bind (fun v=>some (v,r4.2))=some (v1,r4.2)) (w6 ((aj none r4.2 a1).bind (fun v=>some (v,r4.2))=some (v2,r4.2)) ((AC af 99 [v1,v2,r4.1] r4.2).bind fun r5=>some (r5.1,r5.2))):=
(bm af 98 [a0,a1,a2] m (fn:=f98) (c:=aE f98) qog rfl).trans au
end
end Go.Ab
namespace Go.Ab
open Go.Proofs Go.Proofs.Tryz
abbrev IA(z:Bool)(o:Own)(ns:List Int):AV:=.lst none z o (ns.map (AV.int .i64))
theorem n6(z:Bool)(o:Own)(ns:List Int):Fz (IA z o ns) (IA z o.fr ns):=fun m=>by cases o<;>rfl
theorem iT(z:Bool)(o:Own)(ns:List Int):aM false (IA z o ns)=some (.I ns.length):=by
 rw[qy,bu]
theorem j6{z:Bool}{o:Own}{ns:List Int}{k:IntKind}{i:Nat}(h:i<ns.length):aI none (IA z o ns) (.int k i)=some (.vptr [.I ns[i]]):=by
 simp[aI,h,AV.cells]
theorem FW{z:Bool}{o:Own}{ns:List Int}{k:IntKind}(h:0<ns.length):aI none (IA z o ns) (.int k 0)=some (.vptr [.I ns[0]]):=j6 (i:=0) h
def Ad(z:Bool)(ns:List Int):AV:=if z then aD else if ns=[] then .lst none false .full [] else IA false .no ns
theorem V49(z:Bool)(o:Own)(ns:List Int)(hl:ns.length<=1000000):AP af 88 [IA z o ns]=some (Ad z ns):=by
 have e0:ag .sl .eql (IA z o ns) aD=some (.bool z):=rfl
 cases z with
 | true=>
  refine iW (m:=[]) (v:=aD) (l:=[]) ?_ rfl rfl;rw[Oz,e0,ae,ll]
 | false=>
  cases ns with
  | nil=>
   refine iW (m:=[]) (v:=.lst none false .full []) (l:=[]) ?_ rfl rfl;rw[Oz,e0,ae,gT]
   rfl
  | cons n ns=>
   refine iW (m:=[some (Ent.tok (0+(ns.length+1)) 1)]) (v:=.lst none false (.tok 0 3) ((n::ns).map (AV.int .i64))) (l:=[]) ?_ rfl rfl;rw[Oz,e0,ae,gT,show df none []=some (.lst none false .full []) from rfl,ae];have hb:(0+(ns.length+1))*8<=ft:=by unfold ft;simp at hl;omega
   simp only[bL,gh,bo,ba,bu,hb,bJ,or_true,jJ,lp,az,bo,bF,ae,Sh.size]
theorem Rn(z:Bool)(o:Own)(ns:List Int)(hl:ns.length<=1000000)(m:ai):aF (AP af) none m 88 [IA z o ns]=some (Ad z ns,m):=by
 rw[cI (n6 z o ns),V49 _ _ _ hl];rfl
theorem V51(n:Int):AP af 94 [.I n]=some (.bool (decide (0<=n/\n<=2147483647))):=by
 refine iW (m:=[]) (v:=.bool (decide (0<=n/\n<=2147483647))) (l:=[]) ?_ rfl rfl;rw[Vy,ki,ae,aC]
 by_cases h:n≥0
 .rw[aq h,rG,ae];congr 3;exact jm.2 aa
 .rw[an h];congr 3;exact (bD (by omega)).symm
theorem Ro(n:Int)(m:ai):aF (AP af) none m 94 [.I n]=some (.bool (decide (0<=n/\n<=2147483647)),m):=by
 rw[cI (gJ _ _),V51];rfl
section
variable {m:ai} {s:Nat} {F:List Nat} {arms:AV} {most:Int} {l:List ND}
theorem DB(h:dW m s F arms most l)(hm:most≠0):AC af 80 [.ptr s 0] m=some (.bool false,m):=by
 obtain ⟨p,na,T,h,rfl⟩:=h;have hs:=h.hs;rw[T80,show ag .pt .eql (.ptr s 0) .nilp=some (.bool false) from rfl,ae,gT]
 repeat ((with_reducible first|apply bs|apply fB);(focus first|(simp (disch:=first|assumption|omega|simp only[b7]<;>omega|fail) only[fA,beq_self_eq_true,dz,ae,Sh.size,bJ,b9,Nat.reduceAdd,Nat.reduceLeDiff,aR,hs]<;>rfl)|rfl);try dsimp only)
 rw[show (decide (most=0))=false from bD hm]
theorem L6(h:dW m s F arms most l)(i:Int):AC af 81 [.ptr s 0,.I i] m=some (.bool (decide (0<=i/\i<l.length)),m):=by
 obtain ⟨p,na,T,h,rfl⟩:=h;have hs:=h.hs
 have hlen:aM false na=some (.I l.length):=by
  cases h.hn with
  | none=>rfl
  | some t l ht=>rw[qy,bu]
 rw[T81,ki,ae,aC]
 by_cases h0:i≥0
 .rw[aq h0]
  repeat ((with_reducible first|apply bs|apply fB);(focus first|(simp (disch:=first|assumption|omega|simp only[b7]<;>omega|fail) only[fA,beq_self_eq_true,dz,ae,Sh.size,bJ,b9,Nat.reduceAdd,Nat.reduceLeDiff,aR,hs,hlen]<;>rfl)|rfl);try dsimp only)
  congr 3;exact jm.2 aa
 .rw[an h0,show (decide (0<=i/\i<l.length))=false from bD aa]
def dP(a:Nat)(n:ND):Int:=if n.var≥0 then n.var else a
theorem Gf{na:AV}{T:List Nat}(h:NA m na l T){i:Nat}(hi:i<l.length):aI (some 3) na (.I i)=some (.vptr [.I l[i].var,fD l[i],.I l[i].leaf]):=by
 cases h with
 | none=>simp at hi
 | some t l ht=>simp[aI,hi];rfl
theorem Jr(n:ND)(m:ai)(h:ai.get m m.length=none):aP (some 3) (m++[some (Ent.B [.I 0,aD,.I 0])]) (.ptr m.length 0) (.agg [.I n.var,fD n,.I n.leaf])=some (m++[some (Ent.B [.I n.var,fD n,.I n.leaf])]):=by
 have e:dJ (some 3) (.agg [.I n.var,fD n,.I n.leaf])=true:=by unfold fD;split<;>rfl
 rw[sa,cJ rfl,mg,ae];simp[dz,Sh.size,e,b9,AV.cells]
theorem JT(m:ai):ai.get m m.length=none:=by simp[ai.get]
theorem L7{z:Bool}{o:Own}{ar:List Int}(h:dW m s F (IA z o ar) most l){i:Nat}(hi:i<l.length):∃m',AC af 68 [.ptr s 0,.I i] m=some (.I (dP ar.length l[i]),m')/\Fr m m' []:=by
 obtain ⟨p,na,T,h,rfl⟩:=h;have hs:=h.hs;have mM:=bW hs;have n8:=Gf h.hn hi;have bx:=Jr l[i] m (JT m);refine ⟨_,?_,Fr.app m (some (Ent.B [.I l[i].var,fD l[i],.I l[i].leaf])) []⟩;rw[T68]
 repeat ((with_reducible first|apply bs|apply fB);(focus first|(simp (disch:=first|assumption|omega|simp only[b7]<;>omega|fail) only[fA,beq_self_eq_true,dz,ae,Sh.size,bJ,b9,Nat.reduceAdd,Nat.reduceLeDiff,aR,hs,n8,bx]<;>rfl)|rfl);try dsimp only)
 rw[aC]
 by_cases hv:l[i].var≥0
 .rw[aq hv]
  repeat ((with_reducible first|apply bs|apply fB);(focus first|(simp (disch:=first|assumption|omega|simp only[b7]<;>omega|fail) only[fA,beq_self_eq_true,dz,ae,Sh.size,bJ,b9,Nat.reduceAdd,Nat.reduceLeDiff,aR,hs]<;>rfl)|rfl);try dsimp only)
  rw[dP,aq hv]
 .rw[an hv]
  repeat ((with_reducible first|apply bs|apply fB);(focus first|(simp (disch:=first|assumption|omega|simp only[b7]<;>omega|fail) only[fA,beq_self_eq_true,dz,ae,Sh.size,bJ,b9,Nat.reduceAdd,Nat.reduceLeDiff,aR,hs,iT]<;>rfl)|rfl);try dsimp only)
  rw[dP,an hv]
def ja(x:Int):ND:=⟨-1,[],x⟩
theorem qaf{x:Int}(h:0<=x/\x<=2147483647):(ja x).ok:=.inl ⟨rfl,rfl,h⟩
theorem SE(h:dW m s F arms most l){x:Int}(hx:0<=x/\x<=2147483647)(hl:(l.length:Int)<most)(oR:most<=1073741824) :
  ∃m' F',AC af 96 [.ptr s 0,.I x] m=some (.I (l.idxOf (ja x):Nat),m')/\dW m' s F' arms most (jD l (ja x))/\Fr m m' F/\Gr m F F':=by
 obtain ⟨m',F',e,h1,h2,h3⟩:=qbH h (qaf hx) (z:=true) (o:=.full) rfl hl oR;refine ⟨m',F',?_,h1,h2,h3⟩;have e:AC af 139 [.ptr s 0,.agg [.I (-1),aD,.I x]] m=_:=e;rw[T96,show fR (.agg [(.I 0),aD,(.I 0)]) [(0,none,(.I (-1))),(2,none,.I x)]=some (.agg [.I (-1),aD,.I x]) from rfl,ae,e,ae]
def iF(v:Int)(ks:List Int):ND:=⟨v,ks,0⟩
def oX(l:List ND)(v:Int)(ks:List Int):Int×List ND:=if ks.all (fun k=>k==ks.headD 0) then (ks.headD 0,l) else (((l.idxOf (iF v ks):Nat):Int),jD l (iF v ks))
theorem qa1(l:List ND)(v k0:Int)(ks:List Int):oX l v (k0::ks)=if (k0::ks).all (fun k=>k==k0) then (k0,l) else (((l.idxOf (iF v (k0::ks)):Nat):Int),jD l (iF v (k0::ks))):=rfl
theorem Wq(x0:AV)(v:Int)(z:Bool)(o:Own)(k0:Int)(ks:List Int)(hlen:(k0::ks).length<=1000)(K:KT):∀j i:Nat,i+j=(k0::ks).length ->
  Iw x0 (.I v) (IA z o (k0::ks)) (IA z o (k0::ks)) (.I (k0::ks).length) (.I i) m K =
   if ((k0::ks).drop i).all (fun k=>k==k0) then K (.exit 0) (Ol (IA z o (k0::ks)) m) else
    (AC af 139 [x0,.agg [.I v,IA z o (k0::ks),.I 0]] m).bind fun r8=>K .ret (Ov r8.1 r8.2)
 | 0,i,h=>by
  rw[UM,bz,ae,aC,an aa,gU aa];rfl
 | j+1,i,h=>by
  have hi:i<(k0::ks).length:=aa;rw[UM,bz,ae,aC,aq aa,j6 hi,ae,gP,ae,FW aA,ae,gP,ae,gm,ae,aC,jP hi,nF];have hb:∀(a b:Int),fR (.agg [(.I 0),aD,(.I 0)]) [(0,none,.I v),(1,none,IA z o (k0::ks))]=some (.agg [.I v,IA z o (k0::ks),.I 0]):=fun _ _=>rfl
  by_cases he:(k0::ks)[i]=k0
  .rw[an (by simpa using he),bU aa,ae,Wq x0 v z o k0 ks hlen K j (i+1) aa,show ((k0::ks)[i]==k0)=true by simpa using he,dd]
  .rw[aq (by simpa using he),hb 0 0,ae,show ((k0::ks)[i]==k0)=false by simpa using he,iv];rfl
theorem SF(h:dW m s F arms most l){v:Int}{z:Bool}{o:Own}{ks:List Int}(hne:ks≠[])(hn:(iF v ks).ok)(hz:z=false)(ho:o=.no\/∃t e,o=.tok t e)(hl:(l.length:Int)<most)(oR:most<=1073741824) :
  ∃m' F',AC af 99 [.ptr s 0,.I v,IA z o ks] m=some (.I (oX l v ks).1,m')/\dW m' s F' arms most (oX l v ks).2/\Fr m m' F/\Gr m F F':=by
 obtain ⟨k0,ks,rfl⟩:=List.exists_cons_of_ne_nil hne;subst hz
 have hv:¬ v<0/\(k0::ks).length<=64:=by
  rcases hn with ⟨_,h2,_⟩|⟨h1,_,_,_,h5⟩
  .cases h2
  .exact ⟨by simp only[iF] at h1;omega,h5⟩
 rw[T99,iT,ae];have w:=Wq (m:=m) (.ptr s 0) v false o k0 ks aa (HB (aH f99)) (k0::ks).length 0 aa;rw[gC] at w;rw[show (AV.I 0)=.I ((0:Nat):Int) from rfl,w,qa1]
 by_cases ha:((k0::ks).all fun k=>k==k0)=true
 .rw[aq ha,aq ha,qi0,FW aA,ae,gP,ae];exact ⟨m,F,rfl,h,Fr.refl _ _,Gr.refl _ _⟩
 .rw[an ha,an ha]
  have hk:rl (.lst none false o (((iF v (k0::ks)).kids).map (AV.int .i64)))=fD (iF v (k0::ks)):=by
   unfold fD;rw[an (show ¬ (iF v (k0::ks)).var<0 from hv.1)]
   rcases ho with rfl|⟨t,e,rfl⟩<;>rfl
  obtain ⟨m',F',e,h1,h2,h3⟩:=qbH h hn (z:=false) (o:=o) hk hl oR;refine ⟨m',F',?_,h1,h2,h3⟩;have e:AC af 139 [.ptr s 0,.agg [.I v,IA false o (k0::ks),.I 0]] m=_:=e;rw[e,ae,qiZ]
theorem uI{f g:Nat}{vs:List AV}{m:ai}{K:AV->ai->OM}(h1:((af.lib g).isNone&&(af.libm g).isNone)=true)(h2:af.inl f g=true)(h3:af.thaw f g=false)(h4:af.frzc f g=false:=by rfl):jZ af f (AP af) (AC af) none g vs m K=(AC af g vs m).bind fun r=>K r.1 r.2:=by
 have h5:af.lib g=none/\af.libm g=none:=by
  rw[cD] at h1;exact ⟨Option.isNone_iff_eq_none.1 h1.1,Option.isNone_iff_eq_none.1 h1.2⟩
 unfold jZ;rw[h5.2,h5.1,h2,h4,h3]
theorem SC{g:Nat}{caps:List AV}{id:Int}{l':List ND}(h:dW m s F arms most l)(h1:((af.lib g).isNone&&(af.libm g).isNone)=true)(h2:af.inl 84 g=true)(h3:af.thaw 84 g=false)
  (hc:∀m1,Fr m m1 []->∃m' F',AC af g caps m1=some (.I id,m')/\dW m' s F' arms most l'/\Fr m1 m' F/\Gr m1 F F') :
  ∃m' F',AC af 84 [.ptr s 0,.fn g caps] m=some (.tup [.I id,.I 0],m')/\dW m' s F' arms most l'/\Fr m m' F/\Gr m F F':=by
 have hlt:=h.lt;obtain ⟨p,na,T,h,rfl⟩:=h;have hs:=h.hs;have mM:=bW hs
 have hlen:aM false na=some (.I l.length):=by
  cases h.hn with
  | none=>rfl
  | some t l ht=>rw[qy,bu]
 obtain ⟨m2,F2,e2,k1,k2,k3⟩:=hc (List.set (((m++[some (Ent.B [.ptr s 0])])++[some (Ent.B [.I 0])])++[some (Ent.B [.I 0])]++[some (Ent.B [.I 0])]) (m.length+1+1+1) (some (Ent.B [.I l.length]))) (((((Fr.app m _ _).snoc _).snoc _).snoc _).set _ (.inr aa));have len2:=k2.len;simp only[il,aW,ba,bo] at len2
 have g1:ai.get m2 (m.length+1)=some (Ent.B [.I 0]):=by
  rw[k2.get _ aA (fun hx=>by have:=hlt _ hx;omega)];exact (by simp (disch:=first|assumption|omega|simp only[b7]<;>omega|fail) only[ik,cK,cJ,cQ,di]<;>rfl)
 have g2:ai.get m2 (m.length+2)=some (Ent.B [.I 0]):=by
  rw[k2.get _ aA (fun hx=>by have:=hlt _ hx;omega)];exact (by simp (disch:=first|assumption|omega|simp only[b7]<;>omega|fail) only[ik,cK,cJ,cQ,di]<;>rfl)
 have e:AC af 84 [.ptr s 0,.fn g caps] m=some (.tup [.I id,.I 0],(m2.set (m.length+1) (some (Ent.B [.I id]))).set (m.length+1+1) (some (Ent.B [.I 0]))):=by
  rw[Vx]
  repeat ((with_reducible first|apply bs|apply fB);(focus first|(simp (disch:=first|assumption|omega|simp only[b7]<;>omega|fail) only[fA,beq_self_eq_true,dz,ae,Sh.size,bJ,b9,Nat.reduceAdd,Nat.reduceLeDiff,aR,hs,hlen,qL]<;>rfl)|rfl);try dsimp only)
  rw[bF,uI h1 h2 h3,e2,ae];dsimp only
  repeat ((with_reducible first|apply bs|apply fB);(focus first|(simp (disch:=first|assumption|omega|simp only[b7]<;>omega|fail) only[fA,beq_self_eq_true,dz,ae,Sh.size,bJ,b9,Nat.reduceAdd,Nat.reduceLeDiff,aR,g1,g2]<;>rfl)|rfl);try dsimp only)
 refine ⟨_,F2,e,?_,?_,?_⟩
 .refine k1.move fun x hx=>?_
  have hx2:x≠m.length+1/\x≠m.length+1+1:=by
   rcases k3 x hx with h|h
   .have:=hlt x h;omega
   .simp only[il,aW,ba,bo] at h;omega
  rw[cQ hx2.2,cQ hx2.1]
 .have f1:Fr m m2 (s::p::T):=Fr.trans (((((Fr.app m _ _).snoc _).snoc _).snoc _).set _ (.inr aa)) k2 fun x hx=>.inl hx;exact (f1.set _ (.inr (by omega))).set _ (.inr aa)
 .intro x hx
  rcases k3 x hx with h|h
  .exact .inl h
  .simp only[il,aW,ba,bo] at h;exact .inr aa
end
end Go.Ab
namespace Go.Ab
open Go.Proofs Go.Proofs.Tryz
section
variable {m:ai} {s:Nat} {F:List Nat} {arms:AV} {most:Int} {l:List ND}
theorem not_mem_nil{F:List Nat}:∀x∈F,x∉([]:List Nat):=fun _ _ h=>by cases h
theorem dW.app(h:dW m s F arms most l){m':ai}(f:Fr m m' []):dW m' s F arms most l:=h.fr f not_mem_nil
def yO(l:List ND)(x:Int):(Int×Int)×List ND:=if 0<=x/\x<=2147483647 then ((((l.idxOf (ja x):Nat):Int),0),jD l (ja x)) else ((0,1),l)
theorem A53{b1 b2:Nat}{x:Int}(h:dW m s F arms most l)(h1:m.get b1=some (Ent.B [.ptr s 0]))(h2:m.get b2=some (Ent.B [.I x]))(hx:0<=x/\x<=2147483647)(hl:(l.length:Int)<most)(oR:most<=1073741824) :
  ∃m' F',AC af 95 [.ptr b1 0,.ptr b2 0] m=some (.I (l.idxOf (ja x):Nat),m')/\dW m' s F' arms most (jD l (ja x))/\Fr m m' F/\Gr m F F':=by
 obtain ⟨m',F',e,k⟩:=SE h hx hl oR;refine ⟨m',F',?_,k⟩;rw[T95]
 repeat ((with_reducible first|apply bs|apply fB);(focus first|(simp (disch:=first|assumption|omega|simp only[b7]<;>omega|fail) only[fA,beq_self_eq_true,dz,ae,Sh.size,bJ,b9,Nat.reduceAdd,Nat.reduceLeDiff,aR,h1,h2,e]<;>rfl)|rfl);try dsimp only)
theorem A15(h:dW m s F arms most l)(x:Int)(hl:(l.length:Int)<most)(oR:most<=1073741824) :
  ∃m' F',AC af 33 [.ptr s 0,.I x] m=some (.tup [.I (yO l x).1.1,.I (yO l x).1.2],m')/\dW m' s F' arms most (yO l x).2/\Fr m m' F/\Gr m F F':=by
 have f2:Fr m ((m++[some (Ent.B [.ptr s 0])])++[some (Ent.B [.I x])]) []:=(Fr.app m _ _).snoc _;have h2:=h.app f2;have e50:=DB h2 aa;have hlt:=h.lt
 by_cases hx:0<=x/\x<=2147483647
 .have hd:decide (0<=x/\x<=2147483647)=true:=bM hx
  obtain ⟨m',F',e52,k1,k2,k3⟩:=SC (g:=95) (caps:=[.ptr m.length 0,.ptr (m.length+1) 0]) (id:=(l.idxOf (ja x):Nat)) h2 rfl rfl rfl
   (fun m1 fr=>A53 (h2.app fr) (by rw[fr.get _ aA aA];exact (by simp (disch:=first|assumption|omega|simp only[b7]<;>omega|fail) only[ik,cK,cJ,cQ,di]<;>rfl)) (by rw[fr.get _ aA aA];exact (by simp (disch:=first|assumption|omega|simp only[b7]<;>omega|fail) only[ik,cK,cJ,cQ,di]<;>rfl)) hx hl oR)
  refine ⟨m',F',?_,by rw[yO,aq hx];exact k1,Fr.trans (f2.mono aA) k2 fun _ h=>.inl h,Gr.trans f2.len (Gr.refl m F) k3⟩;rw[Vr,yO,aq hx]
  repeat ((with_reducible first|apply bs|apply fB);(focus first|(simp (disch:=first|assumption|omega|simp only[b7]<;>omega|fail) only[fA,beq_self_eq_true,dz,ae,Sh.size,bJ,b9,Nat.reduceAdd,Nat.reduceLeDiff,aR,qL,wj,e50]<;>rfl)|rfl);try dsimp only)
  rw[gT]
  repeat ((with_reducible first|apply bs|apply fB);(focus first|(simp (disch:=first|assumption|omega|simp only[b7]<;>omega|fail) only[fA,beq_self_eq_true,dz,ae,Sh.size,bJ,b9,Nat.reduceAdd,Nat.reduceLeDiff,aR,qL,wj,Ro,hd]<;>rfl)|rfl);try dsimp only)
  rw[jj,gT]
  repeat ((with_reducible first|apply bs|apply fB);(focus first|(simp (disch:=first|assumption|omega|simp only[b7]<;>omega|fail) only[fA,beq_self_eq_true,dz,ae,Sh.size,bJ,b9,Nat.reduceAdd,Nat.reduceLeDiff,aR,e52]<;>rfl)|rfl);try dsimp only)
 .have hd:decide (0<=x/\x<=2147483647)=false:=bD hx;refine ⟨_,F,?_,by rw[yO,an hx];exact h2,f2.mono aA,Gr.refl _ _⟩;rw[Vr,yO,an hx]
  repeat ((with_reducible first|apply bs|apply fB);(focus first|(simp (disch:=first|assumption|omega|simp only[b7]<;>omega|fail) only[fA,beq_self_eq_true,dz,ae,Sh.size,bJ,b9,Nat.reduceAdd,Nat.reduceLeDiff,aR,qL,wj,e50]<;>rfl)|rfl);try dsimp only)
  rw[gT]
  repeat ((with_reducible first|apply bs|apply fB);(focus first|(simp (disch:=first|assumption|omega|simp only[b7]<;>omega|fail) only[fA,beq_self_eq_true,dz,ae,Sh.size,bJ,b9,Nat.reduceAdd,Nat.reduceLeDiff,aR,qL,wj,Ro,hd]<;>rfl)|rfl);try dsimp only)
  rw[my,ll]
def vm(a:Nat)(l:List ND)(v k:Int):Bool:=decide (0<=k/\k<l.length)&&decide (v<dP a (l.getD k.toNat ⟨0,[],0⟩))
def xe(ar:List Int)(l:List ND)(v:Int)(ks:List Int):(Int×Int)×List ND:=
 if 0<=v/\v<ar.length/\(ks.length:Int)=ar.getD v.toNat 0/\ks.all (vm ar.length l v)=true then (((oX l v ks).1,0),(oX l v ks).2) else ((0,1),l)
theorem A55{z:Bool}{o:Own}{ar:List Int}{b1 b2:Nat}{k v:Int}(h:dW m s F (IA z o ar) most l)(h1:m.get b1=some (Ent.B [.ptr s 0]))(h2:m.get b2=some (Ent.B [.I v])) :
  ∃m',AC af 97 [.I k,.ptr b1 0,.ptr b2 0] m=some (.bool (!vm ar.length l v k),m')/\Fr m m' []:=by
 have e56:=L6 h k;have nQ:=bW h1;have jC:=bW h2
 by_cases hk:0<=k/\k<l.length
 .have hd:decide (0<=k/\k<l.length)=true:=bM hk;obtain ⟨i,rfl⟩:=nE hk.1;have hi:i<l.length:=aa;obtain ⟨m',e57,f⟩:=L7 h hi;refine ⟨m',?_,f⟩;have iZ:m'.get b2=some (Ent.B [.I v]):=(f.get _ jC (by simp)).trans h2;rw[Vz]
  repeat ((with_reducible first|apply bs|apply fB);(focus first|(simp (disch:=first|assumption|omega|simp only[b7]<;>omega|fail) only[fA,beq_self_eq_true,dz,ae,Sh.size,bJ,b9,Nat.reduceAdd,Nat.reduceLeDiff,aR,h1,e56]<;>rfl)|rfl);try dsimp only)
  rw[hd,jj,gT]
  repeat ((with_reducible first|apply bs|apply fB);(focus first|(simp (disch:=first|assumption|omega|simp only[b7]<;>omega|fail) only[fA,beq_self_eq_true,dz,ae,Sh.size,bJ,b9,Nat.reduceAdd,Nat.reduceLeDiff,aR,h1,h2,e57]<;>rfl)|rfl);try dsimp only)
  rw[yK (by simp only[fK,iZ,mg,ae];rfl)]
  repeat ((with_reducible first|apply bs|apply fB);(focus first|(simp (disch:=first|assumption|omega|simp only[b7]<;>omega|fail) only[fA,beq_self_eq_true,dz,ae,Sh.size,bJ,b9,Nat.reduceAdd,Nat.reduceLeDiff,aR]<;>rfl)|rfl);try dsimp only)
  rw[vm,hd,dd,cU,aT,bP hi,fk];congr 3;rw[<- decide_not];exact jm.2 aa
 .have hd:decide (0<=k/\k<l.length)=false:=bD hk;refine ⟨m,?_,Fr.refl _ _⟩;rw[Vz]
  repeat ((with_reducible first|apply bs|apply fB);(focus first|(simp (disch:=first|assumption|omega|simp only[b7]<;>omega|fail) only[fA,beq_self_eq_true,dz,ae,Sh.size,bJ,b9,Nat.reduceAdd,Nat.reduceLeDiff,aR,h1,e56]<;>rfl)|rfl);try dsimp only)
  rw[hd,my,ll,yK rfl,vm,hd,iv,my]
theorem Wy{z:Bool}{o:Own}{ks:List Int}{g:Nat}{caps:List AV}{p:Int->Bool}(hlen:ks.length<=100000)(h1:((af.lib g).isNone&&(af.libm g).isNone)=true)(h2:af.inl 145 g=true)(h3:af.thaw 145 g=false)(m0:ai)
  (hc:∀m1 k,Fr m0 m1 []->∃m',AC af g (.I k::caps) m1=some (.bool (p k),m')/\Fr m1 m' []):∀(j i:Nat) (m1:ai),i+j=ks.length->Fr m0 m1 [] ->
  ∃m' v,BM (IA z o ks) (.fn g caps) (.I ks.length) (.I i) m1 (BI (aH f145))=some (.I v,m')/\decide (v≥0)=(ks.drop i).any p/\Fr m0 m' []
 | 0,i,m1,h,f=>by
  refine ⟨m1,-1,?_,?_,f⟩
  .rw[TJ,bz,ae,aC,an aa,qfo]
  .rw[gU aa];rfl
 | j+1,i,m1,h,f=>by
  have hi:i<ks.length:=aa;obtain ⟨m2,e,f2⟩:=hc m1 ks[i] f;have f3:Fr m0 m2 []:=Fr.trans f f2 fun x hx=>by cases hx
  have e0:BM (IA z o ks) (.fn g caps) (.I ks.length) (.I i) m1 (BI (aH f145)) =
    aB (.bool (p ks[i])) (some (.I i,m2)) (BM (IA z o ks) (.fn g caps) (.I ks.length) (.I (i+1:Nat)) m2 (BI (aH f145))):=by
   rw[TJ,bz,ae,aC,aq aa,j6 hi,ae,gP,ae,show kI (.fn g caps)=some (g,caps) from rfl,ae,uI h1 h2 h3,List.singleton_append,e,ae,qfn,bU aa,ae]
  rw[e0,jP hi,List.any_cons]
  cases hp:p ks[i] with
  | true=>
   rw[ll];exact ⟨m2,i,rfl,aA,f3⟩
  | false=>
   rw[gT];obtain ⟨m',v,e1,e2,e3⟩:=Wy hlen h1 h2 h3 m0 hc j (i+1) m2 aa f3;exact ⟨m',v,e1,by rw[e2,uu],e3⟩
theorem SB{z:Bool}{o:Own}{ks:List Int}{g:Nat}{caps:List AV}{p:Int->Bool}(hlen:ks.length<=100000)(h1:((af.lib g).isNone&&(af.libm g).isNone)=true)(h2:af.inl 145 g=true)(h3:af.thaw 145 g=false)
  (hc:∀m1 k,Fr m m1 []->∃m',AC af g (.I k::caps) m1=some (.bool (p k),m')/\Fr m1 m' []):∃m',AC af 92 [IA z o ks,.fn g caps] m=some (.bool (ks.any p),m')/\Fr m m' []:=by
 obtain ⟨m',v,e1,e2,e3⟩:=Wy (z:=z) (o:=o) hlen h1 h2 h3 m hc ks.length 0 m aa (Fr.refl _ _);refine ⟨m',?_,e3⟩;rw[T92,qj1,iT,ae,show (AV.I 0)=.I ((0:Nat):Int) from rfl,e1,ae,show ((0:Nat):Int)=0 from rfl];rw[ki,ae,e2,gC]
theorem A58{z:Bool}{o:Own}{ar:List Int}{b1 b2 b3:Nat}{v:Int}{kz:Bool}{ko:Own}{ks:List Int}(h:dW m s F (IA z o ar) most l)(h1:m.get b1=some (Ent.B [.ptr s 0]))(h2:m.get b2=some (Ent.B [.I v]))(h3:m.get b3=some (Ent.B [IA kz ko ks]))
  (hne:ks≠[]) (hz:kz=false) (hn:(iF v ks).ok) (hl:(l.length:Int)<most) (oR:most<=1073741824) :
  ∃m' F',AC af 98 [.ptr b1 0,.ptr b2 0,.ptr b3 0] m=some (.I (oX l v ks).1,m')/\dW m' s F' (IA z o ar) most (oX l v ks).2/\Fr m m' F/\Gr m F F':=by
 subst hz
 have fZ:ks.length<=64:=by
  rcases hn with ⟨_,h2,_⟩|⟨_,_,_,_,h5⟩
  .exact absurd h2 hne
  .exact h5
 have hcl:Ad false ks=IA false .no ks:=by unfold Ad;rw[an aA,an hne]
 have c49:=fun m=>Rn false ko ks aa m;obtain ⟨m',F',e,k⟩:=SF h hne hn (z:=false) rfl (.inl rfl) hl oR;refine ⟨m',F',?_,k⟩;rw[T98]
 repeat ((with_reducible first|apply bs|apply fB);(focus first|(simp (disch:=first|assumption|omega|simp only[b7]<;>omega|fail) only[fA,beq_self_eq_true,dz,ae,Sh.size,bJ,b9,Nat.reduceAdd,Nat.reduceLeDiff,aR,h1,h2,h3,c49,hcl]<;>rfl)|rfl);try dsimp only)
 rw[yK (by simp only[fK,h1,mg,ae];rfl),yK (by simp only[fK,h2,mg,ae];rfl)]
 repeat ((with_reducible first|apply bs|apply fB);(focus first|(simp (disch:=first|assumption|omega|simp only[b7]<;>omega|fail) only[fA,beq_self_eq_true,dz,ae,Sh.size,bJ,b9,Nat.reduceAdd,Nat.reduceLeDiff,aR,e]<;>rfl)|rfl);try dsimp only)
theorem WN(ks:List Int)(p:Int->Bool):ks.any (fun k=>!p k) = !ks.all p:=by
 induction ks with
 | nil=>rfl
 | cons k ks ih=>rw[List.any_cons,nF,ih,Bool.not_and]
theorem EM(z:Bool)(o:Own)(es:List AV)(m:ai):dp none none m (.lst none z o es)=some (.ptr m.length 0,m++[some (Ent.B [.lst none z o es])]):=rfl
theorem A17{z:Bool}{o:Own}{ar:List Int}{kz:Bool}{ko:Own}{ks:List Int}(h:dW m s F (IA z o ar) most l)(v:Int)(hz:kz=true->ks=[])(har:∀a∈ar,1<=a/\a<=64)(quZ:ar.length<=16)(fZ:ks.length<=1000)(hl:(l.length:Int)<most)(oR:most<=100000) :
  ∃m' F',AC af 34 [.ptr s 0,.I v,IA kz ko ks] m=some (.tup [.I (xe ar l v ks).1.1,.I (xe ar l v ks).1.2],m')/\dW m' s F' (IA z o ar) most (xe ar l v ks).2/\Fr m m' F/\Gr m F F':=by
 have f3:Fr m (((m++[some (Ent.B [.ptr s 0])])++[some (Ent.B [.I v])])++[some (Ent.B [IA kz ko ks])]) []:=((Fr.app m _ _).snoc _).snoc _;have h3:=h.app f3;have e50:=DB h3 aa
 have hs:∃na p,ai.get m s=some (Ent.B [IA z o ar,na,.mref p,.I most]):=by
  obtain ⟨p,na,T,h,rfl⟩:=h;exact ⟨na,p,h.hs⟩
 obtain ⟨na,p,hs⟩:=hs;have mM:=bW hs;have bad:¬ (0<=v/\v<ar.length/\(ks.length:Int)=ar.getD v.toNat 0/\ks.all (vm ar.length l v)=true)->xe ar l v ks=((0,1),l):=fun hb=>by rw[xe,an hb]
 by_cases tS:v<0
 .refine ⟨_,F,?_,by rw[bad aa];exact h3,f3.mono aA,Gr.refl _ _⟩;rw[Ev,bad aa]
  repeat ((with_reducible first|apply bs|apply fB);(focus first|(simp (disch:=first|assumption|omega|simp only[b7]<;>omega|fail) only[fA,beq_self_eq_true,dz,ae,Sh.size,bJ,b9,Nat.reduceAdd,Nat.reduceLeDiff,aR,qL,wj,EM,e50]<;>rfl)|rfl);try dsimp only)
  rw[gT]
  repeat ((with_reducible first|apply bs|apply fB);(focus first|(simp (disch:=first|assumption|omega|simp only[b7]<;>omega|fail) only[fA,beq_self_eq_true,dz,ae,Sh.size,bJ,b9,Nat.reduceAdd,Nat.reduceLeDiff,aR]<;>rfl)|rfl);try dsimp only)
  rw[aC,aq tS]
 by_cases kZ:v≥ar.length
 .refine ⟨_,F,?_,by rw[bad aa];exact h3,f3.mono aA,Gr.refl _ _⟩;rw[Ev,bad aa]
  repeat ((with_reducible first|apply bs|apply fB);(focus first|(simp (disch:=first|assumption|omega|simp only[b7]<;>omega|fail) only[fA,beq_self_eq_true,dz,ae,Sh.size,bJ,b9,Nat.reduceAdd,Nat.reduceLeDiff,aR,qL,wj,EM,e50]<;>rfl)|rfl);try dsimp only)
  rw[gT]
  repeat ((with_reducible first|apply bs|apply fB);(focus first|(simp (disch:=first|assumption|omega|simp only[b7]<;>omega|fail) only[fA,beq_self_eq_true,dz,ae,Sh.size,bJ,b9,Nat.reduceAdd,Nat.reduceLeDiff,aR]<;>rfl)|rfl);try dsimp only)
  rw[aC,an tS]
  repeat ((with_reducible first|apply bs|apply fB);(focus first|(simp (disch:=first|assumption|omega|simp only[b7]<;>omega|fail) only[fA,beq_self_eq_true,dz,ae,Sh.size,bJ,b9,Nat.reduceAdd,Nat.reduceLeDiff,aR,hs]<;>rfl)|rfl);try dsimp only)
  rw[aC,aq kZ]
 obtain ⟨i,rfl⟩:=nE (by omega:0<=v);have hi:i<ar.length:=aa;have iy:=j6 (z:=z) (o:=o) (k:=.i64) hi;have PO:ar.getD ((i:Int).toNat) 0=ar[i]:=by rw[cU,aT,bP hi,fk]
 have jc:=har ar[i] (bA hi);by_cases hk:(ks.length:Int)=ar[i]
 case neg=>
  refine ⟨_,F,?_,by rw[bad (by rw[PO];omega)];exact h3,f3.mono aA,Gr.refl _ _⟩;rw[Ev,bad (by rw[PO];omega)]
  repeat ((with_reducible first|apply bs|apply fB);(focus first|(simp (disch:=first|assumption|omega|simp only[b7]<;>omega|fail) only[fA,beq_self_eq_true,dz,ae,Sh.size,bJ,b9,Nat.reduceAdd,Nat.reduceLeDiff,aR,qL,wj,EM,e50]<;>rfl)|rfl);try dsimp only)
  rw[gT]
  repeat ((with_reducible first|apply bs|apply fB);(focus first|(simp (disch:=first|assumption|omega|simp only[b7]<;>omega|fail) only[fA,beq_self_eq_true,dz,ae,Sh.size,bJ,b9,Nat.reduceAdd,Nat.reduceLeDiff,aR]<;>rfl)|rfl);try dsimp only)
  rw[aC,an tS]
  repeat ((with_reducible first|apply bs|apply fB);(focus first|(simp (disch:=first|assumption|omega|simp only[b7]<;>omega|fail) only[fA,beq_self_eq_true,dz,ae,Sh.size,bJ,b9,Nat.reduceAdd,Nat.reduceLeDiff,aR,hs]<;>rfl)|rfl);try dsimp only)
  rw[aC,an kZ]
  repeat ((with_reducible first|apply bs|apply fB);(focus first|(simp (disch:=first|assumption|omega|simp only[b7]<;>omega|fail) only[fA,beq_self_eq_true,dz,ae,Sh.size,bJ,b9,Nat.reduceAdd,Nat.reduceLeDiff,aR,hs,iy]<;>rfl)|rfl);try dsimp only)
  rw[aC,aq hk]
 have hne:ks≠[]:=fun e=>by rw[e] at hk;simp at hk;omega
 have hzf:kz=false:=by cases kz with
  | false=>rfl
  | true=>exact absurd (hz rfl) hne
 obtain ⟨m4,e47,f4⟩:=SB (m:=(((m++[some (Ent.B [.ptr s 0])])++[some (Ent.B [.I i])])++[some (Ent.B [IA kz ko ks])])) (z:=kz) (o:=ko) (ks:=ks) (g:=97) (caps:=[.ptr m.length 0,.ptr (m.length+1) 0]) (p:=fun k=>!vm ar.length l i k) aa rfl rfl rfl
  (fun m1 k fr=>A55 (h3.app fr) (by rw[fr.get _ aA aA];exact (by simp (disch:=first|assumption|omega|simp only[b7]<;>omega|fail) only[ik,cK,cJ,cQ,di]<;>rfl)) (by rw[fr.get _ aA aA];exact (by simp (disch:=first|assumption|omega|simp only[b7]<;>omega|fail) only[ik,cK,cJ,cQ,di]<;>rfl)))
 rw[WN] at e47;have h4:=h3.app f4;have f34:Fr m m4 []:=Fr.trans f3 f4 fun x hx=>by cases hx
 have g1:m4.get m.length=some (Ent.B [.ptr s 0]):=by rw[f4.get _ aA aA];exact (by simp (disch:=first|assumption|omega|simp only[b7]<;>omega|fail) only[ik,cK,cJ,cQ,di]<;>rfl)
 have g2:m4.get (m.length+1)=some (Ent.B [.I i]):=by rw[f4.get _ aA aA];exact (by simp (disch:=first|assumption|omega|simp only[b7]<;>omega|fail) only[ik,cK,cJ,cQ,di]<;>rfl)
 have g3:m4.get (m.length+1+1)=some (Ent.B [IA kz ko ks]):=by rw[f4.get _ aA aA];exact (by simp (disch:=first|assumption|omega|simp only[b7]<;>omega|fail) only[ik,cK,cJ,cQ,di]<;>rfl)
 by_cases ha:ks.all (vm ar.length l i)=true
 case neg=>
  have Ax:ks.all (vm ar.length l i)=false:=by simpa using ha
  refine ⟨_,F,?_,by rw[bad (by rw[Ax];simp)];exact h4,f34.mono aA,Gr.refl _ _⟩;rw[Ev,bad (by rw[Ax];simp)]
  repeat ((with_reducible first|apply bs|apply fB);(focus first|(simp (disch:=first|assumption|omega|simp only[b7]<;>omega|fail) only[fA,beq_self_eq_true,dz,ae,Sh.size,bJ,b9,Nat.reduceAdd,Nat.reduceLeDiff,aR,qL,wj,EM,e50]<;>rfl)|rfl);try dsimp only)
  rw[gT]
  repeat ((with_reducible first|apply bs|apply fB);(focus first|(simp (disch:=first|assumption|omega|simp only[b7]<;>omega|fail) only[fA,beq_self_eq_true,dz,ae,Sh.size,bJ,b9,Nat.reduceAdd,Nat.reduceLeDiff,aR]<;>rfl)|rfl);try dsimp only)
  rw[aC,an tS]
  repeat ((with_reducible first|apply bs|apply fB);(focus first|(simp (disch:=first|assumption|omega|simp only[b7]<;>omega|fail) only[fA,beq_self_eq_true,dz,ae,Sh.size,bJ,b9,Nat.reduceAdd,Nat.reduceLeDiff,aR,hs]<;>rfl)|rfl);try dsimp only)
  rw[aC,an kZ]
  repeat ((with_reducible first|apply bs|apply fB);(focus first|(simp (disch:=first|assumption|omega|simp only[b7]<;>omega|fail) only[fA,beq_self_eq_true,dz,ae,Sh.size,bJ,b9,Nat.reduceAdd,Nat.reduceLeDiff,aR,hs,iy]<;>rfl)|rfl);try dsimp only)
  rw[aC,an aa]
  repeat ((with_reducible first|apply bs|apply fB);(focus first|(simp (disch:=first|assumption|omega|simp only[b7]<;>omega|fail) only[fA,beq_self_eq_true,dz,ae,Sh.size,bJ,b9,Nat.reduceAdd,Nat.reduceLeDiff,aR,e47]<;>rfl)|rfl);try dsimp only)
  rw[Ax,my,ll]
 have good:xe ar l i ks=(((oX l i ks).1,0),(oX l i ks).2):=by rw[xe,aq ⟨aa,aa,by rw[PO];exact hk,ha⟩]
 have hn:(iF i ks).ok:=by
  refine .inr ⟨by simp only[iF];omega,by simp only[iF];omega,rfl,fun k ck=>?_,by simp only[iF];omega⟩;have:=gD.1 ha k ck;unfold vm at this;simp only[cD,oM] at this;omega
 obtain ⟨m',F',e52,k1,k2,k3⟩:=SC (g:=98) (caps:=[.ptr m.length 0,.ptr (m.length+1) 0,.ptr (m.length+1+1) 0]) (id:=(oX l i ks).1) (l':=(oX l i ks).2) h4 rfl rfl rfl
  (fun m1 fr=>A58 (h4.app fr) (by rw[fr.get _ (bW g1) aA];exact g1) (by rw[fr.get _ (bW g2) aA];exact g2) (by rw[fr.get _ (bW g3) aA];exact g3) hne hzf hn hl aa)
 refine ⟨m',F',?_,by rw[good];exact k1,Fr.trans (f34.mono aA) k2 fun _ h=>.inl h,Gr.trans f34.len (Gr.refl m F) k3⟩;rw[Ev,good]
 repeat ((with_reducible first|apply bs|apply fB);(focus first|(simp (disch:=first|assumption|omega|simp only[b7]<;>omega|fail) only[fA,beq_self_eq_true,dz,ae,Sh.size,bJ,b9,Nat.reduceAdd,Nat.reduceLeDiff,aR,qL,wj,EM,e50]<;>rfl)|rfl);try dsimp only)
 rw[gT]
 repeat ((with_reducible first|apply bs|apply fB);(focus first|(simp (disch:=first|assumption|omega|simp only[b7]<;>omega|fail) only[fA,beq_self_eq_true,dz,ae,Sh.size,bJ,b9,Nat.reduceAdd,Nat.reduceLeDiff,aR]<;>rfl)|rfl);try dsimp only)
 rw[aC,an tS]
 repeat ((with_reducible first|apply bs|apply fB);(focus first|(simp (disch:=first|assumption|omega|simp only[b7]<;>omega|fail) only[fA,beq_self_eq_true,dz,ae,Sh.size,bJ,b9,Nat.reduceAdd,Nat.reduceLeDiff,aR,hs]<;>rfl)|rfl);try dsimp only)
 rw[aC,an kZ]
 repeat ((with_reducible first|apply bs|apply fB);(focus first|(simp (disch:=first|assumption|omega|simp only[b7]<;>omega|fail) only[fA,beq_self_eq_true,dz,ae,Sh.size,bJ,b9,Nat.reduceAdd,Nat.reduceLeDiff,aR,hs,iy]<;>rfl)|rfl);try dsimp only)
 rw[aC,an aa]
 repeat ((with_reducible first|apply bs|apply fB);(focus first|(simp (disch:=first|assumption|omega|simp only[b7]<;>omega|fail) only[fA,beq_self_eq_true,dz,ae,Sh.size,bJ,b9,Nat.reduceAdd,Nat.reduceLeDiff,aR,e47]<;>rfl)|rfl);try dsimp only)
 rw[ha,jj,gT]
 repeat ((with_reducible first|apply bs|apply fB);(focus first|(simp (disch:=first|assumption|omega|simp only[b7]<;>omega|fail) only[fA,beq_self_eq_true,dz,ae,Sh.size,bJ,b9,Nat.reduceAdd,Nat.reduceLeDiff,aR,g1,e52]<;>rfl)|rfl);try dsimp only)
end
end Go.Ab
namespace Go.Ab
theorem C5{α:Type}{l:List α}(h:l.Nodup){i j:Nat}(hi:i<l.length)(hj:j<l.length)(e:l[i]=l[j]):i=j:=by
 have hp:=List.pairwise_iff_getElem.1 h
 rcases Nat.lt_trichotomy i j with hh|hh|hh
 .exact absurd e (hp i j hi hj hh)
 .exact hh
 .exact absurd e.symm (hp j i hj hi hh)
structure GoodL (ar:List Int) (l:List ND):Prop where
 ok:∀n∈l,n.ok
 nd:l.Nodup
 var:∀(i:Nat) (h:i<l.length),0<=l[i].var->l[i].var<ar.length/\(l[i].kids.length:Int)=ar.getD l[i].var.toNat 0
 kid:∀(i:Nat) (h:i<l.length),0<=l[i].var->∀k∈l[i].kids,∃t:Nat,k=t/\t<i/\∀(ht:t<l.length),l[i].var<dP ar.length l[t]
 dif:∀(i:Nat) (h:i<l.length),0<=l[i].var->∃k∈l[i].kids,k≠l[i].kids.headD 0
def vz(l:List ND)(a:Nat->Nat):Nat->Nat->Int
 | 0,_=>0
 | n+1,i=>match l[i]? with
  | none=>0
  | some x=>if x.var<0 then x.leaf else vz l a n (x.kids.getD (a x.var.toNat) 0).toNat
def S(l:List ND)(a:Nat->Nat)(i:Nat):Int:=vz l a (i+1) i
def iS(ar:List Int)(a:Nat->Nat):Prop:=∀v,v<ar.length->(a v:Int)<ar.getD v 0
def upd(a:Nat->Nat)(v k:Nat):Nat->Nat:=fun w=>if w=v then k else a w
theorem iS.upd{ar:List Int}{a:Nat->Nat}(h:iS ar a){v k:Nat}(hk:(k:Int)<ar.getD v 0):iS ar (upd a v k):=fun w hw=>by
 unfold Ab.upd
 split
 .rename_i e;rw[e];exact hk
 .exact h w hw
section
variable {ar:List Int} {l:List ND}
theorem pK(g:GoodL ar l){i:Nat}(hi:i<l.length)(hv:0<=l[i].var){k:Nat}(hk:(k:Int)<ar.getD l[i].var.toNat 0) :
  ∃t:Nat,l[i].kids.getD k 0=t/\t<i/\∀(ht:t<l.length),l[i].var<dP ar.length l[t]:=by
 have hl:=(g.var i hi hv).2;have fZ:k<l[i].kids.length:=aa;rw[aT,bP fZ,fk];exact g.kid i hi hv _ (bA fZ)
theorem qb6(g:GoodL ar l){a:Nat->Nat}(ha:iS ar a):∀(n i m:Nat),i<l.length->i<n->i<m->vz l a n i=vz l a m i
 | 0,i,m,_,h,_=>aa
 | n+1,i,0,_,_,h=>aa
 | n+1,i,m+1,hi,_,_=>by
  simp only[vz,bP hi]
  by_cases hv:l[i].var<0
  .rw[aq hv,aq hv]
  .rw[an hv,an hv];obtain ⟨kZ,rQ⟩:=g.var i hi aa;obtain ⟨t,e,ht,_⟩:=pK g hi aa (ha l[i].var.toNat aa);rw[e,cU];exact qb6 g ha n t m aa aa aa
theorem we{a:Nat->Nat}{i:Nat}(hi:i<l.length)(hv:l[i].var<0):S l a i=l[i].leaf:=by
 simp only[S,vz,bP hi,aq hv]
theorem zS(g:GoodL ar l){a:Nat->Nat}(ha:iS ar a){i:Nat}(hi:i<l.length)(hv:¬ l[i].var<0):S l a i=S l a (l[i].kids.getD (a l[i].var.toNat) 0).toNat:=by
 obtain ⟨kZ,rQ⟩:=g.var i hi aa;obtain ⟨t,e,ht,_⟩:=pK g hi aa (ha l[i].var.toNat aa);rw[e,cU];unfold S;rw[vz];simp only[bP hi,an hv,e,cU];exact qb6 g ha _ _ _ aa aa aa
theorem zQ(g:GoodL ar l){a:Nat->Nat}(ha:iS ar a){v k:Nat}(hk:(k:Int)<ar.getD v 0):∀(i:Nat) (hi:i<l.length),(v:Int)<dP ar.length l[i]->S l (upd a v k) i=S l a i:=by
 intro i
 induction i using Nat.strongRecOn with
 | ind i ih=>
  intro hi hv
  by_cases hn:l[i].var<0
  .rw[we hi hn,we hi hn]
  .rw[dP,aq aa] at hv;have hne:l[i].var.toNat≠v:=aa;have e:upd a v k l[i].var.toNat=a l[i].var.toNat:=by unfold upd;rw[an hne]
   rw[zS g (ha.upd hk) hi hn,zS g ha hi hn,e];obtain ⟨kZ,rQ⟩:=g.var i hi aa;obtain ⟨t,e,ht,h2⟩:=pK g hi aa (ha l[i].var.toNat aa);rw[e,cU];exact ih t ht aa (by have:=h2 aa;omega)
theorem Eu(g:GoodL ar l){a:Nat->Nat}(ha:iS ar a){i:Nat}(hi:i<l.length){v k:Nat}(hv:l[i].var=v)(hk:(k:Int)<ar.getD v 0):S l (upd a v k) i=S l a (l[i].kids.getD k 0).toNat:=by
 have qX:l[i].var.toNat=v:=aa;rw[zS g (ha.upd hk) hi aa,qX];have e:upd a v k v=k:=by unfold upd;rw[aq rfl]
 rw[e];obtain ⟨t,e,ht,h2⟩:=pK g hi aa (k:=k) (by rw[qX];exact hk);rw[e,cU];exact zQ g ha hk t aa (by have:=h2 aa;omega)
theorem qap{x y:List Int}(hl:x.length=y.length)(h:∀k,k<x.length->x.getD k 0=y.getD k 0):x=y:=by
 apply List.ext_getElem hl;intro i h1 h2;have:=h i h1
 rwa [aT,aT,bP h1,bP h2] at this
theorem Ra(g:GoodL ar l)(h1:∀x∈ar,1<=x){i j:Nat}(hi:i<l.length)(hv:0<=l[i].var)(h:∀k:Nat,(k:Int)<ar.getD l[i].var.toNat 0->l[i].kids.getD k 0=j):False:=by
 obtain ⟨k,hk,hne⟩:=g.dif i hi hv;have hl:=(g.var i hi hv).2
 have all:∀k∈l[i].kids,k=j:=fun k hk=>by
  obtain ⟨t,ht,e⟩:=n0 hk;have:=h t aa;rw[aT,bP ht,fk] at this;rw[<- e,this]
 apply hne;rw[all k hk]
 cases hh:l[i].kids with
 | nil=>rw[hh] at hk;cases hk
 | cons x y=>rw[List.headD_cons];exact (all x (by rw[hh];exact gj)).symm
theorem xY(h1:∀x∈ar,1<=x):iS ar fun _=>0:=fun v hv=>by
 have:=h1 (ar[v]) (bA hv);rw[aT,bP hv,fk];show ((0:Nat):Int)<_;omega
theorem canon(g:GoodL ar l)(h1:∀x∈ar,1<=x):∀(n i j:Nat) (hi:i<l.length) (hj:j<l.length),i+j<n->(∀a,iS ar a->S l a i=S l a j)->i=j:=by
 intro n
 induction n with
 | zero=>intro i j _ _ h;omega
 | succ n ih=>
  have half:∀(i j:Nat) (hi:i<l.length) (hj:j<l.length),i+j<n+1->(∀a,iS ar a->S l a i=S l a j)->¬ l[i].var<0->l[i].var<dP ar.length l[j]->False:=by
   intro i j hi hj hn h hv hlt;refine Ra g h1 hi (j:=j) aa fun k hk=>?_;obtain ⟨t,e,ht,h2⟩:=pK g hi aa hk;have qX:((l[i].var.toNat:Nat):Int)=l[i].var:=aa;rw[e];congr 1;refine ih t j aa hj aa fun a ha=>?_;have e1:=Eu g ha hi (v:=l[i].var.toNat) (k:=k) qX.symm hk;rw[e,cU] at e1;rw[<- e1,h _ (ha.upd hk)];exact zQ g ha hk j hj aa
  intro i j hi hj hn h
  by_cases FR:l[i].var<0
  .by_cases tT:l[j].var<0
   .have hs:=h _ (xY h1);rw[we hi FR,we hj tT] at hs
    have e:l[i]=l[j]:=by
     have oi:=g.ok _ (bA hi);have oj:=g.ok _ (bA hj)
     rcases oi with ⟨a1,a2,_⟩|⟨a1,_⟩
     .rcases oj with ⟨b1,b2,_⟩|⟨b1,_⟩
      .generalize l[i]=x at *;generalize l[j]=y at *;obtain ⟨xv,xk,xl⟩:=x;obtain ⟨yv,yk,yl⟩:=y;simp only at a1 a2 b1 b2 hs;rw[a1,a2,b1,b2,hs]
      .omega
     .omega
    exact C5 g.nd hi hj e
   .refine (half j i hj hi aa (fun a ha=>(h a ha).symm) tT ?_).elim;rw[dP,an aa];exact (g.var j hj (by omega)).1
  .by_cases hlt:l[i].var<dP ar.length l[j]
   .exact (half i j hi hj hn h FR hlt).elim
   .have tT:¬ l[j].var<0:=fun hh=>hlt (by rw[dP,an aa];exact (g.var i hi (by omega)).1);rw[dP,aq aa] at hlt
    by_cases hlt2:l[j].var<l[i].var
    .exact (half j i hj hi aa (fun a ha=>(h a ha).symm) tT (by rw[dP,aq aa];exact hlt2)).elim
    .have hv:l[i].var=l[j].var:=aa;have vi:=g.var i hi aa;have vj:=g.var j hj aa
     have hk:l[i].kids=l[j].kids:=by
      refine qap (by rw[hv] at vi;omega) fun k hk=>?_;have jx:(k:Int)<ar.getD l[i].var.toNat 0:=aa;have P8:(k:Int)<ar.getD l[j].var.toNat 0:=by rw[<- hv];exact jx
      obtain ⟨t,e,ht,h2⟩:=pK g hi aa jx;obtain ⟨u,e',hu,iZ⟩:=pK g hj aa P8;rw[e,e'];congr 1;refine ih t u aa aa aa fun a ha=>?_;have e1:=Eu g ha hi (v:=l[i].var.toNat) (k:=k) aa jx;have e2:=Eu g ha hj (v:=l[i].var.toNat) (k:=k) aa jx;rw[e,cU] at e1;rw[e',cU] at e2;rw[<- e1,<- e2,h _ (ha.upd jx)]
     have e:l[i]=l[j]:=by
      have oi:=g.ok _ (bA hi);have oj:=g.ok _ (bA hj)
      have li:l[i].leaf=0:=by
       rcases oi with ⟨a1,_⟩|⟨_,_,a3,_⟩
       .omega
       .exact a3
      have lj:l[j].leaf=0:=by
       rcases oj with ⟨a1,_⟩|⟨_,_,a3,_⟩
       .omega
       .exact a3
      generalize l[i]=x at *;generalize l[j]=y at *;obtain ⟨xv,xk,xl⟩:=x;obtain ⟨yv,yk,yl⟩:=y;simp only at hv hk li lj;rw[hv,hk,li,lj]
     exact C5 g.nd hi hj e
theorem I5(g:GoodL ar l)(r:List ND){a:Nat->Nat}(ha:iS ar a):∀(i:Nat),i<l.length->S (l++r) a i=S l a i:=by
 have key:∀(n i:Nat),i<l.length->i<n->vz (l++r) a n i=vz l a n i:=by
  intro n
  induction n with
  | zero=>intro i _ h;omega
  | succ n ih=>
   intro i hi _;simp only[vz,nZ hi,bP hi]
   by_cases hv:l[i].var<0
   .rw[aq hv,aq hv]
   .rw[an hv,an hv];obtain ⟨kZ,rQ⟩:=g.var i hi aa;obtain ⟨t,e,ht,_⟩:=pK g hi aa (ha l[i].var.toNat aa);rw[e,cU];exact ih t aa aa
 intro i hi;exact key _ i hi aa
theorem PE:GoodL ar []:=⟨aA,aA,fun i h=>by simp at h,fun i h=>by simp at h,fun i h=>by simp at h⟩
theorem qpN(g:GoodL ar l){n:ND}(hn:n.ok)(hne:n∉l)(h1:0<=n.var->n.var<ar.length/\(n.kids.length:Int)=ar.getD n.var.toNat 0/\(∀k∈n.kids,∃t:Nat,k=t/\∃ht:t<l.length,n.var<dP ar.length l[t])/\∃k∈n.kids,k≠n.kids.headD 0):GoodL ar (l++[n]):=by
 have old:∀i (h:i<(l++[n]).length),(∃h':i<l.length,(l++[n])[i]=l[i])\/(i=l.length/\(l++[n])[i]=n):=fun i h=>by
  by_cases hi:i<l.length
  .exact .inl ⟨hi,List.getElem_append_left hi⟩
  .have:i=l.length:=by simp at h;omega
   subst this;exact .inr ⟨rfl,aA⟩
 refine ⟨fun x hx=>?_,?_,fun i h hv=>?_,fun i h hv k hk=>?_,fun i h hv=>?_⟩
 .rcases hZ.1 hx with hx|hx
  .exact g.ok x hx
  .obtain rfl:x=n:=by simpa using hx
   exact hn
 .rw[List.nodup_append]
  exact ⟨g.nd,aA,fun a ha b hb e=>by
   obtain rfl:b=n:=by simpa using hb
   exact hne (e▸ha)⟩
 .rcases old i h with ⟨h',e⟩|⟨_,e⟩
  .rw[e] at hv ⊢;exact g.var i h' hv
  .rw[e] at hv ⊢;exact ⟨(h1 hv).1,(h1 hv).2.1⟩
 .rcases old i h with ⟨h',e⟩|⟨cE,e⟩
  .rw[e] at hv hk ⊢;obtain ⟨t,a1,a2,a3⟩:=g.kid i h' hv k hk;refine ⟨t,a1,a2,fun ht=>?_⟩;rw[List.getElem_append_left aa];exact a3 aa
  .rw[e] at hv hk ⊢;obtain ⟨t,a1,ht,a3⟩:=(h1 hv).2.2.1 k hk;refine ⟨t,a1,aa,fun vc=>?_⟩;rw[List.getElem_append_left ht];exact a3
 .rcases old i h with ⟨h',e⟩|⟨_,e⟩
  .rw[e] at hv ⊢;exact g.dif i h' hv
  .rw[e] at hv ⊢;exact (h1 hv).2.2.2
theorem ZT(n:ND)(l:List ND):∃r,jD l n=l++r/\r.length<=1/\∃h:l.idxOf n<(jD l n).length,(jD l n)[l.idxOf n]=n:=by
 unfold jD
 by_cases hm:n∈l
 .rw[aq hm];exact ⟨[],aA,aA,List.idxOf_lt_length_of_mem hm,List.getElem_idxOf _⟩
 .rw[an hm];have e:=FV hm;refine ⟨[n],rfl,aA,by rw[e];simp,?_⟩;simp[e]
theorem Yh(g:GoodL ar l){n:ND}(hn:n.ok)(h1:0<=n.var->n.var<ar.length/\(n.kids.length:Int)=ar.getD n.var.toNat 0/\(∀k∈n.kids,∃t:Nat,k=t/\∃ht:t<l.length,n.var<dP ar.length l[t])/\∃k∈n.kids,k≠n.kids.headD 0):GoodL ar (jD l n):=by
 unfold jD
 split
 .exact g
 .rename_i hm;exact qpN g hn hm h1
end
end Go.Ab
namespace Go.Ab
def cn:List Int->Nat
 | []=>1
 | n::r=>n.toNat*cn r
def oq:List Int->Nat->(Nat->Nat)->Nat
 | [],_,_=>0
 | n::r,v,a=>a v*cn r+oq r (v+1) a
theorem XP{ar:List Int}{v:Nat}(hv:v<ar.length):ar.drop v=ar.getD v 0::ar.drop (v+1):=by
 rw[aT,bP hv,fk];exact jP hv
theorem CU{ar:List Int}{v:Nat}(hv:v<ar.length)(a:Nat->Nat):oq (ar.drop v) v a=a v*cn (ar.drop (v+1))+oq (ar.drop (v+1)) (v+1) a:=by
 rw[XP hv,oq]
theorem vr{ar:List Int}{v:Nat}(hv:v<ar.length):cn (ar.drop v)=(ar.getD v 0).toNat*cn (ar.drop (v+1)):=by
 rw[XP hv,cn]
theorem CT{ar:List Int}{a:Nat->Nat}(ha:iS ar a):∀(d v:Nat),v+d=ar.length->oq (ar.drop v) v a<cn (ar.drop v)
 | 0,v,h=>by rw[gU aa];simp[oq,cn]
 | d+1,v,h=>by
  have hv:v<ar.length:=aa;have ih:=CT ha d (v+1) aa;have hk:=ha v hv;rw[CU hv,vr hv];have h2:a v+1<=(ar.getD v 0).toNat:=aa
  calc a v*cn (ar.drop (v+1))+oq (ar.drop (v+1)) (v+1) a<a v*cn (ar.drop (v+1))+cn (ar.drop (v+1)):=aa
   _=(a v+1)*cn (ar.drop (v+1)):=by rw[iI,rD]
   _<=_:=jl _ h2
theorem QD{ar:List Int}{a:Nat->Nat}{w k:Nat}:∀(d v:Nat),v+d=ar.length->w<v->oq (ar.drop v) v (upd a w k)=oq (ar.drop v) v a
 | 0,v,h,_=>by rw[gU aa];rfl
 | d+1,v,h,hw=>by
  have hv:v<ar.length:=aa;rw[CU hv,CU hv,QD d (v+1) aa aa];have:upd a w k v=a v:=by unfold upd;rw[an aa]
  rw[this]
theorem QC{ar:List Int}(h1:∀x∈ar,1<=x):∀(d v i:Nat),v+d=ar.length->i<cn (ar.drop v)->∃a,iS ar a/\oq (ar.drop v) v a=i
 | 0,v,i,h,hi=>by
  rw[gU aa] at hi ⊢;simp only[cn] at hi;exact ⟨_,xY h1,by simp only[oq];omega⟩
 | d+1,v,i,h,hi=>by
  have hv:v<ar.length:=aa;rw[vr hv] at hi;have jd:0<cn (ar.drop (v+1)):=pR fun e=>by rw[e] at hi;omega
  obtain ⟨a,ha,e⟩:=QC h1 d (v+1) (i%cn (ar.drop (v+1))) aa (kV _ jd);have hk:i/cn (ar.drop (v+1))<(ar.getD v 0).toNat:=Nat.div_lt_of_lt_mul (by rw[dF];exact hi);have J3:=xP i (cn (ar.drop (v+1)));generalize i/cn (ar.drop (v+1))=q at hk J3;refine ⟨upd a v q,ha.upd aa,?_⟩;rw[CU hv,QD d (v+1) aa aa,e];have:upd a v q v=q:=by unfold upd;rw[aq rfl]
  rw[this,dF];exact J3
def part(t:List Int)(n k:Nat):List Int:=(t.drop (k*n)).take n
theorem part_len{t:List Int}{n k a:Nat}(ht:t.length=a*n)(hk:k<a):(part t n k).length=n:=by
 unfold part;rw[im,pn,ht]
 have:k*n+n<=a*n:=by
  have:=jl n (show k+1<=a by omega)
  rwa [iI,rD] at this
 omega
theorem qbq{t:List Int}{n k r:Nat}(hr:r<n):(part t n k).getD r 0=t.getD (k*n+r) 0:=by
 unfold part;simp only[aT,rB,aq hr,te]
theorem qsC{t:List Int}{n k:Nat}:∀x∈part t n k,x∈t:=fun x hx=>List.drop_subset _ _ (List.take_subset _ _ hx)
structure TabV (ar:List Int) (l:List ND) (id v:Nat) (t:List Int):Prop where
 len:t.length=cn (ar.drop v)
 lt:id<l.length
 top:∀h:id<l.length,(v:Int)<=dP ar.length l[id]
 val:∀a,iS ar a->S l a id=t.getD (oq (ar.drop v) v a) 0
theorem TabV.app{ar:List Int}{l:List ND}{id v:Nat}{t:List Int}(g:GoodL ar l)(h:TabV ar l id v t)(r:List ND):TabV ar (l++r) id v t:=
 ⟨h.len,by have:=h.lt;simp;omega,fun hh=>by rw[List.getElem_append_left h.lt];exact h.top h.lt,fun a ha=>by rw[I5 g r ha id h.lt];exact h.val a ha⟩
theorem quf{ar:List Int}{l:List ND}{i j v:Nat}{t:List Int}(g:GoodL ar l)(h1:∀x∈ar,1<=x)(hi:TabV ar l i v t)(hj:TabV ar l j v t):i=j:=
 canon g h1 _ i j hi.lt hj.lt (Nat.lt_succ_self _) fun a ha=>(hi.val a ha).trans (hj.val a ha).symm
section
variable {ar:List Int} {l:List ND}
theorem qa3(g:GoodL ar l)(h1:∀x∈ar,1<=x/\x<=64)(dQ:ar.length<=16){v:Nat}(hv:v<ar.length){ks:List Nat}(hl:(ks.length:Int)=ar.getD v 0)(hk:∀k∈ks,∃h:k<l.length,(v:Int)<dP ar.length l[k])(fI:l.length<=900000) :
  ∃r id,oX l v (ks.map Int.ofNat)=(((id:Nat):Int),l++r)/\r.length<=1/\(ks.length=1->r=[])/\GoodL ar (l++r)/\∃h:id<(l++r).length,(v:Int)<=dP ar.length (l++r)[id]/\∀a,iS ar a->S (l++r) a id=S l a (ks.getD (a v) 0):=by
 have pA:=h1 (ar[v]) (bA hv);have aU:ar.getD v 0=ar[v]:=by rw[aT,bP hv,fk]
 rw[aU] at hl
 obtain ⟨k0,kt,rfl⟩:∃k0 kt,ks=k0::kt:=by
  cases ks with
  | nil=>simp at hl;omega
  | cons k0 kt=>exact ⟨k0,kt,rfl⟩
 rw[gh,qa1];obtain ⟨uW,qu1⟩:=hk k0 gj
 by_cases hall:((Int.ofNat k0::kt.map Int.ofNat).all fun k=>k==Int.ofNat k0)=true
 .rw[aq hall]
  refine ⟨[],k0,by rw[cu];rfl,aA,fun _=>rfl,by rw[cu];exact g,by rw[cu];exact uW,?_,fun a ha=>?_⟩
  .simp only[cu];omega
  .have hlt:a v<(k0::kt).length:=by have:=ha v hv;rw[aU] at this;omega
   have:(k0::kt).getD (a v) 0=k0:=by
    rw[aT,bP hlt,fk];have h2:=gD.1 hall (Int.ofNat (k0::kt)[a v]) (by rw[<- gh];exact List.mem_map_of_mem (bA hlt));exact Int.ofNat.inj (by simpa using h2)
   rw[this,cu]
 .rw[an hall]
  have gz:∀k∈(Int.ofNat k0::kt.map Int.ofNat),∃t:Nat,k=t/\∃ht:t<l.length,(v:Int)<dP ar.length l[t]:=fun k ck=>by
   rw[<- gh] at ck;obtain ⟨t,ht,rfl⟩:=iw.1 ck;exact ⟨t,rfl,hk t ht⟩
  have bc:(iF v (Int.ofNat k0::kt.map Int.ofNat)).ok:=by
   refine .inr ⟨by simp only[iF];omega,by simp only[iF];omega,rfl,fun k ck=>?_,?_⟩
   .obtain ⟨t,rfl,ht,_⟩:=gz k ck;omega
   .simp only[iF,ba,bu];simp only[ba] at hl;omega
  obtain ⟨r,er,hr,sI,hid⟩:=ZT (iF v (Int.ofNat k0::kt.map Int.ofNat)) l
  have gi:GoodL ar (jD l (iF v (Int.ofNat k0::kt.map Int.ofNat))):=by
   refine Yh g bc fun _=>⟨by simp only[iF];omega,?_,gz,?_⟩
   .simp only[iF,ba,bu,cU];rw[aU];simpa using hl
   .simp only[iF];rw[Bool.not_eq_true,List.all_eq_false] at hall;obtain ⟨k,ck,hne⟩:=hall;exact ⟨k,ck,by simpa using hne⟩
  rw[er] at gi sI ⊢
  have hid:(l++r)[l.idxOf (iF v (Int.ofNat k0::kt.map Int.ofNat))]=iF v (Int.ofNat k0::kt.map Int.ofNat):=by
   have:∀(y:List ND) (h:l.idxOf (iF v (Int.ofNat k0::kt.map Int.ofNat))<y.length),jD l (iF v (Int.ofNat k0::kt.map Int.ofNat))=y->y[l.idxOf (iF v (Int.ofNat k0::kt.map Int.ofNat))]=iF v (Int.ofNat k0::kt.map Int.ofNat):=fun y h e=>by subst e;exact hid
   exact this _ sI er
  refine ⟨r,_,rfl,hr,fun CJ=>?_,gi,sI,?_,fun a ha=>?_⟩
  .exfalso;have:kt=[]:=by simpa using CJ
   rw[this] at hall;simp at hall
  .rw[hid,dP,aq (by simp only[iF];omega)];exact qG _
  .have e:=zS gi ha sI (by rw[hid];simp only[iF];omega);rw[hid] at e;have hlt:a v<(k0::kt).length:=by have:=ha v hv;rw[aU] at this;omega
   rw[e,show (iF (↑v) (Int.ofNat k0::kt.map Int.ofNat)).kids=Int.ofNat k0::kt.map Int.ofNat from rfl,show (iF (↑v) (Int.ofNat k0::kt.map Int.ofNat)).var=v from rfl,cU]
   have e2:(Int.ofNat k0::kt.map Int.ofNat).getD (a v) 0=(((k0::kt).getD (a v) 0:Nat):Int):=by
    rw[<- gh,aT,mS,aT,bP hlt];rfl
   rw[e2,cU];refine I5 g r ha _ ?_;rw[aT,bP hlt,fk];exact (hk _ (bA hlt)).1
theorem qag(g:GoodL ar l){x:Int}(hx:0<=x/\x<=2147483647):∃r,jD l (ja x)=l++r/\r.length<=1/\GoodL ar (l++r)/\TabV ar (l++r) (l.idxOf (ja x)) ar.length [x]:=by
 obtain ⟨r,er,hr,sI,hid⟩:=ZT (ja x) l;have gi:GoodL ar (jD l (ja x)):=Yh g (qaf hx) fun h=>by simp[ja] at h
 rw[er] at gi;have P2:l.idxOf (ja x)<(l++r).length:=by rw[<- er];exact sI
 have P1:(l++r)[l.idxOf (ja x)]=ja x:=by
  have:∀(y:List ND) (h:l.idxOf (ja x)<y.length),jD l (ja x)=y->y[l.idxOf (ja x)]=ja x:=fun y h e=>by subst e;exact hid
  exact this _ P2 er
 refine ⟨r,er,hr,gi,⟨by rw[List.drop_length];rfl,P2,fun _=>?_,fun a ha=>?_⟩⟩
 .rw[P1,dP,an (by simp[ja])];exact qG _
 .rw[we P2 (by rw[P1];simp[ja]),P1,List.drop_length];rfl
theorem qud(g:GoodL ar l)(h1:∀x∈ar,1<=x/\x<=64)(dQ:ar.length<=16){v:Nat}(hv:v<ar.length){ks:List Nat}{t:List Int}(hl:(ks.length:Int)=ar.getD v 0)(ht:t.length=cn (ar.drop v))(hk:∀(k:Nat) (h:k<ks.length),TabV ar l ks[k] (v+1) (part t (cn (ar.drop (v+1))) k))(fI:l.length<=100000) :
  ∃r id,oX l v (ks.map Int.ofNat)=(((id:Nat):Int),l++r)/\r.length<=1/\(ks.length=1->r=[])/\GoodL ar (l++r)/\TabV ar (l++r) id v t:=by
 have aU:ar.getD v 0=ar[v]:=by rw[aT,bP hv,fk]
 obtain ⟨r,id,e,hr,Zw,gi,sI,nT,hS⟩:=qa3 g h1 dQ hv hl (fun k ck=>by
  obtain ⟨i,hi,e⟩:=n0 ck;have:=hk i hi;rw[e] at this
  exact ⟨this.lt,by have:=this.top this.lt;omega⟩) aa
 refine ⟨r,id,e,hr,Zw,gi,ht,sI,fun _=>nT,fun a ha=>?_⟩;have hlt:a v<ks.length:=by have:=ha v hv;omega
 have hn:=CT ha (ar.length-(v+1)) (v+1) aa;rw[hS a ha,aT,bP hlt,fk,(hk _ hlt).val a ha,qbq hn,CU hv]
end
end Go.Ab
namespace Go.Ab
def ze(l:List ND):Nat->Nat->List Nat->List Nat
 | 0,_,out=>out
 | n+1,id,out=>if id∈out then out else match l[id]? with
  | none=>out
  | some x=>(x.kids.foldl (fun o k=>ze l n k.toNat o) out)++[id]
def Vi(l:List ND)(id:Nat)(out:List Nat):List Nat:=ze l (id+1) id out
def iJ(l:List ND)(ks:List Int)(out:List Nat):List Nat:=ks.foldl (fun o k=>Vi l k.toNat o) out
theorem Pt{α β:Type}{f g:β->α->β}:∀(l:List α) (b:β),(∀x∈l,∀b,f b x=g b x)->l.foldl f b=l.foldl g b
 | [],_,_=>rfl
 | x::l,b,h=>by
  rw[vP,vP,h x gj,Pt l _ fun y hy=>h y (fW _ hy)]
section
variable {ar:List Int} {l:List ND}
theorem pZ(g:GoodL ar l){i:Nat}(hi:i<l.length):∀k∈l[i].kids,∃t:Nat,k=t/\t<i:=fun k hk=>by
 by_cases hv:0<=l[i].var
 .obtain ⟨t,e,ht,_⟩:=g.kid i hi hv k hk;exact ⟨t,e,ht⟩
 .rcases g.ok _ (bA hi) with ⟨_,h2,_⟩|⟨h1,_⟩
  .rw[h2] at hk;cases hk
  .omega
theorem qcX(g:GoodL ar l):∀(n id m:Nat) (out:List Nat),id<l.length->id<n->id<m->ze l n id out=ze l m id out
 | 0,id,m,_,_,h,_=>aa
 | n+1,id,0,_,_,_,h=>aa
 | n+1,id,m+1,out,hi,_,_=>by
  simp only[ze,bP hi];rw[Pt l[id].kids out fun k hk b=>?_];obtain ⟨t,rfl,ht⟩:=pZ g hi k hk;exact qcX g n _ m b aa (by simp;omega) (by simp;omega)
theorem sy(g:GoodL ar l){id:Nat}(hi:id<l.length)(out:List Nat):Vi l id out=if id∈out then out else iJ l l[id].kids out++[id]:=by
 unfold Vi iJ;rw[ze,bP hi];dsimp only;rw[Pt l[id].kids out fun k hk b=>?_];obtain ⟨t,rfl,ht⟩:=pZ g hi k hk;exact qcX g id _ _ b aa (by simp;omega) (by simp[Vi])
theorem OH(out:List Nat):iJ l [] out=out:=rfl
theorem zX(k:Int)(ks:List Int)(out:List Nat):iJ l (k::ks) out=iJ l ks (Vi l k.toNat out):=rfl
structure Cl (l:List ND) (out:List Nat):Prop where
 nd:out.Nodup
 lt:∀j∈out,j<l.length
 cl:∀i (h:i<out.length) (hj:out[i]<l.length),∀k∈l[out[i]].kids,k.toNat∈out.take i
theorem qq:Cl l []:=⟨aA,aA,fun i h=>by simp at h⟩
theorem Cl.kids{out:List Nat}(h:Cl l out){j:Nat}(hj:j∈out)(hl:j<l.length):∀k∈l[j].kids,k.toNat∈out:=fun k hk=>by
 obtain ⟨i,hi,e⟩:=n0 hj;subst e;exact List.take_subset _ _ (h.cl i hi hl k hk)
theorem Cl.snoc{out:List Nat}(h:Cl l out){id:Nat}(hi:id<l.length)(hn:id∉out)(hk:∀k∈l[id].kids,k.toNat∈out):Cl l (out++[id]):=by
 refine ⟨?_,fun j hj=>?_,fun i h2 hj k jB=>?_⟩
 .rw[List.nodup_append]
  exact ⟨h.nd,aA,fun a ha b hb e=>by
   obtain rfl:b=id:=by simpa using hb
   exact hn (e▸ha)⟩
 .rcases hZ.1 hj with hj|hj
  .exact h.lt j hj
  .obtain rfl:j=id:=by simpa using hj
   exact hi
 .by_cases cE:i<out.length
  .rw[List.take_append_of_le_length aa];refine h.cl i cE (h.lt _ (bA cE)) k ?_;have e:(out++[id])[i]=out[i]:=List.getElem_append_left cE;rw[List.getElem_of_eq rfl] at jB;have:∀(y:Nat) (hy:y<l.length),y=out[i]->k∈l[y].kids->k∈(l[out[i]]'(h.lt _ (bA cE))).kids:=fun y hy e h=>by subst e;exact h
   exact this _ hj e jB
  .have J8:i=out.length:=by simp at h2;omega
   subst J8;have e:(out++[id])[out.length]=id:=aA;have:∀(y:Nat) (hy:y<l.length),y=id->k∈l[y].kids->k∈l[id].kids:=fun y hy e h=>by subst e;exact h
   have:=hk k (this _ hj e jB);simpa using this
theorem pT(g:GoodL ar l):∀id,id<l.length->∀out,Cl l out->Cl l (Vi l id out)/\id∈Vi l id out/\∃r,Vi l id out=out++r/\∀y∈r,y<=id:=by
 intro id
 induction id using Nat.strongRecOn with
 | ind id ih=>
  intro hi out hc
  have key:∀(ks:List Int),(∀k∈ks,∃t:Nat,k=t/\t<id)->∀out,Cl l out->Cl l (iJ l ks out)/\(∀k∈ks,k.toNat∈iJ l ks out)/\∃r,iJ l ks out=out++r/\∀y∈r,y<id:=by
   intro ks
   induction ks with
   | nil=>intro _ out hc;exact ⟨hc,aA,[],by simp[iJ],aA⟩
   | cons k ks ihk=>
    intro hk out hc;obtain ⟨t,rfl,ht⟩:=hk k gj;obtain ⟨a1,a2,r1,a3,a4⟩:=ih t ht aa out hc;obtain ⟨b1,b2,r2,b3,b4⟩:=ihk (fun k ck=>hk k (fW _ ck)) _ a1;rw[zX,cU]
    refine ⟨b1,fun k ck=>?_,r1++r2,by rw[b3,a3,gR],fun y hy=>?_⟩
    .rcases gI.1 ck with rfl|ck
     .rw[b3];exact zJ _ (by simpa using a2)
     .exact b2 k ck
    .rcases hZ.1 hy with hy|hy
     .have:=a4 y hy;omega
     .exact b4 y hy
  rw[sy g hi]
  by_cases hm:id∈out
  .rw[aq hm];exact ⟨hc,hm,[],aA,aA⟩
  .rw[an hm];obtain ⟨b1,b2,r,b3,b4⟩:=key l[id].kids (fun k hk=>pZ g hi k hk) out hc
   refine ⟨b1.snoc hi (fun h=>?_) b2,aA,r++[id],by rw[b3,gR],fun y hy=>?_⟩
   .rw[b3] at h
    rcases hZ.1 h with h|h
    .exact hm h
    .have:=b4 _ h;omega
   .rcases hZ.1 hy with hy|hy
    .have:=b4 y hy;omega
    .have:y=id:=by simpa using hy
     omega
theorem OG(g:GoodL ar l){id:Nat}(hi:id<l.length):∀(ks:List Int),(∀k∈ks,∃t:Nat,k=t/\t<id)->∀out,Cl l out->Cl l (iJ l ks out)/\(∀k∈ks,k.toNat∈iJ l ks out)/\∃r,iJ l ks out=out++r/\∀y∈r,y<id:=by
 intro ks
 induction ks with
 | nil=>intro _ out hc;exact ⟨hc,aA,[],by simp[iJ],aA⟩
 | cons k ks ihk=>
  intro hk out hc;obtain ⟨t,rfl,ht⟩:=hk k gj;obtain ⟨a1,a2,r1,a3,a4⟩:=pT g t aa out hc;obtain ⟨b1,b2,r2,b3,b4⟩:=ihk (fun k ck=>hk k (fW _ ck)) _ a1;rw[zX,cU]
  refine ⟨b1,fun k ck=>?_,r1++r2,by rw[b3,a3,gR],fun y hy=>?_⟩
  .rcases gI.1 ck with rfl|ck
   .rw[b3];exact zJ _ (by simpa using a2)
   .exact b2 k ck
  .rcases hZ.1 hy with hy|hy
   .have:=a4 y hy;omega
   .exact b4 y hy
theorem V0(g:GoodL ar l):∀(ks:List Int) (out:List Nat),(∀k∈ks,k.toNat∈out/\k.toNat<l.length)->iJ l ks out=out
 | [],_,_=>rfl
 | k::ks,out,h=>by
  obtain ⟨h1,h2⟩:=h k gj;rw[zX,sy g h2,aq h1];exact V0 g ks out fun k hk=>h k (fW _ hk)
theorem VZ(g:GoodL ar l){id:Nat}(hi:id<l.length){out:List Nat}(hc:Cl l out):Vi l id out=if id∈iJ l l[id].kids out then iJ l l[id].kids out else iJ l l[id].kids out++[id]:=by
 rw[sy g hi]
 by_cases hm:id∈out
 .rw[V0 g _ _ fun k hk=>⟨hc.kids hm hi k hk,hc.lt _ (hc.kids hm hi k hk)⟩,aq hm]
  try rw[aq hm]
 .obtain ⟨b1,b2,r,b3,b4⟩:=OG g hi l[id].kids (fun k hk=>pZ g hi k hk) out hc;rw[an hm,an];intro h;rw[b3] at h
  rcases hZ.1 h with h|h
  .exact hm h
  .have:=b4 _ h;omega
def nd(l:List ND)(out:List Nat)(id:Nat):ND:=⟨(l.getD id ⟨0,[],0⟩).var,(l.getD id ⟨0,[],0⟩).kids.map (fun k=>((out.idxOf k.toNat:Nat):Int)),(l.getD id ⟨0,[],0⟩).leaf⟩
def dR(l:List ND)(out:List Nat):List ND:=out.map (nd l out)
theorem iM{id:Nat}(hi:id<l.length):l.getD id ⟨0,[],0⟩=l[id]:=by rw[aT,bP hi,fk]
theorem Q4{out:List Nat}{id:Nat}(hi:id<l.length)(hk:∀k∈l[id].kids,k.toNat∈out)(r:List Nat):nd l (out++r) id=nd l out id:=by
 unfold nd;rw[iM hi];congr 1;refine List.map_congr_left fun k ck=>?_;rw[List.idxOf_append,aq (hk k ck)]
theorem qaL{out:List Nat}(hc:Cl l out){id:Nat}(hi:id<l.length)(hk:∀k∈l[id].kids,k.toNat∈out):dR l (out++[id])=dR l out++[nd l out id]:=by
 unfold dR;rw[iH,gh,sk,Q4 hi hk];congr 1;exact List.map_congr_left fun j hj=>Q4 (hc.lt j hj) (hc.kids hj (hc.lt j hj)) [id]
theorem qrd{out:List Nat}{a b:Nat}(ha:a∈out)(hb:b∈out)(e:out.idxOf a=out.idxOf b):a=b:=by
 have h1:=List.getElem_idxOf (List.idxOf_lt_length_of_mem ha);have h2:=List.getElem_idxOf (List.idxOf_lt_length_of_mem hb);rw[<- h1,<- h2];simp only[e]
theorem Q5(g:GoodL ar l){out:List Nat}{i j:Nat}(hi:i<l.length)(hj:j<l.length)(jx:∀k∈l[i].kids,k.toNat∈out)(P8:∀k∈l[j].kids,k.toNat∈out)(e:nd l out i=nd l out j):i=j:=by
 unfold nd at e;rw[iM hi,iM hj] at e
 injection e with e1 e2 e3
 have hk:l[i].kids=l[j].kids:=by
  have hl:l[i].kids.length=l[j].kids.length:=by have:=dc List.length e2;simpa using this
  refine List.ext_getElem hl fun q h1 h2=>?_;have h3:=List.getElem_of_eq e2 (i:=q) (by simpa using h1);rw[tf,tf] at h3;have h4:=qrd (jx _ (bA h1)) (P8 _ (bA h2)) aa;obtain ⟨a,ea,_⟩:=pZ g hi _ (bA h1);obtain ⟨b,eb,_⟩:=pZ g hj _ (bA h2);omega
 have en:l[i]=l[j]:=by
  generalize l[i]=x at *;generalize l[j]=y at *;obtain ⟨xv,xk,xl⟩:=x;obtain ⟨yv,yk,yl⟩:=y;simp only at e1 e3 hk;rw[e1,e3,hk]
 exact C5 g.nd hi hj en
theorem qr7(g:GoodL ar l){out:List Nat}(hc:Cl l out){id:Nat}(hi:id<l.length)(hk:∀k∈l[id].kids,k.toNat∈out):nd l out id∈dR l out↔id∈out:=by
 unfold dR;rw[iw]
 constructor
 .rintro ⟨j,hj,e⟩;have:=Q5 g (hc.lt j hj) hi (hc.kids hj (hc.lt j hj)) hk e;exact this▸hj
 .intro h;exact ⟨id,h,rfl⟩
theorem qr6(g:GoodL ar l){out:List Nat}(hc:Cl l out){id:Nat}(hi:id<l.length)(hk:∀k∈l[id].kids,k.toNat∈out):(dR l out).idxOf (nd l out id)=out.idxOf id:=by
 have key:∀(p:List Nat),(∀j∈p,j∈out)->(p.map (nd l out)).idxOf (nd l out id)=p.idxOf id:=by
  intro p
  induction p with
  | nil=>intro _;rfl
  | cons j p ih=>
   intro h;have hj:=h j gj;rw[gh,List.idxOf_cons,List.idxOf_cons,ih fun q hq=>h q (fW _ hq)]
   have:(nd l out j==nd l out id)=(j==id):=by
    by_cases e:j=id
    .subst e;simp
    .have:nd l out j≠nd l out id:=fun h=>e (Q5 g (hc.lt j hj) hi (hc.kids hj (hc.lt j hj)) hk h);rw[beq_eq_false_iff_ne.2 e,beq_eq_false_iff_ne.2 this]
   rw[this]
 exact key out fun _ h=>h
theorem qbJ(g:GoodL ar l){out:List Nat}(hc:Cl l out){id:Nat}(hi:id<l.length)(hk:∀k∈l[id].kids,k.toNat∈out) :
  jD (dR l out) (nd l out id)=dR l (if id∈out then out else out++[id])/\(dR l out).idxOf (nd l out id)=(if id∈out then out else out++[id]).idxOf id:=by
 have hm:=qr7 g hc hi hk;rw[qr6 g hc hi hk];unfold jD
 by_cases h:id∈out
 .rw[aq (hm.2 h),aq h];exact ⟨rfl,rfl⟩
 .rw[an (fun hh=>h (hm.1 hh)),an h,qaL hc hi hk,List.idxOf_append,an h];refine ⟨rfl,?_⟩;rw[List.idxOf_eq_length h];simp
theorem quc{id v:Nat}{t:List Int}(hv:v<=ar.length)(h:TabV ar l id v t){a:Nat->Nat}(ha:iS ar a):S l a id∈t:=by
 rw[h.val a ha];have:=CT ha (ar.length-v) v aa;rw[aT,bP (by rw[h.len];exact this),fk];exact bA _
theorem qoU(g:GoodL ar l)(h1:∀x∈ar,1<=x){id v:Nat}{t:List Int}(hv:v<=ar.length)(h:TabV ar l id v t){c:Int}(hc:∀y∈t,y=c):l.getD id ⟨0,[],0⟩=ja c:=by
 have hi:=h.lt;rw[iM hi];have hS:∀a,iS ar a->S l a id=c:=fun a ha=>hc _ (quc hv h ha)
 have hn:l[id].var<0:=by
  refine Decidable.byContradiction fun hn=>?_;have tS:0<=l[id].var:=aa;have qX:((l[id].var.toNat:Nat):Int)=l[id].var:=aa;have a0:=xY h1;have hlt:=(g.var id hi tS).1
  obtain ⟨t0,e0,Qv,_⟩:=pK g hi tS (k:=0) (by
   have:=h1 (ar[l[id].var.toNat]) (bA aa)
   rw[aT,bP aa,fk];omega)
  have all:∀k:Nat,(k:Int)<ar.getD l[id].var.toNat 0->∀a,iS ar a->S l a (l[id].kids.getD k 0).toNat=c:=fun k hk a ha=>by
   rw[<- Eu g ha hi (v:=l[id].var.toNat) (k:=k) qX.symm hk];exact hS _ (ha.upd hk)
  refine Ra g h1 hi (j:=t0) tS fun k hk=>?_;obtain ⟨tk,ek,kN,_⟩:=pK g hi tS hk;rw[ek];congr 1;refine canon g h1 _ tk t0 aa aa (Nat.lt_succ_self _) fun a ha=>?_;have x1:=all k hk a ha
  have x2:=all 0 (by
   have:=h1 (ar[l[id].var.toNat]) (bA aa)
   rw[aT,bP aa,fk];omega) a ha
  rw[ek,cU] at x1;rw[e0,cU] at x2;rw[x1,x2]
 have hl:l[id].leaf=c:=by rw[<- hS _ (xY h1),we hi hn]
 rcases g.ok _ (bA hi) with ⟨b1,b2,_⟩|⟨b1,_⟩
 .generalize l[id]=x at *;obtain ⟨xv,xk,xl⟩:=x;simp only at b1 b2 hl;rw[b1,b2,hl];rfl
 .omega
theorem LA{id v:Nat}{t:List Int}(hv:v<ar.length)(h:TabV ar l id v t){a:Nat->Nat}(ha:iS ar a){k:Nat}(hk:(k:Int)<ar.getD v 0):S l (upd a v k) id=(part t (cn (ar.drop (v+1))) k).getD (oq (ar.drop (v+1)) (v+1) a) 0:=by
 have hn:=CT ha (ar.length-(v+1)) (v+1) aa;rw[h.val _ (ha.upd hk),qbq hn,CU hv,QD (ar.length-(v+1)) (v+1) aa aa];have:upd a v k v=k:=by unfold upd;rw[aq rfl]
 rw[this]
theorem KW(h1:∀x∈ar,1<=x){v:Nat}{t:List Int}(hv:v<ar.length)(ht:t.length=cn (ar.drop v)){k:Nat}(hk:(k:Int)<ar.getD v 0):(part t (cn (ar.drop (v+1))) k).length=cn (ar.drop (v+1)):=by
 rw[vr hv] at ht;exact part_len ht aa
theorem Sa(g:GoodL ar l)(h1:∀x∈ar,1<=x){id v:Nat}{t:List Int}(hv:v<ar.length)(h:TabV ar l id v t)(hi:id<l.length)(nh:l[id].var=v){k:Nat}(hk:(k:Int)<ar.getD v 0):TabV ar l (l[id].kids.getD k 0).toNat (v+1) (part t (cn (ar.drop (v+1))) k):=by
 have qX:l[id].var.toNat=v:=aa;obtain ⟨q,e,hq,h2⟩:=pK g hi aa (k:=k) (by rw[qX];exact hk)
 refine ⟨KW h1 hv h.len hk,by rw[e];simp;omega,fun hh=>?_,fun a ha=>?_⟩
 .have:=h2 aa;have e2:(l[id].kids.getD k 0).toNat=q:=by rw[e];simp
  have:∀(y:Nat) (hy:y<l.length),y=q->(((v+1:Nat)):Int)<=dP ar.length l[y]:=fun y hy ey=>by subst ey;omega
  exact this _ hh e2
 .rw[<- Eu g ha hi nh hk];exact LA hv h ha hk
theorem qpp(g:GoodL ar l)(h1:∀x∈ar,1<=x){id v:Nat}{t:List Int}(hv:v<ar.length)(h:TabV ar l id v t)(hf:∀k:Nat,(k:Int)<ar.getD v 0->part t (cn (ar.drop (v+1))) k=part t (cn (ar.drop (v+1))) 0):TabV ar l id (v+1) (part t (cn (ar.drop (v+1))) 0):=by
 have hi:=h.lt
 have pA:1<=ar.getD v 0:=by
  rw[aT,bP hv,fk];exact h1 _ (bA hv)
 have hne:l[id].var≠v:=fun nh=>by
  have qX:l[id].var.toNat=v:=aa;refine Ra g h1 hi (j:=(l[id].kids.getD 0 0).toNat) aa fun k hk=>?_;rw[qX] at hk;obtain ⟨q,e,hq,_⟩:=pK g hi aa (k:=k) (by rw[qX];exact hk);have t1:=Sa g h1 hv h hi nh hk;have t0:=Sa g h1 hv h hi nh (k:=0) aa;rw[hf k hk] at t1;have:=quf g h1 t1 t0;rw[<- this,e];simp
 have nT:=h.top hi
 have hlt:(v:Int)<dP ar.length l[id]:=by
  unfold dP at nT ⊢
  split
  .rename_i hh;rw[aq hh] at nT;omega
  .omega
 refine ⟨KW h1 hv h.len aa,hi,fun _=>aa,fun a ha=>?_⟩;have hk:=ha v hv;rw[<- hf (a v) hk,<- LA hv h ha hk,zQ g ha hk id hi hlt]
theorem qsd(g:GoodL ar l)(h1:∀x∈ar,1<=x){id v:Nat}{t:List Int}(hv:v<ar.length)(h:TabV ar l id v t)(hi:id<l.length)(hf:¬ ∀k:Nat,(k:Int)<ar.getD v 0->part t (cn (ar.drop (v+1))) k=part t (cn (ar.drop (v+1))) 0):l[id].var=v:=by
 refine Decidable.byContradiction fun hne=>hf fun k hk=>?_;have nT:=h.top hi
 have pA:1<=ar.getD v 0:=by
  rw[aT,bP hv,fk];exact h1 _ (bA hv)
 have hlt:(v:Int)<dP ar.length l[id]:=by
  unfold dP at nT ⊢
  split
  .rename_i hh;rw[aq hh] at nT;omega
  .omega
 have e1:=KW h1 hv h.len hk;have e0:=KW h1 hv h.len (k:=0) aa;refine qap (e1.trans e0.symm) fun q hq=>?_;obtain ⟨a,ha,e⟩:=QC h1 (ar.length-(v+1)) (v+1) q aa (by rw[<- e1];exact hq);rw[<- e,<- LA hv h ha hk,<- LA hv h ha (k:=0) aa,zQ g ha hk id hi hlt,zQ g ha aa id hi hlt]
end
end Go.Ab
namespace Go.Ab
section
variable {ar:List Int} {l:List ND}
inductive Rc (l:List ND) (id:Nat):Nat->Prop
 | refl:Rc l id id
 | kid (j:Nat) (k:Int) (h:Rc l id j) (hj:j<l.length) (hk:k∈l[j].kids):Rc l id k.toNat
theorem Rc.trans(g:GoodL ar l){a b c:Nat}(h:Rc l a b)(k:Rc l b c):Rc l a c:=by
 induction k with
 | refl=>exact h
 | kid j q _ hj hk ih=>exact .kid j q ih hj hk
theorem qk5(g:GoodL ar l):∀id,id<l.length->∀out,∀y∈Vi l id out,y∈out\/Rc l id y:=by
 intro id
 induction id using Nat.strongRecOn with
 | ind id ih=>
  intro hi out y hy
  have key:∀(ks:List Int),(∀k∈ks,k∈l[id].kids)->∀out,∀y∈iJ l ks out,y∈out\/Rc l id y:=by
   intro ks
   induction ks with
   | nil=>intro _ out y hy;exact .inl hy
   | cons k ks ihk=>
    intro hk out y hy;obtain ⟨t,e,ht⟩:=pZ g hi k (hk k gj);rw[zX] at hy
    rcases ihk (fun k ck=>hk k (fW _ ck)) _ y hy with h|h
    .rw[e,cU] at h
     rcases ih t ht aa out y h with h|h
     .exact .inl h
     .refine .inr (Rc.trans g ?_ h);have:=Rc.kid id k (Rc.refl (l:=l) (id:=id)) hi (hk k gj);rw[e,cU] at this;exact this
    .exact .inr h
  rw[sy g hi] at hy
  split at hy
  .exact .inl hy
  .rcases hZ.1 hy with hy|hy
   .exact key _ (fun _ h=>h) out y hy
   .have:y=id:=by simpa using hy
    rw[this];exact .inr .refl
theorem Sk{a:Nat->Nat}{v k w:Nat}(h:w≠v):upd a v k w=a w:=by unfold upd;rw[an h]
theorem LJ{a:Nat->Nat}{v k:Nat}:upd a v k v=k:=by unfold upd;rw[aq rfl]
theorem Rc.path(g:GoodL ar l)(h1:∀x∈ar,1<=x){id j:Nat}(h:Rc l id j)(hid:id<l.length):∃y0,iS ar y0/\∀(hj:j<l.length) y,iS ar y->(∀w:Nat,(w:Int)<dP ar.length l[j]->w<ar.length->y w=y0 w)->S l y id=S l y j:=by
 induction h with
 | refl=>exact ⟨_,xY h1,fun _ y _ _=>rfl⟩
 | kid j k h hj hk ih=>
  obtain ⟨y0,Kr,hp⟩:=ih
  have nh:0<=l[j].var:=by
   refine Decidable.byContradiction fun hn=>?_
   rcases g.ok _ (bA hj) with ⟨_,h2,_⟩|⟨h3,_⟩
   .rw[h2] at hk;cases hk
   .omega
  obtain ⟨v1,v2⟩:=g.var j hj nh;have jc:dP ar.length l[j]=l[j].var:=by unfold dP;rw[aq nh]
  obtain ⟨i,hi,e⟩:=n0 hk;obtain ⟨v,hv⟩:=nE nh;have qX:l[j].var.toNat=v:=aa;rw[qX] at v2;have hia:(i:Int)<ar.getD v 0:=aa;refine ⟨upd y0 v i,Kr.upd hia,fun hG y hy YA=>?_⟩;obtain ⟨t,et,ht,h2⟩:=g.kid j hj nh k hk;have fJ:t<l.length:=aa;have h3:=h2 fJ;have e1:∀(q:Nat) (hq:q<l.length),q=k.toNat->dP ar.length l[q]=dP ar.length l[k.toNat]:=fun q hq e=>by subst e;rfl
  have hkt:k.toNat=t:=by rw[et,cU]
  have h4:l[j].var<dP ar.length l[k.toNat]:=by rw[<- e1 t fJ hkt.symm];exact h3
  have a1:=hp hj y hy fun w hw ZK=>by
   rw[jc] at hw;rw[YA w aa ZK,Sk aa]
  rw[a1,zS g hy hj aa,qX];have w5:y v=i:=by rw[YA v aa aa,LJ]
  rw[w5,aT,bP hi,fk,e]
theorem qry(g:GoodL ar l){out:List Nat}(hc:Cl l out){y:Nat->Nat}(hy:iS ar y):∀(k:Nat),k∈out->∃j∈out,∃hj:j<l.length,l[j].var<0/\l[j].leaf=S l y k:=by
 intro k
 induction k using Nat.strongRecOn with
 | ind k ih=>
  intro hk;have fZ:=hc.lt k hk
  by_cases nh:l[k].var<0
  .exact ⟨k,hk,fZ,nh,(we fZ nh).symm⟩
  .rw[zS g hy fZ nh];obtain ⟨v1,v2⟩:=g.var k fZ aa;obtain ⟨t,e,ht,_⟩:=pK g fZ aa (hy l[k].var.toNat aa)
   have hm:l[k].kids.getD (y l[k].var.toNat) 0∈l[k].kids:=by
    have hq:y l[k].var.toNat<l[k].kids.length:=by have:=hy l[k].var.toNat aa;omega
    rw[aT,bP hq,fk];exact bA hq
   have oR:=hc.kids hk fZ _ hm;rw[e,cU] at oR ⊢;exact ih t ht oR
theorem qrz(g:GoodL ar l)(h1:∀x∈ar,1<=x){id:Nat}(hid:id<l.length){x:Int}:(∃j∈Vi l id [],∃hj:j<l.length,l[j].var<0/\l[j].leaf=x)↔∃y,iS ar y/\S l y id=x:=by
 obtain ⟨c1,c2,_⟩:=pT g id hid [] qq
 constructor
 .rintro ⟨j,hj,kr,hv,e⟩;have hr:=(qk5 g id hid [] j hj).resolve_left aA;obtain ⟨y0,Kr,hp⟩:=hr.path g h1 hid;exact ⟨y0,Kr,by rw[hp kr y0 Kr fun w _ _=>rfl,we kr hv,e]⟩
 .rintro ⟨y,hy,e⟩;obtain ⟨j,hj,kr,h2,h3⟩:=qry g c1 hy id c2;exact ⟨j,hj,kr,h2,h3.trans e⟩
end
end Go.Ab
namespace Go.Ab
def mQ(n:Nat)(F:Nat->Nat):Nat:=((List.range n).map F).sum
theorem qt4(F:Nat->Nat):mQ 0 F=0:=rfl
theorem vC(n:Nat)(F:Nat->Nat):mQ (n+1) F=mQ n F+F n:=by
 unfold mQ;rw[List.range_succ,iH,List.sum_append];simp
theorem xB{n:Nat}{F G:Nat->Nat}(h:∀k,k<n->F k=G k):mQ n F=mQ n G:=by
 induction n with
 | zero=>rfl
 | succ n ih=>rw[vC,vC,ih fun k hk=>h k aa,h n aa]
theorem R7(c n:Nat)(F:Nat->Nat):mQ n (fun k=>c*F k)=c*mQ n F:=by
 induction n with
 | zero=>rfl
 | succ n ih=>rw[vC,vC,ih,gL]
theorem R8(c n:Nat)(F:Nat->Nat):mQ n (fun k=>F k*c)=mQ n F*c:=by
 rw[dF,<- R7];exact xB fun k _=>dF _ _
section
variable {ar:List Int} (s:Nat->Nat->Nat)
abbrev nG(ar:List Int)(v:Nat):Nat:=(ar.getD v 0).toNat
def Ct(ar:List Int)(s:Nat->Nat->Nat):Nat->Nat->((Nat->Nat)->Nat)->(Nat->Nat)->Nat
 | 0,_,φ,a=>φ a
 | d+1,v,φ,a=>mQ (nG ar v) fun k=>s v k*Ct ar s d (v+1) φ (upd a v k)
def SS(ar:List Int)(s:Nat->Nat->Nat)(v:Nat):Nat:=mQ (nG ar v) (s v)
def PM(ar:List Int)(s:Nat->Nat->Nat):Nat->Nat->Nat
 | 0,_=>1
 | d+1,v=>SS ar s v*PM ar s d (v+1)
variable {s}
theorem tn{v k:Nat}(hk:k<nG ar v):(k:Int)<ar.getD v 0:=by unfold nG at hk;omega
theorem G4{φ ψ:(Nat->Nat)->Nat}:∀(d v:Nat) (a:Nat->Nat),iS ar a->(∀b,iS ar b->(∀w,w<v->b w=a w)->φ b=ψ b)->Ct ar s d v φ a=Ct ar s d v ψ a
 | 0,v,a,ha,h=>h a ha fun _ _=>rfl
 | d+1,v,a,ha,h=>by
  refine xB fun k hk=>?_;rw[G4 d (v+1) (upd a v k) (ha.upd (tn hk)) fun b hb hw=>h b hb fun w Qw=>(hw w (by omega)).trans (Sk aa)]
theorem DG(x:Nat):∀(d v:Nat) (a:Nat->Nat),Ct ar s d v (fun _=>x) a=PM ar s d v*x
 | 0,v,a=>by simp[Ct,PM]
 | d+1,v,a=>by
  rw[Ct,PM,xB (G:=fun k=>s v k*(PM ar s d (v+1)*x)) fun k _=>by rw[DG x d],R8,SS,fQ]
theorem quH{a:Nat->Nat}{v w j k:Nat}(h:v≠w):upd (upd a v j) w k=upd (upd a w k) v j:=by
 funext x;unfold upd
 by_cases h1:x=v<;>by_cases h2:x=w<;>simp[h1,h2]
 .subst h1;exact absurd h2 h
 .intro e;exact absurd e h
 .intro e;exact absurd e.symm h
theorem Md{φ:(Nat->Nat)->Nat}{v j:Nat}(hj:(j:Int)<ar.getD v 0)(h:∀b,iS ar b->φ (upd b v j)=φ b):∀(d v':Nat) (a:Nat->Nat),v<v'->iS ar a->Ct ar s d v' φ (upd a v j)=Ct ar s d v' φ a
 | 0,v',a,hv,ha=>h a ha
 | d+1,v',a,hv,ha=>by
  refine xB fun k hk=>?_;rw[quH aa,Md hj h d (v'+1) (upd a v' k) aa (ha.upd (tn hk))]
theorem qdf{φ:(Nat->Nat)->Nat}{d v:Nat}{a:Nat->Nat}(ha:iS ar a)(h:∀(b:Nat->Nat) (k:Nat),iS ar b->(k:Int)<ar.getD v 0->φ (upd b v k)=φ b):Ct ar s (d+1) v φ a=SS ar s v*Ct ar s d (v+1) φ a:=by
 rw[Ct,xB (G:=fun k=>s v k*Ct ar s d (v+1) φ a) fun k hk=>by rw[Md (tn hk) (fun b hb=>h b k hb (tn hk)) d (v+1) a aa ha],R8];rfl
theorem SM{φ:(Nat->Nat)->Nat}{a:Nat->Nat}(ha:iS ar a):∀(u d v:Nat),(∀(b:Nat->Nat) (w k:Nat),v<=w->w<v+u->iS ar b->(k:Int)<ar.getD w 0->φ (upd b w k)=φ b)->Ct ar s (u+d) v φ a=PM ar s u v*Ct ar s d (v+u) φ a
 | 0,d,v,h=>by simp[PM]
 | u+1,d,v,h=>by
  rw[show u+1+d=(u+d)+1 by omega,qdf ha fun b k hb hk=>h b v k aa aa hb hk,SM ha u d (v+1) fun b w k h1 h2=>h b w k aa aa,PM,fQ,show v+1+u=v+(u+1) by omega]
theorem Ek:∀(u d v:Nat),PM ar s (u+d) v=PM ar s u v*PM ar s d (v+u)
 | 0,d,v=>by simp[PM]
 | u+1,d,v=>by
  rw[show u+1+d=(u+d)+1 by omega,PM,PM,Ek u d (v+1),fQ,show v+1+u=v+(u+1) by omega]
variable {l:List ND}
def Hc(ar:List Int)(s:Nat->Nat->Nat)(l:List ND)(c:Int)(k:Nat):Nat:=Ct ar s ar.length 0 (fun a=>if S l a k=c then 1 else 0) fun _=>0
def BF(ar:List Int)(s:Nat->Nat->Nat)(l:List ND)(h:Nat->Nat):Prop:=∀(k u:Nat) (hk:k<l.length),l[k].var=u->∃q:Nat->Nat,(∀j,j<nG ar u->h (l[k].kids.getD j 0).toNat=SS ar s u*q j)/\h k=mQ (nG ar u) fun j=>s u j*q j
theorem YC(g:GoodL ar l)(h1:∀x∈ar,1<=x)(c:Int):BF ar s l (Hc ar s l c):=by
 intro k u hk hu;have ha:=xY h1;obtain ⟨kZ,rQ⟩:=g.var k hk aa;have lT:u<ar.length:=aa;have oS:l[k].var.toNat=u:=aa;have jc:dP ar.length l[k]=u:=by unfold dP;rw[aq aa];exact hu
 have frm:∀(i:Nat) (hi:i<l.length) (w:Nat),(w:Int)<=dP ar.length l[i]->w<=ar.length->Hc ar s l c i=PM ar s w 0*Ct ar s (ar.length-w) w (fun a=>if S l a i=c then 1 else 0) fun _=>0:=fun i hi w hw ZK=>by
  have:=SM (s:=s) (φ:=fun a=>if S l a i=c then 1 else 0) ha w (ar.length-w) 0 fun b x j _ hx hb hj=>by
   skip
   rw[zQ g hb hj i hi aa]
  rw[bq,show w+(ar.length-w)=ar.length by omega] at this;exact this
 refine ⟨fun j=>PM ar s u 0*Ct ar s (ar.length-(u+1)) (u+1) (fun a=>if S l a (l[k].kids.getD j 0).toNat=c then 1 else 0) fun _=>0,fun j hj=>?_,?_⟩
 .obtain ⟨t,e,ht,h2⟩:=pK g hk aa (k:=j) (by rw[oS];exact tn hj);have h2:=h2 aa;rw[e,cU,frm t aa (u+1) aa aa,Ek u 1 0];simp only[PM,mV,bq,e,cU];rw[<- fQ,dF (SS ar s u)]
 .rw[frm k hk u aa aa,show ar.length-u=(ar.length-(u+1))+1 by omega,Ct,<- R7];refine xB fun j hj=>?_;obtain ⟨t,e,ht,h2⟩:=pK g hk aa (k:=j) (by rw[oS];exact tn hj);have h2:=h2 aa
  have e1:Ct ar s (ar.length-(u+1)) (u+1) (fun a=>if S l a k=c then 1 else 0) (upd (fun _=>0) u j)=Ct ar s (ar.length-(u+1)) (u+1) (fun a=>if S l a t=c then 1 else 0) (upd (fun _=>0) u j):=
   G4 _ _ _ (ha.upd (tn hj)) fun b hb hw=>by
    have:b u=j:=(hw u (by omega)).trans LJ;rw[zS g hb hk aa,oS,this,e,cU]
  dsimp only
  rw[e1,e,cU,Md (tn hj) (fun b hb=>by
   skip
   rw[zQ g hb (tn hj) t aa aa]) _ _ _ aa ha]
  rw[<- fQ,dF (PM ar s u 0),fQ]
theorem SP(c:Int){k:Nat}(hk:k<l.length)(hv:l[k].var<0):Hc ar s l c k=if l[k].leaf=c then PM ar s ar.length 0 else 0:=by
 unfold Hc
 have:(fun a:Nat->Nat=>if S l a k=c then (1:Nat) else 0)=fun _=>if l[k].leaf=c then 1 else 0:=by funext a;rw[we hk hv]
 rw[this,DG];split<;>simp
theorem qpY(g:GoodL ar l):BF ar s l fun _=>PM ar s ar.length 0:=by
 intro k u hk hu;obtain ⟨kZ,_⟩:=g.var k hk aa
 have e:PM ar s ar.length 0=PM ar s u 0*(SS ar s u*PM ar s (ar.length-(u+1)) (u+1)):=by
  have:=Ek (ar:=ar) (s:=s) u ((ar.length-(u+1))+1) 0;rw[show u+((ar.length-(u+1))+1)=ar.length by omega,bq] at this;rw[this];rfl
 refine ⟨fun _=>PM ar s u 0*PM ar s (ar.length-(u+1)) (u+1),fun j _=>?_,?_⟩
 .dsimp only;rw[e,<- fQ,<- fQ,dF (PM ar s u 0)]
 .dsimp only;rw[R8,e,<- fQ,<- fQ,dF (PM ar s u 0)];rfl
def j9(ar:List Int)(s:Nat->Nat->Nat)(n:ND):List (Nat×Nat):=(List.range (nG ar n.var.toNat)).map fun j=>((n.kids.getD j 0).toNat,s n.var.toNat j)
def lF(t:Nat):List (Nat×Nat)->(Nat->Nat)->Nat->Nat
 | [],T=>T
 | p::L,T=>lF t L (upd T p.1 (T p.1+t*p.2))
theorem Ln(t:Nat)(p:Nat×Nat):∀(L:List (Nat×Nat)) (T:Nat->Nat),lF t (L++[p]) T=upd (lF t L T) p.1 (lF t L T p.1+t*p.2)
 | [],T=>rfl
 | q::L,T=>by rw[b6,lF,Ln t p L];rfl
def jT(h T:Nat->Nat)(R:List Nat):Nat:=(R.map fun j=>T j*h j).sum
theorem K1{h T:Nat->Nat}{j x:Nat}:∀{R:List Nat},R.Nodup->jT h (upd T j (T j+x)) R=jT h T R+if j∈R then x*h j else 0
 | [],_=>by simp[jT]
 | i::R,hn=>by
  obtain ⟨h1,h2⟩:=uD.1 hn;have ih:=K1 (h:=h) (T:=T) (j:=j) (x:=x) h2;unfold jT at ih ⊢;rw[gh,lZ,gh,lZ,ih]
  by_cases hi:i=j
  .subst hi;rw[LJ,an h1,aq gj,iI];omega
  .have hm:(j∈i::R)↔j∈R:=by simp[gI,show ¬ j=i from fun e=>hi e.symm]
   rw[Sk hi,oH];congr 2
   by_cases hj:j∈R
   .rw[aq hj,aq (hm.2 hj)]
   .rw[an hj,an (fun h=>hj (hm.1 h))]
theorem KZ{h:Nat->Nat}{t:Nat}{R:List Nat}(hn:R.Nodup):∀(L:List (Nat×Nat)) (T:Nat->Nat),(∀p∈L,p.1∈R)->jT h (lF t L T) R=jT h T R+t*(L.map fun p=>p.2*h p.1).sum
 | [],T,_=>by simp[lF]
 | p::L,T,hL=>by
  rw[lF,KZ hn L _ fun q hq=>hL q (fW _ hq),K1 hn,aq (hL p gj),gh,lZ,gL,fQ,oH]
theorem qbE{h T:Nat->Nat}:∀{R:List Nat} {j:Nat},j∈R->T j*h j<=jT h T R
 | i::R,j,hj=>by
  unfold jT;rw[gh,lZ]
  rcases gI.1 hj with rfl|hj
  .omega
  .have:T j*h j<=(R.map fun j=>T j*h j).sum:=qbE (R:=R) hj;omega
def run(ar:List Int)(s:Nat->Nat->Nat)(l:List ND):List Nat->(Nat->Nat)->List (Int×Nat)
 | [],_=>[]
 | k::R,T=>match l[k]? with
  | none=>[]
  | some n=>if n.var<0 then (n.leaf,T k)::run ar s l R T else run ar s l R (lF (T k/SS ar s n.var.toNat) (j9 ar s n) T)
structure Flow (ar:List Int) (s:Nat->Nat->Nat) (l:List ND) (R:List Nat) (T:Nat->Nat) (done:Nat):Prop where
 nd:R.Nodup
 lt:∀j∈R,j<l.length
 srt:R.Pairwise fun x y=>dP ar.length (l.getD x ⟨0,[],0⟩)<=dP ar.length (l.getD y ⟨0,[],0⟩)
 kids:∀(j:Nat) (hj:j<l.length),j∈R->0<=l[j].var->∀k∈l[j].kids,k.toNat∈R
 dvd:∀(j:Nat) (hj:j<l.length) (v:Nat),j∈R->dP ar.length l[j]=v->PM ar s (ar.length-v) v∣T j
 tot:jT (fun _=>1) T R+done=PM ar s ar.length 0
theorem Z6(g:GoodL ar l){k:Nat}(hk:k<l.length)(hv:0<=l[k].var):∀p∈j9 ar s l[k],(p.1:Int)∈l[k].kids/\∃hp:p.1<l.length,l[k].var<dP ar.length l[p.1]:=fun p hp=>by
 obtain ⟨j,hj,rfl⟩:=iw.1 hp;have hj:=tn (vV.1 hj);obtain ⟨t,e,ht,h2⟩:=pK g hk hv hj;have hl:=(g.var k hk hv).2;have kr:j<l[k].kids.length:=aa;dsimp only;rw[e,cU];refine ⟨?_,aa,h2 aa⟩;rw[<- e,aT,bP kr];exact bA kr
theorem qrr(k:ND)(h:Nat->Nat):((j9 ar s k).map fun p=>p.2*h p.1).sum=mQ (nG ar k.var.toNat) fun j=>s k.var.toNat j*h (k.kids.getD j 0).toNat:=by
 unfold j9 mQ;rw[sj];rfl
theorem Flow.inner(g:GoodL ar l)(h0:∀v,v<ar.length->0<SS ar s v){k:Nat}{R:List Nat}{T:Nat->Nat}{done:Nat}(F:Flow ar s l (k::R) T done){u:Nat}(hk:k<l.length)(hu:l[k].var=u) :
  u<ar.length/\T k/SS ar s u*SS ar s u=T k/\(∀p∈j9 ar s l[k],p.1∈R)/\k∉R /\
  (∀(L:List (Nat×Nat)) (p:Nat×Nat) (L':List (Nat×Nat)),j9 ar s l[k]=L++p::L'->lF (T k/SS ar s u) L T p.1+T k/SS ar s u*p.2<=PM ar s ar.length 0) /\
  Flow ar s l R (lF (T k/SS ar s u) (j9 ar s l[k]) T) done /\
  ∀h,BF ar s l h->jT h T (k::R)=jT h (lF (T k/SS ar s u) (j9 ar s l[k]) T) R:=by
 obtain ⟨mJ,n9⟩:=uD.1 F.nd;obtain ⟨kZ,rQ⟩:=g.var k hk aa;have lT:u<ar.length:=aa;have oS:l[k].var.toNat=u:=aa;have jc:dP ar.length l[k]=u:=by unfold dP;rw[aq aa];exact hu
 have hS:=h0 u lT
 have Ys:PM ar s (ar.length-u) u=SS ar s u*PM ar s (ar.length-(u+1)) (u+1):=by
  rw[show ar.length-u=(ar.length-(u+1))+1 by omega];rfl
 obtain ⟨c,hc⟩:=F.dvd k hk u gj jc
 have CQ:T k/SS ar s u=PM ar s (ar.length-(u+1)) (u+1)*c:=by
  rw[hc,Ys,fQ,Nat.mul_div_cancel_left _ hS]
 have Ko:T k/SS ar s u*SS ar s u=T k:=by rw[CQ,hc,Ys,dF,<- fQ]
 have gz:∀p∈j9 ar s l[k],p.1∈R:=fun p hp=>by
  obtain ⟨a1,hpl,a2⟩:=Z6 g hk aa p hp;have:=F.kids k hk gj aa _ a1;rw[cU] at this
  rcases gI.1 this with e|h
  .exfalso
   have:∀(x:Nat) (hx:x<l.length),x=k->l[k].var<dP ar.length l[x]->False:=fun x hx e h=>by
    subst e;rw[jc] at h;omega
   exact this _ hpl e a2
  .exact h
 have hwt:∀h,BF ar s l h->T k/SS ar s u*((j9 ar s l[k]).map fun p=>p.2*h p.1).sum=T k*h k:=fun h hh=>by
  obtain ⟨q,q1,q2⟩:=hh k u hk hu;rw[qrr,oS,xB (G:=fun j=>SS ar s u*(s u j*q j)) fun j hj=>by rw[q1 j hj,<- fQ,dF (s u j),fQ],R7,<- q2,<- fQ,Ko]
 have AR:∀h,BF ar s l h->jT h T (k::R)=jT h (lF (T k/SS ar s u) (j9 ar s l[k]) T) R:=fun h hh=>by
  rw[KZ n9 _ _ gz,hwt h hh];unfold jT;rw[gh,lZ,th]
 have rM:∀v,v<=ar.length->0<PM ar s (ar.length-v) v:=by
  have:∀d v,v+d=ar.length->0<PM ar s d v:=by
   intro d
   induction d with
   | zero=>intro v _;exact Nat.one_pos
   | succ d ih=>intro v hv;exact Nat.mul_pos (h0 v aa) (ih (v+1) aa)
  intro v hv;exact this _ v aa
 have hM:=rM 0 (oJ _);rw[Nat.sub_zero] at hM
 have CJ:∀(T':Nat->Nat) (R':List Nat),jT (fun _=>PM ar s ar.length 0) T' R'=jT (fun _=>1) T' R'*PM ar s ar.length 0:=fun T' R'=>by
  unfold jT
  induction R' with
  | nil=>simp
  | cons j R' ih=>rw[gh,lZ,ih,gh,lZ,iI,mV]
 have CS:jT (fun _=>1) T (k::R)=jT (fun _=>1) (lF (T k/SS ar s u) (j9 ar s l[k]) T) R:=by
  have:=AR _ (qpY g);rw[CJ,CJ] at this;exact Nat.eq_of_mul_eq_mul_right hM this
 refine ⟨lT,Ko,gz,mJ,fun L p L' hL=>?_,⟨n9,fun j hj=>F.lt j (fW _ hj),(B1.1 F.srt).2,fun j hj sJ hv q hq=>?_,fun j hj v sJ hv=>?_,?_⟩,AR⟩
 .have hp:p.1∈R:=gz p (by rw[hL];simp)
  have h2:jT (fun _=>1) (lF (T k/SS ar s u) (L++[p]) T) R<=jT (fun _=>1) (lF (T k/SS ar s u) (j9 ar s l[k]) T) R:=by
   rw[KZ n9 _ _ fun q hq=>gz q (by
     rw[hL];rw[hZ] at hq ⊢;rcases hq with hq|hq
     .exact .inl hq
     .exact .inr (by simp at hq;simp[hq])),KZ n9 _ _ gz,hL]
   refine Nat.add_le_add_left (lG _ ?_) _;simp only[iH,gh,List.sum_append,lZ,sk,List.sum_nil];omega
  have h3:=qbE (h:=fun _=>1) (T:=lF (T k/SS ar s u) (L++[p]) T) hp;rw[Ln,LJ,mV] at h3;have h4:=F.tot;rw[Ln] at h2;omega
 .have:=F.kids j hj (fW _ sJ) hv q hq
  rcases gI.1 this with e|h
  .exfalso;obtain ⟨t,et,ht,h2⟩:=g.kid j hj hv q hq;have hs:=(B1.1 F.srt).1 j sJ;rw[iM hk,iM hj] at hs;have pY:dP ar.length l[j]=l[j].var:=by unfold dP;rw[aq aa]
   have:∀(x:Nat) (hx:x<l.length),x=k->l[j].var<dP ar.length l[x]->False:=fun x hx e h=>by
    subst e;omega
   have kN:t=k:=by rw[et,cU] at e;exact e
   exact this t aa kN (h2 aa)
  .exact h
 ·
  have hold:=F.dvd j hj v (fW _ sJ) hv
  have key:∀(L:List (Nat×Nat)) (T':Nat->Nat),(∀p∈L,p.1=j->PM ar s (ar.length-v) v∣T k/SS ar s u)->PM ar s (ar.length-v) v∣T' j->PM ar s (ar.length-v) v∣lF (T k/SS ar s u) L T' j:=by
   intro L
   induction L with
   | nil=>intro T' _ h;exact h
   | cons p L ih=>
    intro T' hL h;rw[lF];refine ih _ (fun q hq=>hL q (fW _ hq)) ?_;unfold upd
    split
    .rename_i e;rw[<- e];exact Nat.dvd_add h (Nat.dvd_mul_right_of_dvd (hL p gj e.symm) _)
    .exact h
  refine key _ T (fun p hp e=>?_) hold;obtain ⟨a1,hpl,a2⟩:=Z6 g hk aa p hp
  have hvb:u<v:=by
   have:∀(x:Nat) (hx:x<l.length),x=j->l[k].var<dP ar.length l[x]->(u:Int)<v:=fun x hx e h=>by
    subst e;omega
   have:=this _ hpl e a2;omega
  have fL:v<=ar.length:=by
   unfold dP at hv
   split at hv
   .have:=(g.var j hj (by omega)).1;omega
   .omega
  rw[CQ];refine Nat.dvd_mul_right_of_dvd ?_ _;have:=Ek (ar:=ar) (s:=s) (v-(u+1)) (ar.length-v) (u+1);rw[show v-(u+1)+(ar.length-v)=ar.length-(u+1) by omega,show u+1+(v-(u+1))=v by omega] at this;rw[this];exact Nat.dvd_mul_left _ _
 .rw[<- CS];exact F.tot
theorem Flow.leaf(g:GoodL ar l){k:Nat}{R:List Nat}{T:Nat->Nat}{done:Nat}(F:Flow ar s l (k::R) T done)(hk:k<l.length)(hv:l[k].var<0):Flow ar s l R T (done+T k)/\T k<=PM ar s ar.length 0/\k∉R:=by
 obtain ⟨mJ,n9⟩:=uD.1 F.nd;have ht:=F.tot;unfold jT at ht;rw[gh,lZ,mV] at ht
 refine ⟨⟨n9,fun j hj=>F.lt j (fW _ hj),(B1.1 F.srt).2,fun j hj sJ tT q hq=>?_,fun j hj v sJ=>F.dvd j hj v (fW _ sJ),?_⟩,aa,mJ⟩
 .have:=F.kids j hj (fW _ sJ) tT q hq
  rcases gI.1 this with e|h
  .exfalso;obtain ⟨t,et,vc,h2⟩:=g.kid j hj tT q hq;have hs:=(B1.1 F.srt).1 j sJ;rw[iM hk,iM hj] at hs;have uV:=(g.var j hj tT).1;have pY:dP ar.length l[j]=l[j].var:=by unfold dP;rw[aq aa]
   have jB:dP ar.length l[k]=ar.length:=by unfold dP;rw[an aa]
   omega
  .exact h
 .unfold jT;omega
theorem RK(g:GoodL ar l)(h0:∀v,v<ar.length->0<SS ar s v){h:Nat->Nat}{q:Int->Nat}(hh:BF ar s l h)(hq:∀(k:Nat) (hk:k<l.length),l[k].var<0->h k=q l[k].leaf):∀(R:List Nat) (T:Nat->Nat) (done:Nat),Flow ar s l R T done ->
  jT h T R=((run ar s l R T).map fun p=>p.2*q p.1).sum
 | [],T,done,F=>rfl
 | k::R,T,done,F=>by
  have hk:=F.lt k gj;have e:l[k]?=some l[k]:=bP hk;rw[run,e];dsimp only
  by_cases hv:l[k].var<0
  .rw[aq hv,gh,lZ,<- RK g h0 hh hq R T _ (F.leaf g hk hv).1];unfold jT;rw[gh,lZ,hq k hk hv]
  .rw[an hv];obtain ⟨_,_,_,_,_,F',hp⟩:=F.inner g h0 (u:=l[k].var.toNat) hk aa;rw[hp h hh,RK g h0 hh hq R _ _ F']
theorem Lg(g:GoodL ar l):∀(R:List Nat) (T:Nat->Nat),(∀j∈R,j<l.length)->(run ar s l R T).map Prod.fst=(R.filter fun j=>decide ((l.getD j ⟨0,[],0⟩).var<0)).map fun j=>(l.getD j ⟨0,[],0⟩).leaf
 | [],T,_=>rfl
 | k::R,T,h=>by
  have hk:=h k gj;have e:l[k]?=some l[k]:=bP hk;have h':∀j∈R,j<l.length:=fun j hj=>h j (fW _ hj);rw[run,e];dsimp only;rw[List.filter_cons,iM hk]
  by_cases hv:l[k].var<0
  .rw[aq hv,bM hv,aq rfl,gh,gh,Lg g R T h',iM hk]
  .rw[an hv,bD hv,an aA,Lg g R _ h']
end
end Go.Ab
namespace Go.Ab
def dn(f:Nat->Int)(l:List Nat):Prop:=l.Pairwise fun x y=>f x<=f y
theorem dn.app{f:Nat->Int}{A B:List Nat}:dn f (A++B)↔dn f A/\dn f B/\∀a∈A,∀b∈B,f a<=f b:=List.pairwise_append
theorem dn.le_last{f:Nat->Int}{A:List Nat}{y:Nat}(h:dn f (A++[y])):∀a∈A++[y],f a<=f y:=fun a ha=>by
 rcases hZ.1 ha with ha|ha
 .exact (dn.app.1 h).2.2 a ha y aA
 .simp at ha;subst ha;exact qG _
theorem dn.head_le{f:Nat->Int}{A:List Nat}{y:Nat}(h:dn f (y::A)):∀a∈y::A,f y<=f a:=fun a ha=>by
 rcases gI.1 ha with rfl|ha
 .exact qG _
 .exact (B1.1 h).1 a ha
theorem dn.put{f:Nat->Int}{x:Nat}{S1 S2:List Nat}(h:dn f (S1++S2))(h1:∀a∈S1,f a<=f x)(h2:∀b∈S2,f x<=f b):dn f (S1++x::S2):=by
 obtain ⟨a1,a2,a3⟩:=dn.app.1 h;refine dn.app.2 ⟨a1,B1.2 ⟨h2,a2⟩,fun a ha b hb=>?_⟩
 rcases gI.1 hb with rfl|hb
 .exact h1 a ha
 .exact a3 a ha b hb
theorem dn.both{f:Nat->Int}{L1 L2 R1 R2 M1 M2:List Nat}(hA:dn f (L1++L2))(hB:dn f (R1++R2))(h1:∀a∈L1,∀b∈R2,f a<=f b)(h2:∀a∈R1,∀b∈L2,f a<=f b)
  (p1:M1.Perm (L1++R1)) (p2:M2.Perm (L2++R2)) (s1:dn f M1) (s2:dn f M2):dn f (M1++M2)/\(M1++M2).Perm ((L1++L2)++(R1++R2)):=by
 constructor
 .refine dn.app.2 ⟨s1,s2,fun a ha b hb=>?_⟩;have ha:=p1.mem_iff.1 ha;have hb:=p2.mem_iff.1 hb
  rcases hZ.1 ha with ha|ha<;>rcases hZ.1 hb with hb|hb
  .exact (dn.app.1 hA).2.2 a ha b hb
  .exact h1 a ha b hb
  .exact h2 a ha b hb
  .exact (dn.app.1 hB).2.2 a ha b hb
 .refine (p1.append p2).trans ?_;rw[gR,gR];refine Ec L1 ?_;rw[<- gR,<- gR];exact List.Perm.append_right R2 List.perm_append_comm
def Me(T:Nat->Prop)(lo hi s:Nat):Prop:=lo<=s/\s<=hi/\(s=lo\/T (s-1))/\(s=hi\/¬ T s)
inductive Runs (f:Nat->Int) (n:Nat):List Nat->Prop
 | last (l:List Nat) (h:l.length<=n) (s:dn f l):Runs f n l
 | more (x l:List Nat) (h:x.length=n) (s:dn f x) (r:Runs f n l):Runs f n (x++l)
inductive Full (f:Nat->Int) (n:Nat):List Nat->Prop
 | nil:Full f n []
 | more (l x:List Nat) (r:Full f n l) (h:x.length=n) (s:dn f x):Full f n (l++x)
theorem Full.runs{f:Nat->Int}{n:Nat}{l:List Nat}(h:Full f n l):∀q,Runs f n q->Runs f n (l++q):=by
 induction h with
 | nil=>exact fun q h=>h
 | more l x r hx s ih=>
  intro q hq;rw[gR];exact ih _ (.more x q hx s hq)
theorem Runs.one{f:Nat->Int}{n:Nat}{l:List Nat}(h:Runs f n l)(hn:l.length<=n):dn f l:=by
 cases h with
 | last _ _ s=>exact s
 | more x l hx s r=>
  have:l=[]:=oF (by simp at hn;omega);subst this;simpa using s
theorem Runs.two{f:Nat->Int}{n:Nat}{q:List Nat}(h:Runs f n q)(hn:0<n)(hl:n<q.length):∃x r,q=x++r/\x.length=n/\dn f x/\Runs f n r:=by
 cases h with
 | last _ h _=>omega
 | more x l hx s r=>exact ⟨x,l,rfl,hx,s,r⟩
end Go.Ab
namespace Go.Ab
noncomputable section
open Go.Proofs.Tryz
end
end Go.Ab
namespace Go.Ab
noncomputable section
variable (a0 a1 x0 x1 x2 x3 x4 x5 x8 x9 aN aS aY xD rn:AV) (m:ai) (K:KT)
open Go.Proofs.Tryz
def IG:St:=⟨(br (aO (aJ []))),m⟩
def Eo:St:=⟨(aK (x2::br (aK []))),m⟩
def DT:OM:=bY 11 (b8 (c2 (c2 (aE f11)))) 4 (aV (x8::x9::aN::aV (aK []))) m K
abbrev qea:KT:=bI 11 (c2 (c2 (c2 (aE f11)))) K
abbrev qeb:KT:=bw 0 (qea K)
abbrev Mj:KT:=(qeb K)
theorem Vf:AC af 11 [a0] m=(aM false a0).bind fun v1=>(ag .o .gtr v1 (.I 16)).bind fun v2=>aB v2 (some ((.I 2),m)) ((aM false a0).bind fun v3=>DT a0 v3 (.I 0) m (Mj (aH f11))):=
(bm af 11 [a0] m (fn:=f11) (c:=aE f11) qmb rfl).trans au
theorem HN:DT x8 x9 aN m K=(ag .o .lss aN x9).bind fun v1=>aB v1 ((aI none x8 aN).bind fun v2=>(aj none m v2).bind fun v3=>(ag .o .lss v3 (.I 1)).bind fun v4=>aB v4 (K .ret (Eo (.I 1) m)) ((ag .o .gtr v3 (.I 64)).bind fun v5=>aB v5 (K .ret (Eo (.I 1) m)) ((ag .o .add aN (.I 1)).bind fun v6=>DT x8 x9 v6 m K))) (K (.exit 0) (IG m)):=
(bX (bQ _) _ _ _).trans au
theorem SY:Mj (aH f11) (.exit 0) (IG  m)=some ((.I 0),m):=au
theorem SX:Mj (aH f11) .ret (Eo x2 m)=some (x2,m):=au
def US:St:=⟨(aO (aJ (x5::br []))),m⟩
def U8:St:=⟨(aO (x4::br (aJ []))),m⟩
def HT:OM:=bY 12 (b8 (c2 (c2 (aE f12)))) 3 (aJ (x1::aK (aJ (x5::aK (x8::x9::aN::aV (aK (aJ []))))))) m K
abbrev qeJ:KT:=bI 12 (c2 (c2 (c2 (aE f12)))) K
abbrev qeK:KT:=bw 0 (qeJ K)
abbrev Hb:KT:=(qeK K)
theorem T12:AC af 12 [a0,a1] m=(aM false a0).bind fun v1=>HT a1 (.I 1) a0 v1 (.I 0) m (Hb (aH f12)):=
(bm af 12 [a0,a1] m (fn:=f12) (c:=aE f12) qml rfl).trans au
theorem Tx:HT x1 x5 x8 x9 aN m K=(ag .o .lss aN x9).bind fun v1=>aB v1 ((aI none x8 aN).bind fun v2=>(aj none m v2).bind fun v3=>(ag .o .mul x5 v3).bind fun v4=>(ag .o .gtr v4 x1).bind fun v5=>aB v5 (K .ret (U8 (.I 0) m)) ((ag .o .add aN (.I 1)).bind fun v6=>HT x1 v4 x8 x9 v6 m K)) (K (.exit 0) (US x5 m)):=
(bX (bQ _) _ _ _).trans au
theorem qeM:Hb (aH f12) (.exit 0) (US x5 m)=some (x5,m):=au
theorem qeL:Hb (aH f12) .ret (U8 x4 m)=some (x4,m):=au
def Og:St:=⟨(br (aV (aK (aJ [])))),m⟩
def Ou:St:=⟨(aO (x4::br (aO (aK [])))),m⟩
def Iv:OM:=bY 89 (b8 (c2 (c2 (aE f89)))) 4 (x0::x1::aV (aK (aS::aY::aV (aO (aJ []))))) m K
abbrev qiI:KT:=bI 89 (c2 (c2 (c2 (aE f89)))) K
abbrev qiJ:KT:=bw 0 (qiI K)
abbrev MW:KT:=(qiJ K)
theorem T89:AC af 89 [a0,a1] m=(aM false a0).bind fun v1=>(aM false a1).bind fun v2=>(ag .o .neq v1 v2).bind fun v3=>aB v3 (some ((.bool false),m)) ((aM false a0).bind fun v4=>Iv a0 a1 v4 (.I 0) m (MW (aH f89))):=
(bm af 89 [a0,a1] m (fn:=f89) (c:=aE f89) qn8 rfl).trans au
theorem UJ:Iv x0 x1 aS aY m K=(ag .o .lss aY aS).bind fun v1=>aB v1 ((aI (some 3) x0 aY).bind fun v2=>(aj (some 3) m v2).bind fun v3=>(aI (some 3) x1 aY).bind fun v4=>(aj (some 3) m v4).bind fun v5=>(aF (AP af) (some m.length) m 142 [v3,v5]).bind fun r6=>(gH .not r6.1).bind fun v7=>aB v7 (K .ret (Ou (.bool false) r6.2)) ((ag .o .add aY (.I 1)).bind fun v8=>Iv x0 x1 aS v8 r6.2 K)) (K (.exit 0) (Og m)):=
(bX (bQ _) _ _ _).trans au
theorem qiL:MW (aH f89) (.exit 0) (Og  m)=some ((.bool true),m):=au
theorem qiK:MW (aH f89) .ret (Ou x4 m)=some (x4,m):=au
def Nv:St:=⟨(bC (aV (aO (aJ [])))),m⟩
def On:St:=⟨(aO (x4::bC (aV []))),m⟩
def DX:OM:=bY 142 (b8 (c2 (c2 (aE f142)))) 4 (aK (x2::x3::br (aV (aJ (xD::rn::aV (aO (aK []))))))) m K
abbrev qfb:KT:=bI 142 (c2 (c2 (c2 (aE f142)))) K
abbrev qfc:KT:=bw 0 (qfb K)
abbrev DL:KT:=(qfc K)
theorem Vl:AC af 142 [a0,a1] m=(dp none (some 3) m a0).bind fun r1=>(dp none (some 3) r1.2 a1).bind fun r2=>(aL 0 r1.1).bind fun v3=>(aj none r2.2 v3).bind fun v4=>(aL 0 r2.1).bind fun v5=>(aj none r2.2 v5).bind fun v6=>(ag .o .neq v4 v6).bind fun v7=>aB v7 (some ((.bool false),r2.2)) ((aL 2 r1.1).bind fun v8=>(aj none r2.2 v8).bind fun v9=>(aL 2 r2.1).bind fun v10=>(aj none r2.2 v10).bind fun v11=>(ag .o .neq v9 v11).bind fun v12=>aB v12 (some ((.bool false),r2.2)) ((aL 1 r1.1).bind fun bg=>(aj none r2.2 bg).bind fun bf=>(aM false bf).bind fun bh=>(aL 1 r2.1).bind fun bK=>(aj none r2.2 bK).bind fun bH=>(aM false bH).bind fun cV=>(ag .o .neq bh cV).bind fun cP=>aB cP (some ((.bool false),r2.2)) ((aL 1 r1.1).bind fun v20=>(aj none r2.2 v20).bind fun v21=>(aM false v21).bind fun v22=>DX r1.1 r2.1 v22 (.I 0) r2.2 (DL (aH f142))))):=
(bm af 142 [a0,a1] m (fn:=f142) (c:=aE f142) qmG rfl).trans au
theorem HY:DX x2 x3 xD rn m K=(ag .o .lss rn xD).bind fun v1=>aB v1 ((aL 1 x2).bind fun v2=>(aj none m v2).bind fun v3=>(aI none v3 rn).bind fun v4=>(aj none m v4).bind fun v5=>(aL 1 x3).bind fun v6=>(aj none m v6).bind fun v7=>(aI none v7 rn).bind fun v8=>(aj none m v8).bind fun v9=>(ag .o .neq v5 v9).bind fun v10=>aB v10 (K .ret (On (.bool false) m)) ((ag .o .add rn (.I 1)).bind fun v11=>DX x2 x3 xD v11 m K)) (K (.exit 0) (Nv m)):=
(bX (bQ _) _ _ _).trans au
theorem S5:DL (aH f142) (.exit 0) (Nv  m)=some ((.bool true),m):=au
theorem S4:DL (aH f142) .ret (On x4 m)=some (x4,m):=au
end
end Go.Ab
namespace Go.Ab
open Go.Proofs Go.Proofs.Tryz
def mW(n:Int):Bool:=decide (1<=n/\n<=64)
def py(ns:List Int):Int:=if ns.length>16 then 2 else if ns.all mW then 0 else 1
theorem Wb(z:Bool)(o:Own)(ns:List Int)(hl:ns.length<=16)(m:ai)(K:KT):∀j i:Nat,i+j=ns.length->DT (IA z o ns) (.I ns.length) (.I i) m K=if (ns.drop i).all mW then K (.exit 0) (IG m) else K .ret (Eo (.I 1) m)
 | 0,i,h=>by
  rw[HN,bS,ae,aC,an aa,gU aa];rfl
 | j+1,i,h=>by
  have hi:i<ns.length:=aa;have ih:=Wb z o ns hl m K j (i+1) aa;rw[HN,bS,ae,aC,aq hi,j6 hi,ae,gP,ae,bz,ae,aC,jP hi,nF]
  by_cases h1:ns[i]<1
  .rw[aq h1,show mW ns[i]=false from bD aa];rfl
  .rw[an h1,gE,ae,aC]
   by_cases h2:ns[i]>64
   .rw[aq h2,show mW ns[i]=false from bD aa];rfl
   .rw[an h2,bU aa,ae,ih,show mW ns[i]=true from bM aa,dd]
theorem V12(z:Bool)(o:Own)(ns:List Int):AP af 11 [IA z o ns]=some (.I (py ns)):=by
 refine iW (m:=[]) (v:=.I (py ns)) (l:=[]) ?_ rfl rfl;unfold py;rw[Vf,iT,ae,show ((16:Int))=((16:Nat):Int) from rfl,A7,ae,aC]
 by_cases h:ns.length>16
 .rw[aq h,aq h]
 .rw[an h,an h,ae,show ((0:Int))=((0:Nat):Int) from rfl,Wb z o ns aa [] _ ns.length 0 aa,gC]
  by_cases h2:ns.all mW=true
  .rw[aq h2,aq h2,SY];rfl
  .rw[an h2,an h2,SX]
theorem qbr(z:Bool)(o:Own)(ns:List Int)(d:Option Nat)(m:ai):aF (AP af) d m 11 [IA z o ns]=some (.I (py ns),m):=by
 rw[cI (n6 z o ns),V12];rfl
theorem z8{ns:List Int}(h:py ns=0):ns.length<=16/\∀a∈ns,1<=a/\a<=64:=by
 unfold py at h
 split at h
 .cases h
 .split at h
  .rename_i h1 h2;exact ⟨aa,fun a ha=>by have:=gD.1 h2 a ha;exact sS this⟩
  .cases h
def pO(most:Int):Int->List Int->Int
 | acc,[]=>acc
 | acc,n::l=>if acc*n>most then 0 else pO most (acc*n) l
theorem Wn(z:Bool)(o:Own)(ns:List Int)(hl:ns.length<=16)(hb:∀a∈ns,1<=a/\a<=64)(most:Int)(hm:0<=most/\most<=1048576)(m:ai):∀(j i:Nat) (acc:Int),i+j=ns.length->1<=acc->acc<=most\/acc=1 ->
  HT (.I most) (.I acc) (IA z o ns) (.I ns.length) (.I i) m (Hb (aH f12))=some (.I (pO most acc (ns.drop i)),m)
 | 0,i,acc,h,h1,h2=>by
  rw[Tx,bS,ae,aC,an aa,gU aa,qeM];rfl
 | j+1,i,acc,h,h1,h2=>by
  have hi:i<ns.length:=aa;have ha:=hb ns[i] (bA hi);have p1:acc*ns[i]<=1048576*64:=Int.mul_le_mul aa ha.2 aa aa
  have p2:1<=acc*ns[i]:=by
   have:=Int.mul_le_mul h1 ha.1 aa aa;simpa using this
  rw[Tx,bS,ae,aC,aq hi,j6 hi,ae,gP,ae,xZ,ae,iV aa aa,gE,ae,aC,jP hi,pO]
  by_cases h3:acc*ns[i]>most
  .rw[aq h3,aq h3,qeL]
  .rw[an h3,an h3,bU aa,ae];exact Wn z o ns hl hb most hm m j (i+1) _ aa p2 (.inl aa)
theorem V27(z:Bool)(o:Own)(ns:List Int)(hl:ns.length<=16)(hb:∀a∈ns,1<=a/\a<=64)(most:Int)(hm:0<=most/\most<=1048576):AP af 12 [IA z o ns,.I most]=some (.I (pO most 1 ns)):=by
 refine iW (m:=[]) (v:=.I (pO most 1 ns)) (l:=[]) ?_ rfl rfl;rw[T12,iT,ae,show ((0:Int))=((0:Nat):Int) from rfl,Wn z o ns hl hb most hm [] ns.length 0 1 aa aa (.inr rfl),gC]
theorem Rm(z:Bool)(o:Own)(ns:List Int)(hl:ns.length<=16)(hb:∀a∈ns,1<=a/\a<=64)(most:Int)(hm:0<=most/\most<=1048576)(d:Option Nat)(m:ai):aF (AP af) d m 12 [IA z o ns,.I most]=some (.I (pO most 1 ns),m):=by
 rw[fN (n6 z o ns) (gJ _ _),V27 z _ ns hl hb most hm];rfl
theorem ql0(m:ai)(z:Bool)(o:Own)(ns:List Int)(hl:ns.length<=1000000):∃o' m',bL none false 3 none 8 m (.lst none false .full []) (IA z o ns)=some (IA false o' ns,m')/\Fr m m' []/\(o'=.full/\ns=[]\/o'=.tok m.length 3):=by
 cases ns with
 | nil=>exact ⟨.full,m,rfl,Fr.refl _ _,.inl ⟨rfl,rfl⟩⟩
 | cons n ns=>
  have hb:(0+(ns.length+1))*8<=ft:=by unfold ft;simp at hl;omega
  refine ⟨.tok m.length 3,m++[some (Ent.tok (0+(ns.length+1)) 1)],?_,Fr.app m _ _,.inr rfl⟩;simp only[bL,gh,bo,ba,bu,hb,bJ,or_true,jJ,lp,az,bF,Sh.size]
  rfl
theorem RW(z:Bool)(o:Own)(ns:List Int)(k:IntKind)(i:Nat)(h:i<=ns.length):gX none (IA z o ns) none (some (.int k i)) none=some (IA z .no (ns.take i)):=by
 simp[gX,o0,je,h,qm]
def kz(n:ND):Bool:=if n.var<0 then true else false
def ko(n:ND):Own:=if n.var<0 then .full else .no
theorem w7{n:ND}(h:n.ok):fD n=IA (kz n) (ko n) n.kids:=by
 unfold fD kz ko
 split
 .rename_i hv
  rcases h with ⟨_,h2,_⟩|⟨h1,_⟩
  .rw[h2];rfl
  .omega
 .rfl
theorem ED{m:ai}{b1 b2:Nat}{a1 a2 c1 c2:AV}{z1 z2:Bool}{o1 o2:Own}{k1 k2:List Int}(hb1:m.get b1=some (Ent.B [a1,IA z1 o1 k1,c1]))(hb2:m.get b2=some (Ent.B [a2,IA z2 o2 k2,c2]))(hl:k1.length=k2.length)(jC:k1.length<=100000):∀j i:Nat,i+j=k1.length ->
  DX (.ptr b1 0) (.ptr b2 0) (.I k1.length) (.I i) m (DL (aH f142))=some (.bool (decide (k1.drop i=k2.drop i)),m)
 | 0,i,h=>by
  rw[HY,bz,ae,aC,an aa,gU aa,gU aa,S5];rfl
 | j+1,i,h=>by
  have hi:i<k1.length:=aa;have hi2:i<k2.length:=aa;have x1:=j6 (z:=z1) (o:=o1) (k:=.i64) hi;have x2:=j6 (z:=z2) (o:=o2) (k:=.i64) hi2;have ih:=ED hb1 hb2 hl jC j (i+1) aa;rw[HY,bz,ae,aC,aq aa]
  repeat ((with_reducible first|apply bs|apply fB);(focus first|(simp (disch:=first|assumption|omega|simp only[b7]<;>omega|fail) only[fA,beq_self_eq_true,dz,ae,Sh.size,bJ,b9,Nat.reduceAdd,Nat.reduceLeDiff,aR,hb1,hb2,x1,x2]<;>rfl)|rfl);try dsimp only)
  rw[aC,jP hi,jP hi2]
  by_cases he:k1[i]=k2[i]
  .rw[an (by simpa using he),bU aa,ae,ih];congr 3;exact jm.2 (by rw[he];exact ⟨fun e=>by rw[e],fun e=>(List.cons.inj e).2⟩)
  .rw[aq he,S4];congr 3;exact (bD (fun e=>he (List.cons.inj e).1)).symm
theorem V60{a b:ND}(ha:a.ok)(hb:b.ok):AP af 142 [a.av,b.av]=some (.bool (decide (a=b))):=by
 have pA:a.av=.agg [.I a.var,IA (kz a) (ko a) a.kids,.I a.leaf]:=by rw[ND.av,w7 ha]
 have hbv:b.av=.agg [.I b.var,IA (kz b) (ko b) b.kids,.I b.leaf]:=by rw[ND.av,w7 hb]
 have hl:∀{n:ND},n.ok->n.kids.length<=64:=fun h=>by
  rcases h with ⟨_,h2,_⟩|⟨_,_,_,_,h5⟩
  .rw[h2];simp
  .exact h5
 have l1:=hl ha;have l2:=hl hb;rw[pA,hbv]
 have key:AC af 142 [.agg [.I a.var,IA (kz a) (ko a) a.kids,.I a.leaf],.agg [.I b.var,IA (kz b) (ko b) b.kids,.I b.leaf]] []=some (.bool (decide (a=b)),[some (Ent.B [.I a.var,IA (kz a) (ko a) a.kids,.I a.leaf]),some (Ent.B [.I b.var,IA (kz b) (ko b) b.kids,.I b.leaf])]):=by
  rw[Vl]
  repeat ((with_reducible first|apply bs|apply fB);(focus first|(simp (disch:=first|assumption|omega|simp only[b7]<;>omega|fail) only[fA,beq_self_eq_true,dz,ae,Sh.size,bJ,b9,Nat.reduceAdd,Nat.reduceLeDiff,aR,Cf,iT]<;>rfl)|rfl);try dsimp only)
  rw[aC]
  by_cases h1:a.var=b.var
  .rw[an (by simpa using h1)]
   repeat ((with_reducible first|apply bs|apply fB);(focus first|(simp (disch:=first|assumption|omega|simp only[b7]<;>omega|fail) only[fA,beq_self_eq_true,dz,ae,Sh.size,bJ,b9,Nat.reduceAdd,Nat.reduceLeDiff,aR,Cf,iT]<;>rfl)|rfl);try dsimp only)
   rw[aC]
   by_cases h2:a.leaf=b.leaf
   .rw[an (by simpa using h2)]
    repeat ((with_reducible first|apply bs|apply fB);(focus first|(simp (disch:=first|assumption|omega|simp only[b7]<;>omega|fail) only[fA,beq_self_eq_true,dz,ae,Sh.size,bJ,b9,Nat.reduceAdd,Nat.reduceLeDiff,aR,Cf,iT]<;>rfl)|rfl);try dsimp only)
    rw[aC]
    by_cases h3:a.kids.length=b.kids.length
    .rw[an aa]
     repeat ((with_reducible first|apply bs|apply fB);(focus first|(simp (disch:=first|assumption|omega|simp only[b7]<;>omega|fail) only[fA,beq_self_eq_true,dz,ae,Sh.size,bJ,b9,Nat.reduceAdd,Nat.reduceLeDiff,aR,Cf,iT]<;>rfl)|rfl);try dsimp only)
     have w:=ED (m:=[some (Ent.B [.I a.var,IA (kz a) (ko a) a.kids,.I a.leaf])]++[some (Ent.B [.I b.var,IA (kz b) (ko b) b.kids,.I b.leaf])]) (b1:=0) (b2:=1) rfl rfl h3 aa a.kids.length 0 aa;rw[gC,gC] at w;refine w.trans ?_;congr 3;refine jm.2 ⟨fun e=>?_,fun e=>by rw[e]⟩;obtain ⟨av,ak,al⟩:=a;obtain ⟨bv,bk,bl⟩:=b;simp only at h1 h2 e;rw[h1,h2,e]
    .rw[aq aa];congr 3;exact (bD (fun e=>h3 (by rw[e]))).symm
   .rw[aq h2];congr 3;exact (bD (fun e=>h2 (by rw[e]))).symm
  .rw[aq h1];congr 3;exact (bD (fun e=>h1 (by rw[e]))).symm
 refine iW key rfl rfl
theorem qpy(n:ND):Fz n.av n.av:=fun m=>by
 unfold ND.av fD;split<;>rfl
abbrev NL(z:Bool)(o:Own)(l:List ND):AV:=.lst (some 3) z o (l.map ND.av)
theorem qak(z:Bool)(o:Own)(l:List ND):aM false (NL z o l)=some (.I l.length):=by rw[qy,bu]
theorem QA{z:Bool}{o:Own}{l:List ND}{i:Nat}(hi:i<l.length):aI (some 3) (NL z o l) (.I i)=some (.vptr [.I l[i].var,fD l[i],.I l[i].leaf]):=by
 simp[aI,hi];rfl
theorem Kv(m:ai)(n:ND):aj (some 3) m (.vptr [.I n.var,fD n,.I n.leaf])=some n.av:=rfl
end Go.Ab
namespace Go.Ab
open Go.Proofs Go.Proofs.Tryz
theorem qcs{m:ai}{k:Nat}{a b c a' b' c':AV}(h:m.get k=some (Ent.B [a,b,c]))(hs:dJ (some 3) (.agg [a',b',c'])=true):aP (some 3) m (.ptr k 0) (.agg [a',b',c'])=some (m.set k (some (Ent.B [a',b',c']))):=by
 rw[sa,h,mg,ae];simp[dz,Sh.size,hs,b9,AV.cells]
section
variable {m:ai} {s:Nat} {F:List Nat} {arms:AV} {most:Int} {l:List ND}
def Z5(l:List ND):Prop:=∀n∈l,¬ n.var<0->n.kids≠[]
theorem A48(k:Int)(m:ai):AC af 93 [.I k] m=some (.bool (!mW k),m):=by
 rw[T93,bz,ae,aC]
 by_cases h1:k<1
 .rw[aq h1,mW,bD aa];rfl
 .rw[an h1,gE,ae,mW,<- decide_not];congr 3;exact jm.2 aa
theorem qoI(z:Bool)(ns:List Int)(h:z=true->ns=[]):∃z' o',Ad z ns=IA z' o' ns/\(o'=.no\/o'=.full)/\(z'=true->ns=[]):=by
 cases z with
 | true=>rw[h rfl];exact ⟨true,.full,rfl,.inr rfl,fun _=>rfl⟩
 | false=>
  cases ns with
  | nil=>exact ⟨false,.full,rfl,.inr rfl,fun h=>by cases h⟩
  | cons n ns=>exact ⟨false,.no,rfl,.inl rfl,fun h=>by cases h⟩
theorem Sy(m:ai)(z:Bool)(o:Own)(ns:List Int)(hz:z=true->ns=[])(he:py ns=0) :
  ∃m' s F z' o',AC af 32 [IA z o ns] m=some (.tup [.ptr s 0,.I 0],m')/\dW m' s F (IA z' o' ns) 4000 []/\Fr m m' []/\(∀x∈F,m.length<=x)/\(z'=true->ns=[]):=by
 obtain ⟨h1,h2⟩:=z8 he;obtain ⟨m1,e47,f1⟩:=SB (m:=m) (z:=z) (o:=o) (ks:=ns) (g:=93) (caps:=[]) (p:=fun k=>!mW k) aa rfl rfl rfl (fun m1 k _=>⟨m1,A48 k m1,Fr.refl _ _⟩);have ha:ns.all mW=true:=gD.2 fun a ha=>bM (h2 a ha);rw[WN,ha,jj] at e47;obtain ⟨z',o',ec,_,Qz⟩:=qoI z ns hz;have c49:=fun m=>Rn z o ns aa m;rw[ec] at c49;have l1:=f1.len
 refine ⟨(m1++[some (Ent.mp .str [])])++[some (Ent.B [IA z' o' ns,aD,.mref m1.length,.I 4000])],m1.length+1,[m1.length+1,m1.length],z',o',?_,?_,(f1.snoc _).snoc _,?_,Qz⟩
 .have hb:fR (.agg [aD,aD,.nilm,(.I 0)]) [(0,none,IA z' o' ns),(2,none,(.mref m1.length)),(3,none,(.I 4000))]=some (.agg [IA z' o' ns,aD,.mref m1.length,.I 4000]):=rfl;have hx:∀m,dp none (some 4) m (.agg [IA z' o' ns,aD,.mref m1.length,.I 4000])=some (.ptr m.length 0,m++[some (Ent.B [IA z' o' ns,aD,.mref m1.length,.I 4000])]):=fun m=>rfl;rw[T32,iT,ae,gE,ae,aC,an aa,e47,ae,gT]
  repeat ((with_reducible first|apply bs|apply fB);(focus first|(simp (disch:=first|assumption|omega|simp only[b7]<;>omega|fail) only[fA,beq_self_eq_true,dz,ae,Sh.size,bJ,b9,Nat.reduceAdd,Nat.reduceLeDiff,aR,c49,hb,hx]<;>rfl)|rfl);try dsimp only)
 .refine ⟨m1.length,aD,[],⟨(by simp (disch:=first|assumption|omega|simp only[b7]<;>omega|fail) only[ik,cK,cJ,cQ,di]<;>rfl),(by simp (disch:=first|assumption|omega|simp only[b7]<;>omega|fail) only[ik,cK,cJ,cQ,di]<;>rfl),.none,aA,aa,aA⟩,rfl⟩
 .intro x hx;simp only[gI,zK,or_false] at hx;omega
end
inductive NR (e:Nat) (m:ai):AV->List ND->List Nat->Prop
 | none:NR e m aD [] []
 | some (t:Nat) (l:List ND) (ht:m.get t=some (.tok l.length 3)):NR e m (.lst (some 3) false (.tok t e) (l.map ND.av)) l [t]
theorem xn{e:Nat}{m m':ai}{x:AV}{l:List ND}{T:List Nat}(h:NR e m x l T)(f:∀k∈T,m'.get k=m.get k):NR e m' x l T:=by
 cases h with
 | none=>exact .none
 | some t l ht=>exact .some t l ((f t (by simp)).trans ht)
theorem xm{e:Nat}{m:ai}{x:AV}{l:List ND}{T:List Nat}(h:NR e m x l T):∀k∈T,k<m.length:=by
 cases h with
 | none=>simp
 | some t l ht=>
   intro k hk;obtain rfl:k=t:=by simpa using hk
   exact bW ht
theorem Rb{e:Nat}{m:ai}{x:AV}{l:List ND}{T:List Nat}(h:NR e m x l T):aM false x=some (.I l.length):=by
 cases h with
 | none=>rfl
 | some t l ht=>rw[qy,bu]
theorem qsh{e:Nat}{m:ai}{x:AV}{l:List ND}{T:List Nat}(h:NR e m x l T){i:Nat}(hi:i<l.length):aI (some 3) x (.I i)=some (.vptr [.I l[i].var,fD l[i],.I l[i].leaf]):=by
 cases h with
 | none=>simp at hi
 | some t l ht=>exact QA hi
theorem qot(n:ND):df (some 3) [n.av]=some (NL false .full [n]):=by
 show df (some 3) [.agg [.I n.var,fD n,.I n.leaf]]=some (.lst (some 3) false .full [.agg [.I n.var,fD n,.I n.leaf]]);unfold fD;split<;>rfl
theorem ZP{n:ND}:∀{l:List ND} {i:Nat} (hi:i<l.length),l[i]=n->(∀t (ht:t<l.length),t<i->l[t]≠n)->l.idxOf n=i
 | [],i,hi,_,_=>by simp at hi
 | x::l,0,_,h,_=>by
  have h:x=n:=h;rw[h];simp
 | x::l,i+1,hi,h,hne=>by
  have hx:x≠n:=hne 0 aA aa
  rw[List.idxOf_cons,cond_eq_ite,an (by simpa using hx),ZP (l:=l) (i:=i) (by simpa using hi) (by simpa using h) (fun t ht hti=>by
   have:=hne (t+1) (by simpa using ht) aa
   simpa using this)]
end Go.Ab
namespace Go.Ab
noncomputable section
variable (a0 a1 a2 a3 x0 x1 x2 x3 x8 x9 aN aX aS:AV) (m:ai) (K:KT)
open Go.Proofs.Tryz
theorem T15:AC af 15 [a0,a1] m=(AC af 32 [a0] m).bind fun r1=>(a8 r1.1 0).bind fun v2=>(a8 r1.1 1).bind fun v3=>(ag .o .neq v3 (.I 0)).bind fun v4=>aB v4 (some ((.tup [.nilp,(.I 0),(.bool false)]),r1.2)) ((AC af 62 [v2,a0,a1,(.I 0)] r1.2).bind fun r5=>(a8 r5.1 0).bind fun v6=>(a8 r5.1 1).bind fun v7=>(ag .o .eql v7 (.I 0)).bind fun v8=>some ((.tup [v2,v6,v8]),r5.2)):=
(bm af 15 [a0,a1] m (fn:=f15) (c:=aE f15) qmL rfl).trans au
def U4:St:=⟨(x0::aK (x3::aO (aK (aN::bC (br (aV (aO []))))))),m⟩
def qju:St:=⟨(aV (x8::x9::bC (br (aV (aO (aJ [])))))),m⟩
def BV:OM:=bY 62 (b8 (bG (aE f62))) 6 (x0::x1::x2::x3::aO (aK (aN::aX::aS::bC (br (aV (aK [])))))) m K
abbrev qia:KT:=bI 62 (bG (c2 (aE f62))) K
abbrev qib:KT:=bw 0 (qia K)
abbrev DO:KT:=(qib K)
theorem Vs:AC af 62 [a0,a1,a2,a3] m=(aM false a1).bind fun v1=>(ag .o .eql a3 v1).bind fun v2=>aB v2 ((aI none a2 (.I 0)).bind fun v3=>(aj none m v3).bind fun v4=>(AC af 33 [a0,v4] m).bind fun r5=>(a8 r5.1 0).bind fun v6=>(a8 r5.1 1).bind fun v7=>some ((.tup [v6,v7]),r5.2)) ((aM false a2).bind fun v8=>(aI none a1 a3).bind fun v9=>(aj none m v9).bind fun v10=>(ag .o .quo v8 v10).bind fun v11=>BV a0 a1 a2 a3 aD v11 (.I 0) m (DO (aH f62))):=
(bm af 62 [a0,a1,a2,a3] m (fn:=f62) (c:=aE f62) qnM rfl).trans au
theorem UB:BV x0 x1 x2 x3 aN aX aS m K=(aI none x1 x3).bind fun v1=>(aj none m v1).bind fun v2=>(ag .o .lss aS v2).bind fun v3=>aB v3 ((ag .o .mul aS aX).bind fun v4=>(ag .o .add aS (.I 1)).bind fun v5=>(ag .o .mul v5 aX).bind fun v6=>(gX none x2 (some v4) (some v6) none).bind fun v7=>(ag .o .add x3 (.I 1)).bind fun v8=>(AC af 62 [x0,x1,v7,v8] m).bind fun r9=>(a8 r9.1 0).bind fun v10=>(a8 r9.1 1).bind fun v11=>(ag .o .neq v11 (.I 0)).bind fun v12=>aB v12 (K .ret (qju (.I 0) v11 r9.2)) ((df none [v10]).bind fun bg=>(bL none false 3 none 8 r9.2 aN bg).bind fun mh=>(ag .o .add aS (.I 1)).bind fun bh=>BV x0 x1 x2 x3 mh.1 aX bh mh.2 K)) (K (.exit 0) (U4 x0 x3 aN m)):=
(bX (bQ _) _ _ _).trans au
theorem qic:DO (aH f62) (.exit 0) (U4 x0 x3 aN m)=(AC af 34 [x0,x3,aN] m).bind fun r1=>(a8 r1.1 0).bind fun v2=>(a8 r1.1 1).bind fun v3=>some ((.tup [v2,v3]),r1.2):=au
end
end Go.Ab
namespace Go.Ab
open Go.Proofs Go.Proofs.Tryz
theorem qaZ{tk:TK}{a b:Nat}(h:b≠0):ag tk .rem (.I a) (.I b)=some (.I (a%b:Nat)):=by
 have e:ag tk .rem (.I a) (.I b)=if (b:Int)=0 then none else some (.I ((a:Int).tmod b)):=by cases tk<;>rfl
 rw[e,an aa]
 rfl
theorem qaY{tk:TK}{a b:Nat}(h:b≠0)(h':a<9223372036854775808):ag tk .quo (.I a) (.I b)=some (.I (a/b:Nat)):=by
 have e:ag tk .quo (.I a) (.I b)=if (b:Int)=0 then none else some (.I (IntKind.wrap .i64 ((a:Int).tdiv b))):=by cases tk<;>rfl
 rw[e,an aa];have e2:(a:Int).tdiv b=((a/b:Nat):Int):=rfl;have:=B3 a b;rw[e2];generalize a/b=q at *;rw[iV aa aa]
theorem C3{tk:TK}{a b:Nat}(h:a*b<9223372036854775808):ag tk .mul (.I a) (.I b)=some (.I (a*b:Nat)):=by
 rw[xZ,<- ta];generalize a*b=q at *;rw[iV aa aa]
inductive GR (e:Nat) (m:ai):AV->List AV->List Nat->Prop
 | none:GR e m aD [] []
 | some (t:Nat) (es:List AV) (ht:m.get t=some (.tok es.length 1)) (hne:es≠[]):GR e m (.lst none false (.tok t e) es) es [t]
theorem Fa{e:Nat}{m m':ai}{x:AV}{l:List AV}{T:List Nat}(h:GR e m x l T)(f:∀k∈T,m'.get k=m.get k):GR e m' x l T:=by
 cases h with
 | none=>exact .none
 | some t l ht hne=>exact .some t l ((f t (by simp)).trans ht) hne
theorem Cu{e:Nat}{m:ai}{x:AV}{l:List AV}{T:List Nat}(h:GR e m x l T):∀k∈T,k<m.length:=by
 cases h with
 | none=>simp
 | some t l ht _=>
  intro k hk;obtain rfl:k=t:=by simpa using hk
  exact bW ht
theorem As{e:Nat}{m:ai}{x:AV}{l:List AV}{T:List Nat}(h:GR e m x l T):∃z o,x=.lst none z o l/\(z=true->l=[]):=by
 cases h with
 | none=>exact ⟨true,.full,rfl,fun _=>rfl⟩
 | some t l ht _=>exact ⟨false,.tok t e,rfl,fun h=>by cases h⟩
theorem Ar{e b:Nat}{m:ai}{x:AV}{l:List AV}{T:List Nat}(h:GR e m x l T)(hl:l.length<1000000)(hb:b<=64)(y:AV):∃x' m' T',bL none false e none b m x (.lst none false .full [y])=some (x',m')/\GR e m' x' (l++[y]) T'/\Fr m m' T/\Gr m T T':=by
 have h2:(l.length+1)*b<=ft:=by
  have:=ti (show l.length+1<=1000000 by omega) hb;unfold ft;omega
 cases h with
 | none=>
  refine ⟨.lst none false (.tok m.length e) [y],m++[some (Ent.tok 1 1)],[m.length],?_,.some _ [y] (by simp (disch:=first|assumption|omega|simp only[b7]<;>omega|fail) only[ik,cK,cJ,cQ,di]<;>rfl) aA,Fr.app m _ _,fun k hk=>?_⟩
  .have h2:b<=ft:=by simpa using h2
   simp[bL,h2,az,Sh.size]
  .obtain rfl:k=m.length:=by simpa using hk
   exact .inr (aR _)
 | some t es ht _=>
  have fJ:=bW ht
  refine ⟨.lst none false (.tok t e) (l++[y]),m.set t (some (Ent.tok (l.length+1) 1)),[t],?_,?_,(Fr.refl m [t]).set _ (.inl aA),Gr.refl _ _⟩
  .simp[bL,ht,Sh.size,h2]
  .refine .some t (l++[y]) ?_ aA;rw[di rfl fJ,aW];rfl
theorem qbC{most:Int}:∀(l:List Int) (acc:Int),(∀a∈l,1<=a)->1<=acc->acc<=most->pO most acc l≠0->pO most acc l=acc*cn l/\acc*cn l<=most
 | [],acc,_,h1,h2,_=>by simp only[pO,cn];omega
 | n::l,acc,hl,h1,h2,h=>by
  rw[pO] at h ⊢;have hn:=hl n gj
  by_cases hg:acc*n>most
  .rw[aq hg] at h;exact absurd rfl h
  .rw[an hg] at h ⊢;have hp:1<=acc*n:=by have:=Int.mul_le_mul h1 hn aa aa;simpa using this
   have e:=qbC l (acc*n) (fun a ha=>hl a (fW _ ha)) hp aa h
   have e2:acc*((cn (n::l):Nat):Int)=acc*n*cn l:=by
    rw[cn,ta,Int.toNat_of_nonneg aa,Int.mul_assoc]
   rw[e2];exact e
theorem Gm{l:List Int}(h:∀a∈l,1<=a):1<=cn l:=by
 induction l with
 | nil=>exact aR _
 | cons n l ih=>
  rw[cn];have h1:=h n gj;exact Nat.mul_pos aa (ih fun a ha=>h a (fW _ ha))
theorem O6(z:Bool)(o:Own)(t:List Int)(k:IntKind){n i:Nat}(h:(i+1)*n<=t.length):gX none (IA z o t) (some (.int k (i*n:Nat))) (some (.int k ((i+1)*n:Nat))) none=some (IA z .no (part t n i)):=by
 have h2:i*n<=(i+1)*n:=jl _ aa;have e:(i+1)*n-i*n=n:=by rw[iI,rD];omega
 have e2:part t n i=(t.take ((i+1)*n)).drop (i*n):=by rw[List.drop_take,e];rfl
 rw[e2]
 have e3:gX none (IA z o t) (some (.int k (i*n:Nat))) (some (.int k ((i+1)*n:Nat))) none=(je (List.map (AV.int .i64) t).length (some (.int k ((i+1)*n:Nat))) (List.map (AV.int .i64) t).length).bind fun h=>(je h (some (.int k (i*n:Nat))) 0).bind fun l=>some (.lst none z .no (((List.map (AV.int .i64) t).take h).drop l)):=by
  have e4:∀(es:List AV) (x y:Option AV),gX none (.lst none z o es) x y none=if (none:Sh)=none\/es=[] then (je es.length y es.length).bind fun h=>(je h x 0).bind fun l=>some (.lst none z .no ((es.take h).drop l)) else none:=fun _ _ _=>rfl
  rw[e4,aq (.inl rfl)]
 rw[e3]
 have b1:je (List.map (AV.int .i64) t).length (some (.int k ((i+1)*n:Nat))) (List.map (AV.int .i64) t).length=some ((i+1)*n):=by
  simp only[je,bu];rw[aq ⟨aa,aa⟩,cU]
 have b2:je ((i+1)*n) (some (.int k (i*n:Nat))) 0=some (i*n):=by
  simp only[je];rw[aq ⟨aa,aa⟩,cU]
 rw[b1,ae,b2,ae,<- qm,<- List.map_drop]
def SL(s:Nat)(zs za:Bool)(os oa:Own)(ar:List Int)(v n:Nat):Prop:=
 ∀(m:ai) (F:List Nat) (l:List ND) (t:List Int) (z:Bool) (o:Own),dW m s F (IA zs os ar) 4000 l->GoodL ar l->t.length=n->(∀x∈t,0<=x/\x<=4)->l.length+2*n<=4000->∃(m':ai) (F':List Nat) (r:List ND) (id:Nat),AC af 62 [.ptr s 0,IA za oa ar,IA z o t,.I v] m=some (.tup [.I (id:Nat),.I 0],m') /\
  dW m' s F' (IA zs os ar) 4000 (l++r)/\GoodL ar (l++r)/\TabV ar (l++r) id v t/\r.length+1<=2*t.length/\Fr m m' F/\Gr m F F'
theorem qlw{s:Nat}{zs za z:Bool}{os oa o:Own}{ar t:List Int}{v n a:Nat}(hv:v<ar.length)(ha:ar[v]=(a:Int))(h1:∀x∈ar,1<=x/\x<=64)(dQ:ar.length<=16)(ht:t.length=a*n)(hn:n=cn (ar.drop (v+1)))(mI:1<=n)(fJ:t.length<=300)(hx:∀x∈t,0<=x/\x<=4)
  {l0:List ND} (pF:l0.length+2*t.length<=4000) {m0:ai} {F0:List Nat} (ih:SL s zs za os oa ar (v+1) n) :
  ∀(j k:Nat) (m:ai) (F:List Nat) (R:List ND) (ids:List Nat) (x:AV) (T:List Nat),k+j=a->dW m s F (IA zs os ar) 4000 (l0++R)->GoodL ar (l0++R)->ids.length=k->(∀i (h:i<ids.length),TabV ar (l0++R) ids[i] (v+1) (part t n i))->R.length+k<=2*n*k ->
   GR 3 m x ((ids.map Int.ofNat).map (AV.int .i64)) T->(∀y∈T,y∉F/\m0.length<=y)->Fr m0 m F0->Gr m0 F0 F ->
   ∃(m':ai) (F':List Nat) (r:List ND) (id:Nat),BV (.ptr s 0) (IA za oa ar) (IA z o t) (.I v) x (.I n) (.I k) m (DO (aH f62))=some (.tup [.I (id:Nat),.I 0],m') /\
    dW m' s F' (IA zs os ar) 4000 (l0++r)/\GoodL ar (l0++r)/\TabV ar (l0++r) id v t/\r.length+1<=2*t.length/\Fr m0 m' F0/\Gr m0 F0 F':=by
 have jc:=h1 _ (bA hv);have aU:ar.getD v 0=(a:Int):=by rw[aT,bP hv,fk,ha]
 have iy:aI none (IA za oa ar) (.I v)=some (.vptr [.I a]):=by rw[j6 hv,ha]
 intro j
 induction j with
 | zero=>
  intro k m F R ids x T hk h g tK htab hR iP hT f gr;obtain rfl:k=a:=aa;obtain ⟨xz,xo,rfl,hxz⟩:=As iP;have hb:R.length+k<=2*t.length:=by rw[ht,dF k n,<- fQ];exact hR
  have ck:∀i∈ids,∃h:i<(l0++R).length,(v:Int)<dP ar.length (l0++R)[i]:=fun i hi=>by
   obtain ⟨q,hq,e⟩:=n0 hi;have:=htab q hq;rw[e] at this;exact ⟨this.lt,by have:=this.top this.lt;omega⟩
  have fI:(l0++R).length<4000:=by rw[aW];omega
  obtain ⟨r1,id,er,Zw,yG,g2,tv⟩:=qud g h1 dQ hv (ks:=ids) (t:=t) (by rw[tK,aU]) (by rw[ht,vr hv,aU,hn];rfl) (fun q hq=>by rw[<- hn];exact htab q hq) aa
  have mk:xe ar (l0++R) v (ids.map Int.ofNat)=(((id:Int),0),(l0++R)++r1):=by
   unfold xe;rw[aq,er];refine ⟨aa,aa,by rw[cU,aU,bu,tK],gD.2 fun q hq=>?_⟩;obtain ⟨i,hi,rfl⟩:=iw.1 hq;obtain ⟨hi1,hi2⟩:=ck i hi;unfold vm;simp only[cD,oM];refine ⟨⟨tb i,show (i:Int)<((l0++R).length:Nat) by omega⟩,?_⟩;have:(Int.ofNat i).toNat=i:=rfl;rw[this,aT,bP hi1,fk];exact hi2
  obtain ⟨m2,F2,e17,k1,k2,k3⟩:=A17 (kz:=xz) (ko:=xo) (ks:=ids.map Int.ofNat) h v (fun hh=>uA.1 (hxz hh)) h1 dQ (by rw[bu];omega) aa aa;rw[mk] at e17 k1;have e17:AC af 34 [.ptr s 0,.I v,.lst none xz xo ((ids.map Int.ofNat).map (AV.int .i64))] m=_:=e17
  refine ⟨m2,F2,R++r1,id,?_,by rw[<- gR];exact k1,by rw[<- gR];exact g2,by rw[<- gR];exact tv,?_,Fr.trans f k2 gr,Gr.trans f.len gr k3⟩
  .rw[UB,iy,ae,gP,ae,bS,ae,aC,an aa,qic,e17,ae]
   rfl
  .rw[aW]
   by_cases hk1:ids.length=1
   .rw[yG hk1];simp;omega
   .omega
 | succ j ihj=>
  intro k m F R ids x T hk h g tK htab hR iP hT f gr;have wM:k<a:=aa;have tN:(k+1)*n<=t.length:=by rw[ht];exact jl _ aa
  have Zd:k*n<=(k+1)*n:=jl _ aa;have hpl:(part t n k).length=n:=part_len ht wM
  have Yt:R.length+k+2*n<=2*t.length:=by
   have:2*n*k+2*n<=2*t.length:=by
    have e:2*n*k+2*n=2*((k+1)*n):=by rw[iI,rD,gL,fQ,dF n k]
    omega
   omega
  obtain ⟨m1,F1,r1,id,e30,k1,k2,k3,k4,k5,k6⟩:=ih m F (l0++R) (part t n k) z .no h g hpl (fun y hy=>hx y (qsC y hy)) (by rw[aW];omega);rw[hpl] at k4;have g1:GR 3 m1 x ((ids.map Int.ofNat).map (AV.int .i64)) T:=Fa iP fun y hy=>k5.get y (Cu iP y hy) (hT y hy).1;obtain ⟨x2,m2,T2,ea,g2,f2,gg2⟩:=Ar (b:=8) g1 (by simp;omega) aa (.I (id:Nat))
  have Yu:∀y∈T,y∉F1:=fun y hy hF=>by
   rcases k6 y hF with hh|hh
   .exact (hT y hy).1 hh
   .have:=Cu iP y hy;omega
  have st2:dW m2 s F1 (IA zs os ar) 4000 (l0++(R++r1)):=by
   rw[<- gR];exact k1.fr f2 fun y hy hT'=>Yu y hT' hy
  have e0:BV (.ptr s 0) (IA za oa ar) (IA z o t) (.I v) x (.I n) (.I k) m (DO (aH f62))=BV (.ptr s 0) (IA za oa ar) (IA z o t) (.I v) x2 (.I n) (.I (k+1:Nat)) m2 (DO (aH f62)):=by
   rw[UB,iy,ae,gP,ae,bS,ae,aC,aq wM,C3 aa,ae,bU aa,ae,C3 aa,ae,O6 z o t .i64 tN,ae,bU aa,ae,e30,ae,rI,ae,rJ,ae,gm,ae,aC,an aA,qM,ae,ea,ae,ae]
  rw[e0]
  refine ihj (k+1) m2 F1 (R++r1) (ids++[id]) x2 T2 aa st2 (by rw[<- gR];exact k2) (by simp[tK]) (fun i hi=>?_) ?_ (by rw[iH,iH];exact g2) (fun y hy=>?_) (Fr.trans (Fr.trans f k5 gr) f2 fun y hy=>.inr (hT y hy).2) (Gr.trans f.len gr k6)
  .rw[<- gR]
   by_cases hi2:i<ids.length
   .rw[List.getElem_append_left hi2];exact (htab i hi2).app g r1
   .have:i=ids.length:=by simp at hi;omega
    subst this;have e:(ids++[id])[ids.length]'(by simp)=id:=aA;rw[e,tK];exact k3
  .rw[aW,gL,mV];omega
  .rcases gg2 y hy with hh|hh
   .exact ⟨Yu y hh,(hT y hh).2⟩
   .have l1:=f.len;have l2:=k5.len;exact ⟨fun hF=>by have:=k1.lt y hF;omega,aa⟩
theorem A30{s:Nat}{zs za:Bool}{os oa:Own}{ar:List Int}(h1:∀x∈ar,1<=x/\x<=64)(dQ:ar.length<=16)(hp:cn ar<=300):∀(d v:Nat),v+d=ar.length->cn (ar.drop v)<=300->SL s zs za os oa ar v (cn (ar.drop v)):=by
 intro d
 induction d with
 | zero=>
  intro v hv yF m F l t z o h g ht hx hl;obtain rfl:v=ar.length:=aa;rw[List.drop_length] at ht hl;have ht:t.length=1:=ht;obtain ⟨y,rfl⟩:∃y,t=[y]:=List.length_eq_one_iff.1 ht;have hy:=hx y aA;have hl:l.length+2<=4000:=hl;obtain ⟨r,er,hr,g2,tv⟩:=qag g (x:=y) ⟨hy.1,aa⟩;obtain ⟨m2,F2,e15,k1,k2,k3⟩:=A15 h y aa aa;rw[yO,aq ⟨hy.1,aa⟩] at e15 k1;dsimp only at e15 k1;rw[er] at k1;refine ⟨m2,F2,r,_,?_,k1,g2,tv,by simp;omega,k2,k3⟩;rw[Vs,iT,ae,Gd,ae,aC,aq rfl,FW aA,ae,gP,ae];have e15:AC af 33 [.ptr s 0,.int .i64 [y][0]] m=_:=e15;rw[e15,ae]
  rfl
 | succ d ih=>
  intro v hv yF m F l t z o h g ht hx hl;have fL:v<ar.length:=aa;have jc:=h1 _ (bA fL);obtain ⟨a,ha⟩:=nE (by omega:0<=ar[v]);have aU:ar.getD v 0=(a:Int):=by rw[aT,bP fL,fk,ha]
  have tQ:cn (ar.drop v)=a*cn (ar.drop (v+1)):=by rw[vr fL,aU];rfl
  have mI:1<=cn (ar.drop (v+1)):=Gm fun x hx=>(h1 x (List.drop_subset _ _ hx)).1
  have hle:cn (ar.drop (v+1))<=cn (ar.drop v):=by
   rw[tQ];exact Nat.le_mul_of_pos_left _ aa
  have ihv:=ih (v+1) aa aa;have AU:t.length=a*cn (ar.drop (v+1)):=by rw[ht,tQ]
  obtain ⟨m',F',r,id,e,k⟩:=qlw (z:=z) (o:=o) (m0:=m) (F0:=F) fL ha h1 dQ AU rfl mI aa hx (l0:=l) aa ihv a 0 m F [] [] aD [] aa (by rw[cu];exact h) (by rw[cu];exact g) rfl (fun i hi=>by simp at hi) aA .none aA (Fr.refl _ _) (Gr.refl _ _);refine ⟨m',F',r,id,?_,k⟩;have iy:aI none (IA za oa ar) (.I v)=some (.vptr [.I a]):=by rw[j6 fL,ha]
  have hdiv:t.length/a=cn (ar.drop (v+1)):=by rw[AU,Nat.mul_div_cancel_left _ aa]
  rw[Vs,iT,ae,Gd,ae,aC,an aa,iT,ae,iy,ae,gP,ae,qaY aa aa,ae,hdiv];exact e
theorem A29{za z:Bool}{oa o:Own}{ar t:List Int}(m:ai)(hz:za=true->ar=[])(he:py ar=0)(hp:cn ar<=300)(ht:t.length=cn ar)(hx:∀x∈t,0<=x/\x<=4) :
  ∃m' s F zs os l id,AC af 15 [IA za oa ar,IA z o t] m=some (.tup [.ptr s 0,.I (id:Nat),.bool true],m')/\dW m' s F (IA zs os ar) 4000 l/\GoodL ar l/\TabV ar l id 0 t/\l.length<=600/\Fr m m' []/\(∀x∈F,m.length<=x)/\(zs=true->ar=[]):=by
 obtain ⟨h1,h2⟩:=z8 he;obtain ⟨m1,s,F,zs,os,e14,st,f1,hF,Qz⟩:=Sy m za oa ar hz he;obtain ⟨m2,F2,r,id,e30,k1,k2,k3,k4,k5,k6⟩:=A30 (s:=s) (zs:=zs) (za:=za) (os:=os) (oa:=oa) h2 h1 hp ar.length 0 aa hp m1 F [] t z o st PE ht hx (by simp;have:cn (ar.drop 0)=cn ar:=rfl;omega);rw[bF] at k1 k2 k3;have e30:AC af 62 [.ptr s 0,IA za oa ar,IA z o t,.I 0] m1=_:=e30
 refine ⟨m2,s,F2,zs,os,r,id,?_,k1,k2,k3,aa,(Fr.trans f1 k5 fun x hx=>.inr (hF x hx)),fun x hx=>?_,Qz⟩
 .rw[T15,e14,ae,rI,ae,rJ,ae,gm,ae,aC,an aA,e30,ae]
  rfl
 .rcases k6 x hx with hh|hh
  .exact hF x hh
  .have:=f1.len;omega
end Go.Ab
namespace Go.Ab
noncomputable section
variable (a0 a1 a2 x0 x1 x2 x3 x4 x5 x6 x7 x8 x9 aN aX aS aY fH c9 fw dU dV fh LN LO Dw:AV) (m:ai) (K:KT)
open Go.Proofs.Tryz
def NS:St:=⟨(bC (br (aK []))),m⟩
def Er:St:=⟨(aO (x4::bC (aV (aO (aJ []))))),m⟩
def Ig:OM:=bY 18 (b8 (c2 (c2 (aE f18)))) 4 (x0::aV (aO (aK (fH::c9::fw::bC [])))) m K
def NT:St:=⟨(x0::aO (x5::x6::x7::aO (aK (aJ (fH::c9::fw::bC []))))),m⟩
def IY:St:=⟨(aO (x4::bC (aV (aO (aJ []))))),m⟩
def Ih:OM:=bY 18 (b8 (lH (lH (qP (aE f18))))) 8 (x0::aO (x5::x6::x7::aO (aK (aJ (fH::c9::fw::aO (dU::dV::fh::br (aV (aJ [])))))))) m K
abbrev qg4:KT:=bI 18 (c2 (c2 (c2 (aE f18)))) K
abbrev qg5:KT:=bw 0 (qg4 K)
abbrev MK:KT:=(qg5 K)
abbrev qg8:KT:=bI 18 (ma (nM (c2 (aE f18)))) (nU 18 (b8 (c2 (c2 (aE f18)))) 4 K)
abbrev qg9:KT:=bw 1 (qg8 K)
abbrev qha:KT:=bI 18 (ma (Ck (nM (c2 (aE f18))))) (qg9 K)
abbrev qhb:KT:=bw 2 (qha K)
abbrev Hn:KT:=(qhb K)
theorem T18:AC af 18 [a0,a1] m=(aM false a1).bind fun v1=>(aM false a0).bind fun v2=>(ag .o .neq v1 v2).bind fun v3=>aB v3 (some ((.bool false),m)) ((aM false a1).bind fun v4=>Ig a0 a1 v4 (.I 0) m (MK (aH f18))):=
(bm af 18 [a0,a1] m (fn:=f18) (c:=aE f18) qna rfl).trans au
theorem Uj:Ig x0 fH c9 fw m K=(ag .o .lss fw c9).bind fun v1=>aB v1 ((aI none fH fw).bind fun v2=>(aj none m v2).bind fun v3=>(aM false v3).bind fun v4=>Ih x0 fw v3 (.I 0) fH c9 fw v3 v4 (.I 0) m (Hn K)) (K (.exit 0) (NS m)):=
(bX (bQ _) _ _ _).trans au
theorem Uk:Ih x0 x5 x6 x7 fH c9 fw dU dV fh m K=(ag .o .lss fh dV).bind fun v1=>aB v1 ((aI none dU fh).bind fun v2=>(aj none m v2).bind fun v3=>(ag .o .lss v3 (.I 0)).bind fun v4=>aB v4 (K .ret (IY (.bool false) m)) ((ag .o .gtr v3 (.I 1000)).bind fun v5=>aB v5 (K .ret (IY (.bool false) m)) ((ag .o .add x7 v3).bind fun v6=>(ag .o .add fh (.I 1)).bind fun v7=>Ih x0 x5 x6 v6 fH c9 fw dU dV v7 m K))) (K (.exit 2) (NT x0 x5 x6 x7 fH c9 fw m)):=
(bX (bQ _) _ _ _).trans au
theorem qg7:MK (aH f18) (.exit 0) (NS  m)=some ((.bool true),m):=au
theorem qg6:MK (aH f18) .ret (Er x4 m)=some (x4,m):=au
theorem qhd:Hn K (.exit 2) (NT x0 x5 x6 x7 fH c9 fw m)=(aM false x6).bind fun v1=>(aI none x0 x5).bind fun v2=>(aj none m v2).bind fun v3=>(ag .o .neq v1 v3).bind fun v4=>aB v4 (K .ret (Er (.bool false) m)) ((ag .o .eql x7 (.I 0)).bind fun v5=>aB v5 (K .ret (Er (.bool false) m)) ((ag .o .add fw (.I 1)).bind fun v6=>Ig x0 fH c9 v6 m K)):=au
theorem qhc:Hn K .ret (IY x4 m)=K .ret (Er x4 m):=au
def Vc:St:=⟨(aK (x2::bC (aV (aK [])))),m⟩
def zG:OM:=bY 58 (rH (aE f58)) 2 (x0::aK (x3::bC (aV (aJ [])))) m K
def B5:St:=⟨(x0::aK (x3::x4::x5::bC (aO (aK (aJ []))))),m⟩
def rz:OM:=bY 58 (b8 (XB (c2 (c2 (aE f58))))) 4 (x0::aK (x3::x4::x5::aK (x8::x9::aN::bC (aK [])))) m K
abbrev qhR:KT:=bw 0 K
abbrev vJ:KT:=(qhR K)
abbrev qhT:KT:=bw 1 (nU 58 (rH (aE f58)) 2 K)
abbrev qhU:KT:=bI 58 (lH (c1 (c2 (c2 (aE f58))))) (qhT K)
abbrev qhV:KT:=bw 2 (qhU K)
abbrev uy:KT:=(qhV K)
theorem T58:AC af 58 [a0] m=zG a0 aD m (vJ (aH f58)):=
(bm af 58 [a0] m (fn:=f58) (c:=aE f58) qnI rfl).trans au
theorem qji:zG x0 x3 m K=(aM false x0).bind fun v1=>rz x0 x3 (.I 0) (.bool false) x0 v1 (.I 0) m (uy K):=
(bX (bQ _) _ _ _).trans au
theorem Uw:rz x0 x3 x4 x5 x8 x9 aN m K=(ag .o .lss aN x9).bind fun v1=>aB v1 ((aI none x8 aN).bind fun v2=>(aj none m v2).bind fun v3=>(aM false x3).bind fun v4=>(ag .o .eql v4 (.I 0)).bind fun v5=>aB v5 ((gH .not x5).bind fun v6=>aB v6 ((ag .o .add aN (.I 1)).bind fun v7=>rz x0 x3 v3 (.bool true) x8 x9 v7 m K) ((ag .o .lss v3 x4).bind fun v8=>aB v8 ((ag .o .add aN (.I 1)).bind fun v9=>rz x0 x3 v3 (.bool true) x8 x9 v9 m K) ((ag .o .add aN (.I 1)).bind fun v10=>rz x0 x3 x4 x5 x8 x9 v10 m K))) ((aM false x3).bind fun v11=>(ag .o .sub v11 (.I 1)).bind fun v12=>(aI none x3 v12).bind fun bg=>(aj none m bg).bind fun bf=>(ag .o .gtr v3 bf).bind fun bh=>aB bh ((gH .not x5).bind fun bK=>aB bK ((ag .o .add aN (.I 1)).bind fun bH=>rz x0 x3 v3 (.bool true) x8 x9 bH m K) ((ag .o .lss v3 x4).bind fun cV=>aB cV ((ag .o .add aN (.I 1)).bind fun cP=>rz x0 x3 v3 (.bool true) x8 x9 cP m K) ((ag .o .add aN (.I 1)).bind fun v20=>rz x0 x3 x4 x5 x8 x9 v20 m K))) ((ag .o .add aN (.I 1)).bind fun v21=>rz x0 x3 x4 x5 x8 x9 v21 m K))) (K (.exit 2) (B5 x0 x3 x4 x5 m)):=
(bX (bQ _) _ _ _).trans au
theorem qhS:vJ (aH f58) .ret (Vc x2 m)=some (x2,m):=au
theorem Tb:uy K (.exit 2) (B5 x0 x3 x4 x5 m)=(gH .not x5).bind fun v1=>aB v1 (K .ret (Vc x3 m)) ((df none [x4]).bind fun v2=>(bL none false 3 none 8 m x3 v2).bind fun r3=>zG x0 r3.1 r3.2 K):=au
def UU:St:=⟨(br (aV (aK []))),m⟩
def Va:St:=⟨(aO (x4::br (aO (aJ [])))),m⟩
def H0:OM:=bY 144 (b8 (c2 (c2 (aE f144)))) 4 (x0::x1::aV (aK (aS::aY::aV (aO [])))) m K
abbrev qfh:KT:=bI 144 (c2 (c2 (c2 (aE f144)))) K
abbrev qfi:KT:=bw 0 (qfh K)
abbrev Hf:KT:=(qfi K)
theorem qj0:AC af 144 [a0,a1] m=(aM false a0).bind fun v1=>(aM false a1).bind fun v2=>(ag .o .neq v1 v2).bind fun v3=>aB v3 (some ((.bool false),m)) ((aM false a0).bind fun v4=>H0 a0 a1 v4 (.I 0) m (Hf (aH f144))):=
(bm af 144 [a0,a1] m (fn:=f144) (c:=aE f144) qmI rfl).trans au
theorem TI:H0 x0 x1 aS aY m K=(ag .o .lss aY aS).bind fun v1=>aB v1 ((aI none x0 aY).bind fun v2=>(aj none m v2).bind fun v3=>(aI none x1 aY).bind fun v4=>(aj none m v4).bind fun v5=>(ag .o .neq v3 v5).bind fun v6=>aB v6 (K .ret (Va (.bool false) m)) ((ag .o .add aY (.I 1)).bind fun v7=>H0 x0 x1 aS v7 m K)) (K (.exit 0) (UU m)):=
(bX (bQ _) _ _ _).trans au
theorem qfk:Hf (aH f144) (.exit 0) (UU  m)=some ((.bool true),m):=au
theorem qfj:Hf (aH f144) .ret (Va x4 m)=some (x4,m):=au
def UT:St:=⟨(br (aJ [])),m⟩
def U9:St:=⟨(aK (x2::aV (aO (aK [])))),m⟩
def HZ:OM:=bY 143 (b8 (c2 (aE f143))) 2 (x0::aO (x5::x6::x7::aV (aJ []))) m K
abbrev qfd:KT:=bI 143 (c2 (c2 (aE f143))) K
abbrev qfe:KT:=bw 0 (qfd K)
abbrev He:KT:=(qfe K)
theorem qjZ:AC af 143 [a0] m=(aM false a0).bind fun v1=>HZ a0 a0 v1 (.I 0) m (He (aH f143)):=
(bm af 143 [a0] m (fn:=f143) (c:=aE f143) qmH rfl).trans au
theorem TH:HZ x0 x5 x6 x7 m K=(ag .o .lss x7 x6).bind fun v1=>aB v1 ((aI none x5 x7).bind fun v2=>(aj none m v2).bind fun v3=>(aI none x0 (.I 0)).bind fun v4=>(aj none m v4).bind fun v5=>(ag .o .neq v3 v5).bind fun v6=>aB v6 (K .ret (U9 (.bool false) m)) ((ag .o .add x7 (.I 1)).bind fun v7=>HZ x0 x5 x6 v7 m K)) (K (.exit 0) (UT m)):=
(bX (bQ _) _ _ _).trans au
theorem qfg:He (aH f143) (.exit 0) (UT  m)=some ((.bool true),m):=au
theorem qff:He (aH f143) .ret (U9 x2 m)=some (x2,m):=au
theorem T31:AC af 31 [a0,a1] m=(fR (.agg [aD,aD]) [(0,none,a0)]).bind fun v1=>(dp none (some 2) m v1).bind fun r2=>(AC af 91 [r2.1,(.I 0),a1] r2.2).bind fun r3=>(jb r2.1).bind fun v4=>(aL 1 v4).bind fun v5=>(aj none r3.2 v5).bind fun v6=>some (v6,r3.2):=
(bm af 31 [a0,a1] m (fn:=f31) (c:=aE f31) qns rfl).trans au
def Oj:St:=⟨(x0::x1::x2::aO (x7::x8::x9::aN::bB (bC (br (aO (aJ [])))))),m⟩
def BW:OM:=bY 91 (b8 (ma (qP (aE f91)))) 7 (x0::x1::x2::aO (x7::x8::x9::aN::aX::bB (bC (br (aO []))))) m K
def Oh:St:=⟨(x0::aO (aK (x7::bB (bC (br (aV [])))))),m⟩
def Ea:OM:=bY 91 (rH (bG (EW (c2 (c2 (aE f91)))))) 14 (x0::x1::x2::aO (x7::x8::aK (aJ (aS::bB (bC (br (aK (aJ [])))))))) m K
def Oi:St:=⟨(x0::aO (aK (x7::bB (bC (br (aV [])))))),m⟩
def Vd:St:=⟨(aO (aK (x6::bB (bC (br (aV (aJ []))))))),m⟩
def vN:OM:=bY 91 (b8 (c2 (c2 (c2 (aE f91))))) 18 (x0::aO (aK (x7::bB (br (aV (aO (LN::LO::Dw::br (aV (aJ []))))))))) m K
abbrev qiT:KT:=bI 91 (c2 (c2 (c2 (aE f91)))) K
abbrev qiU:KT:=bI 91 (bG (nM (c2 (aE f91)))) (qiT K)
abbrev qiV:KT:=bw 0 (qiU K)
abbrev HA:KT:=(qiV K)
abbrev qiP:KT:=bI 91 (bG (aE f91)) K
abbrev qiQ:KT:=bw 4 (qiP K)
abbrev uz:KT:=(qiQ K)
abbrev qiM:KT:=bI 91 (c2 (c2 (c2 (aE f91)))) K
abbrev qiN:KT:=bw 2 (qiM K)
abbrev DP:KT:=(qiN K)
theorem T91:AC af 91 [a0,a1,a2] m=(aI none a2 (.I 0)).bind fun v1=>(aj none m v1).bind fun v2=>(fR (.agg [(.I 0),aD,(.I 0)]) [(0,none,(.I (-1))),(2,none,v2)]).bind fun v3=>(aP (some 3) (az none m (.B [(.I 0),aD,(.I 0)])).2 (.ptr (az none m .resv).1 0) v3).bind fun m4=>(aF (AP af) none m4 143 [a2]).bind fun r5=>(gH .not r5.1).bind fun v6=>aB v6 ((aM false a2).bind fun v7=>(jb a0).bind fun v8=>(aL 0 v8).bind fun v9=>(aj none r5.2 v9).bind fun v10=>(aI none v10 a1).bind fun v11=>(aj none r5.2 v11).bind fun v12=>(ag .o .quo v7 v12).bind fun bg=>(gX none a2 none (some bg) none).bind fun bf=>BW a0 a1 a2 (.ptr (az none m .resv).1 0) bg bf (.bool true) (.I 1) r5.2 (HA (aH f91))) ((jb a0).bind fun bh=>(aL 1 bh).bind fun bK=>(aj none r5.2 bK).bind fun bH=>(aM false bH).bind fun cV=>vN a0 (.ptr (az none m .resv).1 0) bH cV (.I 0) r5.2 (uz (aH f91))):=
(bm af 91 [a0,a1,a2] m (fn:=f91) (c:=aE f91) qn9 rfl).trans au
theorem M7:BW x0 x1 x2 x7 x8 x9 aN aX m K=(jb x0).bind fun v1=>(aL 0 v1).bind fun v2=>(aj none m v2).bind fun v3=>(aI none v3 x1).bind fun v4=>(aj none m v4).bind fun v5=>(ag .o .lss aX v5).bind fun v6=>aB v6 (aB aN ((ag .o .mul aX x8).bind fun v7=>(ag .o .add aX (.I 1)).bind fun v8=>(ag .o .mul v8 x8).bind fun v9=>(gX none x2 (some v7) (some v9) none).bind fun v10=>(aF (AP af) none m 144 [v10,x9]).bind fun jU=>(ag .o .add aX (.I 1)).bind fun v12=>BW x0 x1 x2 x7 x8 x9 jU.1 v12 jU.2 K) ((ag .o .add aX (.I 1)).bind fun bg=>BW x0 x1 x2 x7 x8 x9 (.bool false) bg m K)) (K (.exit 0) (Oj x0 x1 x2 x7 x8 x9 aN m)):=
(bX (bQ _) _ _ _).trans au
theorem UK:Ea x0 x1 x2 x7 x8 aS m K=(jb x0).bind fun v1=>(aL 0 v1).bind fun v2=>(aj none m v2).bind fun v3=>(aI none v3 x1).bind fun v4=>(aj none m v4).bind fun v5=>(ag .o .lss aS v5).bind fun v6=>aB v6 ((aL 1 x7).bind fun v7=>(aj none m v7).bind fun v8=>(ag .o .add x1 (.I 1)).bind fun v9=>(ag .o .mul aS x8).bind fun v10=>(ag .o .add aS (.I 1)).bind fun v11=>(ag .o .mul v11 x8).bind fun v12=>(gX none x2 (some v10) (some v12) none).bind fun bg=>(AC af 91 [x0,v9,bg] m).bind fun mh=>w6 ((aj none mh.2 v7).bind (fun v=>some (v,mh.2))=some (v8,mh.2)) ((df none [mh.1]).bind fun bh=>(bL none false 3 none 8 mh.2 v8 bh).bind fun gW=>(aL 1 x7).bind fun bH=>(aP none gW.2 bH gW.1).bind fun m18=>(ag .o .add aS (.I 1)).bind fun cP=>Ea x0 x1 x2 x7 x8 cP m18 K)) (K (.exit 2) (Oh x0 x7 m)):=
(bX (bQ _) _ _ _).trans au
theorem UL:vN x0 x7 LN LO Dw m K=(ag .o .lss Dw LO).bind fun v1=>aB v1 ((aI (some 3) LN Dw).bind fun v2=>(aj (some 3) m v2).bind fun v3=>(aP (some 3) (az none m (.B [(.I 0),aD,(.I 0)])).2 (.ptr (az none m .resv).1 0) v3).bind fun m4=>(aj (some 3) m4 x7).bind fun v5=>(aj (some 3) m4 (.ptr (az none m .resv).1 0)).bind fun v6=>(aF (AP af) none m4 142 [v5,v6]).bind fun r7=>aB r7.1 (K .ret (Vd Dw r7.2)) ((ag .o .add Dw (.I 1)).bind fun v8=>vN x0 x7 LN LO v8 r7.2 K)) (K (.exit 4) (Oi x0 x7 m)):=
(bX (bQ _) _ _ _).trans au
theorem qiW:HA (aH f91) (.exit 0) (Oj x0 x1 x2 x7 x8 x9 aN m)=aB aN ((ag .o .add x1 (.I 1)).bind fun v1=>(AC af 91 [x0,v1,x9] m).bind fun r2=>some (r2.1,r2.2)) ((fR (.agg [(.I 0),aD,(.I 0)]) [(0,none,x1)]).bind fun v3=>(aP (some 3) m x7 v3).bind fun m4=>Ea x0 x1 x2 x7 x8 (.I 0) m4 (DP (aH f91))):=au
theorem qiS:uz (aH f91) (.exit 4) (Oi x0 x7 m)=(jb x0).bind fun v1=>(aL 1 v1).bind fun v2=>(aj none (bV m 1) v2).bind fun v3=>(aj (some 3) (bV m 1) x7).bind fun v4=>(df (some 3) [v4]).bind fun v5=>(bL (some m.length) false 146 (some 3) 40 (bV m 1) v3 v5).bind fun r6=>(jb x0).bind fun v7=>(aL 1 v7).bind fun v8=>(aP none r6.2 v8 r6.1).bind fun m9=>(jb x0).bind fun v10=>(aL 1 v10).bind fun v11=>(aj none m9 v11).bind fun v12=>(aM false v12).bind fun bg=>(ag .o .sub bg (.I 1)).bind fun bf=>some (bf,m9):=au
theorem qiR:uz (aH f91) .ret (Vd x6 m)=some (x6,m):=au
theorem qiO:DP (aH f91) (.exit 2) (Oh x0 x7 m)=(jb x0).bind fun v1=>(aL 1 v1).bind fun v2=>(aj none m v2).bind fun v3=>(aM false v3).bind fun v4=>vN x0 x7 v3 v4 (.I 0) m (uz (aH f91)):=au
end
end Go.Ab
namespace Go.Ab
noncomputable section
variable (a0 a1 a2 x0 x2 x6 x7 x8 aN mw dU dV fh qE qg sX:AV) (m:ai) (K:KT)
open Go.Proofs.Tryz
theorem T41:AC af 41 [a0,a1] m=(AC af 104 [a0,a1,(.fn 106 [])] m).bind fun r1=>(a8 r1.1 0).bind fun v2=>(a8 r1.1 1).bind fun v3=>some ((.tup [v2,v3]),r1.2):=
(bm af 41 [a0,a1] m (fn:=f41) (c:=aE f41) qnw rfl).trans au
def U2:St:=⟨(aO (aK (aJ (x7::bB (aO (aJ [])))))),m⟩
def Il:OM:=bY 43 (b8 (bG (c2 (aE f43)))) 8 (x0::aO (aJ (x6::x7::aV (aO (aK (dU::dV::fh::bC (br (aO [])))))))) m K
def NX:St:=⟨(x0::aO (aJ (x6::x7::aK (aN::aV (aK (aJ (dU::dV::fh::bC (br (aO []))))))))),m⟩
def D4:OM:=bY 43 (b8 (ma (Ck (nM (bG (aE f43)))))) 13 (x0::aO (aJ (x6::x7::aK (aN::aV (aK (aJ (dU::dV::fh::br (aV (aO (aK (aJ (qE::qg::sX::br (aK []))))))))))))) m K
abbrev qhr:KT:=bI 43 (bG (c2 (c2 (aE f43)))) K
abbrev qhs:KT:=bw 0 (qhr K)
abbrev DN:KT:=(qhs K)
abbrev qhm:KT:=bI 43 (ma (nM (bG (aE f43)))) (nU 43 (b8 (bG (c2 (aE f43)))) 8 K)
abbrev qhn:KT:=bw 1 (qhm K)
abbrev qho:KT:=bI 43 (bG (rH (b8 (bG (c2 (aE f43)))))) (qhn K)
abbrev qhp:KT:=bw 2 (qho K)
abbrev DM:KT:=(qhp K)
theorem T43:AC af 43 [a0,a1] m=(AC af 80 [a0] m).bind fun r1=>aB r1.1 (some ((.tup [aD,(.I 4)]),r1.2)) ((AC af 81 [a0,a1] r1.2).bind fun r2=>(gH .not r2.1).bind fun v3=>aB v3 (some ((.tup [aD,(.I 1)]),r2.2)) ((AC af 65 [a0,a1] (az none r2.2 (.mp (.int .i64) [])).2).bind fun r4=>(aM false r4.1).bind fun v5=>Il a0 (.mref (az none r2.2 .resv).1) aD r4.1 v5 (.I 0) r4.2 (DN (aH f43)))):=
(bm af 43 [a0,a1] m (fn:=f43) (c:=aE f43) qnx rfl).trans au
theorem Up:Il x0 x6 x7 dU dV fh m K=(ag .o .lss fh dV).bind fun v1=>aB v1 ((aI none dU fh).bind fun v2=>(aj none m v2).bind fun v3=>(lY (.int .i64) m x6 v3 fh).bind fun m4=>(jb x0).bind fun v5=>(aL 1 v5).bind fun v6=>(aj none (bV m4 1) v6).bind fun v7=>(aI (some 3) v7 v3).bind fun v8=>(aL 0 v8).bind fun v9=>(aj none (bV m4 1) v9).bind fun v10=>(jb x0).bind fun v11=>(aL 1 v11).bind fun v12=>(aj none (bV m4 1) v12).bind fun bg=>(aI (some 3) bg v3).bind fun bf=>(aL 2 bf).bind fun bh=>(aj none (bV m4 1) bh).bind fun bK=>(fR (.agg [(.I 0),aD,(.I 0)]) [(0,none,v10),(2,none,bK)]).bind fun bH=>(aP (some 3) (az (some m4.length) (bV m4 1) (.B [(.I 0),aD,(.I 0)])).2 (.ptr (az (some m4.length) (bV m4 1) .resv).1 0) bH).bind fun m18=>(jb x0).bind fun cP=>(aL 1 cP).bind fun v20=>(aj none m18 v20).bind fun v21=>(aI (some 3) v21 v3).bind fun v22=>(aL 1 v22).bind fun v23=>(aj none m18 v23).bind fun v24=>(aM false v24).bind fun v25=>D4 x0 x6 x7 (.ptr (az (some m4.length) (bV m4 1) .resv).1 0) dU dV fh v24 v25 (.I 0) m18 (DM K)) (K (.exit 0) (U2 x7 m)):=
(bX (bQ _) _ _ _).trans au
theorem Uo:D4 x0 x6 x7 aN dU dV fh qE qg sX m K=(ag .o .lss sX qg).bind fun v1=>aB v1 ((aI none qE sX).bind fun v2=>(aj none m v2).bind fun v3=>(aL 1 aN).bind fun v4=>(aj none m v4).bind fun v5=>(p6 (.int .i64) (.I 0) m x6 v3).bind fun q6=>(df none [q6.1]).bind fun v7=>(bL none false 3 none 8 m v5 v7).bind fun r8=>(aL 1 aN).bind fun v9=>(aP none r8.2 v9 r8.1).bind fun m10=>(ag .o .add sX (.I 1)).bind fun v11=>D4 x0 x6 x7 aN dU dV fh qE qg v11 m10 K) (K (.exit 2) (NX x0 x6 x7 aN dU dV fh m)):=
(bX (bQ _) _ _ _).trans au
theorem qht:DN (aH f43) (.exit 0) (U2 x7 m)=some ((.tup [x7,(.I 0)]),m):=au
theorem qhq:DM K (.exit 2) (NX x0 x6 x7 aN dU dV fh m)=(aj (some 3) m aN).bind fun v1=>(df (some 3) [v1]).bind fun v2=>(bL none false 74 (some 3) 40 m x7 v2).bind fun r3=>(ag .o .add fh (.I 1)).bind fun v4=>Il x0 x6 r3.1 dU dV v4 r3.2 K:=au
theorem T44:AC af 44 [a0,a1] m=(dp none none m a0).bind fun r1=>(dp none none r1.2 a1).bind fun r2=>(aj none r2.2 r1.1).bind fun v3=>(AC af 80 [v3] r2.2).bind fun r4=>aB r4.1 (some ((.tup [(.I 0),(.I 4)]),r4.2)) ((aj none r4.2 r1.1).bind fun v5=>(jb v5).bind fun v6=>(aL 0 v6).bind fun v7=>(aj none r4.2 v7).bind fun v8=>(aj none r4.2 r2.1).bind fun v9=>(aF (AP af) (some r4.2.length) r4.2 107 [v8,v9]).bind fun gG=>(gH .not gG.1).bind fun v11=>aB v11 (some ((.tup [(.I 0),(.I 1)]),gG.2)) ((aj none gG.2 r1.1).bind fun v12=>(AC af 84 [v12,(.fn 108 [r2.1,r1.1])] gG.2).bind fun gB=>(a8 gB.1 0).bind fun bf=>(a8 gB.1 1).bind fun bh=>some ((.tup [bf,bh]),gB.2))):=
(bm af 44 [a0,a1] m (fn:=f44) (c:=aE f44) qny rfl).trans au
def IC:St:=⟨(aV (x8::bC (aV []))),m⟩
def xJ:OM:=bY 104 (b8 (bG (aE f104))) 7 (x0::aJ (x2::aO (aJ (x8::aV (aO (mw::dU::dV::br (aV (aJ [])))))))) m K
abbrev qdm:KT:=bI 104 (bG (c2 (aE f104))) K
abbrev qdn:KT:=bw 0 (qdm K)
abbrev xH:KT:=(qdn K)
theorem qjw:AC af 104 [a0,a1,a2] m=(AC af 80 [a0] m).bind fun r1=>aB r1.1 (some ((.tup [aD,(.I 4)]),r1.2)) ((AC af 81 [a0,a1] r1.2).bind fun r2=>(gH .not r2.1).bind fun v3=>aB v3 (some ((.tup [aD,(.I 1)]),r2.2)) ((AC af 65 [a0,a1] r2.2).bind fun r4=>(aM false r4.1).bind fun v5=>xJ a0 a2 aD r4.1 v5 (.I 0) r4.2 (xH (aH f104)))):=
(bm af 104 [a0,a1,a2] m (fn:=f104) (c:=aE f104) ql6 rfl).trans au
theorem Td:xJ x0 x2 x8 mw dU dV m K=(ag .o .lss dV dU).bind fun v1=>aB v1 ((aI none mw dV).bind fun v2=>(aj none m v2).bind fun v3=>(jb x0).bind fun v4=>(aL 1 v4).bind fun v5=>(aj none m v5).bind fun v6=>(aI (some 3) v6 v3).bind fun v7=>(aj (some 3) m v7).bind fun v8=>(kI x2).bind fun g9=>jZ af 104 (AP af) (AC af) none g9.1 ([v8]++g9.2) m fun v10 m11=>(a8 v10 0).bind fun v12=>(a8 v10 1).bind fun bg=>aB bg ((df none [v12]).bind fun bf=>(bL none true 3 none 8 m11 x8 bf).bind fun nt=>(ag .o .add dV (.I 1)).bind fun bK=>xJ x0 x2 nt.1 mw dU bK nt.2 K) ((ag .o .add dV (.I 1)).bind fun bH=>xJ x0 x2 x8 mw dU bH m11 K)) (K (.exit 0) (IC x8 m)):=
(bX (bQ _) _ _ _).trans au
theorem qdo:xH (aH f104) (.exit 0) (IC x8 m)=(Bp [x8] m).bind fun r1=>(Ae [x8] r1.2).bind fun r2=>some ((.tup [r2.1,(.I 0)]),r2.2):=au
end
end Go.Ab
namespace Go.Ab
open Go.Proofs Go.Proofs.Tryz
theorem Wz{z1 z2:Bool}{o1 o2:Own}{k1 k2:List Int}(hl:k1.length=k2.length)(jC:k1.length<=100000)(m:ai):∀j i:Nat,i+j=k1.length ->
  H0 (IA z1 o1 k1) (IA z2 o2 k2) (.I k1.length) (.I i) m (Hf (aH f144))=some (.bool (decide (k1.drop i=k2.drop i)),m)
 | 0,i,h=>by
  rw[TI,bz,ae,aC,an aa,gU aa,gU aa,qfk];rfl
 | j+1,i,h=>by
  have hi:i<k1.length:=aa;have hi2:i<k2.length:=aa;have ih:=Wz (z1:=z1) (z2:=z2) (o1:=o1) (o2:=o2) hl jC m j (i+1) aa;rw[TI,bz,ae,aC,aq aa,j6 hi,ae,gP,ae,j6 hi2,ae,gP,ae,gm,ae,aC,jP hi,jP hi2]
  by_cases he:k1[i]=k2[i]
  .rw[an (by simpa using he),bU aa,ae,ih];congr 3;exact jm.2 (by rw[he];exact ⟨fun e=>by rw[e],fun e=>(List.cons.inj e).2⟩)
  .rw[aq he,qfj];congr 3;exact (bD (fun e=>he (List.cons.inj e).1)).symm
theorem quV(z1 z2:Bool)(o1 o2:Own)(k1 k2:List Int)(jC:k1.length<=100000):AP af 144 [IA z1 o1 k1,IA z2 o2 k2]=some (.bool (decide (k1=k2))):=by
 refine iW (m:=[]) (v:=.bool (decide (k1=k2))) (l:=[]) ?_ rfl rfl;rw[qj0,iT,ae,iT,ae,gm,ae,aC]
 by_cases hl:k1.length=k2.length
 .rw[an aa,ae,show (AV.I 0)=.I ((0:Nat):Int) from rfl,Wz hl jC [] k1.length 0 aa,gC,gC]
 .rw[aq aa];congr 3;exact (bD (fun e=>hl (by rw[e]))).symm
theorem qsK(z1 z2:Bool)(o1 o2:Own)(k1 k2:List Int)(jC:k1.length<=100000)(m:ai):aF (AP af) none m 144 [IA z1 o1 k1,IA z2 o2 k2]=some (.bool (decide (k1=k2)),m):=by
 rw[fN (n6 z1 o1 k1) (n6 z2 o2 k2),quV z1 z2 _ _ k1 k2 jC];rfl
theorem qc6(z:Bool)(o:Own)(k0:Int)(ks:List Int)(hl:(k0::ks).length<=1000)(m:ai):∀j i:Nat,i+j=(k0::ks).length ->
  HZ (IA z o (k0::ks)) (IA z o (k0::ks)) (.I (k0::ks).length) (.I i) m (He (aH f143))=some (.bool (((k0::ks).drop i).all fun k=>k==k0),m)
 | 0,i,h=>by
  rw[TH,bz,ae,aC,an aa,gU aa,qfg];rfl
 | j+1,i,h=>by
  have hi:i<(k0::ks).length:=aa;rw[TH,bz,ae,aC,aq aa,j6 hi,ae,gP,ae,FW aA,ae,gP,ae,gm,ae,aC,jP hi,nF]
  by_cases he:(k0::ks)[i]=k0
  .rw[an (by simpa using he),bU aa,ae,qc6 z o k0 ks hl m j (i+1) aa,show ((k0::ks)[i]==k0)=true by simpa using he,dd]
  .rw[aq (by simpa using he),qff,show ((k0::ks)[i]==k0)=false by simpa using he,iv]
theorem quU(z:Bool)(o:Own)(ks:List Int)(hne:ks≠[])(hl:ks.length<=1000):AP af 143 [IA z o ks]=some (.bool (ks.all fun k=>k==ks.headD 0)):=by
 obtain ⟨k0,ks,rfl⟩:=List.exists_cons_of_ne_nil hne;refine iW (m:=[]) (v:=.bool ((k0::ks).all fun k=>k==k0)) (l:=[]) ?_ rfl rfl;rw[qjZ,iT,ae,show (AV.I 0)=.I ((0:Nat):Int) from rfl,qc6 z o k0 ks hl [] (k0::ks).length 0 aa,gC]
theorem qsJ(z:Bool)(o:Own)(ks:List Int)(hne:ks≠[])(hl:ks.length<=1000)(m:ai):aF (AP af) none m 143 [IA z o ks]=some (.bool (ks.all fun k=>k==ks.headD 0),m):=by
 rw[cI (n6 z o ks),quU z _ ks hne hl];rfl
def ql5(cs:List Int):Nat->Nat:=fun v=>(cs.getD v 0).toNat
theorem qaI(m:ai)(k:Nat):∀ds:List Int,fU (cq m (k+1)) (ds.map (AV.int .i64))=some (ds.map (AV.int .i64),[])
 | []=>rfl
 | d::ds=>by
  have:cq m (k+1) (AV.I d)=some (AV.I d,[]):=rfl;simp[fU,this,qaI m k ds]
theorem qby:∀ds:List Int,oE (ds.map (AV.int .i64))=true
 | []=>rfl
 | d::ds=>by
  have:pl (AV.I d)=true:=rfl;simp[oE,this,qby ds]
theorem qpv{m:ai}{nm:Nat}{ds:List Int}(h:m.get nm=some (.obj false (ds.map (AV.int .i64)))):cq m kX (.arr nm 0 ds.length none)=some (IA false .no ds,[nm]):=by
 have h1:((ds.map (AV.int .i64)).all fG)=true:=by simp[List.all_map,fG]
 have hg:m.obj? nm=some (false,ds.map (AV.int .i64)):=by rw[sR,h];rfl
 show (m.obj? nm).bind _=_;rw[hg];simp only[ae,Sh.size,bu,bq,mV,aR,decide_true,my,ru,bJ,gC,iX (by simp:(ds.map (AV.int .i64)).length<=ds.length)];rw[qaI];simp only[ae,h1,qby,ru,bJ,oQ];rw[iX aA]
theorem RY{m:ai}{nm i:Nat}{ds:List Int}{y:Int}(h:m.get nm=some (.obj false (ds.map (AV.int .i64))))(hi:i<ds.length):aP none m (.ptr nm i) (.I y)=some (m.set nm (some (.obj false ((ds.set i y).map (AV.int .i64))))):=by
 have hg:m.obj? nm=some (false,ds.map (AV.int .i64)):=by rw[sR,h];rfl
 have h1:i+1<=ds.length:=hi;simp only[aP,hg,ae,Sh.size,bu,h1,bJ,dJ,fG,AV.cells];congr 4;simp only[b9,ba,bo];rw[List.map_set,Ee];simp[hi,qm,List.map_drop]
structure Asn (ar:List Int) (i:Nat) (cs:List Int):Prop where
 len:cs.length=ar.length
 bd:∀v,v<ar.length->0<=cs.getD v 0/\cs.getD v 0<ar.getD v 0
 idx:oq ar 0 (ql5 cs)=i
structure AL (n:Nat) (m0 m:ai) (x:AV) (nms:List Nat) (css:List (List Int)):Prop where
 len:nms.length=css.length
 row:∀k (h1:k<nms.length) (h2:k<css.length),m.get nms[k]=some (.obj false (css[k].map (AV.int .i64)))/\css[k].length=n
 nd:nms.Nodup
 lo:∀a∈nms,m0.length<=a
 kp:m0.length<=m.length/\∀k,k<m0.length->m.get k=m0.get k
 x:(x=aD/\nms=[])\/∃t,x=.arr t 0 nms.length none/\0<nms.length/\m.get t=some (.obj false (nms.map fun a=>.arr a 0 n none))/\m0.length<=t/\t∉nms
section
variable {m:ai} {s:Nat} {F:List Nat} {most:Int} {l:List ND} {zs z:Bool} {os o:Own} {ar:List Int} {cs:List Int}
end
end Go.Ab
namespace Go.Ab
noncomputable section
variable (a0 a1 a2 a3 a4 x0 x1 x2 x3 x4 x6 x7 x8 x9 aN aX aY aZ fH fw fF jr js mw dU:AV) (m:ai) (K:KT)
open Go.Proofs.Tryz
theorem T66:AC af 66 [a0,a1] m=(aM false a0).bind fun v1=>(AC af 125 [a0,v1,a1] m).bind fun r2=>some ((.tup []),r2.2):=
(bm af 66 [a0,a1] m (fn:=f66) (c:=aE f66) qnQ rfl).trans au
def UP:St:=⟨(x0::x1::x2::aK (aJ (x6::x7::bC (br (aO (aK (aJ []))))))),m⟩
def DV:OM:=bY 125 (oL (c2 (aE f125))) 2 (x0::x1::x2::aK (aJ (x6::x7::x8::bC (br (aO (aK [])))))) m K
def UQ:St:=⟨(bC (br (aV (aO (aK (aJ [])))))),m⟩
def xK:OM:=bY 125 (rH (c2 (c2 (aE f125)))) 7 (x0::x1::x2::aK (aJ (x6::bC (br (aV []))))) m K
def UR:St:=⟨(x0::x1::x2::aK (aJ (x6::x7::bC (br (aO (aK (aJ []))))))),m⟩
def HQ:OM:=bY 125 (oL (JB (bG (aE f125)))) 9 (x0::x1::x2::aK (aJ (x6::x7::x8::bC (br (aO (aK [])))))) m K
abbrev qes:KT:=bI 125 (c2 (c2 (c2 (aE f125)))) K
abbrev qet:KT:=bw 0 (qes K)
abbrev Ha:KT:=(qet K)
abbrev qex:KT:=bw 3 (nU 125 (rH (c2 (c2 (aE f125)))) 7 K)
abbrev qey:KT:=bI 125 (O4 (rH (c2 (c2 (aE f125))))) (qex K)
abbrev qez:KT:=bw 4 (qey K)
abbrev Ml:KT:=(qez K)
abbrev qev:KT:=bw 2 K
abbrev zu:KT:=(qev K)
theorem qjN:AC af 125 [a0,a1,a2] m=DV a0 a1 a2 (.I 20) (.I 0) (.I 20) m (Ha (aH f125)):=
(bm af 125 [a0,a1,a2] m (fn:=f125) (c:=aE f125) qmr rfl).trans au
theorem Tr:DV x0 x1 x2 x6 x7 x8 m K=(ag .o .leq x8 x1).bind fun v1=>aB v1 ((AC af 165 [x0,x7,x8,x2] m).bind fun r2=>(ag .o .add x8 x6).bind fun v3=>DV x0 x1 x2 x6 x8 v3 r2.2 K) (K (.exit 0) (UP x0 x1 x2 x6 x7 m)):=
(bX (bQ _) _ _ _).trans au
theorem Ts:xK x0 x1 x2 x6 m K=(ag .o .lss x6 x1).bind fun v1=>aB v1 ((ag .o .mul (.I 2) x6).bind fun v2=>HQ x0 x1 x2 x6 (.I 0) v2 m (Ml K)) (K (.exit 2) (UQ m)):=
(bX (bQ _) _ _ _).trans au
theorem Tt:HQ x0 x1 x2 x6 x7 x8 m K=(ag .o .leq x8 x1).bind fun v1=>aB v1 ((ag .o .add x7 x6).bind fun v2=>(AC af 166 [x0,x7,v2,x8,x2] m).bind fun r3=>(ag .o .mul (.I 2) x6).bind fun v4=>(ag .o .add x8 v4).bind fun v5=>HQ x0 x1 x2 x6 x8 v5 r3.2 K) (K (.exit 4) (UR x0 x1 x2 x6 x7 m)):=
(bX (bQ _) _ _ _).trans au
theorem qeu:Ha (aH f125) (.exit 0) (UP x0 x1 x2 x6 x7 m)=(AC af 165 [x0,x7,x1,x2] m).bind fun r1=>xK x0 x1 x2 x6 r1.2 (zu (aH f125)):=au
theorem qeA:Ml K (.exit 4) (UR x0 x1 x2 x6 x7 m)=(ag .o .add x7 x6).bind fun v1=>(ag .o .lss v1 x1).bind fun v2=>aB v2 ((AC af 166 [x0,x7,v1,x1,x2] m).bind fun r3=>(ag .o .mul x6 (.I 2)).bind fun v4=>xK x0 x1 x2 v4 r3.2 K) ((ag .o .mul x6 (.I 2)).bind fun v5=>xK x0 x1 x2 v5 m K):=au
theorem qew:zu (aH f125) (.exit 2) (UQ  m)=some ((.tup []),m):=au
def UX:St:=⟨(bC (br (aO (aJ [])))),m⟩
def H6:OM:=bY 165 (c1 (c1 (c2 (aE f165)))) 1 (x0::x1::x2::x3::aO (x8::bC (aV (aO [])))) m K
def Eh:St:=⟨(x0::x1::x2::x3::aO (x8::bC (aV (aO [])))),m⟩
def BO:OM:=bY 165 (b8 (JB (c2 (aE f165)))) 4 (x0::x1::x2::x3::aO (x8::x9::bC (aV (aK (aJ []))))) m K
abbrev qfI:KT:=bw 0 K
abbrev Hi:KT:=(qfI K)
abbrev qfJ:KT:=bI 165 (lH (c2 (aE f165))) (nU 165 (c1 (c1 (c2 (aE f165)))) 1 K)
abbrev qfK:KT:=bw 1 (qfJ K)
abbrev qfL:KT:=bw 2 (qfK K)
abbrev Mv:KT:=(qfL K)
theorem Vn:AC af 165 [a0,a1,a2,a3] m=(ag .o .add a1 (.I 1)).bind fun v1=>H6 a0 a1 a2 a3 v1 m (Hi (aH f165)):=
(bm af 165 [a0,a1,a2,a3] m (fn:=f165) (c:=aE f165) qm1 rfl).trans au
theorem MY:H6 x0 x1 x2 x3 x8 m K=(ag .o .lss x8 x2).bind fun v1=>aB v1 (BO x0 x1 x2 x3 x8 x8 m (Mv K)) (K (.exit 0) (UX m)):=
(bX (bQ _) _ _ _).trans au
theorem TQ:BO x0 x1 x2 x3 x8 x9 m K=(ag .o .gtr x9 x1).bind fun v1=>aB v1 ((aI none x0 x9).bind fun v2=>(aj none m v2).bind fun v3=>(ag .o .sub x9 (.I 1)).bind fun v4=>(aI none x0 v4).bind fun v5=>(aj none m v5).bind fun v6=>(kI x3).bind fun g7=>jZ af 165 (AP af) (AC af) none g7.1 ([v3,v6]++g7.2) m fun v8 m9=>(ag .o .lss v8 (.I 0)).bind fun v10=>aB v10 ((ag .o .sub x9 (.I 1)).bind fun v11=>(ag .o .sub x9 (.I 1)).bind fun v12=>(aI none x0 v12).bind fun bg=>(aj none m9 bg).bind fun bf=>(aI none x0 x9).bind fun bh=>(aj none m9 bh).bind fun bK=>(aI none x0 x9).bind fun bH=>(aP none m9 bH bf).bind fun m18=>(aI none x0 v11).bind fun cP=>(aP none m18 cP bK).bind fun m20=>(ag .o .sub x9 (.I 1)).bind fun v21=>BO x0 x1 x2 x3 x8 v21 m20 K) (K (.exit 2) (Eh x0 x1 x2 x3 x8 m9))) (K (.exit 2) (Eh x0 x1 x2 x3 x8 m)):=
(bX (bQ _) _ _ _).trans au
theorem S6:Hi (aH f165) (.exit 0) (UX  m)=some ((.tup []),m):=au
theorem qfM:Mv K (.exit 2) (Eh x0 x1 x2 x3 x8 m)=(ag .o .add x8 (.I 1)).bind fun v1=>H6 x0 x1 x2 x3 v1 m K:=au
def NC:St:=⟨(x0::x1::aV (aN::bB (bB (bB (br (aJ [])))))),m⟩
def xM:OM:=bY 166 (oL (EW (aE f166))) 3 (x0::x1::aK (x4::aO (aJ (aN::aX::bB (bB (bB (br []))))))) m K
def UZ:St:=⟨(bB (bB (bB (br (aV (aO [])))))),m⟩
def H8:OM:=bY 166 (b8 (ma (c2 (c1 (aE f166))))) 9 (x0::aV (aJ (aN::aK (aY::bB (bB (bB (aV (aO (aK []))))))))) m K
def NB:St:=⟨(x0::aJ (x2::aV (aK (aJ (aZ::bB (bB (bB (aV (aO (aJ [])))))))))),m⟩
def xL:OM:=bY 166 (oL (EW (c2 (aE f166)))) 15 (x0::aJ (x2::aJ (x4::aV (aJ (aZ::fH::bB (bB (bB (aV (aO []))))))))) m K
def UY:St:=⟨(bB (bB (bB (br (aV (aO [])))))),m⟩
def H7:OM:=bY 166 (b8 (ma (c2 (c1 (c2 (aE f166)))))) 21 (x0::aV (aO (aJ (aZ::aK (fw::bB (bB (bB (aV (aK []))))))))) m K
def IK:St:=⟨(x0::x1::x2::x3::x4::aV (aO (aJ (fF::jr::js::bB (bB (bB (aO (aK (aJ []))))))))),m⟩
def si:OM:=bY 166 (oL (bG (c2 (c2 (aE f166))))) 33 (x0::x1::x2::x3::x4::aV (aO (aJ (fF::jr::js::mw::dU::bB (bB (bB (aO (aJ [])))))))) m K
abbrev qfY:KT:=bI 166 (c2 (aE f166)) K
abbrev qfZ:KT:=bI 166 (ma (c2 (c1 (aE f166)))) (qfY K)
abbrev qf0:KT:=bw 0 (qfZ K)
abbrev My:KT:=(qf0 K)
abbrev qfN:KT:=bI 166 (c2 (c2 (aE f166))) K
abbrev qfO:KT:=bI 166 (ma (c2 (c1 (c2 (aE f166))))) (qfN K)
abbrev qfP:KT:=bw 4 (qfO K)
abbrev Mw:KT:=(qfP K)
abbrev qfV:KT:=bI 166 (bG (bG (aE f166))) K
abbrev qfW:KT:=bw 8 (qfV K)
abbrev xI:KT:=(qfW K)
abbrev qf2:KT:=bI 166 (c2 (aE f166)) K
abbrev qf3:KT:=bI 166 (bG (c1 (c2 (c1 (aE f166))))) (qf2 K)
abbrev qf4:KT:=bw 2 (qf3 K)
abbrev Mz:KT:=(qf4 K)
abbrev qfR:KT:=bI 166 (c2 (c2 (aE f166))) K
abbrev qfS:KT:=bI 166 (bG (nM (aE f166))) (qfR K)
abbrev qfT:KT:=bw 6 (qfS K)
abbrev Mx:KT:=(qfT K)
theorem qkg:AC af 166 [a0,a1,a2,a3,a4] m=(ag .o .sub a2 a1).bind fun v1=>(ag .o .eql v1 (.I 1)).bind fun v2=>aB v2 (xM a0 a1 a4 a2 a3 m (My (aH f166))) ((ag .o .sub a3 a2).bind fun v3=>(ag .o .eql v3 (.I 1)).bind fun v4=>aB v4 (xL a0 a2 a4 a1 a2 m (Mw (aH f166))) ((ag .o .add a1 a3).bind fun v5=>(bE .u64 v5).bind fun v6=>(ag .o .shr v6 (.U 1)).bind fun v7=>(bE .i64 v7).bind fun v8=>(ag .o .add v8 a2).bind fun v9=>(ag .o .gtr a2 v8).bind fun v10=>aB v10 ((ag .o .sub v9 a3).bind fun v11=>(ag .o .sub v9 (.I 1)).bind fun v12=>si a0 a1 a2 a3 a4 v8 v9 v11 v8 v12 m (xI (aH f166))) ((ag .o .sub v9 (.I 1)).bind fun bg=>si a0 a1 a2 a3 a4 v8 v9 a1 a2 bg m (xI (aH f166))))):=
(bm af 166 [a0,a1,a2,a3,a4] m (fn:=f166) (c:=aE f166) qm2 rfl).trans au
theorem TV:xM x0 x1 x4 aN aX m K=(ag .o .lss aN aX).bind fun v1=>aB v1 ((ag .o .add aN aX).bind fun v2=>(bE .u64 v2).bind fun v3=>(ag .o .shr v3 (.U 1)).bind fun v4=>(bE .i64 v4).bind fun v5=>(aI none x0 v5).bind fun v6=>(aj none m v6).bind fun v7=>(aI none x0 x1).bind fun v8=>(aj none m v8).bind fun v9=>(kI x4).bind fun g10=>jZ af 166 (AP af) (AC af) none g10.1 ([v7,v9]++g10.2) m fun v11 m12=>(ag .o .lss v11 (.I 0)).bind fun bg=>aB bg ((ag .o .add v5 (.I 1)).bind fun bf=>xM x0 x1 x4 bf aX m12 K) (xM x0 x1 x4 aN v5 m12 K)) (K (.exit 0) (NC x0 x1 aN m)):=
(bX (bQ _) _ _ _).trans au
theorem TX:H8 x0 aN aY m K=(ag .o .sub aN (.I 1)).bind fun v1=>(ag .o .lss aY v1).bind fun v2=>aB v2 ((ag .o .add aY (.I 1)).bind fun v3=>(ag .o .add aY (.I 1)).bind fun v4=>(aI none x0 v4).bind fun v5=>(aj none m v5).bind fun v6=>(aI none x0 aY).bind fun v7=>(aj none m v7).bind fun v8=>(aI none x0 aY).bind fun v9=>(aP none m v9 v6).bind fun m10=>(aI none x0 v3).bind fun v11=>(aP none m10 v11 v8).bind fun m12=>(ag .o .add aY (.I 1)).bind fun bg=>H8 x0 aN bg m12 K) (K (.exit 2) (UZ m)):=
(bX (bQ _) _ _ _).trans au
theorem TR:xL x0 x2 x4 aZ fH m K=(ag .o .lss aZ fH).bind fun v1=>aB v1 ((ag .o .add aZ fH).bind fun v2=>(bE .u64 v2).bind fun v3=>(ag .o .shr v3 (.U 1)).bind fun v4=>(bE .i64 v4).bind fun v5=>(aI none x0 x2).bind fun v6=>(aj none m v6).bind fun v7=>(aI none x0 v5).bind fun v8=>(aj none m v8).bind fun v9=>(kI x4).bind fun g10=>jZ af 166 (AP af) (AC af) none g10.1 ([v7,v9]++g10.2) m fun v11 m12=>(ag .o .lss v11 (.I 0)).bind fun bg=>(gH .not bg).bind fun bf=>aB bf ((ag .o .add v5 (.I 1)).bind fun bh=>xL x0 x2 x4 bh fH m12 K) (xL x0 x2 x4 aZ v5 m12 K)) (K (.exit 4) (NB x0 x2 aZ m)):=
(bX (bQ _) _ _ _).trans au
theorem TS:H7 x0 aZ fw m K=(ag .o .gtr fw aZ).bind fun v1=>aB v1 ((ag .o .sub fw (.I 1)).bind fun v2=>(ag .o .sub fw (.I 1)).bind fun v3=>(aI none x0 v3).bind fun v4=>(aj none m v4).bind fun v5=>(aI none x0 fw).bind fun v6=>(aj none m v6).bind fun v7=>(aI none x0 fw).bind fun v8=>(aP none m v8 v5).bind fun m9=>(aI none x0 v2).bind fun v10=>(aP none m9 v10 v7).bind fun m11=>(ag .o .sub fw (.I 1)).bind fun v12=>H7 x0 aZ v12 m11 K) (K (.exit 6) (UY m)):=
(bX (bQ _) _ _ _).trans au
theorem TU:si x0 x1 x2 x3 x4 fF jr js mw dU m K=(ag .o .lss js mw).bind fun v1=>aB v1 ((ag .o .add js mw).bind fun v2=>(bE .u64 v2).bind fun v3=>(ag .o .shr v3 (.U 1)).bind fun v4=>(bE .i64 v4).bind fun v5=>(ag .o .sub dU v5).bind fun v6=>(aI none x0 v6).bind fun v7=>(aj none m v7).bind fun v8=>(aI none x0 v5).bind fun v9=>(aj none m v9).bind fun v10=>(kI x4).bind fun g11=>jZ af 166 (AP af) (AC af) none g11.1 ([v8,v10]++g11.2) m fun v12 m13=>(ag .o .lss v12 (.I 0)).bind fun bf=>(gH .not bf).bind fun bh=>aB bh ((ag .o .add v5 (.I 1)).bind fun bK=>si x0 x1 x2 x3 x4 fF jr bK mw dU m13 K) (si x0 x1 x2 x3 x4 fF jr js v5 dU m13 K)) (K (.exit 8) (IK x0 x1 x2 x3 x4 fF jr js m)):=
(bX (bQ _) _ _ _).trans au
theorem qf1:My (aH f166) (.exit 0) (NC x0 x1 aN m)=H8 x0 aN x1 m (Mz (aH f166)):=au
theorem qfQ:Mw (aH f166) (.exit 4) (NB x0 x2 aZ m)=H7 x0 aZ x2 m (Mx (aH f166)):=au
theorem qfX:xI (aH f166) (.exit 8) (IK x0 x1 x2 x3 x4 fF jr js m)=(ag .o .sub jr js).bind fun v1=>(ag .o .lss js x2).bind fun v2=>aB v2 ((ag .o .lss x2 v1).bind fun v3=>aB v3 ((AC af 186 [x0,js,x2,v1,x4] m).bind fun r4=>(ag .o .lss x1 js).bind fun v5=>aB v5 ((ag .o .lss js fF).bind fun v6=>aB v6 ((AC af 166 [x0,x1,js,fF,x4] r4.2).bind fun r7=>(ag .o .lss fF v1).bind fun v8=>aB v8 ((ag .o .lss v1 x3).bind fun v9=>aB v9 ((AC af 166 [x0,fF,v1,x3,x4] r7.2).bind fun gG=>some ((.tup []),gG.2)) (some ((.tup []),r7.2))) (some ((.tup []),r7.2))) ((ag .o .lss fF v1).bind fun v11=>aB v11 ((ag .o .lss v1 x3).bind fun v12=>aB v12 ((AC af 166 [x0,fF,v1,x3,x4] r4.2).bind fun gB=>some ((.tup []),gB.2)) (some ((.tup []),r4.2))) (some ((.tup []),r4.2)))) ((ag .o .lss fF v1).bind fun bf=>aB bf ((ag .o .lss v1 x3).bind fun bh=>aB bh ((AC af 166 [x0,fF,v1,x3,x4] r4.2).bind fun gW=>some ((.tup []),gW.2)) (some ((.tup []),r4.2))) (some ((.tup []),r4.2)))) ((ag .o .lss x1 js).bind fun bH=>aB bH ((ag .o .lss js fF).bind fun cV=>aB cV ((AC af 166 [x0,x1,js,fF,x4] m).bind fun kP=>(ag .o .lss fF v1).bind fun v20=>aB v20 ((ag .o .lss v1 x3).bind fun v21=>aB v21 ((AC af 166 [x0,fF,v1,x3,x4] kP.2).bind fun Bk=>some ((.tup []),Bk.2)) (some ((.tup []),kP.2))) (some ((.tup []),kP.2))) ((ag .o .lss fF v1).bind fun v23=>aB v23 ((ag .o .lss v1 x3).bind fun v24=>aB v24 ((AC af 166 [x0,fF,v1,x3,x4] m).bind fun kC=>some ((.tup []),kC.2)) (some ((.tup []),m))) (some ((.tup []),m)))) ((ag .o .lss fF v1).bind fun v26=>aB v26 ((ag .o .lss v1 x3).bind fun iR=>aB iR ((AC af 166 [x0,fF,v1,x3,x4] m).bind fun yV=>some ((.tup []),yV.2)) (some ((.tup []),m))) (some ((.tup []),m))))) ((ag .o .lss x1 js).bind fun jh=>aB jh ((ag .o .lss js fF).bind fun v30=>aB v30 ((AC af 166 [x0,x1,js,fF,x4] m).bind fun rh=>(ag .o .lss fF v1).bind fun jN=>aB jN ((ag .o .lss v1 x3).bind fun kR=>aB kR ((AC af 166 [x0,fF,v1,x3,x4] rh.2).bind fun vu=>some ((.tup []),vu.2)) (some ((.tup []),rh.2))) (some ((.tup []),rh.2))) ((ag .o .lss fF v1).bind fun kF=>aB kF ((ag .o .lss v1 x3).bind fun se=>aB se ((AC af 166 [x0,fF,v1,x3,x4] m).bind fun Bm=>some ((.tup []),Bm.2)) (some ((.tup []),m))) (some ((.tup []),m)))) ((ag .o .lss fF v1).bind fun qe=>aB qe ((ag .o .lss v1 x3).bind fun rm=>aB rm ((AC af 166 [x0,fF,v1,x3,x4] m).bind fun Gp=>some ((.tup []),Gp.2)) (some ((.tup []),m))) (some ((.tup []),m)))):=au
theorem qf5:Mz (aH f166) (.exit 2) (UZ  m)=some ((.tup []),m):=au
theorem qfU:Mx (aH f166) (.exit 6) (UY  m)=some ((.tup []),m):=au
def U0:St:=⟨(x0::aJ (x2::aJ (x4::aO (aJ (aN::bC (aV (aO (aK (aJ []))))))))),m⟩
def D0:OM:=bY 186 (oL (c2 (aE f186))) 2 (x0::aJ (x2::aJ (x4::aO (aJ (aN::aX::bC (aV (aO (aK [])))))))) m K
abbrev qgF:KT:=bI 186 (c2 (c2 (c2 (aE f186)))) K
abbrev qgG:KT:=bw 0 (qgF K)
abbrev ME:KT:=(qgG K)
theorem qkq:AC af 186 [a0,a1,a2,a3,a4] m=(ag .o .sub a2 a1).bind fun v1=>(ag .o .sub a3 a2).bind fun v2=>D0 a0 a2 a4 v1 v2 m (ME (aH f186)):=
(bm af 186 [a0,a1,a2,a3,a4] m (fn:=f186) (c:=aE f186) qnh rfl).trans au
theorem M4:D0 x0 x2 x4 aN aX m K=(ag .o .neq aN aX).bind fun v1=>aB v1 ((ag .o .gtr aN aX).bind fun v2=>aB v2 ((ag .o .sub x2 aN).bind fun v3=>(AC af 201 [x0,v3,x2,aX,x4] m).bind fun r4=>(ag .o .sub aN aX).bind fun v5=>D0 x0 x2 x4 v5 aX r4.2 K) ((ag .o .sub x2 aN).bind fun v6=>(ag .o .add x2 aX).bind fun v7=>(ag .o .sub v7 aN).bind fun v8=>(AC af 201 [x0,v6,v8,aN,x4] m).bind fun r9=>(ag .o .sub aX aN).bind fun v10=>D0 x0 x2 x4 aN v10 r9.2 K)) (K (.exit 0) (U0 x0 x2 x4 aN m)):=
(bX (bQ _) _ _ _).trans au
theorem qgH:ME (aH f186) (.exit 0) (U0 x0 x2 x4 aN m)=(ag .o .sub x2 aN).bind fun v1=>(AC af 201 [x0,v1,x2,aN,x4] m).bind fun r2=>some ((.tup []),r2.2):=au
def U1:St:=⟨(bC (aO (aK []))),m⟩
def Ii:OM:=bY 201 (c1 (c1 (c2 (aE f201)))) 1 (x0::x1::x2::x3::aO (aK (aN::br (aV (aK (aJ [])))))) m K
abbrev qhe:KT:=bw 0 K
abbrev ML:KT:=(qhe K)
theorem qkt:AC af 201 [a0,a1,a2,a3,a4] m=Ii a0 a1 a2 a3 (.I 0) m (ML (aH f201)):=
(bm af 201 [a0,a1,a2,a3,a4] m (fn:=f201) (c:=aE f201) qnl rfl).trans au
theorem Ul:Ii x0 x1 x2 x3 aN m K=(ag .o .lss aN x3).bind fun v1=>aB v1 ((ag .o .add x1 aN).bind fun v2=>(ag .o .add x2 aN).bind fun v3=>(ag .o .add x2 aN).bind fun v4=>(aI none x0 v4).bind fun v5=>(aj none m v5).bind fun v6=>(ag .o .add x1 aN).bind fun v7=>(aI none x0 v7).bind fun v8=>(aj none m v8).bind fun v9=>(aI none x0 v2).bind fun v10=>(aP none m v10 v6).bind fun m11=>(aI none x0 v3).bind fun v12=>(aP none m11 v12 v9).bind fun m13=>(ag .o .add aN (.I 1)).bind fun bf=>Ii x0 x1 x2 x3 bf m13 K) (K (.exit 0) (U1 m)):=
(bX (bQ _) _ _ _).trans au
theorem qhf:ML (aH f201) (.exit 0) (U1  m)=some ((.tup []),m):=au
end
end Go.Ab
namespace Go.Ab
open Go.Proofs Go.Proofs.Tryz
abbrev ni(n:Nat):AV:=.I (n:Int)
def ds(l:List Nat):List AV:=(l.map Int.ofNat).map (AV.int .i64)
theorem Pd(l:List Nat):(ds l).length=l.length:=by simp[ds]
theorem JM{l:List Nat}{i x:Nat}(h:l[i]?=some x):(ds l)[i]?=some (ni x):=by simp[ds,h]
theorem qo9(l:List Nat)(i x:Nat):(ds l).set i (ni x)=ds (l.set i x):=by simp[ds,List.map_set]
structure SD (m0:ai) (nm N L:Nat) (m:ai) (l:List Nat):Prop where
 fr:Fr m0 m [nm]
 hd:m.get nm=some (.obj false (ds l))
 hl:l.length=L
 hN:∀x∈l,x<N
def rv(m0:ai)(nm N:Nat)(p:AV)(f:Nat->Int):Prop:=∀m,Fr m0 m [nm]->∀x y:Nat,x<N->y<N->∃m',AC af 67 [ni x,ni y,p] m=some (.I (f x-f y),m')/\Fr m m' []
section
variable {m0:ai} {nm N L:Nat} {m:ai} {l:List Nat}
theorem SD.ld(h:SD m0 nm N L m l){i x:Nat}(hi:l[i]?=some x):aj none m (.ptr nm i)=some (ni x):=by
 rw[fK,h.hd,mg,ae,wq];exact JM hi
theorem SD.ld'(h:SD m0 nm N L m l){i:Nat}(hi:i<L):aj none m (.ptr nm i)=some (ni (l.getD i 0))/\l.getD i 0<N:=by
 have cE:i<l.length:=by rw[h.hl];exact hi
 have e:l[i]?=some (l.getD i 0):=by rw[aT,bP cE];rfl
 exact ⟨h.ld e,h.hN _ (List.mem_of_getElem? e)⟩
theorem SD.st(h:SD m0 nm N L m l){i x:Nat}(hi:i<l.length):aP none m (.ptr nm i) (ni x)=some (m.set nm (some (.obj false (ds (l.set i x))))):=by
 have hg:m.obj? nm=some (false,ds l):=by rw[sR,h.hd];rfl
 have h1:i+1<=l.length:=hi;simp only[aP,hg,ae,Sh.size,Pd,h1,bJ,dJ,fG,AV.cells];congr 4;rw[<- qo9,b9,Ee,aq (by rw[Pd];exact hi)];simp
theorem SD.cmp(h:SD m0 nm N L m l){p:AV}{f:Nat->Int}(hc:rv m0 nm N p f){x y:Nat}(hx:x<N)(hy:y<N):∃m',AC af 67 ([ni x,ni y]++[p]) m=some (.I (f x-f y),m')/\SD m0 nm N L m' l:=by
 obtain ⟨m',e,k⟩:=hc m h.fr x y hx hy;refine ⟨m',e,Fr.trans h.fr k (fun _ h=>by cases h),?_,h.hl,h.hN⟩;rw[k.get nm (bW h.hd) aA];exact h.hd
theorem quy{P M Q:List Nat}{x y:Nat}:(P++x::(M++y::Q))[P.length]?=some x/\(P++x::(M++y::Q))[P.length+1+M.length]?=some y /\
  ((P++x::(M++y::Q)).set P.length y).set (P.length+1+M.length) x=P++y::(M++x::Q)/\((P++x::(M++y::Q)).set (P.length+1+M.length) x).set P.length y=P++y::(M++x::Q):=by
 have a:∀(P':List Nat) (u v:Nat) (R:List Nat),(P'++u::R)[P'.length]?=some u/\(P'++u::R).set P'.length v=P'++v::R:=fun P' u v R=>by
  constructor
  .simp
  .induction P' with
   | nil=>rfl
   | cons c P' ih=>simp
 have e1:P++x::(M++y::Q)=(P++x::M)++y::Q:=aA;have e2:P++y::(M++y::Q)=(P++y::M)++y::Q:=aA;have l1:P.length+1+M.length=(P++x::M).length:=by simp;omega
 have l2:P.length+1+M.length=(P++y::M).length:=by simp;omega
 refine ⟨(a P x y _).1,?_,?_,?_⟩
 .rw[e1,l1];exact (a (P++x::M) y x Q).1
 .rw[(a P x y (M++y::Q)).2,e2,l2,(a (P++y::M) y x Q).2];simp
 .rw[e1,l1,(a (P++x::M) y x Q).2];have:(P++x::M)++x::Q=P++x::(M++x::Q):=aA;rw[this,(a P x y _).2]
theorem SD.put(h:SD m0 nm N L m l){l':List Nat}(hp:l'.Perm l)(hlen:l'.length=l.length){m':ai}(fr:Fr m m' [nm])(hd:m'.get nm=some (.obj false (ds l'))):SD m0 nm N L m' l':=
 ⟨Fr.trans h.fr fr (fun x hx=>.inl hx),hd,hlen.trans h.hl,fun x hx=>h.hN x (hp.mem_iff.1 hx)⟩
theorem SD.swap{P M Q:List Nat}{x y i j:Nat}(h:SD m0 nm N L m (P++x::(M++y::Q)))(hi:i=P.length)(hj:j=P.length+1+M.length) :
  aj none m (.ptr nm i)=some (ni x)/\aj none m (.ptr nm j)=some (ni y) /\
  (∃m1 m2,aP none m (.ptr nm i) (ni y)=some m1/\aP none m1 (.ptr nm j) (ni x)=some m2/\SD m0 nm N L m2 (P++y::(M++x::Q))) /\
  (∃m1 m2,aP none m (.ptr nm j) (ni x)=some m1/\aP none m1 (.ptr nm i) (ni y)=some m2/\SD m0 nm N L m2 (P++y::(M++x::Q))):=by
 subst hi hj;obtain ⟨a1,a2,a3,a4⟩:=quy (P:=P) (M:=M) (Q:=Q) (x:=x) (y:=y);have hlt:=bW h.hd;have li:P.length<(P++x::(M++y::Q)).length:=aA;have lj:P.length+1+M.length<(P++x::(M++y::Q)).length:=by simp;omega
 have hp:(P++y::(M++x::Q)).Perm (P++x::(M++y::Q)):=by
  refine Ec P ?_;have e:∀u v:Nat,(u::(M++v::Q)).Perm (u::v::(M++Q)):=fun u v=>List.Perm.cons u List.perm_middle;exact (e y x).trans ((List.Perm.swap x y _).trans (e x y).symm)
 have go:∀(i j u v:Nat),i<(P++x::(M++y::Q)).length->j<(P++x::(M++y::Q)).length->u<N->((P++x::(M++y::Q)).set i u).set j v=P++y::(M++x::Q) ->
   ∃m1 m2,aP none m (.ptr nm i) (ni u)=some m1/\aP none m1 (.ptr nm j) (ni v)=some m2/\SD m0 nm N L m2 (P++y::(M++x::Q)):=by
  intro i j u v hi hj hu he
  refine ⟨_,(m.set nm (some (.obj false (ds ((P++x::(M++y::Q)).set i u))))).set nm (some (.obj false (ds (P++y::(M++x::Q))))),h.st hi,?_,?_⟩
  .have h':SD m0 nm N L (m.set nm (some (.obj false (ds ((P++x::(M++y::Q)).set i u))))) ((P++x::(M++y::Q)).set i u):=by
    refine ⟨h.fr.set _ (.inl aA),di rfl hlt,by rw[il];exact h.hl,fun z hz=>?_⟩
    rcases List.mem_or_eq_of_mem_set hz with hz|rfl
    .exact h.hN z hz
    .exact hu
   rw[h'.st (by rw[il];exact hj),he]
  .exact h.put hp aA (((Fr.refl m [nm]).set _ (.inl (by simp))).set _ (.inl aA)) (di rfl (by rw[il];exact hlt))
 have hx:=h.hN x aA;have hy:=h.hN y aA;exact ⟨h.ld a1,h.ld a2,go _ _ _ _ li lj hy a3,go _ _ _ _ lj li hx a4⟩
end
section
variable {m0:ai} {nm N L:Nat} {p:AV} {f:Nat->Int}
theorem qlu(hL:L<=100000)(x4:AV){pre mid post:List Nat}(a b n:Nat)(ha:a=pre.length)(hb:b=a+n+mid.length):∀(X2 Y2 X1 Y1:List Nat) (m:ai),X2.length=Y2.length->X1.length=Y1.length->X1.length+X2.length=n ->
  SD m0 nm N L m (pre++(Y1++(X2++(mid++(X1++(Y2++post)))))) ->
  ∃m',Ii (.arr nm 0 L none) (ni a) (ni b) (ni n) (ni X1.length) m (ML (aH f201))=some (.tup [],m')/\SD m0 nm N L m' (pre++((Y1++Y2)++(mid++((X1++X2)++post)))):=by
 intro X2
 induction X2 with
 | nil=>
  intro Y2 X1 Y1 m h2 h1 hn h;have:Y2=[]:=oF (by simpa using h2.symm);subst this;refine ⟨m,?_,by simpa using h⟩;rw[Ul,bz,ae,aC,an (by simp at hn;omega),qhf]
 | cons x X2 ih=>
  intro Y2 X1 Y1 m h2 h1 hn h
  cases Y2 with
  | nil=>simp at h2
  | cons y Y2=>
   simp only[ba] at h2 hn;have hl:=h.hl;simp only[aW,ba] at hl;have h':SD m0 nm N L m ((pre++Y1)++x::((X2++(mid++X1))++y::(Y2++post))):=by simpa using h
   obtain ⟨l1,l2,⟨m1,m2,s1,s2,k⟩,_⟩:=h'.swap (i:=a+X1.length) (j:=b+X1.length) (by simp;omega) (by simp;omega);obtain ⟨m',e,k'⟩:=ih Y2 (X1++[x]) (Y1++[y]) m2 aa (by simp[h1]) (by simp;omega) (by simpa using k);refine ⟨m',?_,by simpa using k'⟩;have ia:aI none (.arr nm 0 L none) (ni (a+X1.length))=some (.ptr nm (a+X1.length)):=gF aa;have ib:aI none (.arr nm 0 L none) (ni (b+X1.length))=some (.ptr nm (b+X1.length)):=gF aa;rw[Ul,bz,ae,aC,aq aa,lU aa,ae,lU aa,ae,ae,ib,ae,l2,ae,ae,ia,ae,l1,ae,ae,s1,ae,ae,s2,ae,bU aa,ae];rw[aW,vS] at e;exact e
theorem L5(hL:L<=100000)(x4:AV){pre mid post X Y:List Nat}{m:ai}(hXY:X.length=Y.length)(h:SD m0 nm N L m (pre++(X++(mid++(Y++post))))){a b n:Nat}(ha:a=pre.length)(hn:n=X.length)(hb:b=a+n+mid.length) :
  ∃m',AC af 201 [.arr nm 0 L none,ni a,ni b,ni n,x4] m=some (.tup [],m')/\SD m0 nm N L m' (pre++(Y++(mid++(X++post)))):=by
 obtain ⟨m',e,k⟩:=qlu hL x4 a b n ha hb X Y [] [] m hXY rfl (by simp[hn]) (by simpa using h);exact ⟨m',by rw[qkt];exact e,by simpa using k⟩
theorem qlo(hL:L<=100000)(x4:AV)(mm:Nat):∀(k:Nat) (P A B Q:List Nat) (m:ai),A.length+B.length=k->A≠[]->B≠[]->mm=P.length+A.length->SD m0 nm N L m (P++(A++(B++Q))) ->
  ∃m',D0 (.arr nm 0 L none) (ni mm) x4 (ni A.length) (ni B.length) m (ME (aH f186))=some (.tup [],m')/\SD m0 nm N L m' (P++(B++(A++Q))):=by
 intro k
 induction k using Nat.strongRecOn with
 | ind k ih=>
  intro P A B Q m hk hA hB hm h;have hl:=h.hl;simp only[aW] at hl;have a0:=zI.2 hA;have b0:=zI.2 hB
  by_cases he:A.length=B.length
  .obtain ⟨m',e,k'⟩:=L5 hL x4 (mid:=[]) he (by simpa using h) (a:=P.length) (b:=mm) (n:=A.length) rfl rfl (by simp[hm]);refine ⟨m',?_,by simpa using k'⟩;rw[M4,gm,ae,aC,an (by rw[he];simp),qgH,om aa aa,ae,show mm-A.length=P.length by omega,e,ae]
  .by_cases hg:B.length<A.length
   .have eA:A=A.take B.length++A.drop B.length:=(oG _ _).symm;have t1:(A.take B.length).length=B.length:=by rw[im];omega
    have t2:(A.drop B.length).length=A.length-B.length:=pn
    obtain ⟨m1,e,k1⟩:=L5 hL x4 (pre:=P) (X:=A.take B.length) (mid:=A.drop B.length) (Y:=B) (post:=Q) t1 (by
     rw[<- gR (A.take B.length),oG];exact h) (a:=P.length) (b:=mm) (n:=B.length) rfl t1.symm aa
    obtain ⟨m',e2,k2⟩:=ih A.length aa (P++B) (A.drop B.length) (A.take B.length) Q m1 aa (vW aa) (vW aa) (by simp;omega) (by simpa using k1)
    refine ⟨m',?_,?_⟩
    .rw[M4,gm,ae,aC,aq aa,gE,ae,aC,aq aa,om aa aa,ae,show mm-A.length=P.length by omega,e,ae,om aa aa,ae];rw[t1,t2] at e2;exact e2
    .have:=k2;rw[gR,<- gR (A.take B.length),oG] at this;exact this
   .have eB:B=B.take (B.length-A.length)++B.drop (B.length-A.length):=(oG _ _).symm;have t1:(B.take (B.length-A.length)).length=B.length-A.length:=by rw[im];omega
    have t2:(B.drop (B.length-A.length)).length=A.length:=by rw[pn];omega
    obtain ⟨m1,e,k1⟩:=L5 hL x4 (pre:=P) (X:=A) (mid:=B.take (B.length-A.length)) (Y:=B.drop (B.length-A.length)) (post:=Q) t2.symm (by
     rw[<- gR (B.take (B.length-A.length)),oG];exact h) (a:=P.length) (b:=mm+B.length-A.length) (n:=A.length) rfl rfl aa
    obtain ⟨m',e2,k2⟩:=ih B.length aa P (B.drop (B.length-A.length)) (B.take (B.length-A.length)) (A++Q) m1 aa (vW aa) (vW aa) aa (by simpa using k1)
    refine ⟨m',?_,?_⟩
    .rw[M4,gm,ae,aC,aq aa,gE,ae,aC,an aa,om aa aa,ae,show mm-A.length=P.length by omega,lU aa,ae,om aa aa,ae,e,ae,om aa aa,ae];rw[t1,t2] at e2;exact e2
    .have:=k2;rw[<- gR (B.take (B.length-A.length)),oG] at this;exact this
theorem qc9(hL:L<=100000)(x4:AV){P A B Q:List Nat}{m:ai}(hA:A≠[])(hB:B≠[])(h:SD m0 nm N L m (P++(A++(B++Q)))){a mm b:Nat}(ha:a=P.length)(hm:mm=a+A.length)(hb:b=mm+B.length) :
  ∃m',AC af 186 [.arr nm 0 L none,ni a,ni mm,ni b,x4] m=some (.tup [],m')/\SD m0 nm N L m' (P++(B++(A++Q))):=by
 have hl:=h.hl;simp only[aW] at hl;obtain ⟨m',e,k⟩:=qlo hL x4 mm _ P A B Q m rfl hA hB aa h;refine ⟨m',?_,k⟩;rw[qkq,om aa aa,ae,om aa aa,ae,show mm-a=A.length by omega,show b-mm=B.length by omega];exact e
theorem qlj(hL:L<=100000)(hc:rv m0 nm N p f){pre post:List Nat}(x2 x8:AV){x:Nat}(K:KT):∀(k:Nat) (S1 S2:List Nat) (m:ai),S1.length=k->dn f (S1++S2)->(∀s∈S2,f x<=f s)->SD m0 nm N L m (pre++(S1++x::(S2++post))) ->
  ∃(m':ai) (T1 T2:List Nat),BO (.arr nm 0 L none) (ni pre.length) x2 (.fn 67 [p]) x8 (ni (pre.length+S1.length)) m K=K (.exit 2) (Eh (.arr nm 0 L none) (ni pre.length) x2 (.fn 67 [p]) x8 m') /\
   SD m0 nm N L m' (pre++(T1++x::(T2++post)))/\T1++T2=S1++S2/\(∀t∈T1,f t<=f x)/\∀t∈T2,f x<=f t:=by
 intro k
 induction k with
 | zero=>
  intro S1 S2 m hk hs h2 h;have:S1=[]:=oF hk;subst this;refine ⟨m,[],S2,?_,h,rfl,aA,h2⟩;rw[TQ,gE,ae,aC,an aA]
 | succ k ih=>
  intro S1 S2 m hk hs h2 h
  obtain ⟨S,y,rfl⟩:∃S y,S1=S++[y]:=by
   have hne:S1≠[]:=fun e=>by simp[e] at hk
   exact ⟨S1.dropLast,S1.getLast hne,(List.dropLast_concat_getLast hne).symm⟩
  have hl:=h.hl;simp only[aW,ba,bo] at hl hk ⊢;have h':SD m0 nm N L m ((pre++S)++y::([]++x::(S2++post))):=by simpa using h
  have kr:pre.length+(S.length+1)-1=(pre++S).length:=aA;have hj:pre.length+(S.length+1)=(pre++S).length+1+([]:List Nat).length:=by simp;omega
  obtain ⟨l1,l2,_,_⟩:=h'.swap kr hj;have hx:=h.hN x aA;have hy:=h.hN y aA;obtain ⟨m1,e1,k1⟩:=h.cmp hc hx hy;have ia:aI none (.arr nm 0 L none) (ni (pre.length+(S.length+1)))=some (.ptr nm (pre.length+(S.length+1))):=gF aa;have ib:aI none (.arr nm 0 L none) (ni (pre.length+(S.length+1)-1))=some (.ptr nm (pre.length+(S.length+1)-1)):=gF aa;have is:ag .o .sub (ni (pre.length+(S.length+1))) (.I 1)=some (ni (pre.length+(S.length+1)-1)):=oT aa aa
  have AS:BO (.arr nm 0 L none) (ni pre.length) x2 (.fn 67 [p]) x8 (ni (pre.length+(S.length+1))) m K=aB (.bool (decide (f x-f y<0))) (
    (ag .o .sub (ni (pre.length+(S.length+1))) (.I 1)).bind fun v11=>
    (ag .o .sub (ni (pre.length+(S.length+1))) (.I 1)).bind fun v12=>
    (aI none (.arr nm 0 L none) v12).bind fun bg=>
    (aj none m1 bg).bind fun bf=>
    (aI none (.arr nm 0 L none) (ni (pre.length+(S.length+1)))).bind fun bh=>
    (aj none m1 bh).bind fun bK=>
    (aI none (.arr nm 0 L none) (ni (pre.length+(S.length+1)))).bind fun bH=>
    (aP none m1 bH bf).bind fun m18=>
    (aI none (.arr nm 0 L none) v11).bind fun cP=>
    (aP none m18 cP bK).bind fun m20=>
    (ag .o .sub (ni (pre.length+(S.length+1))) (.I 1)).bind fun v21=>
    BO (.arr nm 0 L none) (ni pre.length) x2 (.fn 67 [p]) x8 v21 m20 K) (K (.exit 2) (Eh (.arr nm 0 L none) (ni pre.length) x2 (.fn 67 [p]) x8 m1)):=by
   rw[TQ,gE,ae,aC,aq aa,ia,ae,l2,ae,is,ae,ib,ae,l1,ae,show kI (.fn 67 [p])=some (67,[p]) from rfl,ae,uI rfl rfl rfl,e1,ae,bz,ae]
  rw[AS,aC]
  by_cases hlt:f x-f y<0
  .rw[aq hlt];have k1':SD m0 nm N L m1 ((pre++S)++y::([]++x::(S2++post))):=by simpa using k1
   obtain ⟨l1',l2',_,⟨m2,m3,s1,s2,k3⟩⟩:=k1'.swap kr hj
   obtain ⟨m',T1,T2,e,q1,q2,q3,q4⟩:=ih S (y::S2) m3 aa (by simpa using hs) (fun s gS=>by
    rcases gI.1 gS with rfl|gS
    .omega
    .exact h2 s gS) (by simpa using k3)
   refine ⟨m',T1,T2,?_,q1,by rw[q2];simp,q3,q4⟩;rw[is,ae,ae,ib,ae,l1',ae,ia,ae,l2',ae,ae,s1,ae,ae,s2,ae,ae];exact e
  .rw[an hlt];refine ⟨m1,S++[y],S2,rfl,k1,rfl,fun t ht=>?_,h2⟩;have:=dn.le_last (dn.app.1 hs).1 t ht;omega
theorem qlk(hL:L<=100000)(hc:rv m0 nm N p f){pre post:List Nat}(b:Nat):∀(R S:List Nat) (m:ai),dn f S->b=pre.length+S.length+R.length->SD m0 nm N L m (pre++(S++(R++post))) ->
  ∃(m':ai) (S':List Nat),H6 (.arr nm 0 L none) (ni pre.length) (ni b) (.fn 67 [p]) (ni (pre.length+S.length)) m (Hi (aH f165))=some (.tup [],m')/\SD m0 nm N L m' (pre++(S'++post))/\S'.Perm (S++R)/\dn f S':=by
 intro R
 induction R with
 | nil=>
  intro S m hs hb h;refine ⟨m,S,?_,by simpa using h,aA,hs⟩;rw[MY,bz,ae,aC,an (by simp at hb;omega),S6]
 | cons x R ih=>
  intro S m hs hb h;have hl:=h.hl;simp only[aW,ba] at hl hb;obtain ⟨m1,T1,T2,e,q1,q2,q3,q4⟩:=qlj hL hc (pre:=pre) (post:=R++post) (ni b) (ni (pre.length+S.length)) (x:=x) (Mv (Hi (aH f165))) S.length S [] m rfl (by simpa using hs) aA (by simpa using h);rw[cu] at q2;have gS:dn f (T1++x::T2):=dn.put (by rw[q2];exact hs) q3 q4;have hlen:(T1++x::T2).length=S.length+1:=by rw[<- q2];simp;omega
  have CM:(T1++x::T2).Perm (S++[x]):=by rw[<- q2];exact List.perm_middle.trans (List.perm_append_singleton x _).symm
  obtain ⟨m',S',e2,k1,k2,k3⟩:=ih (T1++x::T2) m1 gS (by rw[hlen];omega) (by simpa using q1)
  refine ⟨m',S',?_,k1,k2.trans ?_,k3⟩
  .rw[MY,bz,ae,aC,aq aa,e,qfM,bU aa,ae];rw[hlen] at e2;exact e2
  .refine (CM.append_right R).trans ?_;simp
theorem Sz(hL:L<=100000)(hc:rv m0 nm N p f){pre X post:List Nat}{m:ai}(h:SD m0 nm N L m (pre++(X++post))){a b:Nat}(ha:a=pre.length)(hb:b=a+X.length) :
  ∃(m':ai) (X':List Nat),AC af 165 [.arr nm 0 L none,ni a,ni b,.fn 67 [p]] m=some (.tup [],m')/\SD m0 nm N L m' (pre++(X'++post))/\X'.Perm X/\dn f X':=by
 have hl:=h.hl;simp only[aW] at hl;subst ha
 cases X with
 | nil=>
  refine ⟨m,[],?_,by simpa using h,aA,List.Pairwise.nil⟩;rw[Vn,bU aa,ae,MY,bz,ae,aC,an (by simp at hb;omega),S6]
 | cons x R=>
  obtain ⟨m',S',e,k1,k2,k3⟩:=qlk hL hc (pre:=pre) (post:=post) b R [x] m (List.pairwise_singleton _ _) (by rw[hb];simp only[ba,bo];omega) (by simpa using h);refine ⟨m',S',?_,k1,by simpa using k2,k3⟩;rw[Vn,bU aa,ae];exact e
end
end Go.Ab
