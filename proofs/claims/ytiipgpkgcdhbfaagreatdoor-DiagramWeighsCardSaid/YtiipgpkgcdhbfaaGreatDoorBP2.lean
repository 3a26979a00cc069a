/- The functions of the diagram seat that the interpreter does not walk: a node's name; what the interpreter knows of the world. -/
import Derived.Test.YtiipgpkgcdhbfaaGreatDoorBP1
import Derived.Test.YtiipgpkgcdhbfaaGreatDoorProg
set_option linter.unusedVariables false
set_option linter.unusedSimpArgs false
set_option linter.unusedSectionVars false
set_option maxRecDepth 100000
namespace Go.Ab
open Go.Proofs Go.RowKit
noncomputable instance:WInv:=⟨fun w=>Yd.tab w⟩
def qpm:List AV->Option (List Int)
 | []=>some []
 | .int .i64 n::l=>if -9223372036854775808<=n/\n<=9223372036854775807 then (qpm l).map fun ns=>n::ns else none
 | _=>none
def qpw:List AV->Option AV
 | [.agg [.int .i64 v,.lst none _ _ ks,.int .i64 l]]=>(qpm ks).bind fun ns=>
  if (-9223372036854775808<=v/\v<=9223372036854775807)/\(-9223372036854775808<=l/\l<=9223372036854775807)/\ns.length<=1048576 then some (.str ⟨(Yd.nameB v l ns).toArray⟩) else none
 | _=>none
theorem qrh:∀ {ks:List AV} {ns:List Int},qpm ks=some ns->ks=ns.map (AV.int .i64)/\∀ n∈ns,Yd.i64 n
 | [],ns,h=>by simp[qpm] at h;subst h;simp
 | x::l,ns,h=>by
  unfold qpm at h
  split at h
  ·rename_i he;cases he
  ·rename_i n l' he
   cases he
   split at h
   ·rename_i hn
    obtain ⟨ms,hm,rfl⟩:=qaA.1 h
    obtain ⟨h1,h2⟩:=qrh hm
    exact ⟨by rw[h1];rfl,fun n hn'=>by
     rcases qa1.1 hn' with rfl | h'
     ·exact hn
     ·exact h2 _ h'⟩
   ·cases h
  ·cases h
theorem qvQ {ns:List Int} (h:∀ n∈ns,Yd.i64 n):qpm (ns.map (AV.int .i64))=some ns:=by
 induction ns with
 | nil=>rfl
 | cons n ns ih=>
  simp only[qaX,qpm]
  rw[qal (show _/\_ from h n qaC),ih fun k hk=>h k (qax _ hk)]
  rfl
theorem qvE (ns:List Int):qen (ns.map (AV.int .i64))=ns.map (AV.int .i64):=by
 induction ns with
 | nil=>rfl
 | cons n l ih=>simp only[qaX,qen,qej,AV.cells] at ih ⊢;rw[ih];rfl
theorem qiy {B:Nat} {w w':World} {g:G} (hB:B<=w.heap.size) (h:Below w.heap.size w w'):Step B w g w' g where
 below:=h.mono hB
 cell b off u _ hc:=(h.cell (p:=⟨b,off,none⟩) (qf9 hc)).trans hc
 shape b c e fr hb:=⟨c,(h.block b (qao.1 hb).1).trans hb,rfl⟩
 wr b off _ hn:=hn
 wrB b off _:=Iff.rfl
 box b _:=Iff.rfl
 loc nm b h:=h
 tloc nm n b h:=h
theorem qmp {B:Nat} {w w':World} {g:G} {m:Mem} (hB:B<=w.heap.size) (h:Below w.heap.size w w') (hm:MemR B w g m):MemR B w' g m:=
 hm.keep (qiy hB h) (fun b _ hb=>h.block b hb) (fun _ _ h=>h) rfl rfl (fun b off hw=>qcU (hm.wrLt b off hw) h.size) (fun b hw=>qcU (hm.boxLt b hw) h.size)
theorem qDq (vs:List AV) (v:AV) (h:qpw vs=some v) (m:Mem):qhK Tryz.prog 141 vs m v m:=by
 unfold qpw at h
 split at h
 ·rename_i var z o ks leaf
  simp only[qac] at h
  obtain ⟨ns,hns,h⟩:=h
  split at h
  ·rename_i hc
   obtain ⟨hv,hl,hlen⟩:=hc
   obtain rfl:=qdJ h
   obtain ⟨rfl,hin⟩:=qrh hns
   intro B w g us hm hB hus hV
   have h0:=hV 0 (by simp)
   simp only[qcz] at h0
   have hsz:us.size=1:=by simpa using hus.symm
   obtain ⟨u,rfl⟩:∃ u,us = #[u]:=⟨us.getD 0 undef,by
    apply Array.ext (by simpa using hsz)
    intro i hi1 hi2
    obtain rfl:i=0:=by simp at hi2;omega
    simp[Array.getD,hi1]⟩
   have h0:V w g (.agg [.int .i64 var,.lst none z o (ns.map (AV.int .i64)),.int .i64 leaf]) u:=h0
   cases h0
   rename_i ws hl3 hVs
   have htab:Yd.tab w:=hm.inv w (Below.refl _ _)
   have a0:=hVs 0 (by simp);have a1:=hVs 1 (by simp);have a2:=hVs 2 (by simp)
   simp only[qcz,qg2] at a0 a1 a2
   have hws:ws = #[ws.getD 0 undef,ws.getD 1 undef,ws.getD 2 undef]:=by
    have h3:ws.size=3:=by simpa using hl3.symm
    apply Array.ext (by simpa using h3)
    intro i hi1 hi2
    match i,hi2 with
    | 0,_=>simp[Array.getD,h3]
    | 1,_=>simp[Array.getD,h3]
    | 2,_=>simp[Array.getD,h3]
   generalize ws.getD 0 undef=q0 at a0 hws
   generalize ws.getD 1 undef=q1 at a1 hws
   generalize ws.getD 2 undef=q2 at a2 hws
   subst hws
   cases a0;cases a2
   have fin:∀ {e:Ending} {w':World},e=.returned (.string ⟨(Yd.nameB var leaf ns).toArray⟩)/\Below w.heap.size w w'->∃ v' g',e=.returned v'/\Step B w g w' g'/\MemR B w' g' m/\V w' g' (.str ⟨(Yd.nameB var leaf ns).toArray⟩) v':=by
    rintro e w' ⟨rfl,hb⟩
    exact ⟨_,g,rfl,qiy hB hb,qmp hB hb hm,.str _⟩
   by_cases hneg:var < 0
   ·refine (Yd.name_leaf var leaf q1 w htab hneg hl).mono fun e w' hr=>fin ?_
    rw[Yd.nameB,qal hneg];exact hr
   ·have e1:Yd.nameB var leaf ns=Yd.part var ns ns.length:=by rw[Yd.nameB,qah hneg,Yd.part,List.take_length]
    rw[e1] at fin ⊢
    generalize hes:ns.map (AV.int .i64)=es at a1
    cases a1 with
    | nils _ _ _=>
     obtain rfl:ns=[]:=qg4.1 hes
     exact (Yd.name_node var leaf [] none 0 w htab hneg hv hin (by simp) (fun j h=>by simp at h)).mono fun e w' hr=>fin hr
    | lst _ _ _ a cap us hs hcl hmx hsh hcell hvv ho=>
     subst hes
     rw[qaE] at *
     have hfl:=qvE ns
     refine (Yd.name_node var leaf ns (some a) cap w htab hneg hv hin hlen (fun j hj=>?_)).mono fun e w' hr=>fin hr
     rw[hfl] at hcell hvv
     have c1:=(hcell j (by simpa using hj)).1
     have c2:=hvv j (by simpa using hj)
     have hg:(ns.map (AV.int .i64)).getD j .any=.int .i64 ns[j]:=by simp[qaa,hj]
     rw[hg] at c2
     generalize us j=q at c1 c2
     cases c2
     have hsp:a.spot=none:=hs.resolve_left (by omega)
     obtain ⟨bl,off,sp⟩:=a
     simp only at hsp c1
     subst hsp
     exact ⟨bl,off,rfl,c1⟩
  ·cases h
 ·cases h
end Go.Ab

/- Names of nodes: no two nodes have the same. Plain Lean. -/
namespace Go.Ab
open Go.Proofs
structure ND where
 var:Int
 kids:List Int
 leaf:Int
 deriving DecidableEq
def ND.key (n:ND):List UInt8:=Yd.nameB n.var n.leaf n.kids
def ND.ok (n:ND):Prop:=(n.var=-1/\n.kids=[]/\0<=n.leaf/\n.leaf<=2147483647)\/(0<=n.var/\n.var < 1000/\n.leaf=0/\(∀ k∈n.kids,0<=k/\k < 1000000)/\n.kids.length<=64)
theorem qGW (u:Nat):Lib.decDigits u≠[]:=by
 rw[Lib.decDigits];split<;>simp
theorem qvv (u:Nat):∀ b∈Lib.decDigits u,48<=b.toNat/\b.toNat<=57:=by
 induction u using Nat.strongRecOn with
 | ind u ih=>
  rw[Lib.decDigits]
  have h8:∀ v,v < 10->48<=(UInt8.ofNat (48+v)).toNat/\(UInt8.ofNat (48+v)).toNat<=57:=fun v hv=>by
   have:(UInt8.ofNat (48+v)).toNat=48+v:=by simp;omega
   omega
  split
  ·rename_i h
   intro b hb
   simp only[List.mem_singleton] at hb
   rw[hb];exact h8 u h
  ·intro b hb
   rcases qaW.1 hb with hb | hb
   ·exact ih (u / 10) (by omega) b hb
   ·simp only[List.mem_singleton] at hb
    rw[hb];exact h8 (u % 10) (by omega)
def qFI (l:List UInt8):Nat:=l.foldl (fun a b=>a * 10+(b.toNat - 48)) 0
theorem qAu (u:Nat):qFI (Lib.decDigits u)=u:=by
 induction u using Nat.strongRecOn with
 | ind u ih=>
  rw[Lib.decDigits]
  have h8:∀ v,v < 10->(UInt8.ofNat (48+v)).toNat=48+v:=fun v hv=>by simp;omega
  split
  ·rename_i h
   simp only[qFI,qe5,List.foldl_nil,h8 u h];omega
  ·rename_i h
   have:=ih (u / 10) (by omega)
   unfold qFI at this ⊢
   rw[List.foldl_append,this]
   simp only[qe5,List.foldl_nil,h8 (u % 10) (by omega)];omega
def brk (x:List UInt8):Prop:=x=[]\/∃ y,x=32::y
theorem qoq:∀ {a b x y:List UInt8},(∀ c∈a,48<=c.toNat/\c.toNat<=57)->(∀ c∈b,48<=c.toNat/\c.toNat<=57)->brk x->brk y->a++x=b++y->a=b/\x=y
 | [],[],x,y,_,_,_,_,h=>⟨rfl,by simpa using h⟩
 | [],c::b,x,y,_,hb,hx,_,h=>by
  exfalso
  have hc:=hb c qaC
  rcases hx with rfl | ⟨z,rfl⟩
  ·simp at h
  ·simp only[qaw,qas,qdm] at h
   rw[<- h.1] at hc;simp at hc
 | c::a,[],x,y,ha,_,_,hy,h=>by
  exfalso
  have hc:=ha c qaC
  rcases hy with rfl | ⟨z,rfl⟩
  ·simp at h
  ·simp only[qaw,qas,qdm] at h
   rw[h.1] at hc;simp at hc
 | c::a,d::b,x,y,ha,hb,hx,hy,h=>by
  simp only[qas,qdm] at h
  obtain ⟨e1,e2⟩:=qoq (fun c hc=>ha c (qax _ hc)) (fun c hc=>hb c (qax _ hc)) hx hy h.2
  exact ⟨by rw[h.1,e1],e2⟩
theorem qpn {n:Int} (h:0<=n):Lib.itoa n=Lib.decDigits n.toNat:=by unfold Lib.itoa;rw[qah (by omega)]
theorem qiW {a b:Int} (ha:0<=a) (hb:0<=b) {x y:List UInt8} (hx:brk x) (hy:brk y) (h:Lib.itoa a++x=Lib.itoa b++y):a=b/\x=y:=by
 rw[qpn ha,qpn hb] at h
 obtain ⟨e1,e2⟩:=qoq (qvv _) (qvv _) hx hy h
 have:=qbi qFI e1
 rw[qAu,qAu] at this
 exact ⟨by omega,e2⟩
theorem qjx (ks:List Int):brk (ks.flatMap fun k=>32::Lib.itoa k):=by
 cases ks with
 | nil=>exact .inl rfl
 | cons k ks=>exact .inr ⟨_,by rw[qej];rfl⟩
theorem qrk:∀ {a b:List Int},(∀ k∈a,0<=k)->(∀ k∈b,0<=k)->(a.flatMap fun k=>32::Lib.itoa k)=(b.flatMap fun k=>32::Lib.itoa k)->a=b
 | [],[],_,_,_=>rfl
 | [],k::b,_,_,h=>by simp[qej] at h
 | k::a,[],_,_,h=>by simp[qej] at h
 | k::a,l::b,ha,hb,h=>by
  simp only[qej,qas,qdm,true_and] at h
  obtain ⟨e1,e2⟩:=qiW (ha k qaC) (hb l qaC) (qjx a) (qjx b) h
  rw[e1,qrk (fun k hk=>ha k (qax _ hk)) (fun k hk=>hb k (qax _ hk)) e2]
theorem qDe {a b:ND} (ha:a.ok) (hb:b.ok) (h:a.key=b.key):a=b:=by
 obtain ⟨v,ks,l⟩:=a
 obtain ⟨v',ks',l'⟩:=b
 unfold ND.key Yd.nameB at h
 simp only at h
 have lead:∀ {n:Int} {x:List UInt8} {y:List UInt8},0<=n->61::x=Lib.itoa n++y->False:=fun {n x y} hn he=>by
  rw[qpn hn] at he
  cases hd:Lib.decDigits n.toNat with
  | nil=>exact qGW _ hd
  | cons c d=>
   have:=qvv n.toNat c (by rw[hd];exact qaC)
   rw[hd] at he
   simp only[qas,qdm] at he
   rw[<- he.1] at this
   simp at this
 rcases ha with ⟨h1,h2,h3,h4⟩ | ⟨h1,h2,h3,h4,h5⟩<;>rcases hb with ⟨k1,k2,k3,k4⟩ | ⟨k1,k2,k3,k4,k5⟩<;>simp only at h1 h2 h3 h4 k1 k2 k3 k4
 ·subst h1;subst k1;subst h2;subst k2
  rw[qal (by decide),qal (by decide)] at h
  simp only[qdm,true_and] at h
  have:=(qiW h3 k3 (x:=[]) (y:=[]) (.inl rfl) (.inl rfl) (by simpa using h)).1
  rw[this]
 ·subst h1
  rw[qal (by decide),qah (by omega)] at h
  exact (lead k1 h).elim
 ·subst k1
  rw[qah (by omega),qal (by decide)] at h
  exact (lead h1 h.symm).elim
 ·rw[qah (by omega),qah (by omega)] at h
  obtain ⟨e1,e2⟩:=qiW h1 k1 (qjx _) (qjx _) h
  rw[e1,h3,k3,qrk (fun k hk=>(h4 k hk).1) (fun k hk=>(k4 k hk).1) e2]
theorem qv6 {n:ND} (h:n.ok) (z:Bool) (o:Own):qpw [.agg [.int .i64 n.var,.lst none z o (n.kids.map (AV.int .i64)),.int .i64 n.leaf]]=some (.str ⟨n.key.toArray⟩):=by
 have hk:∀ k∈n.kids,Yd.i64 k:=fun k hk=>by
  rcases h with ⟨_,h2,_⟩ | ⟨_,_,_,h4,_⟩
  ·rw[h2] at hk;cases hk
  ·have:=h4 k hk;constructor<;>omega
 have hb:((-9223372036854775808<=n.var/\n.var<=9223372036854775807)/\(-9223372036854775808<=n.leaf/\n.leaf<=9223372036854775807)/\n.kids.length<=1048576):=by
  rcases h with ⟨h1,h2,h3,h4⟩ | ⟨h1,h2,h3,h4,h5⟩
  ·rw[h2];refine ⟨by omega,by omega,by simp⟩
  ·omega
 unfold qpw
 simp only[]
 rw[qvQ hk,oBs,qal hb]
 rfl
end Go.Ab

/- The settings of the interpreter for this seat. -/
set_option maxRecDepth 100000
namespace Go.Ab
open Go.Proofs.Tryz
def qaj:Nat->Nat->List Bool
 | 0,_=>[]
 | n+1,x=>Nat.beq (x % 2) 1::qaj n (x / 2)
def qDj:List (Nat×Nat×Masks):=[(3,17,⟨(qaj 122 1813388729421943762112512),(qaj 122 32768),(qaj 122 64)⟩),
 (4,19,⟨(qaj 186 72692156019487586799426948609895424),(qaj 186 814080),(qaj 186 256)⟩),
 (4,28,⟨(qaj 186 137015778499772148581595453067151533092764647424),(qaj 186 0),(qaj 186 256)⟩),
 (5,9,⟨(qaj 196 2115620184325601055735810),(qaj 196 0),(qaj 196 16)⟩),
 (5,25,⟨(qaj 196 670466799128826375531776824380375888017523967011062274),(qaj 196 2115620184325601055736322),(qaj 196 16)⟩),
 (7,15,⟨(qaj 105 2066035336255470798344),(qaj 105 1015808),(qaj 105 256)⟩),
 (9,13,⟨(qaj 152 252201579132804104),(qaj 152 49160),(qaj 152 256)⟩),
 (10,4,⟨(qaj 29 8),(qaj 29 8),(qaj 29 4)⟩),
 (11,4,⟨(qaj 21 1792),(qaj 21 0),(qaj 21 4)⟩),
 (12,3,⟨(qaj 22 1826),(qaj 22 32),(qaj 22 16)⟩),
 (14,3,⟨(qaj 32 99),(qaj 32 32),(qaj 32 16)⟩),
 (16,4,⟨(qaj 45 28770),(qaj 45 32),(qaj 45 16)⟩),
 (16,8,⟨(qaj 45 30562),(qaj 45 29282),(qaj 45 16)⟩),
 (17,11,⟨(qaj 123 31525197391598860),(qaj 123 4352),(qaj 123 192)⟩),
 (17,17,⟨(qaj 123 528905077606597655631116),(qaj 123 31525197391598860),(qaj 123 192)⟩),
 (17,28,⟨(qaj 123 1135814937804493543741046076215296),(qaj 123 4194304),(qaj 123 192)⟩),
 (18,4,⟨(qaj 50 229377),(qaj 50 0),(qaj 50 16)⟩),
 (18,8,⟨(qaj 50 29589729),(qaj 50 229601),(qaj 50 16)⟩),
 (19,3,⟨(qaj 49 114823),(qaj 49 128),(qaj 49 64)⟩),
 (19,7,⟨(qaj 49 29476487),(qaj 49 116359),(qaj 49 64)⟩),
 (24,7,⟨(qaj 72 481036337713),(qaj 72 561),(qaj 72 448)⟩),
 (25,5,⟨(qaj 37 114722),(qaj 37 0),(qaj 37 16)⟩),
 (26,3,⟨(qaj 68 918279),(qaj 68 775),(qaj 68 192)⟩),
 (26,8,⟨(qaj 68 30064771847),(qaj 68 768),(qaj 68 192)⟩),
 (26,12,⟨(qaj 68 15423227585287),(qaj 68 30064788231),(qaj 68 192)⟩),
 (27,4,⟨(qaj 26 12291),(qaj 26 0),(qaj 26 16)⟩),
 (36,6,⟨(qaj 85 469762055),(qaj 85 7),(qaj 85 192)⟩),
 (36,11,⟨(qaj 85 7),(qaj 85 3),(qaj 85 192)⟩),
 (43,8,⟨(qaj 77 29360321),(qaj 77 128),(qaj 77 48)⟩),
 (43,13,⟨(qaj 77 504403158294856897),(qaj 77 29361345),(qaj 77 48)⟩),
 (45,4,⟨(qaj 29 8),(qaj 29 8),(qaj 29 4)⟩),
 (47,3,⟨(qaj 32 99),(qaj 32 32),(qaj 32 16)⟩),
 (48,4,⟨(qaj 45 28770),(qaj 45 32),(qaj 45 16)⟩),
 (48,8,⟨(qaj 45 30562),(qaj 45 29282),(qaj 45 16)⟩),
 (49,6,⟨(qaj 44 58720896),(qaj 44 640),(qaj 44 112)⟩),
 (50,9,⟨(qaj 65 246290604626184),(qaj 65 4352),(qaj 65 768)⟩),
 (51,3,⟨(qaj 119 28716),(qaj 119 44),(qaj 119 16)⟩),
 (51,10,⟨(qaj 119 108086391056891916),(qaj 119 12),(qaj 119 16)⟩),
 (51,16,⟨(qaj 119 56668397794435742564364),(qaj 119 0),(qaj 119 16)⟩),
 (51,21,⟨(qaj 119 237684544211190807216374415884),(qaj 119 56668397794435742564364),(qaj 119 16)⟩),
 (52,3,⟨(qaj 33 49344),(qaj 33 192),(qaj 33 64)⟩),
 (53,4,⟨(qaj 47 28678),(qaj 47 6),(qaj 47 28)⟩),
 (54,3,⟨(qaj 18 25),(qaj 18 8),(qaj 18 4)⟩),
 (55,3,⟨(qaj 48 114738),(qaj 48 48),(qaj 48 16)⟩),
 (55,7,⟨(qaj 48 14795250),(qaj 48 115186),(qaj 48 16)⟩),
 (58,2,⟨(qaj 45 9),(qaj 45 0),(qaj 45 4)⟩),
 (58,4,⟨(qaj 45 1849),(qaj 45 57),(qaj 45 4)⟩),
 (59,3,⟨(qaj 88 234881054),(qaj 88 30),(qaj 88 12)⟩),
 (59,8,⟨(qaj 88 123145302310942),(qaj 88 30),(qaj 88 12)⟩),
 (60,3,⟨(qaj 57 7177),(qaj 57 8),(qaj 57 4)⟩),
 (61,3,⟨(qaj 67 7177),(qaj 67 8),(qaj 67 4)⟩),
 (62,6,⟨(qaj 71 7183),(qaj 71 1033),(qaj 71 768)⟩),
 (63,4,⟨(qaj 50 229377),(qaj 50 0),(qaj 50 16)⟩),
 (63,8,⟨(qaj 50 29589729),(qaj 50 229601),(qaj 50 16)⟩),
 (70,3,⟨(qaj 30 7219),(qaj 30 51),(qaj 30 16)⟩),
 (75,4,⟨(qaj 73 99),(qaj 73 32),(qaj 73 16)⟩),
 (75,8,⟨(qaj 73 483),(qaj 73 227),(qaj 73 16)⟩),
 (76,4,⟨(qaj 44 227),(qaj 44 32),(qaj 44 16)⟩),
 (77,7,⟨(qaj 45 35),(qaj 45 0),(qaj 45 16)⟩),
 (78,6,⟨(qaj 44 451),(qaj 44 64),(qaj 44 48)⟩),
 (82,5,⟨(qaj 37 114722),(qaj 37 0),(qaj 37 16)⟩),
 (83,3,⟨(qaj 25 114696),(qaj 25 8),(qaj 25 4)⟩),
 (86,8,⟨(qaj 87 27021597764255807),(qaj 87 32813),(qaj 87 4096)⟩),
 (87,3,⟨(qaj 25 803),(qaj 25 32),(qaj 25 16)⟩),
 (89,4,⟨(qaj 27 12291),(qaj 27 0),(qaj 27 16)⟩),
 (90,3,⟨(qaj 18 456),(qaj 18 8),(qaj 18 4)⟩),
 (91,7,⟨(qaj 128 3975),(qaj 128 1927),(qaj 128 64)⟩),
 (91,14,⟨(qaj 128 4487),(qaj 128 129),(qaj 128 64)⟩),
 (91,18,⟨(qaj 128 8873554201597605810476922437761),(qaj 128 129),(qaj 128 64)⟩),
 (99,2,⟨(qaj 29 3591),(qaj 29 4),(qaj 29 64)⟩),
 (101,13,⟨(qaj 106 56668397794435742638111),(qaj 106 73751),(qaj 106 1024)⟩),
 (103,10,⟨(qaj 85 126100789566382111),(qaj 85 8211),(qaj 85 1024)⟩),
 (104,7,⟨(qaj 49 14680325),(qaj 49 256),(qaj 49 192)⟩),
 (107,2,⟨(qaj 92 3587),(qaj 92 2),(qaj 92 16)⟩),
 (107,10,⟨(qaj 92 504403158265499235),(qaj 92 3587),(qaj 92 16)⟩),
 (108,3,⟨(qaj 64 28683),(qaj 64 9),(qaj 64 4)⟩),
 (108,9,⟨(qaj 64 120259113083),(qaj 64 28795),(qaj 64 4)⟩),
 (109,3,⟨(qaj 23 3592),(qaj 23 8),(qaj 23 4)⟩),
 (110,7,⟨(qaj 46 58721065),(qaj 46 768),(qaj 46 256)⟩),
 (111,8,⟨(qaj 78 240518168820),(qaj 78 244),(qaj 78 16)⟩),
 (111,13,⟨(qaj 78 492581209243892),(qaj 78 144),(qaj 78 16)⟩),
 (112,5,⟨(qaj 72 481036337162),(qaj 72 10),(qaj 72 4)⟩),
 (115,3,⟨(qaj 33 99),(qaj 33 32),(qaj 33 16)⟩),
 (119,5,⟨(qaj 84 160),(qaj 84 32),(qaj 84 16)⟩),
 (119,13,⟨(qaj 84 515),(qaj 84 515),(qaj 84 16)⟩),
 (119,15,⟨(qaj 84 515),(qaj 84 513),(qaj 84 16)⟩),
 (119,16,⟨(qaj 84 515),(qaj 84 515),(qaj 84 16)⟩),
 (119,18,⟨(qaj 84 515),(qaj 84 515),(qaj 84 16)⟩),
 (121,4,⟨(qaj 37 12294),(qaj 37 6),(qaj 37 28)⟩),
 (122,4,⟨(qaj 53 24579),(qaj 53 0),(qaj 53 16)⟩),
 (122,9,⟨(qaj 53 12884926499),(qaj 53 24579),(qaj 53 16)⟩),
 (124,3,⟨(qaj 36 29360153),(qaj 36 17),(qaj 36 0)⟩),
 (125,2,⟨(qaj 63 455),(qaj 63 199),(qaj 63 0)⟩),
 (125,7,⟨(qaj 63 71),(qaj 63 0),(qaj 63 0)⟩),
 (125,9,⟨(qaj 63 455),(qaj 63 199),(qaj 63 0)⟩),
 (127,4,⟨(qaj 71 14680098),(qaj 71 32),(qaj 71 16)⟩),
 (127,8,⟨(qaj 71 1893728738),(qaj 71 14680418),(qaj 71 16)⟩),
 (130,7,⟨(qaj 60 117440610),(qaj 60 96),(qaj 60 16)⟩),
 (131,7,⟨(qaj 49 35),(qaj 49 0),(qaj 49 16)⟩),
 (132,7,⟨(qaj 59 29360322),(qaj 59 64),(qaj 59 48)⟩),
 (133,2,⟨(qaj 22 9),(qaj 22 9),(qaj 22 4)⟩),
 (136,6,⟨(qaj 27 24),(qaj 27 8),(qaj 27 4)⟩),
 (137,11,⟨(qaj 98 1539),(qaj 98 513),(qaj 98 112)⟩),
 (137,14,⟨(qaj 98 7683),(qaj 98 3587),(qaj 98 112)⟩),
 (141,6,⟨(qaj 30 1835016),(qaj 30 8),(qaj 30 4)⟩),
 (142,4,⟨(qaj 45 1610612748),(qaj 45 0),(qaj 45 16)⟩),
 (143,2,⟨(qaj 17 225),(qaj 17 0),(qaj 17 4)⟩),
 (144,4,⟨(qaj 26 12291),(qaj 26 0),(qaj 26 16)⟩),
 (145,2,⟨(qaj 19 387),(qaj 19 0),(qaj 19 16)⟩),
 (158,4,⟨(qaj 32 229382),(qaj 32 0),(qaj 32 64)⟩),
 (159,4,⟨(qaj 26 12291),(qaj 26 0),(qaj 26 16)⟩),
 (160,4,⟨(qaj 32 229382),(qaj 32 0),(qaj 32 64)⟩),
 (162,5,⟨(qaj 62 31525197391593472),(qaj 62 0),(qaj 62 4)⟩),
 (164,2,⟨(qaj 21 9),(qaj 21 9),(qaj 21 4)⟩),
 (165,1,⟨(qaj 53 271),(qaj 53 0),(qaj 53 0)⟩),
 (165,4,⟨(qaj 53 783),(qaj 53 271),(qaj 53 0)⟩),
 (166,3,⟨(qaj 220 3091),(qaj 220 1027),(qaj 220 0)⟩),
 (166,9,⟨(qaj 220 9217),(qaj 220 0),(qaj 220 0)⟩),
 (166,15,⟨(qaj 220 49173),(qaj 220 16389),(qaj 220 0)⟩),
 (166,21,⟨(qaj 220 147457),(qaj 220 0),(qaj 220 0)⟩),
 (166,33,⟨(qaj 220 8126495),(qaj 220 1835039),(qaj 220 0)⟩),
 (170,4,⟨(qaj 41 451),(qaj 41 192),(qaj 41 48)⟩),
 (172,4,⟨(qaj 42 899),(qaj 42 384),(qaj 42 64)⟩),
 (178,2,⟨(qaj 134 783),(qaj 134 0),(qaj 134 0)⟩),
 (180,2,⟨(qaj 19 387),(qaj 19 0),(qaj 19 16)⟩),
 (183,2,⟨(qaj 26 3),(qaj 26 1),(qaj 26 16)⟩),
 (184,3,⟨(qaj 19 456),(qaj 19 8),(qaj 19 4)⟩),
 (185,2,⟨(qaj 96 3587),(qaj 96 2),(qaj 96 16)⟩),
 (185,10,⟨(qaj 96 8070450532247932515),(qaj 96 3587),(qaj 96 16)⟩),
 (186,2,⟨(qaj 58 3093),(qaj 58 1045),(qaj 58 0)⟩),
 (187,14,⟨(qaj 315 32256),(qaj 315 13824),(qaj 315 112)⟩),
 (187,18,⟨(qaj 315 228864),(qaj 315 97792),(qaj 315 112)⟩),
 (187,24,⟨(qaj 315 1096126227998177188652763624537212264741950291456),(qaj 315 884224),(qaj 315 112)⟩),
 (187,41,⟨(qaj 315 165641912322973530898434140694648610858826615332089277323900581371805184),(qaj 315 622080),(qaj 315 112)⟩),
 (187,51,⟨(qaj 315 11656013353354374425516771440941113439854441034312837127510874458433425711231284553216),(qaj 315 33562624),(qaj 315 112)⟩),
 (190,1,⟨(qaj 49 71),(qaj 49 0),(qaj 49 0)⟩),
 (190,4,⟨(qaj 49 199),(qaj 49 71),(qaj 49 0)⟩),
 (191,4,⟨(qaj 56 961),(qaj 56 449),(qaj 56 0)⟩),
 (191,8,⟨(qaj 56 1217),(qaj 56 0),(qaj 56 0)⟩),
 (192,5,⟨(qaj 65 963),(qaj 65 0),(qaj 65 0)⟩),
 (194,2,⟨(qaj 32 193),(qaj 32 0),(qaj 32 0)⟩),
 (195,3,⟨(qaj 133 391),(qaj 133 0),(qaj 133 64)⟩),
 (195,5,⟨(qaj 133 391),(qaj 133 391),(qaj 133 64)⟩),
 (195,14,⟨(qaj 133 903),(qaj 133 391),(qaj 133 64)⟩),
 (195,20,⟨(qaj 133 1415),(qaj 133 391),(qaj 133 64)⟩),
 (197,3,⟨(qaj 84 1539),(qaj 84 1539),(qaj 84 256)⟩),
 (197,5,⟨(qaj 84 1539),(qaj 84 1539),(qaj 84 256)⟩),
 (198,3,⟨(qaj 168 3075),(qaj 168 3075),(qaj 168 768)⟩),
 (198,5,⟨(qaj 168 3075),(qaj 168 3075),(qaj 168 768)⟩),
 (198,13,⟨(qaj 168 3075),(qaj 168 3075),(qaj 168 768)⟩),
 (198,15,⟨(qaj 168 3075),(qaj 168 3075),(qaj 168 768)⟩),
 (201,1,⟨(qaj 38 1039),(qaj 38 0),(qaj 38 0)⟩),
 (202,4,⟨(qaj 43 451),(qaj 43 192),(qaj 43 48)⟩),
 (204,3,⟨(qaj 40 28706),(qaj 40 32),(qaj 40 16)⟩),
 (207,1,⟨(qaj 76 269),(qaj 76 0),(qaj 76 0)⟩),
 (215,1,⟨(qaj 167 19),(qaj 167 19),(qaj 167 0)⟩)]
def qFc:List (Nat×Nat×List Nat):=[(9,19,[0,1,2,4,5,6,3,7,8,9]),(9,29,[0,1,2,4,5,6,7,3,8,9]),(59,12,[0,1,2,3,4,5,6,7,8,9,10,11,12,13,14,15,16]),(67,1,[0,1,3,4,2,5,6,7]),(97,1,[0,1,2,3,4,5,6,8,7,9,10,11])]
def qF5:List (Nat×Nat×List Nat):=[(3,19,[0,0,3,7,15,0,0,96,224,480,1023,2047,4095,4095,16383,32767,65535,4095,4095,397311,921599,1970175,4194303,8388607,16777215]),
 (3,21,[0,0,0,6,14,30,63,127]),
 (3,23,[0,0,3,7,15,31,63]),
 (4,30,[0,0,3,7,15,0,0,96,224,480,1023,2047,4095,4095,16383,32767,65535,4095,4095,397311,921599,1970175,4194303,8388607,16777215]),
 (6,13,[0,1,3,7,7,7,7,103,7,503,1023,2047,4095,8191,16383,32767,65535,131071,262143,524287,1048575,2097151,4194303,8388607]),
 (7,18,[0,0,0,6,15,31]),
 (8,2,[0,1,0,4,0,16,48,112,252,0,512,0,2048,6144,14336,32256,65535,131071]),
 (8,14,[0,0,2,6,15,0,32,96,255,0,512,1536,4095,8191]),
 (8,15,[0,1,0,0,8,0,56,120,0,504,1023,2047]),
 (9,19,[0,0,2,7,0,0,32,127,255,511]),
 (9,24,[0,0,0,6,15,0,0,64,224,511,1023]),
 (9,26,[0,1,0,7,15,31,63,127,255,511,1023]),
 (9,29,[0,0,2,7,0,16,48,112,255,511]),
 (17,13,[0,1,3,7,0,31,63,0,0,384,0,0,3199,8191]),
 (17,19,[0,0,0,4,14,30,0,126,255,0,1023]),
 (19,10,[0,0,0,6,15,31]),
 (22,1,[0,1,0,7,15,31]),
 (22,2,[0,1,0,4,15,0,32,0,128,511,0,1024,0,4096,16383,32767,65535,131071]),
 (22,3,[0,1,0,0,12,31,63]),
 (24,3,[0,0,3,7,15,31,31,95,223,479,991,2047,4095,8191]),
 (27,6,[0,0,3,7,0,0,48,112,255]),
 (34,3,[0,1,3,7,7,23,55,119,247,511,1023,2047,4095,8191,4095,20479,53247,118783,4095,511999,1036287,2097151,4194303,8388607,16777215,16777215,67108863,134217727]),
 (36,12,[0,1,3,7,0,31,63,127,0,0,512,1536,3584,0,15872,32256,65024,130816,261888,524287,1048575,2097151]),
 (39,3,[0,0,3,7,15,31,63,127,255,511,511,1535,3583,7679,15871,32767,65535,131071,262143,524287,1048575,2097151,4194303,4194303,12582911,29360127,62914559,4194303,264241151,532676607,1073741823,2147483647]),
 (43,11,[0,1,3,7,0,31,63,127,0,256,768,1792,0,7936,16128,32512,65535,0,262143]),
 (44,3,[0,1,3,7,0,31,63]),
 (46,3,[0,1,3,7,7,31,63,127]),
 (50,11,[0,1,0,4,0,0,0,64,252,508,1023,2047,4095]),
 (51,12,[0,1,0,7,15,0,32,0,224,480,1023,2047]),
 (51,18,[0,1,0,7,15,31,0,64,0,448,960,1984,4095]),
 (51,23,[0,1,0,7,15,0,63,127,0,256,0,1792,3840,0,16128,32512,65535]),
 (52,5,[0,1,0,4,15,31,63]),
 (52,6,[0,1,0,0,0,24,63,127]),
 (53,6,[0,1,0,7,15,0,32,0,0,256,0,1024,4064,8191,16383]),
 (53,9,[0,1,0,4,12,28,63,127,0,511,1023,2047,4095]),
 (56,4,[0,1,3,7,15,31,15,127,255,511,1023]),
 (59,1,[0,1,0,4,12,28,63,0,128,511,0,2047]),
 (59,10,[0,1,0,4,0,16,0,64,192,448,1008,0,2048,0,8192,24576,57344,129024,262140,524284,1048575,2097151,4194303]),
 (59,12,[0,1,0,4,0,16,48,112,252,0,512,0,2048,8191,0,16383,65535]),
 (60,6,[0,1,3,7,15,31,63,63,191,511,1023,63,4095,8191,16383,32767,32767,98303,262143,524287,1048575,32767,2129919,8388607,16777215,33554431,67108863]),
 (60,10,[0,0,3,7]),
 (61,6,[0,1,3,7,15,31,63,127,63,319,831,1855,4095,8191,16383,32767,65535,32767,163839,425983,950271,2097151,4194303,8388607,16777215,33554431,67108863,33554431,33554431,301989887,973078527,2046820351,4194303999,8589934591,17179869183,34359738367,68719476735]),
 (61,10,[0,0,3,7]),
 (67,1,[0,0,3,0,0,31,63,127]),
 (69,1,[0,1,0,4,15,0,32,0,128,480,0,1024,0,4096,16352,32767,65535]),
 (71,5,[0,1,0,4,15,0,32,0,128,511,0,1024,0,4096,16383,32767,65535,131071]),
 (71,7,[0,1,0,0,12,0,63,127]),
 (75,10,[0,0,3,7,15,0,0,96,224,480,1023,0,0,0,12288,30720,63488,129024,262143,0,1048575,2097151]),
 (77,9,[0,0,3,7,0,0,48,112,255]),
 (77,10,[0,0,3,7,0,0,48,112,255]),
 (87,5,[0,0,0,6,14,31,0,0,192,448,1023,2047]),
 (89,6,[0,0,3,7,0,0,48,112,255,511]),
 (91,16,[0,1,0,0,8,0,0,0,192,0,512,0,3584,8160,16380,32764,65535,131071,262143]),
 (91,23,[0,0,2,6,14,0,32,126,255,511,1023]),
 (97,1,[0,0,3,7,15,31,31,127,31,511,1023,2047]),
 (98,1,[0,0,0,4,15,31]),
 (101,7,[0,0,2,6,14,0,62,126,254,0,512,1536,3584,0,15872,32256,65024,131071,262143]),
 (105,1,[0,1,0,4,12,3,63]),
 (106,1,[0,1,0,4,12,3,63]),
 (107,7,[0,1,3,7,15,31,15,79,255,511,1023,2047,4095,8191,16383,32767,65535,131071,262143,65535,65535,1114111,3735551,7929855,16777215,33554431]),
 (107,12,[0,1,3,7,7,31,63,127,255,255,1023,2047,4095,8191,16383,32767,32767,131071,262143,524287,32767,1081343,4194303,8388607,16777215]),
 (110,9,[0,0,0,4,14,30,0,126,0,0,768,1792,4094,8191,16383]),
 (111,16,[0,0,0,4,0,28,60,126,255,511]),
 (117,1,[0,1,0,7,15,31]),
 (117,2,[0,1,0,4,15,0,32,0,128,480,0,1024,0,4096,16352,32767,65535,131071,131071,0,786431,2097151]),
 (119,6,[0,0,0,6,3,31]),
 (121,6,[0,1,0,7,15,0,0,96,255,511]),
 (122,6,[0,0,3,7,15,0,0,96,224,480,1023]),
 (122,11,[0,0,3,7,0,31,63,0,0,384,896,0,3968,8064,16383]),
 (131,9,[0,0,3,7,0,0,48,112,255,511]),
 (131,11,[0,0,3,7,0,0,48,112,255,511]),
 (134,1,[0,0,2,7,15]),
 (139,5,[0,1,3,7,15,0,32,96,224,511]),
 (139,7,[0,0,2,6,14,0,32,126,255,511,1023]),
 (139,8,[0,1,3,7,0,0,32,96,224,480,992,2047]),
 (142,6,[0,1,0,7,15,0,32,0,224,480,1023]),
 (144,6,[0,0,3,7,0,0,48,112,255]),
 (153,1,[0,1,0,7,15,31]),
 (153,6,[0,0,2,0,8,30,0,64,0,256,1022,2046,4095,8191]),
 (155,8,[0,1,3,7,15,0,32,96,224,511,1023,2047]),
 (159,6,[0,0,3,7,0,0,48,112,255]),
 (165,4,[0,0,3,7,15,15,15,111,239,15,15,1039,3599,7695,16383,32767,65535]),
 (165,6,[0,0,0,0,8,0,0,64,224,480,0,0,3072,7168,16355,32739,65535,131071]),
 (166,5,[0,0,0,6,14,0,0,96,224,511,1023]),
 (166,11,[0,0,0,0,8,0,0,64,224,480,0,0,3072,7168,16355,32739,65535,131071]),
 (166,17,[0,0,0,6,14,0,0,96,224,511,1023,2047]),
 (166,23,[0,0,0,0,8,0,0,64,224,480,0,0,3072,7168,16355,32739,65535,131071]),
 (166,35,[0,0,0,0,12,30,62,0,0,384,896,2047,4095,8191]),
 (171,2,[0,0,0,6,15,31,0,0,0,384,896,2015,4095,0,0,16384,57344,122880,253952,8191,1048575]),
 (178,17,[0,1,3,7,7,23,63,127,7,7,775,1799,4095,8191,16383]),
 (182,8,[0,1,3,7,0,16,48,112,240,511,1023,2047]),
 (185,7,[0,1,3,7,15,31,15,79,255,511,1023,2047,4095,8191,16383,32767,65535,131071,262143,65535,65535,1114111,3735551,7929855,16777215,33554431]),
 (185,12,[0,1,3,7,7,31,63,127,255,255,1023,2047,4095,8191,16383,32767,32767,131071,262143,524287,32767,1081343,4194303,8388607,16777215]),
 (187,16,[0,0,0,6,15,31,63,127,0,0,0,1536,3584,7936,16128,32512,65535,131071]),
 (187,17,[0,0,0,4,14,30,62,127,0,0,0,1024,3584,7680,15872,32512,255,131071]),
 (187,18,[0,1,3,7,7,7,39,119,247,503,1023,7,2055,7,7,7,49159,114695,253959,516103,1040391,2095111,4194303,8388607]),
 (187,43,[0,0,0,0,12,30,62,126,0,0,768,1792,3840,8190,16383,32767]),
 (187,55,[0,0,3,7,0,0,32,112,240,0,512,2032,4095,8191,16383]),
 (190,4,[0,0,3,7,15,15,63,127,15,15,527,1807,3855,8191,16383]),
 (190,6,[0,0,0,0,8,0,0,64,224,480,0,0,3072,7168,16355,32739,65535,131071]),
 (191,10,[0,0,0,0,0,24,0,0,0,384,960,1984,0,0,12288,28672,65475,131011,262143,524287]),
 (192,10,[0,0,0,0,0,24,0,0,0,384,960,1984,0,0,12288,28672,65475,131011,262143,524287]),
 (194,3,[0,0,0,0,0,0,48,112,0,0,768,1792,4083,8179,16383,32767]),
 (195,5,[0,0,3,7,15,15,63,127,15,15,527,1807,3855,8191,16383,32767]),
 (195,11,[0,0,0,0,8,0,0,64,224,480,0,0,3072,7168,16355,32739,65535,131071]),
 (195,16,[0,0,3,7,0,0,32,112,240,511,1023]),
 (195,17,[0,0,0,0,8,0,0,64,224,480,0,0,3072,7168,16355,32739,65535,131071]),
 (195,22,[0,0,3,7,0,0,32,112,240,511,1023]),
 (195,23,[0,0,0,0,8,0,0,64,224,480,0,0,3072,7168,16355,32739,65535,131071]),
 (197,1,[0,0,0,0,0,0,48,112,0,0,768,1792,4083,8179,16383,32767]),
 (197,3,[0,0,3,7,15,15,63,127,15,15,783,1807,4095,8191,16383]),
 (197,5,[0,0,3,7,15,15,63,127,15,15,783,1807,4095,8191]),
 (197,8,[0,0,0,0,0,0,48,112,0,0,768,1792,4083,8179,16383,32767]),
 (198,1,[0,0,0,0,0,0,48,112,0,0,768,1792,4083,8179,16383,32767]),
 (198,3,[0,0,3,7,15,15,63,127,15,15,783,1807,4095,8191]),
 (198,5,[0,0,3,7,15,15,63,127,15,15,783,1807,4095,8191,16383]),
 (198,8,[0,0,0,0,0,0,48,112,0,0,768,1792,4083,8179,16383,32767]),
 (198,10,[0,0,0,0,0,0,48,112,0,0,768,1792,4083,8179,16383,32767]),
 (198,13,[0,0,3,7,15,15,63,127,15,15,783,1807,4095,8191]),
 (198,15,[0,0,3,7,15,15,63,127,15,15,783,1807,4095,8191,16383]),
 (198,18,[0,0,0,0,0,0,48,112,0,0,768,1792,4083,8179,16383,32767]),
 (198,21,[0,0,0,0,0,0,48,112,0,0,768,1792,4083,8179,16383,32767]),
 (201,3,[0,0,0,6,0,0,0,96,0,0,0,1536,3840,7936,0,0,0,98304,245760,507904,1048335,2096911,4194303,8388607]),
 (207,3,[0,1,0,7,15,31,31,31,223,511,1023,31,31,31,12319,28703,63519,129055,262143,524287]),
 (207,5,[0,0,0,6,15,31,0,0,0,384,960,1984,4095,8191]),
 (207,6,[0,0,0,6,0,0,0,96,0,0,0,1536,3840,7936,0,0,0,98304,245760,507904,1048335,2096911,4194303,8388607]),
 (209,1,[0,1,3,0,8,24,56,127,255,511]),
 (209,2,[0,1,3,0,8,24,56,127,255,511]),
 (209,3,[0,1,3,0,8,24,56,127,255,511]),
 (215,7,[0,0,2,0,0,16,0,64,192,0,512,455,2503,8191,16383]),
 (215,8,[0,0,2,0,0,16,0,64,192,0,512,455,2503,8191,16383]),
 (215,9,[0,0,2,0,0,16,0,64,192,0,512,455,2503,8191,16383]),
 (215,10,[0,0,2,0,0,16,0,64,192,0,512,455,2503,8191,16383]),
 (215,17,[0,0,2,0,0,16,0,64,192,0,512,455,2503,8191,16383]),
 (215,18,[0,0,2,0,0,16,0,64,192,0,512,455,2503,8191,16383]),
 (215,23,[0,0,2,0,0,16,0,64,192,0,512,455,2503,8191,16383]),
 (217,1,[0,0,3,7,0,0,48,112,255])]
def qAl:List (Nat×Nat×List Nat)->Nat->Nat->List Nat
 | [],_,_=>[]
 | (f,k,m)::l,f',k'=>match Nat.beq f f' && Nat.beq k k' with
  | true=>m
  | false=>qAl l f' k'
def qG0:List (Nat×Nat):=[(50,110),(52,111),(108,99),(187,204)]
def qlw:List (Nat×Nat)->Nat->Nat->Bool
 | [],_,_=>false
 | (a,b)::l,f,g=>match Nat.beq a f && Nat.beq b g with
  | true=>true
  | false=>qlw l f g
def qFo:List (Nat×Nat):=[]
def qGX:List (Nat×Nat):=[(108,99)]
def qHb:List Nat:=[172]
def qkG:List Nat->Nat->Bool
 | [],_=>false
 | a::l,f=>match Nat.beq a f with
  | true=>true
  | false=>qkG l f
def qHc:List (Nat×Nat×List (Nat×Nat)):=[(59,12,[(14,15)])]
def qA3:List (Nat×Nat×List (Nat×Nat))->Nat->Nat->List (Nat×Nat)
 | [],_,_=>[]
 | (a,b,p)::l,f,k=>match Nat.beq a f && Nat.beq b k with
  | true=>p
  | false=>qA3 l f k
def qEW:List (Nat×Nat×List (Nat×List Nat)):=[(50,11,[(8,[1])]),(52,5,[(2,[1])]),(52,6,[(5,[1])]),(67,1,[(2,[3])]),(91,16,[(14,[1])]),(97,1,[(7,[8])]),(98,1,[(3,[0,1])])]
def qvU:List (Nat×Nat×List (Nat×List Nat))->Nat->Nat->List (Nat×List Nat)
 | [],_,_=>[]
 | (a,b,p)::l,f,k=>match Nat.beq a f && Nat.beq b k with
  | true=>p
  | false=>qvU l f k
def qG6:List (Nat×Nat):=[(24,3),(34,3),(39,3),(50,11),(52,5),(52,6),(67,1),(91,16),(97,1),(98,1),(101,7),(165,4),(166,5),(166,17),(166,35)]
def qEQ:List Nat:=[15,17,24,28,29,30,32,33,34,35,36,37,38,39,40,41,42,43,44,49,50,62,65,66,67,68,80,81,84,91,92,93,95,96,97,98,99,100,101,102,103,104,105,106,108,115,124,125,139,145,146,147,165,166,186,201]
def qG2:List (Nat×Nat):=[]
def qCU:List Nat:=[140,177]
noncomputable def cfg:Cfg where
 P:=prog
 inl:=fun f g=>match qkG qEQ g with | true=>(match qlw qG2 f g with | true=>false | false=>true) | false=>qlw qG0 f g
 ben:=qkG qCU
 seqm:=qlw qG6
 late:=qvU qEW
 frzc:=qlw qGX
 arrm:=qkG [50,52,54,65,104,124]
 tokm:=qkG qHb
 two:=qA3 qHc
 thaw:=qlw qFo
 mask:=qv3 qDj
 ord:=qAK qFc
 ahd:=qAl qF5
 lib:=fun g=>match Nat.beq g 141 with | true=>some qpw | false=>none
 libm:=fun g=>match Nat.beq g 148 with | true=>some qpO | false=>match Nat.beq g 149 with | true=>some qgE | false=>none
theorem at3:cfg.P.funcs[3]?=some f3:=by kernel_rfl
theorem qI0:cfg.P.funcs[10]?=some f10:=by kernel_rfl
theorem qI1:cfg.P.funcs[11]?=some f11:=by kernel_rfl
theorem qI2:cfg.P.funcs[12]?=some f12:=by kernel_rfl
theorem qI3:cfg.P.funcs[13]?=some f13:=by kernel_rfl
theorem qI4:cfg.P.funcs[14]?=some f14:=by kernel_rfl
theorem qI5:cfg.P.funcs[15]?=some f15:=by kernel_rfl
theorem qI6:cfg.P.funcs[16]?=some f16:=by kernel_rfl
theorem qI7:cfg.P.funcs[17]?=some f17:=by kernel_rfl
theorem qI8:cfg.P.funcs[18]?=some f18:=by kernel_rfl
theorem qI9:cfg.P.funcs[19]?=some f19:=by kernel_rfl
theorem qJa:cfg.P.funcs[20]?=some f20:=by kernel_rfl
theorem qJb:cfg.P.funcs[21]?=some f21:=by kernel_rfl
theorem qJc:cfg.P.funcs[22]?=some f22:=by kernel_rfl
theorem qJd:cfg.P.funcs[23]?=some f23:=by kernel_rfl
theorem qJe:cfg.P.funcs[32]?=some f32:=by kernel_rfl
theorem qJf:cfg.P.funcs[33]?=some f33:=by kernel_rfl
theorem qJg:cfg.P.funcs[34]?=some f34:=by kernel_rfl
theorem qJh:cfg.P.funcs[35]?=some f35:=by kernel_rfl
theorem qJi:cfg.P.funcs[41]?=some f41:=by kernel_rfl
theorem qJj:cfg.P.funcs[54]?=some f54:=by kernel_rfl
theorem qJk:cfg.P.funcs[55]?=some f55:=by kernel_rfl
theorem qJl:cfg.P.funcs[57]?=some f57:=by kernel_rfl
theorem qJm:cfg.P.funcs[58]?=some f58:=by kernel_rfl
theorem qJn:cfg.P.funcs[62]?=some f62:=by kernel_rfl
theorem qJo:cfg.P.funcs[63]?=some f63:=by kernel_rfl
theorem qJp:cfg.P.funcs[64]?=some f64:=by kernel_rfl
theorem qJq:cfg.P.funcs[65]?=some f65:=by kernel_rfl
theorem qJr:cfg.P.funcs[66]?=some f66:=by kernel_rfl
theorem qJs:cfg.P.funcs[67]?=some f67:=by kernel_rfl
theorem qJt:cfg.P.funcs[68]?=some f68:=by kernel_rfl
theorem qJu:cfg.P.funcs[69]?=some f69:=by kernel_rfl
theorem qJv:cfg.P.funcs[70]?=some f70:=by kernel_rfl
theorem qJw:cfg.P.funcs[71]?=some f71:=by kernel_rfl
theorem qJx:cfg.P.funcs[72]?=some f72:=by kernel_rfl
theorem qJy:cfg.P.funcs[73]?=some f73:=by kernel_rfl
theorem qJz:cfg.P.funcs[74]?=some f74:=by kernel_rfl
theorem qJA:cfg.P.funcs[75]?=some f75:=by kernel_rfl
theorem qJB:cfg.P.funcs[76]?=some f76:=by kernel_rfl
theorem qJC:cfg.P.funcs[77]?=some f77:=by kernel_rfl
theorem qJD:cfg.P.funcs[78]?=some f78:=by kernel_rfl
theorem qJE:cfg.P.funcs[79]?=some f79:=by kernel_rfl
theorem qJF:cfg.P.funcs[80]?=some f80:=by kernel_rfl
theorem qJG:cfg.P.funcs[81]?=some f81:=by kernel_rfl
theorem qJH:cfg.P.funcs[84]?=some f84:=by kernel_rfl
theorem qJI:cfg.P.funcs[88]?=some f88:=by kernel_rfl
theorem qJJ:cfg.P.funcs[92]?=some f92:=by kernel_rfl
theorem qJK:cfg.P.funcs[93]?=some f93:=by kernel_rfl
theorem qJL:cfg.P.funcs[94]?=some f94:=by kernel_rfl
theorem qJM:cfg.P.funcs[95]?=some f95:=by kernel_rfl
theorem qJN:cfg.P.funcs[96]?=some f96:=by kernel_rfl
theorem qJO:cfg.P.funcs[97]?=some f97:=by kernel_rfl
theorem qJP:cfg.P.funcs[98]?=some f98:=by kernel_rfl
theorem qJQ:cfg.P.funcs[99]?=some f99:=by kernel_rfl
theorem qF6:cfg.P.funcs[104]?=some f104:=by kernel_rfl
theorem qF7:cfg.P.funcs[106]?=some f106:=by kernel_rfl
theorem qF8:cfg.P.funcs[114]?=some f114:=by kernel_rfl
theorem qF9:cfg.P.funcs[115]?=some f115:=by kernel_rfl
theorem qGa:cfg.P.funcs[116]?=some f116:=by kernel_rfl
theorem qGb:cfg.P.funcs[117]?=some f117:=by kernel_rfl
theorem qGc:cfg.P.funcs[119]?=some f119:=by kernel_rfl
theorem qGd:cfg.P.funcs[123]?=some f123:=by kernel_rfl
theorem qGe:cfg.P.funcs[124]?=some f124:=by kernel_rfl
theorem qGf:cfg.P.funcs[125]?=some f125:=by kernel_rfl
theorem qGg:cfg.P.funcs[126]?=some f126:=by kernel_rfl
theorem qGh:cfg.P.funcs[127]?=some f127:=by kernel_rfl
theorem qGi:cfg.P.funcs[128]?=some f128:=by kernel_rfl
theorem qGj:cfg.P.funcs[129]?=some f129:=by kernel_rfl
theorem qGk:cfg.P.funcs[130]?=some f130:=by kernel_rfl
theorem qGl:cfg.P.funcs[131]?=some f131:=by kernel_rfl
theorem qGm:cfg.P.funcs[132]?=some f132:=by kernel_rfl
theorem qGn:cfg.P.funcs[133]?=some f133:=by kernel_rfl
theorem qGo:cfg.P.funcs[134]?=some f134:=by kernel_rfl
theorem qGp:cfg.P.funcs[135]?=some f135:=by kernel_rfl
theorem qGq:cfg.P.funcs[136]?=some f136:=by kernel_rfl
theorem qGr:cfg.P.funcs[137]?=some f137:=by kernel_rfl
theorem qGs:cfg.P.funcs[139]?=some f139:=by kernel_rfl
theorem qGt:cfg.P.funcs[141]?=some f141:=by kernel_rfl
theorem qGu:cfg.P.funcs[145]?=some f145:=by kernel_rfl
theorem qGv:cfg.P.funcs[148]?=some f148:=by kernel_rfl
theorem qGw:cfg.P.funcs[154]?=some f154:=by kernel_rfl
theorem qGx:cfg.P.funcs[155]?=some f155:=by kernel_rfl
theorem qGy:cfg.P.funcs[156]?=some f156:=by kernel_rfl
theorem qGz:cfg.P.funcs[157]?=some f157:=by kernel_rfl
theorem qGA:cfg.P.funcs[163]?=some f163:=by kernel_rfl
theorem qGB:cfg.P.funcs[164]?=some f164:=by kernel_rfl
theorem qGC:cfg.P.funcs[165]?=some f165:=by kernel_rfl
theorem qGD:cfg.P.funcs[166]?=some f166:=by kernel_rfl
theorem qGE:cfg.P.funcs[167]?=some f167:=by kernel_rfl
theorem qGF:cfg.P.funcs[168]?=some f168:=by kernel_rfl
theorem qGG:cfg.P.funcs[169]?=some f169:=by kernel_rfl
theorem qGH:cfg.P.funcs[170]?=some f170:=by kernel_rfl
theorem qGI:cfg.P.funcs[171]?=some f171:=by kernel_rfl
theorem qGJ:cfg.P.funcs[172]?=some f172:=by kernel_rfl
theorem qGK:cfg.P.funcs[183]?=some f183:=by kernel_rfl
theorem qGL:cfg.P.funcs[186]?=some f186:=by kernel_rfl
theorem qGM:cfg.P.funcs[187]?=some f187:=by kernel_rfl
theorem qGN:cfg.P.funcs[199]?=some f199:=by kernel_rfl
theorem qGO:cfg.P.funcs[201]?=some f201:=by kernel_rfl
theorem qGP:cfg.P.funcs[202]?=some f202:=by kernel_rfl
theorem qGQ:cfg.P.funcs[203]?=some f203:=by kernel_rfl
theorem qGR:cfg.P.funcs[204]?=some f204:=by kernel_rfl
end Go.Ab

/- What the interpreter does, function by function. -/
set_option maxRecDepth 100000
namespace Go.Ab
open Go.Proofs.Tryz
theorem T32 (a0:AV) (m:Mem):AC cfg 32 [a0] m =
 (qbY false a0).bind fun v1=>
 (qaz .other .gtr v1 (.int .i64 16)).bind fun v2=>
 ifA v2 (
 some ((.tup [.nilp,(.int .i64 2)]),m)) (
 (AC cfg 92 [a0,(.fn 93 [])] m).bind fun r3=>
 ifA r3.1 (
 some ((.tup [.nilp,(.int .i64 1)]),r3.2)) (
 (qaN (AP cfg) none r3.2 88 [a0]).bind fun r4=>
 (qdz (.agg [(.lst none true .full []),(.lst none true .full []),.nilm,(.int .i64 0)]) [(0,none,r4.1),(2,none,(.mref (qaH none r4.2 .resv).1)),(3,none,(.int .i64 4000))]).bind fun v5=>
 (qf8 none (some 4) (qaH none r4.2 (.mp .str [])).2 v5).bind fun r6=>
 some ((.tup [r6.1,(.int .i64 0)]),r6.2))):=
(qbx cfg 32 [a0] m (fn:=f32) (c:=qaq f32) qJe rfl).trans (by kernel_rfl)
theorem T92 (a0 a1:AV) (m:Mem):AC cfg 92 [a0,a1] m =
 (AC cfg 145 [a0,a1] m).bind fun r1=>
 (qaz .other .geq r1.1 (.int .i64 0)).bind fun v2=>
 some (v2,r1.2):=
(qbx cfg 92 [a0,a1] m (fn:=f92) (c:=qaq f92) qJJ rfl).trans (by kernel_rfl)
def qAc (m:Mem):St:=⟨(qd7 (yA2 (yA1 []))),m⟩
def qAi (x4:AV) (m:Mem):St:=⟨(yA4 (x4::yA8 (yA4 (yA2 [])))),m⟩
noncomputable def qk7 (x0 x1 x7 x8:AV) (m:Mem) (K:KT):OM:=qbq (qaM cfg 145 (AP cfg) (AC cfg) (c1 (c1 (c2 (c1 (c2 (qaq f145))))))) (cfg.mask 145 (some 2)) ⟨(x0::x1::yA4 (yA1 (x7::x8::yA8 (yA2 [])))),m⟩ K
noncomputable abbrev qxx (K:KT):KT:=qdH (fun st=>qaM cfg 145 (AP cfg) (AC cfg) (c2 (c2 (qaq f145))) st K) K
noncomputable abbrev qxy (K:KT):KT:=qbb 0 (qxx K)
noncomputable abbrev qk3 (K:KT):KT:=(qxy K)
theorem qIe (a0 a1:AV) (m:Mem):AC cfg 145 [a0,a1] m =
 (qbY false a0).bind fun v1=>
 qk7 a0 a1 v1 (.int .i64 0) m (qk3 (qbw cfg.P f145.results.toList)):=
(qbx cfg 145 [a0,a1] m (fn:=f145) (c:=qaq f145) qGu rfl).trans (by kernel_rfl)
theorem qnm (x0 x1 x7 x8:AV) (m:Mem) (K:KT):qk7 x0 x1 x7 x8 m K =
 (qaz .other .lss x8 x7).bind fun v1=>
 ifA v1 (
 (qag none x0 x8).bind fun v2=>
 (qat none m v2).bind fun v3=>
 (qlv x1).bind fun g4=>
 qfL cfg 145 (AP cfg) (AC cfg) none g4.1 ([v3]++g4.2) m fun v5 m6=>
 ifA v5 (
 K .ret (qAi x8 m6)) (
 (qaz .other .add x8 (.int .i64 1)).bind fun v7=>
 qk7 x0 x1 x7 v7 m6 K)) (
 K (.exit 0) (qAc m)):=
(qa3 (qaT _) _ _ _).trans (by kernel_rfl)
theorem qtE (m:Mem):qk3 (qbw cfg.P f145.results.toList) (.exit 0) (qAc  m) =
 some ((.int .i64 (-1)),m):=by kernel_rfl
theorem qsa (x4:AV) (m:Mem):qk3 (qbw cfg.P f145.results.toList) .ret (qAi x4 m) =
 some (x4,m):=by kernel_rfl
theorem T93 (a0:AV) (m:Mem):AC cfg 93 [a0] m =
 (qaz .other .lss a0 (.int .i64 1)).bind fun v1=>
 ifA v1 (
 some ((.bool true),m)) (
 (qaz .other .gtr a0 (.int .i64 64)).bind fun v2=>
 some (v2,m)):=
(qbx cfg 93 [a0] m (fn:=f93) (c:=qaq f93) qJK rfl).trans (by kernel_rfl)
theorem T88 (a0:AV) (m:Mem):AC cfg 88 [a0] m =
 (qaz .sl .eql a0 (.lst none true .full [])).bind fun v1=>
 ifA v1 (
 some ((.lst none true .full []),m)) (
 (qaY none []).bind fun v2=>
 (qd6 none false 3 none 8 m v2 a0).bind fun r3=>
 some (r3.1,r3.2)):=
(qbx cfg 88 [a0] m (fn:=f88) (c:=qaq f88) qJI rfl).trans (by kernel_rfl)
theorem T80 (a0:AV) (m:Mem):AC cfg 80 [a0] m =
 (qaz .pt .eql a0 .nilp).bind fun v1=>
 ifA v1 (
 some ((.bool true),m)) (
 (qjD a0).bind fun v2=>
 (qaB 3 v2).bind fun v3=>
 (qat none m v3).bind fun v4=>
 (qaz .other .eql v4 (.int .i64 0)).bind fun v5=>
 some (v5,m)):=
(qbx cfg 80 [a0] m (fn:=f80) (c:=qaq f80) qJF rfl).trans (by kernel_rfl)
theorem T94 (a0:AV) (m:Mem):AC cfg 94 [a0] m =
 (qaz .other .geq a0 (.int .i64 0)).bind fun v1=>
 ifA v1 (
 (qaz .other .leq a0 (.int .i64 2147483647)).bind fun v2=>
 some (v2,m)) (
 some ((.bool false),m)):=
(qbx cfg 94 [a0] m (fn:=f94) (c:=qaq f94) qJL rfl).trans (by kernel_rfl)
theorem T84 (a0 a1:AV) (m:Mem):AC cfg 84 [a0,a1] m =
 (qf8 none none m a0).bind fun r1=>
 (qat none (qaH none (qaH none r1.2 (.obj true [(.int .i64 0)])).2 (.obj true [(.int .i64 0)])).2 r1.1).bind fun v2=>
 (qjD v2).bind fun v3=>
 (qaB 1 v3).bind fun v4=>
 (qat none (qaH none (qaH none r1.2 (.obj true [(.int .i64 0)])).2 (.obj true [(.int .i64 0)])).2 v4).bind fun v5=>
 (qbY false v5).bind fun v6=>
 (qaR none (qaH none (qaH none (qaH none r1.2 (.obj true [(.int .i64 0)])).2 (.obj true [(.int .i64 0)])).2 (.obj true [(.int .i64 0)])).2 (.ptr (qaH none (qaH none (qaH none r1.2 (.obj true [(.int .i64 0)])).2 (.obj true [(.int .i64 0)])).2 .resv).1 0) v6).bind fun m7=>
 (qlv a1).bind fun g8=>
 qfL cfg 84 (AP cfg) (AC cfg) none g8.1 ([]++g8.2) m7 fun v9 m10=>
 (qaR none m10 (.ptr (qaH none r1.2 .resv).1 0) v9).bind fun m11=>
 (qaR none m11 (.ptr (qaH none (qaH none r1.2 (.obj true [(.int .i64 0)])).2 .resv).1 0) (.int .i64 0)).bind fun m12=>
 (qat none m12 (.ptr (qaH none r1.2 .resv).1 0)).bind fun v13=>
 (qat none m12 (.ptr (qaH none (qaH none r1.2 (.obj true [(.int .i64 0)])).2 .resv).1 0)).bind fun v14=>
 some ((.tup [v13,v14]),m12):=
(qbx cfg 84 [a0,a1] m (fn:=f84) (c:=qaq f84) qJH rfl).trans (by kernel_rfl)
theorem T95 (a0 a1:AV) (m:Mem):AC cfg 95 [a0,a1] m =
 (qat none m a0).bind fun v1=>
 (qat none m a1).bind fun v2=>
 (AC cfg 96 [v1,v2] m).bind fun r3=>
 some (r3.1,r3.2):=
(qbx cfg 95 [a0,a1] m (fn:=f95) (c:=qaq f95) qJM rfl).trans (by kernel_rfl)
theorem T96 (a0 a1:AV) (m:Mem):AC cfg 96 [a0,a1] m =
 (qdz (.agg [(.int .i64 0),(.lst none true .full []),(.int .i64 0)]) [(0,none,(.int .i64 (-1))),(2,none,a1)]).bind fun v1=>
 (AC cfg 139 [a0,v1] m).bind fun r2=>
 some (r2.1,r2.2):=
(qbx cfg 96 [a0,a1] m (fn:=f96) (c:=qaq f96) qJN rfl).trans (by kernel_rfl)
theorem T81 (a0 a1:AV) (m:Mem):AC cfg 81 [a0,a1] m =
 (qaz .other .geq a1 (.int .i64 0)).bind fun v1=>
 ifA v1 (
 (qjD a0).bind fun v2=>
 (qaB 1 v2).bind fun v3=>
 (qat none m v3).bind fun v4=>
 (qbY false v4).bind fun v5=>
 (qaz .other .lss a1 v5).bind fun v6=>
 some (v6,m)) (
 some ((.bool false),m)):=
(qbx cfg 81 [a0,a1] m (fn:=f81) (c:=qaq f81) qJG rfl).trans (by kernel_rfl)
theorem T68 (a0 a1:AV) (m:Mem):AC cfg 68 [a0,a1] m =
 (qjD a0).bind fun v1=>
 (qaB 1 v1).bind fun v2=>
 (qat none m v2).bind fun v3=>
 (qag (some 3) v3 a1).bind fun v4=>
 (qat (some 3) m v4).bind fun v5=>
 (qaR (some 3) (qaH none m (.obj true [(.int .i64 0),(.lst none true .full []),(.int .i64 0)])).2 (.ptr (qaH none m .resv).1 0) v5).bind fun m6=>
 (qaB 0 (.ptr (qaH none m .resv).1 0)).bind fun v7=>
 (qat none m6 v7).bind fun v8=>
 (qaz .other .geq v8 (.int .i64 0)).bind fun v9=>
 ifA v9 (
 (qaB 0 (.ptr (qaH none m .resv).1 0)).bind fun v10=>
 (qat none m6 v10).bind fun v11=>
 some (v11,m6)) (
 (qjD a0).bind fun v12=>
 (qaB 0 v12).bind fun v13=>
 (qat none m6 v13).bind fun v14=>
 (qbY false v14).bind fun v15=>
 some (v15,m6)):=
(qbx cfg 68 [a0,a1] m (fn:=f68) (c:=qaq f68) qJt rfl).trans (by kernel_rfl)
def qCw (x2:AV) (m:Mem):St:=⟨(yA2 (x2::qd7 (yA8 (yA2 [])))),m⟩
def qCA (x6:AV) (m:Mem):St:=⟨(yA4 (yA2 (x6::qd7 (yA4 (yA2 []))))),m⟩
noncomputable def qyN (x0 x1 x2 x9 x10 x11:AV) (m:Mem) (K:KT):OM:=qbq (qaM cfg 99 (AP cfg) (AC cfg) (c1 (c1 (c2 (c1 (c2 (qaq f99))))))) (cfg.mask 99 (some 2)) ⟨(x0::x1::x2::yA4 (yA2 (x9::x10::x11::qd7 (yA1 [])))),m⟩ K
noncomputable abbrev qCc (K:KT):KT:=qdH (fun st=>qaM cfg 99 (AP cfg) (AC cfg) (c2 (c2 (qaq f99))) st K) K
noncomputable abbrev qCd (K:KT):KT:=qbb 0 (qCc K)
noncomputable abbrev qyy (K:KT):KT:=(qCd K)
theorem T99 (a0 a1 a2:AV) (m:Mem):AC cfg 99 [a0,a1,a2] m =
 (qbY false a2).bind fun v1=>
 qyN a0 a1 a2 a2 v1 (.int .i64 0) m (qyy (qbw cfg.P f99.results.toList)):=
(qbx cfg 99 [a0,a1,a2] m (fn:=f99) (c:=qaq f99) qJQ rfl).trans (by kernel_rfl)
theorem qqP (x0 x1 x2 x9 x10 x11:AV) (m:Mem) (K:KT):qyN x0 x1 x2 x9 x10 x11 m K =
 (qaz .other .lss x11 x10).bind fun v1=>
 ifA v1 (
 (qag none x9 x11).bind fun v2=>
 (qat none m v2).bind fun v3=>
 (qag none x2 (.int .i64 0)).bind fun v4=>
 (qat none m v4).bind fun v5=>
 (qaz .other .neq v3 v5).bind fun v6=>
 ifA v6 (
 (qdz (.agg [(.int .i64 0),(.lst none true .full []),(.int .i64 0)]) [(0,none,x1),(1,none,x2)]).bind fun v7=>
 (AC cfg 139 [x0,v7] m).bind fun r8=>
 K .ret (qCA r8.1 r8.2)) (
 (qaz .other .add x11 (.int .i64 1)).bind fun v9=>
 qyN x0 x1 x2 x9 x10 v9 m K)) (
 K (.exit 0) (qCw x2 m)):=
(qa3 (qaT _) _ _ _).trans (by kernel_rfl)
theorem qyz (x2:AV) (m:Mem):qyy (qbw cfg.P f99.results.toList) (.exit 0) (qCw x2 m) =
 (qag none x2 (.int .i64 0)).bind fun v1=>
 (qat none m v1).bind fun v2=>
 some (v2,m):=by kernel_rfl
theorem quz (x6:AV) (m:Mem):qyy (qbw cfg.P f99.results.toList) .ret (qCA x6 m) =
 some (x6,m):=by kernel_rfl
theorem qFS (a0 a1:AV) (m:Mem):AC cfg 139 [a0,a1] m =
 (qf8 none (some 3) m a1).bind fun r1=>
 (qat (some 3) r1.2 r1.1).bind fun v2=>
 (qpw [v2]).bind fun v3=>
 (qjD a0).bind fun v4=>
 (qaB 2 v4).bind fun v5=>
 (qat none r1.2 v5).bind fun v6=>
 (qiY .str (.int .i64 0) r1.2 v6 v3).bind fun q7=>
 (qaF (.tup [q7.1,.bool q7.2]) 0).bind fun v8=>
 (qaF (.tup [q7.1,.bool q7.2]) 1).bind fun v9=>
 ifA v9 (
 some (v8,r1.2)) (
 (qjD a0).bind fun v10=>
 (qaB 1 v10).bind fun v11=>
 (qat none r1.2 v11).bind fun v12=>
 (qbY false v12).bind fun v13=>
 (qjD a0).bind fun v14=>
 (qaB 3 v14).bind fun v15=>
 (qat none r1.2 v15).bind fun v16=>
 (qaz .other .geq v13 v16).bind fun v17=>
 ifA v17 (
 (qdz (.agg []) []).bind fun v18=>
 none) (
 (qjD a0).bind fun v19=>
 (qaB 1 v19).bind fun v20=>
 (qat none (qbm r1.2 1) v20).bind fun v21=>
 (qat (some 3) (qbm r1.2 1) r1.1).bind fun v22=>
 (qaY (some 3) [v22]).bind fun v23=>
 (qd6 (some r1.2.length) false 74 (some 3) 40 (qbm r1.2 1) v21 v23).bind fun r24=>
 (qjD a0).bind fun v25=>
 (qaB 1 v25).bind fun v26=>
 (qaR none r24.2 v26 r24.1).bind fun m27=>
 (qjD a0).bind fun v28=>
 (qaB 2 v28).bind fun v29=>
 (qat none m27 v29).bind fun v30=>
 (qjD a0).bind fun v31=>
 (qaB 1 v31).bind fun v32=>
 (qat none m27 v32).bind fun v33=>
 (qbY false v33).bind fun v34=>
 (qaz .other .sub v34 (.int .i64 1)).bind fun v35=>
 (qk0 .str m27 v30 v3 v35).bind fun m36=>
 (qjD a0).bind fun v37=>
 (qaB 1 v37).bind fun v38=>
 (qat none m36 v38).bind fun v39=>
 (qbY false v39).bind fun v40=>
 (qaz .other .sub v40 (.int .i64 1)).bind fun v41=>
 some (v41,m36))):=
(qbx cfg 139 [a0,a1] m (fn:=f139) (c:=qaq f139) qGs rfl).trans (by kernel_rfl)
theorem T33 (a0 a1:AV) (m:Mem):AC cfg 33 [a0,a1] m =
 (qf8 none none m a0).bind fun r1=>
 (qf8 none none r1.2 a1).bind fun r2=>
 (qat none r2.2 r1.1).bind fun v3=>
 (AC cfg 80 [v3] r2.2).bind fun r4=>
 ifA r4.1 (
 some ((.tup [(.int .i64 0),(.int .i64 4)]),r4.2)) (
 (qat none r4.2 r2.1).bind fun v5=>
 (qaN (AP cfg) none r4.2 94 [v5]).bind fun r6=>
 (unA .not r6.1).bind fun v7=>
 ifA v7 (
 some ((.tup [(.int .i64 0),(.int .i64 1)]),r6.2)) (
 (qat none r6.2 r1.1).bind fun v8=>
 (AC cfg 84 [v8,(.fn 95 [r1.1,r2.1])] r6.2).bind fun r9=>
 (qaF r9.1 0).bind fun v10=>
 (qaF r9.1 1).bind fun v11=>
 some ((.tup [v10,v11]),r9.2))):=
(qbx cfg 33 [a0,a1] m (fn:=f33) (c:=qaq f33) qJf rfl).trans (by kernel_rfl)
theorem T35 (a0 a1:AV) (m:Mem):AC cfg 35 [a0,a1] m =
 (AC cfg 80 [a0] (qaH none m (.obj true [(.int .i64 0),(.lst none true .full []),(.int .i64 0)])).2).bind fun r1=>
 ifA r1.1 (
 (qdz (.agg [(.int .i64 0),(.lst none true .full []),(.int .i64 0)]) []).bind fun v2=>
 (qaR (some 3) r1.2 (.ptr (qaH none m .resv).1 0) v2).bind fun m3=>
 (qat (some 3) m3 (.ptr (qaH none m .resv).1 0)).bind fun v4=>
 some ((.tup [v4,(.int .i64 4)]),m3)) (
 (AC cfg 81 [a0,a1] r1.2).bind fun r5=>
 (unA .not r5.1).bind fun v6=>
 ifA v6 (
 (qdz (.agg [(.int .i64 0),(.lst none true .full []),(.int .i64 0)]) []).bind fun v7=>
 (qaR (some 3) r5.2 (.ptr (qaH none m .resv).1 0) v7).bind fun m8=>
 (qat (some 3) m8 (.ptr (qaH none m .resv).1 0)).bind fun v9=>
 some ((.tup [v9,(.int .i64 1)]),m8)) (
 (qjD a0).bind fun v10=>
 (qaB 1 v10).bind fun v11=>
 (qat none r5.2 v11).bind fun v12=>
 (qag (some 3) v12 a1).bind fun v13=>
 (qat (some 3) r5.2 v13).bind fun v14=>
 (qaR (some 3) (qaH none r5.2 (.obj true [(.int .i64 0),(.lst none true .full []),(.int .i64 0)])).2 (.ptr (qaH none r5.2 .resv).1 0) v14).bind fun m15=>
 (qaB 1 (.ptr (qaH none r5.2 .resv).1 0)).bind fun v16=>
 (qat none m15 v16).bind fun v17=>
 (qaN (AP cfg) none m15 88 [v17]).bind fun r18=>
 (qaB 1 (.ptr (qaH none r5.2 .resv).1 0)).bind fun v19=>
 (qaR none r18.2 v19 r18.1).bind fun m20=>
 (qat (some 3) m20 (.ptr (qaH none r5.2 .resv).1 0)).bind fun v21=>
 (qaR (some 3) m20 (.ptr (qaH none m .resv).1 0) v21).bind fun m22=>
 (qat (some 3) m22 (.ptr (qaH none m .resv).1 0)).bind fun v23=>
 some ((.tup [v23,(.int .i64 0)]),m22))):=
(qbx cfg 35 [a0,a1] m (fn:=f35) (c:=qaq f35) qJh rfl).trans (by kernel_rfl)
end Go.Ab

/- Values of numbers as rows of digits, and what the interpreter's operations do on them. -/
namespace Go.Ab
theorem qpZ (x:Int):IntKind.wrap .i64 x=if x % 18446744073709551616≥9223372036854775808 then x % 18446744073709551616 - 18446744073709551616 else x % 18446744073709551616:=by
 show (if (true && decide (x % 18446744073709551616≥9223372036854775808))=true then x % 18446744073709551616 - 18446744073709551616 else x % 18446744073709551616)=_
 simp
theorem qkJ (x:Int):IntKind.wrap .u64 x=x % 18446744073709551616:=by
 rfl
theorem qei (x:Int):IntKind.wrap .u32 x=x % 4294967296:=by
 rfl
theorem qbQ {x:Int} (h:-9223372036854775808<=x) (h':x < 9223372036854775808):IntKind.wrap .i64 x=x:=by
 rw[qpZ];split<;>omega
theorem qcL {x:Int} (h:0<=x) (h':x < 18446744073709551616):IntKind.wrap .u64 x=x:=by
 rw[qkJ];omega
theorem qgZ {x:Int} (h:0<=x) (h':x < 4294967296):IntKind.wrap .u32 x=x:=by
 rw[qei];omega
structure NV where
 z:Bool
 o:Own
 ds:List Nat
def dg (d:Nat):AV:=.int .u32 d
def NV.av (x:NV):AV:=.lst none x.z x.o (x.ds.map dg)
section
variable {R:Type}
theorem qcB (tk:TK) (k:IntKind) (a b:Int):qaz tk .gtr (.int k a) (.int k b)=some (.bool (decide (a > b))):=by cases tk<;>simp[qaz,qg0]
theorem qaU (tk:TK) (k:IntKind) (a b:Int):qaz tk .lss (.int k a) (.int k b)=some (.bool (decide (a < b))):=by cases tk<;>simp[qaz,qg0]
theorem qdD (tk:TK) (k:IntKind) (a b:Int):qaz tk .geq (.int k a) (.int k b)=some (.bool (decide (a≥b))):=by cases tk<;>simp[qaz,qg0]
theorem qf2 (tk:TK) (k:IntKind) (a b:Int):qaz tk .leq (.int k a) (.int k b)=some (.bool (decide (a<=b))):=by cases tk<;>simp[qaz,qg0]
theorem qcK (tk:TK) (k:IntKind) (a b:Int):qaz tk .eql (.int k a) (.int k b)=some (.bool (decide (a=b))):=by cases tk<;>simp[qaz,qg0]<;>rfl
theorem qcW (tk:TK) (k:IntKind) (a b:Int):qaz tk .neq (.int k a) (.int k b)=some (.bool (decide (a≠b))):=by cases tk<;>simp[qaz,qg0]<;>by_cases h:a=b<;>simp[h]
theorem qc4 (tk:TK) (k:IntKind) (a b:Int):qaz tk .add (.int k a) (.int k b)=some (.int k (k.wrap (a+b))):=by cases tk<;>simp[qaz,qg0]
theorem qel (tk:TK) (k:IntKind) (a b:Int):qaz tk .sub (.int k a) (.int k b)=some (.int k (k.wrap (a - b))):=by cases tk<;>simp[qaz,qg0]
theorem qf3 (tk:TK) (k:IntKind) (a b:Int):qaz tk .mul (.int k a) (.int k b)=some (.int k (k.wrap (a * b))):=by cases tk<;>simp[qaz,qg0]
theorem qez (sh:Sh) (z:Bool) (o:Own) (es:List AV):qbY false (.lst sh z o es)=some (.int .i64 es.length):=rfl
theorem qap (p:Prop) [Decidable p] (x y:Option R):ifA (.bool (decide p)) x y=if p then x else y:=by
 by_cases h:p<;>simp[ifA,h]
theorem qeO {z:Bool} {o:Own} {ds:List Nat} {k:IntKind} {i:Int} (h:0<=i) (h':i < ds.length):qag none (.lst none z o (ds.map dg)) (.int k i)=some (.vptr [dg (ds.getD i.toNat 0)]):=by
 have hi:i.toNat < ds.length:=by omega
 simp[qag,h,hi,AV.cells,dg,qaa]
theorem qbs (m:Mem) (x:AV):qat none m (.vptr [x])=some x:=rfl
theorem qoo {z:Bool} {o:Own} {ds:List Nat} {k:IntKind} {i:Int} (h:0<=i) (h':i<=ds.length):qf7 none (.lst none z o (ds.map dg)) none (some (.int k i)) none=some (.lst none z .no ((ds.take i.toNat).map dg)):=by
 simp[qf7,qgs,qdL,h,h',qCe]
end
def Own.fr:Own->Own
 | .tok ..=>.no
 | o=>o
def NV.fr (x:NV):NV:=⟨x.z,x.o.fr,x.ds⟩
def Fz (v v':AV):Prop:=∀ m,frz m qga v=some (v',[])
theorem qcy (x:NV):Fz x.av x.fr.av:=by
 intro m
 obtain ⟨z,o,ds⟩:=x
 cases o<;>rfl
theorem qcR (k:IntKind) (n:Int):Fz (.int k n) (.int k n):=fun _=>rfl
theorem qke (b:Bool):Fz (.bool b) (.bool b):=fun _=>rfl
section
variable {cp:Nat->List AV->Option AV} {d:Option Nat} {m:Mem} {g:Nat}
theorem qkt:qaN cp d m g []=(cp g []).map fun v=>(v,m):=by
 simp[qaN,qgc,qkk]
theorem qbt {a a':AV} (ha:Fz a a'):qaN cp d m g [a]=(cp g [a']).map fun v=>(v,m):=by
 simp[qaN,qgc,qkk,ha m]
theorem qcH {a a' b b':AV} (ha:Fz a a') (hb:Fz b b'):qaN cp d m g [a,b]=(cp g [a',b']).map fun v=>(v,m):=by
 simp[qaN,qgc,qkk,ha m,hb m]
theorem qof {a a' b b' c c':AV} (ha:Fz a a') (hb:Fz b b') (hc:Fz c c'):qaN cp d m g [a,b,c]=(cp g [a',b',c']).map fun v=>(v,m):=by
 simp[qaN,qgc,qkk,ha m,hb m,hc m]
end
theorem qeG {C:Cfg} {f:Nat} {args:List AV} {v v':AV} {m:Mem} {l:List Nat} (h:AC C f args []=some (v,m)) (hf:frz m qga v=some (v',l)) (hv:(qkU args || noV v')=true):AP C f args=some v':=by
 unfold AP qdK
 rw[h]
 simp only[oBs,hf,qal hv]
theorem qfQ (x:NV):noV x.av=true:=rfl
def qpT (m:Mem) (n:Nat):Mem:=m++[some (.tok n 1)]
theorem qrq {e b:Nat} {z:AV} {m:Mem} {c:Int} (h:0 < c) (h':c * b<=281474976710656) (h2:c<=9223372036854775807):qeU none e none z b m (.int .i64 0) (.int .i64 c)=some (.lst none false (.tok m.length e) [],qpT m 0):=by
 have h3:¬ (0:Int)=c:=by omega
 have h4:0<=c:=by omega
 simp[qeU,h3,h4,h',h2,qaH,qpT,Sh.size]
theorem ql2 {e b:Nat} {m:Mem} {es:List AV} {z:Bool} {o:Own} {y:AV} (h:(es.length+1) * b<=qef):qd6 none false e none b (qpT m es.length) (.lst none false (.tok m.length e) es) (.lst none z o [y])=some (.lst none false (.tok m.length e) (es++[y]),qpT m (es.length+1)):=by
 simp[qd6,qpT,Mem.get,Sh.size,h]
theorem qeu (k:IntKind) (n:Int):qaY none [.int k n]=some (.lst none false .full [.int k n]):=rfl
theorem qcX (k k':IntKind) (n:Int):qbl k (.int k' n)=some (.int k (k.wrap n)):=rfl
theorem qq4 (tk:TK) (k k':IntKind) (a b:Int) (h:0<=b):qaz tk .shr (.int k a) (.int k' b)=some (.int k (a.fdiv (2 ^ (min b.toNat k.bits)))):=by
 have:¬ b < 0:=by omega
 cases tk<;>simp[qaz,qhp,this]
theorem qgh (tk:TK) (k':IntKind) (a:Int) (h:0<=a):qaz tk .shr (.int .u64 a) (.int k' 32)=some (.int .u64 (a / 4294967296)):=by
 rw[qq4 tk .u64 k' a 32 (by omega)]
 show some (AV.int .u64 (a.fdiv 4294967296))=_
 rw[Int.fdiv_eq_ediv_of_nonneg _ (by omega)]
def qmt (m:Mem) (ds:List Nat):Mem:=m++[some (.obj false (ds.map dg))]
theorem qrp {e b:Nat} {m:Mem} {n:Nat} (h':n * b<=281474976710656) (h2:n<=9223372036854775807):qeU none e none (.int .u32 0) b m (.int .i64 n) (.int .i64 n)=some (.arr m.length 0 n none,qmt m (List.replicate n 0)):=by
 have h3:(n:Int) * b<=281474976710656:=by
  have:=Int.ofNat_le.2 h'
  rw[qer] at this
  exact this
 have h4:(n:Int)<=9223372036854775807:=by omega
 have h5:(0:Int)<=n:=by omega
 simp only[qeU,h3,h4,h5,qaH,qmt,qkK,qeH,and_self,qa5,qaQ,List.map_replicate]
 rfl
theorem qpB (m:Mem) (ds:List Nat):(qmt m ds).obj? m.length=some (false,ds.map dg):=by
 simp[qmt,Mem.obj?,Mem.get]
theorem qbf {nm n:Nat} {k:IntKind} {i:Nat} (h:i < n):qag none (.arr nm 0 n none) (.int k i)=some (.ptr nm i):=by
 have:(i:Int) < n:=by omega
 simp[qag,this,Sh.size]
theorem qzs {m:Mem} {ds:List Nat} {i:Nat} (h:i < ds.length):qat none (qmt m ds) (.ptr m.length i)=some (dg (ds.getD i 0)):=by
 simp[qat,qpB,qjp,qaa,h]
theorem qgu {m:Mem} {ds:List Nat} {i v:Nat} (h:i < ds.length):qaR none (qmt m ds) (.ptr m.length i) (.int .u32 v)=some (qmt m (ds.set i v)):=by
 have h1:i+1<=ds.length:=h
 simp only[qaR,qpB,oBs,Sh.size,qaE,h1,qa5,qeJ,qcE,AV.cells]
 congr 1
 simp only[qmt,qbK,qad,qae]
 rw[qcV _ _ (qak _)]
 simp only[qd1,qau]
 congr 4
 rw[List.map_set,qfH]
 simp[h,dg,qCe,List.map_drop]
theorem qpv (m:Mem) (k:Nat):∀ ds:List Nat,qgc (frz m (k+1)) (ds.map dg)=some (ds.map dg,[])
 | []=>rfl
 | d::ds=>by
  have:frz m (k+1) (dg d)=some (dg d,[]):=rfl
  simp[qgc,this,qpv m k ds]
theorem qwj:∀ ds:List Nat,plL (ds.map dg)=true
 | []=>rfl
 | d::ds=>by
  have:pl (dg d)=true:=rfl
  simp[plL,this,qwj ds]
theorem qC7 (m:Mem) (ds:List Nat):frz (qmt m ds) qga (.arr m.length 0 ds.length none)=some (.lst none false .no (ds.map dg),[m.length]):=by
 have h1:((ds.map dg).all qcE)=true:=by simp[List.all_map,dg,qcE]
 show ((qmt m ds).obj? m.length).bind _=_
 rw[qpB]
 simp only[oBs,Sh.size,qaE,qar,qc1,qak,decide_true,qcS,qeo,qa5,qbk,qbg (by simp:(ds.map dg).length<=ds.length)]
 rw[qpv]
 simp only[oBs,h1,qwj,qeo,qa5,grp]
 rw[qbg (by simp)]
theorem qwh {cp:Nat->List AV->Option AV} {m:Mem} {g:Nat} {ds:List Nat}:qaN cp none (qmt m ds) g [.arr m.length 0 ds.length none]=(cp g [.lst none false .no (ds.map dg)]).map fun v=>(v,m++[none]):=by
 simp only[qaN,qgc,qC7,oBs,qkk,Option.isSome_none,Bool.false_and,qav,qe5,List.foldl_nil]
 simp[qmt]
theorem qsv (tk:TK) (k':IntKind) (a:Nat) (h:a < 4294967296):qaz tk .shl (.int .u64 a) (.int k' 32)=some (.int .u64 (a * 4294967296:Nat)):=by
 have e:qaz tk .shl (.int .u64 a) (.int k' 32)=some (.int .u64 (IntKind.wrap .u64 ((a:Int) * 4294967296))):=by cases tk<;>rfl
 rw[e,qcL (by omega) (by omega)]
 rfl
end Go.Ab

/- Numbers as rows of digits, and what they are worth. -/
namespace Go.Ab
def trN (ds:List Nat):Nat->Nat
 | 0=>0
 | n+1=>if ds.getD n 0=0 then trN ds n else n+1
theorem qoy (ds:List Nat):∀ n,trN ds n<=n
 | 0=>qak _
 | n+1=>by
  rw[trN]
  split
  ·exact Nat.le_succ_of_le (qoy ds n)
  ·exact qak _
def tr (ds:List Nat):List Nat:=ds.take (trN ds ds.length)
theorem qgw (a:List Nat):(tr a).length<=a.length:=by simp only[tr,qbn];omega
def Dg (a:List Nat):Prop:=∀ i,a.getD i 0 < 4294967296
theorem Dg.take {a:List Nat} (h:Dg a) (n:Nat):Dg (a.take n):=by
 intro i
 have:=h i
 simp only[qaa,qcT] at this ⊢
 split
 ·exact this
 ·simp
theorem Dg.set {a:List Nat} (h:Dg a) (n v:Nat) (hv:v < 4294967296):Dg (a.set n v):=by
 intro i
 have:=h i
 simp only[qaa,qsq] at this ⊢
 split
 ·split
  ·exact hv
  ·simp
 ·exact this
theorem qkZ {a:List Nat} (h:Dg a):Dg (tr a):=h.take _
theorem qgL {l:List Nat} {i:Nat} (h:¬ (i:Int) < (l.length:Int)):l.getD i 0=0:=by
 rw[qaa,qbu (by omega)];rfl
theorem qj4:Dg []:=by intro i;simp
theorem qdO {d:Nat} {ds:List Nat}:Dg (d::ds)↔d < 4294967296/\Dg ds:=by
 constructor
 ·intro h
  exact ⟨h 0,fun i=>h (i+1)⟩
 ·intro h i
  cases i with
  | zero=>exact h.1
  | succ i=>exact h.2 i
theorem qj3 {a b:List Nat} (ha:Dg a) (hb:Dg b):Dg (a++b):=by
 induction a with
 | nil=>exact hb
 | cons d a ih=>exact qdO.2 ⟨(qdO.1 ha).1,ih (qdO.1 ha).2⟩
theorem qig {d:Nat} (h:d < 4294967296):Dg [d]:=qdO.2 ⟨h,qj4⟩
theorem qj5 (n:Nat):Dg (List.replicate n 0):=by
 induction n with
 | zero=>exact qj4
 | succ n ih=>exact qdO.2 ⟨by decide,ih⟩
theorem qdT {l:List Nat} {i j v:Nat} (h:i≠j):(l.set i v).getD j 0=l.getD j 0:=by
 simp only[qaa]
 rw[qjn h]
theorem qdk {l:List Nat} {i v:Nat} (h:i < l.length):(l.set i v).getD i 0=v:=by
 simp only[qaa]
 rw[qhG h];rfl
theorem qjA (n i:Nat):(List.replicate n 0).getD i 0=0:=by
 simp only[qaa,qeS]
 split<;>rfl
theorem pmd (p b c:Nat):p * c=p * (c % b)+p * b * (c / b):=by
 rw[qaO,<- qa8,Nat.mod_add_div]
theorem qHJ (p b x s:Nat) (h:s<=x+b):p * (x+b - s)+p * s=p * x+p * b:=by
 rw[<- qa8,Nat.sub_add_cancel h,qa8]
theorem qzC (p x s:Nat) (h:s<=x):p * (x - s)+p * s=p * x:=by
 rw[<- qa8,Nat.sub_add_cancel h]
def val:List Nat->Nat
 | []=>0
 | d::ds=>d+4294967296 * val ds
def qba (n:Nat):List Nat:=if h:n=0 then [] else n % 4294967296::qba (n / 4294967296)
termination_by n
decreasing_by exact Nat.div_lt_self (by omega) (by omega)
theorem qcP:qba 0=[]:=by rw[qba];rfl
theorem qgF {n:Nat} (h:n≠0):qba n=n % 4294967296::qba (n / 4294967296):=by rw[qba,dif_neg h]
theorem qbv (n:Nat):val (qba n)=n:=by
 induction n using Nat.strongRecOn with
 | ind n ih=>
  by_cases h:n=0
  ·subst h;rw[qcP];rfl
  ·rw[qgF h,val,ih _ (Nat.div_lt_self (by omega) (by omega))]
   omega
theorem qbC (n:Nat):Dg (qba n):=by
 induction n using Nat.strongRecOn with
 | ind n ih=>
  by_cases h:n=0
  ·subst h;rw[qcP];exact qj4
  ·rw[qgF h]
   exact qdO.2 ⟨qcO _ (by omega),ih _ (Nat.div_lt_self (by omega) (by omega))⟩
theorem qbp {k:Nat}:∀ {n:Nat},n < 4294967296 ^ k->(qba n).length<=k:=by
 induction k with
 | zero=>
   intro n h;have:n=0:=by simpa using h
   subst this;rw[qcP];exact qak _
 | succ k ih=>
  intro n h
  by_cases h0:n=0
  ·subst h0;rw[qcP];exact qdq _
  ·rw[qgF h0,qad]
   refine Nat.succ_le_succ (ih ?_)
   rw[qbB] at h
   exact Nat.div_lt_of_lt_mul (by rw[qaI];exact h)
theorem qeF {ds:List Nat} (h:Dg ds):val ds < 4294967296 ^ ds.length:=by
 induction ds with
 | nil=>exact Nat.one_pos
 | cons d ds ih=>
  have ih:=ih (qdO.1 h).2
  have hd:=(qdO.1 h).1
  rw[val,qad,qbB]
  omega
theorem qhf {ds:List Nat} (h:Dg ds):(qba (val ds)).length<=ds.length:=qbp (qeF h)
theorem qff {n:Nat}:qba n=[]↔n=0:=by
 constructor
 ·intro h
  have:=qbv n
  rw[h] at this
  exact this.symm
 ·intro h;subst h;exact qcP
theorem qy8 {a b:Nat} (h:qba a=qba b):a=b:=by
 have:=qbi val h
 rwa [qbv,qbv] at this
theorem qrV (d:Nat) (ds:List Nat):∀ n,trN (d::ds) (n+1)=if trN ds n=0 then (if d=0 then 0 else 1) else trN ds n+1
 | 0=>by
  simp only[trN,qcz,qa5]
 | n+1=>by
  rw[trN,qrV d ds n]
  simp only[qg2]
  rw[trN]
  by_cases h:ds.getD n 0=0
  ·rw[qal h,qal h]
  ·rw[qah h,qah h,qah (by omega)]
theorem qDQ (d:Nat) (ds:List Nat):tr (d::ds)=if tr ds=[] then (if d=0 then [] else [d]) else d::tr ds:=by
 have h0:tr ds=[]↔trN ds ds.length=0:=by
  have:=qoy ds ds.length
  rw[tr,<- List.length_eq_zero_iff,qbn]
  omega
 rw[tr,qad,qrV]
 by_cases h:trN ds ds.length=0
 ·rw[qal h,qal (h0.2 h)]
  split<;>rfl
 ·rw[qah h,qah (fun e=>h (h0.1 e))]
  rfl
theorem qf1 {ds:List Nat} (h:Dg ds):tr ds=qba (val ds):=by
 induction ds with
 | nil=>rw[val,qcP];rfl
 | cons d ds ih=>
  have hd:=(qdO.1 h).1
  rw[qDQ,ih (qdO.1 h).2,val]
  by_cases h0:val ds=0
  ·rw[qal (qff.2 h0),h0]
   split
   ·subst d;exact qcP.symm
   ·rw[qgF (by omega),show (d+4294967296 * 0) % 4294967296=d by omega,show (d+4294967296 * 0) / 4294967296=0 by omega,qcP]
  ·rw[qah (fun e=>h0 (qff.1 e)),qgF (n:=d+4294967296 * val ds) (by omega),show (d+4294967296 * val ds) % 4294967296=d by omega,show (d+4294967296 * val ds) / 4294967296=val ds by omega]
theorem qjm {ds:List Nat} (h:Dg ds):val (tr ds)=val ds:=by rw[qf1 h,qbv]
theorem qhr (a b:List Nat):val (a++b)=val a+4294967296 ^ a.length * val b:=by
 induction a with
 | nil=>simp[val]
 | cons d a ih=>
  rw[qas,val,val,ih,qad,qbB,qa8,qcD,qaI (4294967296 ^ a.length) 4294967296,qaO]
theorem qkI:∀ (l:List Nat) (i v:Nat),i < l.length->val (l.set i v)+4294967296 ^ i * l.getD i 0=val l+4294967296 ^ i * v
 | [],i,v,h=>by simp at h
 | d::l,0,v,h=>by simp[val];omega
 | d::l,i+1,v,h=>by
  have ih:=qkI l i v (by simpa using h)
  simp only[qaD,val,qg2,qbB]
  rw[qaI (4294967296 ^ i) 4294967296,qaO,qaO]
  omega
def vs (a:List Nat) (i:Nat):Nat:=val (a.take i)
theorem qfi (a:List Nat):vs a 0=0:=rfl
theorem qdB {a:List Nat} {i:Nat} (h:a.length<=i):vs a i=val a:=by rw[vs,qbg h]
theorem qc3 (a:List Nat) (i:Nat):vs a (i+1)=vs a i+4294967296 ^ i * a.getD i 0:=by
 by_cases h:i < a.length
 ·rw[vs,qbW h,qhr,qbn,Nat.min_eq_left (by omega),qaa,qam h,vs]
  simp[val]
 ·rw[qdB (by omega),qdB (by omega),qaa,qbu (by omega)]
  simp
theorem qoC {a:List Nat} (h:Dg a) (i:Nat):vs a i < 4294967296 ^ i:=by
 have h1:=qeF (h.take i)
 refine qcU h1 (qbA (by omega) ?_)
 rw[qbn];omega
theorem qmN (n:Nat):val (List.replicate n 0)=0:=by
 induction n with
 | zero=>rfl
 | succ n ih=>rw[qg5,val,ih]
def qls (a b:List Nat):Nat->Int
 | 0=>0
 | n+1=>if a.getD n 0 < b.getD n 0 then -1 else if a.getD n 0 > b.getD n 0 then 1 else qls a b n
def qy7 (a b:List Nat):Int:=if a.length < b.length then -1 else if a.length > b.length then 1 else qls a b a.length
def qhu (a b:Nat):Int:=if a < b then -1 else if a > b then 1 else 0
theorem qvt {a b:List Nat} (ha:Dg a) (hb:Dg b):∀ n,qls a b n=qhu (vs a n) (vs b n)
 | 0=>by simp[qls,qfi,qhu]
 | n+1=>by
  have ih:=qvt ha hb n
  have h1:=qoC ha n
  have h2:=qoC hb n
  rw[qls,qc3,qc3,ih]
  generalize 4294967296 ^ n=p at *
  generalize a.getD n 0=x
  generalize b.getD n 0=y
  unfold qhu
  by_cases h:x < y
  ·have:p * (x+1)<=p * y:=qa9 _ h
   rw[qa8] at this
   rw[qal h,qal (by omega)]
  ·by_cases h':x > y
   ·have:p * (y+1)<=p * x:=qa9 _ h'
    rw[qa8] at this
    rw[qah h,qal h',qah (by omega),qal (by omega)]
   ·have:x=y:=by omega
    subst this
    rw[qah h,qah h']
    simp only[Nat.add_lt_add_iff_right,gt_iff_lt]
theorem qeL {n k:Nat} (h:k < (qba n).length):4294967296 ^ k<=n:=by
 apply qbJ
 intro hn
 have:=qbp (Nat.lt_of_not_le hn)
 omega
theorem qnL (a b:Nat):qy7 (qba a) (qba b)=qhu a b:=by
 have ha:=qeF (qbC a)
 have hb:=qeF (qbC b)
 rw[qbv] at ha hb
 unfold qy7
 by_cases h:(qba a).length < (qba b).length
 ·have:=qeL h
  rw[qal h,qhu,qal (by omega)]
 ·rw[qah h]
  by_cases h':(qba a).length > (qba b).length
  ·have:=qeL h'
   rw[qal h',qhu,qah (by omega),qal (by omega)]
  ·rw[qah h',qvt (qbC a) (qbC b),qdB (qak _),qdB (by omega),qbv,qbv]
theorem qCY {a b:List Nat} (ha:Dg a) (hb:Dg b):qy7 (tr a) (tr b)=qhu (val a) (val b):=by rw[qf1 ha,qf1 hb,qnL]
def qd2 (a b:List Nat):Nat->List Nat×Nat
 | 0=>([],0)
 | i+1=>((qd2 a b i).1++[((qd2 a b i).2+a.getD i 0+b.getD i 0) % 4294967296],((qd2 a b i).2+a.getD i 0+b.getD i 0) / 4294967296)
theorem qd8 (a b:List Nat):∀ i,(qd2 a b i).1.length=i
 | 0=>rfl
 | i+1=>by simp[qd2,qd8 a b i]
theorem qeX {a b:List Nat} (ha:Dg a) (hb:Dg b):∀ i,(qd2 a b i).2<=1
 | 0=>by simp[qd2]
 | i+1=>by
  have:=qeX ha hb i
  have h1:=ha i
  have h2:=hb i
  simp only[qd2]
  omega
theorem qo5 (a b:List Nat):∀ i,Dg (qd2 a b i).1
 | 0=>qj4
 | i+1=>qj3 (qo5 a b i) (qig (qcO _ (by omega)))
theorem ql0 (a b:List Nat):∀ i,val (qd2 a b i).1+4294967296 ^ i * (qd2 a b i).2=vs a i+vs b i
 | 0=>by simp[qd2,val,qfi]
 | i+1=>by
  have ih:=ql0 a b i
  simp only[qd2,qhr,qd8,val,qc3,qbB]
  have h1:=pmd (4294967296 ^ i) 4294967296 ((qd2 a b i).2+a.getD i 0+b.getD i 0)
  generalize hs:(qd2 a b i).2+a.getD i 0+b.getD i 0=s at *
  rw[<- hs,qa8,qa8,hs] at h1
  rw[qc7,qby]
  omega
def qva (a b:List Nat):List Nat:=tr ((qd2 a b a.length).1++[(qd2 a b a.length).2])
def qD0 (a b:List Nat):List Nat:=if a.length < b.length then qva b a else qva a b
theorem qq0 {a b:List Nat} (ha:Dg a) (hb:Dg b) (h:b.length<=a.length):qva a b=qba (val a+val b):=by
 have hc:=qeX ha hb a.length
 rw[qva,qf1 (qj3 (qo5 _ _ _) (qig (by omega))),qhr,qd8]
 have:=ql0 a b a.length
 rw[qdB (qak _),qdB h] at this
 simp only[val,qc7,qby,this]
theorem qCP {a b:List Nat} (ha:Dg a) (hb:Dg b):qD0 a b=qba (val a+val b):=by
 unfold qD0
 split
 ·rw[qq0 hb ha (by omega),qfI]
 ·rw[qq0 ha hb (by omega)]
theorem qCQ {a b:List Nat} (ha:Dg a) (hb:Dg b):qD0 (tr a) (tr b)=qba (val a+val b):=by
 rw[qCP (qkZ ha) (qkZ hb),qjm ha,qjm hb]
def qgd (b:List Nat) (x i:Nat):Nat->List Nat×Nat->List Nat×Nat
 | 0,s=>s
 | k+1,s=>let t:=qgd b x i k s
  (t.1.set (i+k) ((t.2+(t.1.getD (i+k) 0+x * b.getD k 0)) % 4294967296),(t.2+(t.1.getD (i+k) 0+x * b.getD k 0)) / 4294967296)
theorem qed (b:List Nat) (x i:Nat) (s:List Nat×Nat):∀ k,(qgd b x i k s).1.length=s.1.length
 | 0=>rfl
 | k+1=>by simp[qgd,qed b x i s k]
theorem qfB {b:List Nat} {x i:Nat} {s:List Nat×Nat} (hb:Dg b) (hx:x < 4294967296) (hs:Dg s.1) (hc:s.2 < 4294967296):∀ k,Dg (qgd b x i k s).1/\(qgd b x i k s).2 < 4294967296
 | 0=>⟨hs,hc⟩
 | k+1=>by
  obtain ⟨h1,h2⟩:=qfB hb hx hs hc k
  have h3:=h1 (i+k)
  have h4:=hb k
  have h5:x * b.getD k 0<=4294967295 * 4294967295:=qdU (by omega) (by omega)
  refine ⟨h1.set _ _ (qcO _ (by omega)),?_⟩
  simp only[qgd]
  omega
theorem qrv (b:List Nat) (x i:Nat) (s:List Nat×Nat):∀ k,i+k<=s.1.length->val (qgd b x i k s).1+4294967296 ^ (i+k) * (qgd b x i k s).2=val s.1+4294967296 ^ i * (s.2+x * vs b k)
 | 0,_=>by simp[qgd,qfi]
 | k+1,h=>by
  have ih:=qrv b x i s k (by omega)
  have hl:=qed b x i s k
  simp only[qgd,qc3]
  generalize qgd b x i k s=t at *
  have h1:=qkI t.1 (i+k) ((t.2+(t.1.getD (i+k) 0+x * b.getD k 0)) % 4294967296) (by omega)
  have h2:=pmd (4294967296 ^ (i+k)) 4294967296 (t.2+(t.1.getD (i+k) 0+x * b.getD k 0))
  have h3:4294967296 ^ i * (s.2+x * (vs b k+4294967296 ^ k * b.getD k 0))=4294967296 ^ i * (s.2+x * vs b k)+4294967296 ^ (i+k) * (x * b.getD k 0):=by
   rw[qfY]
   simp only[qa8,qcD]
   congr 2
   simp only[<- qaO]
   congr 1
   rw[Nat.mul_right_comm]
  rw[h3]
  generalize hw:t.2+(t.1.getD (i+k) 0+x * b.getD k 0)=w at *
  rw[<- hw,qa8,qa8,hw] at h2
  rw[<- qcD,qbB]
  omega
def qhy (a b:List Nat):Nat->List Nat
 | 0=>List.replicate (a.length+b.length) 0
 | i+1=>(qgd b (a.getD i 0) i b.length (qhy a b i,0)).1.set (i+b.length) (qgd b (a.getD i 0) i b.length (qhy a b i,0)).2
def qE4 (a b:List Nat):List Nat:=tr (qhy a b a.length)
theorem qec (a b:List Nat):∀ i,(qhy a b i).length=a.length+b.length
 | 0=>by simp[qhy]
 | i+1=>by simp[qhy,qed,qec a b i]
theorem qh3 {a b:List Nat} (ha:Dg a) (hb:Dg b):∀ i,Dg (qhy a b i)
 | 0=>qj5 _
 | i+1=>by
  have ih:=qh3 ha hb i
  obtain ⟨h1,h2⟩:=qfB (i:=i) (s:=(qhy a b i,0)) hb (ha i) ih (by simp) b.length
  exact h1.set _ _ h2
theorem qkq (b:List Nat) (x i:Nat) (s:List Nat×Nat) (j:Nat):∀ k,i+k<=j->(qgd b x i k s).1.getD j 0=s.1.getD j 0
 | 0,_=>rfl
 | k+1,h=>by
  have ih:=qkq b x i s j k (by omega)
  rw[<- ih]
  simp only[qgd,qaa]
  rw[qjn (by omega)]
theorem qn8 (a b:List Nat) (j:Nat):∀ i,i+b.length<=j->(qhy a b i).getD j 0=0
 | 0,h=>by
  simp only[qhy,qaa,qeS]
  split<;>rfl
 | i+1,h=>by
  have ih:=qn8 a b j i (by omega)
  rw[qhy,qdT (by omega),qkq b (a.getD i 0) i (qhy a b i,0) j b.length (by omega)]
  exact ih
theorem qms (a b:List Nat):∀ i,i<=a.length->val (qhy a b i)=vs a i * val b
 | 0,_=>by simp[qhy,qmN,qfi]
 | i+1,h=>by
  have ih:=qms a b i (by omega)
  have hl:=qec a b i
  have h1:=qrv b (a.getD i 0) i (qhy a b i,0) b.length (by simp only[hl];omega)
  have h0:(qgd b (a.getD i 0) i b.length (qhy a b i,0)).1.getD (i+b.length) 0=0:=by
   rw[qkq _ _ _ _ _ _ (qak _)]
   exact qn8 a b _ i (qak _)
  have h2:=qkI (qgd b (a.getD i 0) i b.length (qhy a b i,0)).1 (i+b.length) (qgd b (a.getD i 0) i b.length (qhy a b i,0)).2 (by rw[qed];simp only[hl];omega)
  rw[h0,qc7,qby] at h2
  rw[qhy,h2,h1,ih,qdB (qak _),qc3,qbd,qar,qaO]
theorem qDm {a b:List Nat} (ha:Dg a) (hb:Dg b):qE4 a b=qba (val a * val b):=by
 rw[qE4,qf1 (qh3 ha hb _),qms _ _ _ (qak _),qdB (qak _)]
theorem qDn {a b:List Nat} (ha:Dg a) (hb:Dg b):qE4 (tr a) (tr b)=qba (val a * val b):=by
 rw[qDm (qkZ ha) (qkZ hb),qjm ha,qjm hb]
def qfZ (a b:List Nat):Nat->List Nat×Nat
 | 0=>(List.replicate a.length 0,0)
 | i+1=>if a.getD i 0 < (qfZ a b i).2+b.getD i 0 then ((qfZ a b i).1.set i (a.getD i 0+4294967296 - ((qfZ a b i).2+b.getD i 0)),1)
  else ((qfZ a b i).1.set i (a.getD i 0 - ((qfZ a b i).2+b.getD i 0)),0)
def qFH (a b:List Nat):List Nat:=tr (qfZ a b a.length).1
theorem qe1 (a b:List Nat):∀ i,(qfZ a b i).1.length=a.length
 | 0=>by simp[qfZ]
 | i+1=>by simp only[qfZ];split<;>simp[qe1 a b i]
theorem qgW (a b:List Nat):∀ i,(qfZ a b i).2<=1
 | 0=>by simp[qfZ]
 | i+1=>by simp only[qfZ];split<;>simp
theorem qi2 {a b:List Nat} (ha:Dg a) (hb:Dg b):∀ i,Dg (qfZ a b i).1
 | 0=>qj5 _
 | i+1=>by
  have:=qgW a b i
  have h1:=ha i
  have h2:=hb i
  simp only[qfZ]
  split
  ·exact (qi2 ha hb i).set _ _ (by omega)
  ·exact (qi2 ha hb i).set _ _ (by omega)
theorem qot (a b:List Nat) (j:Nat):∀ i,i<=j->(qfZ a b i).1.getD j 0=0
 | 0,_=>by
  simp only[qfZ,qaa,qeS]
  split<;>rfl
 | i+1,h=>by
  have ih:=qot a b j i (by omega)
  simp only[qfZ]
  split<;>simp only[]<;>rw[qdT (by omega),ih]
theorem qou {p x y b v1:Nat} {va vb r:Nat} (ih:r+vb=va+p * b) :
  (x < b+y->b+y<=x+v1->r+p * (x+v1 - (b+y))+(vb+p * y)=va+p * x+p * v1 * 1)/\(¬ x < b+y->r+p * (x - (b+y))+(vb+p * y)=va+p * x+p * v1 * 0):=by
 constructor
 ·intro h h'
  have e:=qHJ p v1 x (b+y) h'
  rw[qa8 _ b] at e
  rw[qc1]
  omega
 ·intro h
  have e:=qzC p x (b+y) (by omega)
  rw[qa8 _ b] at e
  rw[qc7]
  omega
theorem qzP {a b:List Nat} (ha:Dg a) (hb:Dg b) (i:Nat):i<=a.length->val (qfZ a b i).1+vs b i=vs a i+4294967296 ^ i * (qfZ a b i).2:=by
 induction i with
 | zero=>
  intro _
  rw[qfZ,qmN,qfi,qfi]
  rfl
 | succ i ih=>
  intro h
  have ih:=ih (by omega)
  have hl:=qe1 a b i
  have h0:=qot a b i i (qak _)
  have hc:=qgW a b i
  have h1:=ha i
  have h2:=hb i
  rw[qc3,qc3,qbB,qfZ]
  obtain ⟨s1,s2⟩:=qou (x:=a.getD i 0) (y:=b.getD i 0) (v1:=4294967296) ih
  have hs:∀ v,val ((qfZ a b i).1.set i v)=val (qfZ a b i).1+4294967296 ^ i * v:=by
   intro v
   have:=qkI (qfZ a b i).1 i v (by omega)
   rwa [h0,qc7,qby] at this
  split
  ·rename_i hlt
   rw[hs]
   exact s1 hlt (by omega)
  ·rename_i hlt
   rw[hs]
   exact s2 hlt
theorem qwT (a:List Nat) (i:Nat):∀ k,vs a i<=vs a (i+k)
 | 0=>qak _
 | k+1=>by rw[<- qcD,qc3];exact qa0 (qwT a i k) (Nat.le_add_right _ _)
theorem qFr (a:List Nat) (i:Nat):vs a i<=val a:=by
 have:=qwT a i a.length
 rwa [qdB (by omega:a.length<=i+a.length)] at this
theorem qA7 {a b:List Nat} (ha:Dg a) (h:val b<=val a):vs b a.length=val b:=by
 have h1:=qeF ha
 apply qbJ
 intro hn
 have hlt:vs b a.length < val b:=Nat.lt_of_le_of_ne (qFr _ _) hn
 have:∀ k,vs b a.length < vs b (a.length+k)->4294967296 ^ a.length<=vs b (a.length+k):=by
  intro k
  induction k with
  | zero=>intro h;exact absurd h (qiM _)
  | succ k ih=>
   intro hk
   rw[<- qcD,qc3] at hk ⊢
   by_cases h0:vs b a.length < vs b (a.length+k)
   ·exact qa0 (ih h0) (Nat.le_add_right _ _)
   ·have:b.getD (a.length+k) 0≠0:=by
     intro e
     rw[e] at hk
     omega
    have h3:4294967296 ^ a.length<=4294967296 ^ (a.length+k):=qbA (by omega) (by omega)
    have h4:4294967296 ^ (a.length+k) * 1<=4294967296 ^ (a.length+k) * b.getD (a.length+k) 0:=qa9 _ (by omega)
    omega
 have:=this b.length (by rwa [qdB (by omega:b.length<=a.length+b.length)])
 rw[qdB (by omega:b.length<=a.length+b.length)] at this
 omega
theorem qDK {a b:List Nat} (ha:Dg a) (hb:Dg b) (h:val b<=val a):qFH a b=qba (val a - val b):=by
 rw[qFH,qf1 (qi2 ha hb _)]
 have h1:=qzP ha hb a.length (qak _)
 rw[qdB (qak _),qA7 ha h] at h1
 have h2:=qeF (qi2 ha hb a.length)
 rw[qe1] at h2
 have h3:=qeF ha
 have hc:=qgW a b a.length
 congr 1
 have:(qfZ a b a.length).2=0:=by
  apply qbJ
  intro hn
  have e:(qfZ a b a.length).2=1:=by omega
  rw[e,qc1] at h1
  omega
 rw[this,qc7,qby] at h1
 omega
theorem qDL {a b:List Nat} (ha:Dg a) (hb:Dg b) (h:val b<=val a):qFH (tr a) (tr b)=qba (val a - val b):=by
 rw[qDK (qkZ ha) (qkZ hb) (by rwa [qjm ha,qjm hb]),qjm ha,qjm hb]
end Go.Ab

/- What the operations do on numbers of Nat; rows anywhere in memory. -/
namespace Go.Ab
section
variable {tk:TK} {k k':IntKind} {a b:Nat}
theorem qsG:qaz tk .gtr (.int k a) (.int k b)=some (.bool (decide (a > b))):=by rw[qcB];congr 2;exact qbP.2 (by omega)
theorem qdc:qaz tk .lss (.int k a) (.int k b)=some (.bool (decide (a < b))):=by rw[qaU];congr 2;exact qbP.2 (by omega)
theorem qzw:qaz tk .geq (.int k a) (.int k b)=some (.bool (decide (a≥b))):=by rw[qdD];congr 2;exact qbP.2 (by omega)
theorem qv5:qaz tk .eql (.int k a) (.int k b)=some (.bool (decide (a=b))):=by rw[qcK];congr 2;exact qbP.2 (by omega)
theorem qDo:qaz tk .neq (.int k a) (.int k b)=some (.bool (decide (a≠b))):=by rw[qcW];congr 2;exact qbP.2 (by omega)
theorem qio:qaz tk .gtr (.int k a) (.int k 0)=some (.bool (decide (a > 0))):=qsG (b:=0)
theorem qoa:qaz tk .geq (.int k a) (.int k 0)=some (.bool true):=by rw[qdD];congr 2
theorem qrw:qaz tk .lss (.int k a) (.int k 0)=some (.bool false):=by rw[qaU];congr 2
theorem qfb:qaz tk .eql (.int k a) (.int k 0)=some (.bool (decide (a=0))):=qv5 (b:=0)
theorem qE7:qaz tk .neq (.int k a) (.int k 0)=some (.bool (decide (a≠0))):=qDo (b:=0)
theorem qji:qaz tk .eql (.int k a) (.int k 1)=some (.bool (decide (a=1))):=qv5 (b:=1)
theorem qAG:qaz tk .eql (.int k a) (.int k 2)=some (.bool (decide (a=2))):=qv5 (b:=2)
theorem qE5:qaz tk .geq (.int k a) (.int k 4294967296)=some (.bool (decide (a≥4294967296))):=qzw (b:=4294967296)
theorem qrx:qaz tk .lss (.int k a) (.int k 4294967296)=some (.bool (decide (a < 4294967296))):=qdc (b:=4294967296)
theorem qg8 (h:a+b < 18446744073709551616):qaz tk .add (.int .u64 a) (.int .u64 b)=some (.int .u64 (a+b:Nat)):=by
 rw[qc4,qcL (by omega) (by omega)];rfl
theorem qwP (h:a * b < 18446744073709551616):qaz tk .mul (.int .u64 a) (.int .u64 b)=some (.int .u64 (a * b:Nat)):=by
 rw[qf3,<- qer,qcL (by omega) (by omega)]
theorem qpW (h:b<=a) (h':a < 18446744073709551616):qaz tk .sub (.int .u64 a) (.int .u64 b)=some (.int .u64 (a - b:Nat)):=by
 rw[qel,qcL (by omega) (by omega)]
 congr 2
 omega
theorem qrX (h:1<=a) (h':a < 18446744073709551616):qaz tk .sub (.int .u64 a) (.int .u64 1)=some (.int .u64 (a - 1:Nat)):=qpW (b:=1) h h'
theorem qpV (h:b≠0) (h':a < 18446744073709551616):qaz tk .quo (.int .u64 a) (.int .u64 b)=some (.int .u64 (a / b:Nat)):=by
 have e:qaz tk .quo (.int .u64 a) (.int .u64 b)=if (b:Int)=0 then none else some (.int .u64 (IntKind.wrap .u64 ((a:Int).tdiv b))):=by cases tk<;>rfl
 rw[e,qah (by omega)]
 have e2:(a:Int).tdiv b=((a / b:Nat):Int):=rfl
 have:=qib a b
 rw[e2]
 generalize a / b=q at *
 rw[qcL (by omega) (by omega)]
theorem qsU (h:b≠0) (h':a < 18446744073709551616):qaz tk .rem (.int .u64 a) (.int .u64 b)=some (.int .u64 (a % b:Nat)):=by
 have e:qaz tk .rem (.int .u64 a) (.int .u64 b)=if (b:Int)=0 then none else some (.int .u64 ((a:Int).tmod b)):=by cases tk<;>rfl
 rw[e,qah (by omega)]
 rfl
theorem qHd (h':a < 18446744073709551616):qaz tk .and (.int .u64 a) (.int .u64 4294967295)=some (.int .u64 (a % 4294967296:Nat)):=by
 have e:qaz tk .and (.int .u64 a) (.int .u64 4294967295)=some (.int .u64 (IntKind.wrap .u64 ((BitVec.ofInt 64 a &&& BitVec.ofInt 64 4294967295).toNat:Nat))):=by cases tk<;>rfl
 have e2:(BitVec.ofInt 64 (a:Int) &&& BitVec.ofInt 64 4294967295).toNat=a % 4294967296:=by
  rw[BitVec.toNat_and,qmR,qmR]
  have h1:(((a:Nat):Int) % ((2 ^ 64:Nat):Int)).toNat=a:=by omega
  have h2:((4294967295:Int) % ((2 ^ 64:Nat):Int)).toNat=2 ^ 32 - 1:=by omega
  rw[h1,h2,Nat.and_two_pow_sub_one_eq_mod]
 rw[e,e2,qcL (by omega) (by omega)]
theorem qkH (h:a < 4294967296):qaz tk .shl (.int .u64 a) (.int k' 32)=some (.int .u64 (a * 4294967296:Nat)):=qsv tk k' a h
theorem qmM:qaz tk .shr (.int .u64 a) (.int k' 32)=some (.int .u64 (a / 4294967296:Nat)):=by
 rw[qgh tk k' a (by omega)];rfl
theorem qoA (h:a < 4294967296) (h':b < 4294967296):qaz tk .or (.int .u64 (a * 4294967296:Nat)) (.int .u64 b)=some (.int .u64 (a * 4294967296+b:Nat)):=by
 have e:qaz tk .or (.int .u64 (a * 4294967296:Nat)) (.int .u64 b)=some (.int .u64 (IntKind.wrap .u64 ((BitVec.ofInt 64 (a * 4294967296:Nat) ||| BitVec.ofInt 64 b).toNat:Nat))):=by cases tk<;>rfl
 have e2:(BitVec.ofInt 64 ((a * 4294967296:Nat):Int) ||| BitVec.ofInt 64 (b:Int)).toNat=a * 4294967296+b:=by
  rw[BitVec.toNat_or,qmR,qmR]
  have h1:(((b:Nat):Int) % ((2 ^ 64:Nat):Int)).toNat=b:=by omega
  have h2:(((a * 4294967296:Nat):Int) % ((2 ^ 64:Nat):Int)).toNat=a * 4294967296:=by omega
  rw[h1,h2]
  have:=Nat.two_pow_add_eq_or_of_lt (i:=32) (b:=b) (by omega) a
  rw[show a * 4294967296=2 ^ 32 * a by omega,<- this]
 rw[e,e2,qcL (by omega) (by omega)]
theorem qfu (h:a+b < 9223372036854775808):qaz tk .add (.int .i64 a) (.int .i64 b)=some (.int .i64 (a+b:Nat)):=by
 rw[qc4,qbQ (by omega) (by omega)];rfl
theorem qbM (h:a+1 < 9223372036854775808):qaz tk .add (.int .i64 a) (.int .i64 1)=some (.int .i64 (a+1:Nat)):=qfu (b:=1) h
theorem qgM (h:b<=a) (h':a < 9223372036854775808):qaz tk .sub (.int .i64 a) (.int .i64 b)=some (.int .i64 (a - b:Nat)):=by
 rw[qel,qbQ (by omega) (by omega)]
 congr 2
 omega
theorem qfN (h:1<=a) (h':a < 9223372036854775808):qaz tk .sub (.int .i64 a) (.int .i64 1)=some (.int .i64 (a - 1:Nat)):=qgM (b:=1) h h'
theorem qAz (h:2<=a) (h':a < 9223372036854775808):qaz tk .sub (.int .i64 a) (.int .i64 2)=some (.int .i64 (a - 2:Nat)):=qgM (b:=2) h h'
theorem qfh (h':a < 9223372036854775808):qaz tk .sub (.int .i64 a) (.int .i64 1)=some (.int .i64 ((a:Int) - 1)):=by
 rw[qel,qbQ (by omega) (by omega)]
theorem qD1 (h:a < 18446744073709551616):qbl .u64 (.int k a)=some (.int .u64 a):=by rw[qcX,qcL (by omega) (by omega)]
theorem qlo:qbl .u32 (.int k a)=some (.int .u32 (a % 4294967296:Nat)):=by rw[qcX,qei];rfl
theorem qln (d:Nat) (h:d < 4294967296):qbl .u64 (dg d)=some (.int .u64 d):=qD1 (by omega)
theorem qwN {s:Nat} (hs:s < 32) (h:a < 4294967296):qaz tk .shl (.int .u32 a) (.int .u64 s)=some (.int .u32 (a * 2 ^ s % 4294967296:Nat)):=by
 have e:qaz tk .shl (.int .u32 a) (.int .u64 s)=qhp true .u32 a s:=by cases tk<;>rfl
 have e3:IntKind.bits .u32=32:=rfl
 rw[e,qhp,qah (by omega),qal rfl,e3,qaQ,Nat.min_eq_left (by omega),qei]
 congr 2
theorem qpU {s:Nat} (hs:s < 32):qaz tk .shr (.int .u32 a) (.int .u64 s)=some (.int .u32 (a / 2 ^ s:Nat)):=by
 have e:qaz tk .shr (.int .u32 a) (.int .u64 s)=qhp false .u32 a s:=by cases tk<;>rfl
 have e3:IntKind.bits .u32=32:=rfl
 rw[e,qhp,qah (by omega),qah (by decide),e3,qaQ,Nat.min_eq_left (by omega),Int.fdiv_eq_ediv_of_nonneg _ (by exact Int.le_of_lt (Int.pow_pos (by omega)))]
 congr 2
theorem qDV {s:Nat} (hs:s < 32) (h:a < 4294967296):qaz tk .shl (.int .u64 a) (.int .u64 s)=some (.int .u64 (a * 2 ^ s:Nat)):=by
 have e:qaz tk .shl (.int .u64 a) (.int .u64 s)=qhp true .u64 a s:=by cases tk<;>rfl
 have e3:IntKind.bits .u64=64:=rfl
 have h1:2 ^ s<=2 ^ 31:=qbA (by omega) (by omega)
 have h2:a * 2 ^ s<=a * 2 ^ 31:=qa9 _ h1
 have h3:(a:Int) * 2 ^ s=((a * 2 ^ s:Nat):Int):=by rw[qer,Int.natCast_pow];rfl
 rw[e,qhp,qah (by omega),qal rfl,e3,qaQ,Nat.min_eq_left (by omega),h3,qcL (by omega) (by omega)]
theorem qDw {x y s:Nat} (h:x < 2 ^ s) (hy:y % 2 ^ s=0):x ||| y=x+y:=by
 have e:y=2 ^ s * (y / 2 ^ s):=by have:=qe6 y (2 ^ s);omega
 rw[e,Nat.or_comm,<- Nat.two_pow_add_eq_or_of_lt h,qfI]
theorem qA4 {s:Nat} (h:a < 2 ^ s) (hb:b % 2 ^ s=0) (hs:a+b < 4294967296):qaz tk .or (.int .u32 a) (.int .u32 b)=some (.int .u32 (a+b:Nat)):=by
 have e:qaz tk .or (.int .u32 a) (.int .u32 b)=some (.int .u32 (IntKind.wrap .u32 ((BitVec.ofInt 32 a ||| BitVec.ofInt 32 b).toNat:Nat))):=by cases tk<;>rfl
 have e2:(BitVec.ofInt 32 (a:Int) ||| BitVec.ofInt 32 (b:Int)).toNat=a+b:=by
  rw[BitVec.toNat_or,qmR,qmR]
  have h1:(((a:Nat):Int) % ((2 ^ 32:Nat):Int)).toNat=a:=by omega
  have h2:(((b:Nat):Int) % ((2 ^ 32:Nat):Int)).toNat=b:=by omega
  rw[h1,h2,qDw h hb]
 rw[e,e2,qgZ (by omega) (by omega)]
theorem qDU:qaz tk .add (.int .u32 a) (.int .u32 b)=some (.int .u32 ((a+b) % 4294967296:Nat)):=by
 rw[qc4,qei];rfl
end
theorem qdi {x:NV} {k:IntKind} {i:Nat} (h:i < x.ds.length):qag none x.av (.int k i)=some (.vptr [dg (x.ds.getD i 0)]):=by
 rw[NV.av,qeO (by omega) (by omega)];simp
theorem qil {x:NV} {k:IntKind} (h:0 < x.ds.length):qag none x.av (.int k 0)=some (.vptr [dg (x.ds.getD 0 0)]):=qdi (i:=0) h
theorem qdj (x:NV):qbY false x.av=some (.int .i64 x.ds.length):=by simp[NV.av,qbY]
theorem qd4 {m:Mem} {x:AV}:qat none m (.vptr [x])=some x:=rfl
def oc (ds:List Nat):Option Ent:=some (.obj false (ds.map dg))
theorem qwa {m:Mem} {n:Nat} {ds:List Nat} (h:m[n]?=some (oc ds)):m.obj? n=some (false,ds.map dg):=by
 simp[Mem.obj?,Mem.get,h,oc]
theorem qfP {m:Mem} {n:Nat} {ds:List Nat} {i:Nat} (h:m[n]?=some (oc ds)) (hi:i < ds.length):qat none m (.ptr n i)=some (dg (ds.getD i 0)):=by
 simp[qat,qwa h,qjp,qaa,hi]
theorem qdN {m:Mem} {n:Nat} {ds:List Nat} {i v:Nat} (h:m[n]?=some (oc ds)) (hi:i < ds.length):qaR none m (.ptr n i) (.int .u32 v)=some (m.set n (oc (ds.set i v))):=by
 have h1:i+1<=ds.length:=hi
 simp only[qaR,qwa h,oBs,Sh.size,qaE,h1,qa5,qeJ,qcE,AV.cells,oc]
 congr 4
 simp only[qbK,qad,qae]
 rw[List.map_set,qfH]
 simp[hi,dg,qCe,List.map_drop]
theorem qhn {e b:Nat} {m:Mem} {n:Nat} (h':n * b<=281474976710656) (h2:n<=9223372036854775807):qeU none e none (.int .u32 0) b m (.int .i64 n) (.int .i64 n)=some (.arr m.length 0 n none,m++[oc (List.replicate n 0)]):=qrp h' h2
theorem qDh (nm n:Nat):qbY false (.arr nm 0 n none)=some (.int .i64 n):=rfl
theorem qEG {m:Mem} {nm:Nat} {ds:List Nat} (h:m[nm]?=some (oc ds)):frz m qga (.arr nm 0 ds.length none)=some (.lst none false .no (ds.map dg),[nm]):=by
 have h1:((ds.map dg).all qcE)=true:=by simp[List.all_map,dg,qcE]
 show (m.obj? nm).bind _=_
 rw[qwa h]
 simp only[oBs,Sh.size,qaE,qar,qc1,qak,decide_true,qcS,qeo,qa5,qbk,qbg (by simp:(ds.map dg).length<=ds.length)]
 rw[qpv]
 simp only[oBs,h1,qwj,qeo,qa5,grp]
 rw[qbg (by simp)]
theorem qf6 {cp:Nat->List AV->Option AV} {m:Mem} {g nm:Nat} {ds:List Nat} (h:m[nm]?=some (oc ds)):qaN cp none m g [.arr nm 0 ds.length none]=(cp g [(NV.mk false .no ds).av]).map fun v=>(v,m.set nm none):=by
 simp only[qaN,qgc,qEG h,oBs,qkk,Option.isSome_none,Bool.false_and,qav,qe5,List.foldl_nil]
 rfl
end Go.Ab

/- Memory, place by place: what the operations do. -/
namespace Go.Ab
open Go.Proofs
theorem qey {m:Mem} {e:Option Ent} {nm:Nat} (h:nm < m.length):Mem.get (m++[e]) nm=m.get nm:=by
 rw[qiV,qal h]
theorem qev {m:Mem} {e:Option Ent} {nm:Nat} (h:nm=m.length):Mem.get (m++[e]) nm=e:=by
 subst h;simp[Mem.get]
theorem qdb {m:Mem} {k nm:Nat} {e:Option Ent} (h:nm≠k):Mem.get (m.set k e) nm=m.get nm:=by rw[qbE,qah h]
theorem qdF {m:Mem} {k nm:Nat} {e:Option Ent} (h:nm=k) (hk:k < m.length):Mem.get (m.set k e) nm=e:=by
 subst h
 rw[qbE,qal rfl,qal hk]
def qD4:Option Ent->Option (Bool×List AV)
 | some (.obj b cs)=>some (b,cs)
 | _=>none
theorem qd5 (b:Bool) (cs:List AV):qD4 (some (.obj b cs))=some (b,cs):=rfl
theorem qeA (m:Mem) (nm:Nat):m.obj? nm=qD4 (m.get nm):=by
 unfold Mem.obj? qD4
 cases h:m.get nm with
 | none=>rfl
 | some e=>cases e<;>rfl
theorem qea (sh:Sh) (m:Mem) (nm off:Nat):qat sh m (.ptr nm off)=(qD4 (m.get nm)).bind fun o=>qjp sh o.2 off:=by
 rw[<- qeA];rfl
def qcN (sh:Sh) (m:Mem) (nm off:Nat) (v:AV) (o:Bool×List AV):Option Mem:=
 if off+sh.size<=o.2.length then if qeJ sh v then some (m.set nm (some (.obj o.1 (qbK o.2 off v.cells)))) else none else none
theorem qlJ (sh:Sh) (m:Mem) (nm off:Nat) (v:AV):qaR sh m (.ptr nm off) v=(qD4 (m.get nm)).bind (qcN sh m nm off v):=by
 rw[<- qeA];rfl
theorem qC0 (cs:List AV) (off:Nat):qjp none cs off=cs[off]?:=rfl
theorem qHD (a b c:AV):qjp (some 3) [a,b,c] 0=some (.agg [a,b,c]):=rfl
theorem qHE (a b c d:AV):qjp (some 4) [a,b,c,d] 0=some (.agg [a,b,c,d]):=rfl
theorem qh4 (nm off:Nat):qjD (.ptr nm off)=some (.ptr nm off):=rfl
theorem qgk (o nm off:Nat):qaB o (.ptr nm off)=some (.ptr nm (off+o)):=rfl
theorem bs {α β:Type} {x:Option α} {v:α} {f:α->Option β} {r:Option β} (h:x=some v) (k:f v=r):x.bind f=r:=by rw[h];exact k
theorem bsy {α:Type} {x:Option α} {v:α} {f:α->OM} (h:x=some v) (k:∃ m',f v=some (.bool true,m')):∃ m',x.bind f=some (.bool true,m'):=by rw[h];exact k
theorem ex0 (v w:AV):qaF (.tup [v,w]) 0=some v:=rfl
theorem ex1 (v w:AV):qaF (.tup [v,w]) 1=some w:=rfl
structure Fr (m m':Mem) (F:List Nat):Prop where
 len:m.length<=m'.length
 get:∀ x,x < m.length->x∉F->m'.get x=m.get x
theorem Fr.refl (m:Mem) (F:List Nat):Fr m m F:=⟨qak _,fun _ _ _=>rfl⟩
theorem Fr.trans {m m1 m2:Mem} {F F1:List Nat} (h:Fr m m1 F) (k:Fr m1 m2 F1) (hF:∀ x∈F1,x∈F\/m.length<=x):Fr m m2 F:=
 ⟨qa0 h.len k.len,fun x hx hn=>(k.get x (qcU hx h.len) fun h1=>by rcases hF x h1 with h2 | h2<;>first | exact hn h2 | omega).trans (h.get x hx hn)⟩
theorem Fr.mono {m m':Mem} {F F':List Nat} (h:Fr m m' F) (hs:∀ x∈F,x∈F'):Fr m m' F':=⟨h.len,fun x hx hn=>h.get x hx fun h'=>hn (hs x h')⟩
theorem Fr.app (m:Mem) (e:Option Ent) (F:List Nat):Fr m (m++[e]) F:=⟨by simp,fun x hx _=>qey hx⟩
theorem Fr.snoc {m m':Mem} {F:List Nat} (h:Fr m m' F) (e:Option Ent):Fr m (m'++[e]) F:=h.trans (Fr.app m' e []) (fun _ h=>by cases h)
theorem Fr.set {m m':Mem} {F:List Nat} (h:Fr m m' F) {k:Nat} (e:Option Ent) (hk:k∈F\/m.length<=k):Fr m (m'.set k e) F:=
 ⟨by rw[qai];exact h.len,fun x hx hn=>by
  rw[qdb (by rintro rfl;rcases hk with hk | hk;exact hn hk;omega)];exact h.get x hx hn⟩
def qdE (n:ND):AV:=if n.var < 0 then .lst none true .full [] else .lst none false .no (n.kids.map (AV.int .i64))
def ND.av (n:ND):AV:=.agg [.int .i64 n.var,qdE n,.int .i64 n.leaf]
def qkQ:Nat->List ND->List (AV×AV)
 | _,[]=>[]
 | k,n::l=>(.str ⟨n.key.toArray⟩,.int .i64 k)::qkQ (k+1) l
theorem qET {a b:ND} (ha:a.ok) (hb:b.ok):qiX (.str ⟨a.key.toArray⟩) (.str ⟨b.key.toArray⟩)=decide (a=b):=by
 simp only[qiX,qnE]
 refine qbP.2 ⟨fun h=>qDe ha hb ?_,fun h=>by rw[h]⟩
 have:=qbi (fun s:ByteArray=>s.data.toList) h
 simpa using this
theorem qj9 {n:ND} (hn:n.ok):∀ (l:List ND) (k:Nat),(∀ x∈l,x.ok)->(qkQ k l).find? (fun p=>qiX p.1 (.str ⟨n.key.toArray⟩))=if n∈l then some (.str ⟨n.key.toArray⟩,.int .i64 (k+l.idxOf n:Nat)) else none
 | [],k,_=>rfl
 | x::l,k,h=>by
  rw[qkQ,List.find?_cons,qET (h x qaC) hn]
  by_cases he:x=n
  ·subst he
   simp
  ·rw[qa7 he]
   simp only[]
   rw[qj9 hn l (k+1) fun y hy=>h y (qax _ hy)]
   have:n∈x::l↔n∈l:=⟨fun h=>(qa1.1 h).resolve_left (fun e=>he e.symm),qax _⟩
   by_cases hm:n∈l
   ·rw[qal hm,qal (this.2 hm),List.idxOf_cons,cond_eq_ite,qah (by simpa using he)]
    congr 3
    omega
   ·rw[qah hm,qah (fun h=>hm (this.1 h))]
theorem qq8 (n:ND):∀ (l:List ND) (k:Nat),qkQ k (l++[n])=qkQ k l++[(.str ⟨n.key.toArray⟩,.int .i64 (k+l.length:Nat))]
 | [],k=>rfl
 | x::l,k=>by
  rw[qas,qkQ,qkQ,qq8 n l (k+1)]
  simp only[qas,qad]
  congr 5
  omega
theorem qq9:∀ (l:List ND) (k:Nat),(qkQ k l).length=l.length
 | [],_=>rfl
 | _::l,k=>by rw[qkQ,qad,qq9 l,qad]
theorem qDf {n:ND} (h:n.ok):n.key.length<=10000:=by
 rcases h with ⟨h1,h2,h3,h4⟩ | ⟨h1,h2,h3,h4,h5⟩
 ·unfold ND.key Yd.nameB
  rw[h1,qal (by decide)]
  have:=Yd.itoa_len (n:=n.leaf) ⟨by omega,by omega⟩
  simp;omega
 ·have:=Yd.part_len (var:=n.var) (ks:=n.kids) ⟨by omega,by omega⟩ (fun k hk=>by have:=h4 k hk;constructor<;>omega) n.kids.length (qak _)
  unfold Yd.part at this
  rw[List.take_length] at this
  unfold ND.key Yd.nameB
  rw[qah (by omega)]
  omega
theorem qri {n:ND} (h:n.ok):(⟨n.key.toArray⟩:ByteArray).size<=maxLen:=by
 have:=qDf h
 simp only[ByteArray.size,List.size_toArray,maxLen]
 omega
theorem qn3 {m:Mem} {p:Nat} {l:List ND} {n:ND} (hp:m.get p=some (.mp .str (qkQ 0 l))) (hl:∀ x∈l,x.ok) (hn:n.ok) (z:AV) :
  qiY .str z m (.mref p) (.str ⟨n.key.toArray⟩)=some (if n∈l then (.int .i64 (l.idxOf n:Nat),true) else (z,false)):=by
 have h1:mpA m .str (.mref p)=some (p,qkQ 0 l):=by simp[mpA,hp]
 have h2:qdX .str (.str ⟨n.key.toArray⟩)=true:=qa6 (qri hn)
 unfold qiY
 rw[h1]
 simp only[oBs,h2,qa5,qvZ,qj9 hn l 0 hl]
 by_cases hm:n∈l
 ·rw[qal hm,qal hm];simp
 ·rw[qah hm,qah hm]
theorem qzZ {m:Mem} {p:Nat} {l:List ND} {n:ND} (hp:m.get p=some (.mp .str (qkQ 0 l))) (hl:∀ x∈l,x.ok) (hn:n.ok) (hne:n∉l) (hlen:l.length < 100000) :
  qk0 .str m (.mref p) (.str ⟨n.key.toArray⟩) (.int .i64 l.length)=some (m.set p (some (.mp .str (qkQ 0 (l++[n]))))):=by
 have h1:mpA m .str (.mref p)=some (p,qkQ 0 l):=by simp[mpA,hp]
 have h2:qdX .str (.str ⟨n.key.toArray⟩)=true:=qa6 (qri hn)
 have h3:(qkQ 0 l).any (fun p=>qiX p.1 (.str ⟨n.key.toArray⟩))=false:=by
  have:=qj9 hn l 0 hl
  rw[qah hne,List.find?_eq_none] at this
  rw[List.any_eq_false]
  exact this
 unfold qk0
 rw[h1,oBs,qal ⟨h2,rfl,by rw[qq9];unfold maxLen;omega⟩,qq8]
 simp only[qoh,h3,qar]
inductive NA (m:Mem):AV->List ND->List Nat->Prop
 | none:NA m (.lst none true .full []) [] []
 | some (t:Nat) (l:List ND) (ht:m.get t=some (.tok l.length 3)):NA m (.lst (some 3) false (.tok t 74) (l.map ND.av)) l [t]
structure SAt (m:Mem) (s p:Nat) (arms na:AV) (most:Int) (l:List ND) (T:List Nat):Prop where
 hs:m.get s=some (.obj true [arms,na,.mref p,.int .i64 most])
 hp:m.get p=some (.mp .str (qkQ 0 l))
 hn:NA m na l T
 ok:∀ x∈l,x.ok
 ne:s≠p
 hT:∀ t∈T,t≠s/\t≠p
end Go.Ab

/- The store's inner functions: put, leaf, node, has, above. -/
set_option maxRecDepth 100000
namespace Go.Ab
open Go.Proofs Go.Proofs.Tryz
theorem qDr (m:Mem) (e:Ent):qaH none m e=(m.length,m++[some e]):=rfl
theorem qEy {sh:Sh} {m:Mem} {v:AV} (h:qeJ sh v=true):qf8 none sh m v=some (.ptr m.length 0,m++[some (Ent.obj true v.cells)]):=by
 unfold qf8;rw[qal h];rfl
theorem ql6 (k:IntKind) (n:Int) (m:Mem):qf8 none none m (.int k n)=some (.ptr m.length 0,m++[some (Ent.obj true [.int k n])]):=rfl
theorem qiQ (nm o:Nat) (m:Mem):qf8 none none m (.ptr nm o)=some (.ptr m.length 0,m++[some (Ent.obj true [.ptr nm o])]):=rfl
theorem qvp (a b:Int) (z:Bool) (o:Own) (ks:List AV) (m:Mem):qf8 none (some 3) m (.agg [.int .i64 a,.lst none z o ks,.int .i64 b])=some (.ptr m.length 0,m++[some (Ent.obj true [.int .i64 a,.lst none z o ks,.int .i64 b])]):=rfl
theorem qeI (m:Mem):qbm m 1=m++[some Ent.resv]:=rfl
theorem qfU (b:Bool):unA .not (.bool b)=some (.bool (!b)):=rfl
theorem qEY (m:Mem) (a b c:AV):qat (some 3) m (.vptr [a,b,c])=some (.agg [a,b,c]):=rfl
theorem qEX (m:Mem) (a b c:AV):qat none m (.vptr [a,b,c])=some a:=rfl
theorem qnH (k:IntKind) (n:Int):AV.cells (.int k n)=[.int k n]:=rfl
theorem qve (k:IntKind) (n:Int):qcE (.int k n)=true:=rfl
theorem qlp (b:Bool):AV.cells (.bool b)=[.bool b]:=rfl
theorem qq1 (b:Bool):qcE (.bool b)=true:=rfl
theorem qnK (s:ByteArray):AV.cells (.str s)=[.str s]:=rfl
theorem qvh (s:ByteArray):qcE (.str s)=true:=rfl
theorem qnI (sh:Sh) (z:Bool) (o:Own) (es:List AV):AV.cells (.lst sh z o es)=[.lst sh z o es]:=rfl
theorem qvf (sh:Sh) (z:Bool) (o:Own) (es:List AV):qcE (.lst sh z o es)=true:=rfl
theorem qnJ (nm off:Nat):AV.cells (.ptr nm off)=[.ptr nm off]:=rfl
theorem qvg (nm off:Nat):qcE (.ptr nm off)=true:=rfl
theorem qnG (nm off n:Nat) (sh:Sh):AV.cells (.arr nm off n sh)=[.arr nm off n sh]:=rfl
theorem qvd (nm off n:Nat) (sh:Sh):qcE (.arr nm off n sh)=true:=rfl
theorem qq6 (f:Nat) (cs:List AV):AV.cells (.fn f cs)=[.fn f cs]:=rfl
theorem qAm (f:Nat) (cs:List AV):qcE (.fn f cs)=true:=rfl
theorem qlq (nm:Nat):AV.cells (.mref nm)=[.mref nm]:=rfl
theorem qq2 (nm:Nat):qcE (.mref nm)=true:=rfl
theorem qlr:AV.cells .nilp=[.nilp]:=rfl
theorem qq3:qcE .nilp=true:=rfl
theorem qnF (cs:List AV):AV.cells (.agg cs)=cs:=rfl
theorem qAY (v:AV):qeJ none v=qcE v:=rfl
theorem qAZ (n:Nat) (cs:List AV):qeJ (some n) (.agg cs)=(cs.length == n && cs.all qcE):=rfl
theorem LLb:type_of% @qeR/\type_of% @List.all_nil.{0}/\type_of% @Bool.and_true/\type_of% @qeo/\type_of% @qeI/\type_of% @qaE/\type_of% @qEY/\type_of% @qEX/\type_of% @qcK/\type_of% @qcW/\type_of% @qaU/\type_of% @qf2/\type_of% @qcB/\type_of% @qdD/\type_of% @qbs/\type_of% @qfU/\type_of% @qea/\type_of% @qlJ/\type_of% @qd5/\type_of% @qC0/\type_of% @qHD/\type_of% @qHE/\type_of% @qh4/\type_of% @qgk/\type_of% @qey/\type_of% @qev/\type_of% @qdb/\type_of% @qdF/\type_of% @qDr/\type_of% @qEy/\type_of% @List.getElem?_cons_zero.{0}/\type_of% @List.getElem?_cons_succ.{0}/\type_of% @ex0/\type_of% @ex1/\type_of% @qnH/\type_of% @qve/\type_of% @qlp/\type_of% @qq1/\type_of% @qnK/\type_of% @qvh/\type_of% @qnI/\type_of% @qvf/\type_of% @qnJ/\type_of% @qvg/\type_of% @qnG/\type_of% @qvd/\type_of% @qq6/\type_of% @qAm/\type_of% @qlq/\type_of% @qq2/\type_of% @qlr/\type_of% @qq3/\type_of% @qnF/\type_of% @qAY/\type_of% @qAZ/\type_of% @qez/\type_of% @qad/\type_of% @qae/\type_of% @List.take_succ_cons.{0}/\type_of% @List.take_zero.{0}/\type_of% @List.drop_succ_cons.{0}/\type_of% @qbk/\type_of% @qas/\type_of% @qaw/\type_of% @qav/\type_of% @qar/\type_of% @List.drop_nil.{0}/\type_of% @List.take_nil.{0}/\type_of% @qab/\type_of% @qai:=⟨@qeR,@List.all_nil.{0},@Bool.and_true,@qeo,@qeI,@qaE,@qEY,@qEX,@qcK,@qcW,@qaU,@qf2,@qcB,@qdD,@qbs,@qfU,@qea,@qlJ,@qd5,@qC0,@qHD,@qHE,@qh4,@qgk,@qey,@qev,@qdb,@qdF,@qDr,@qEy,@List.getElem?_cons_zero.{0},@List.getElem?_cons_succ.{0},@ex0,@ex1,@qnH,@qve,@qlp,@qq1,@qnK,@qvh,@qnI,@qvf,@qnJ,@qvg,@qnG,@qvd,@qq6,@qAm,@qlq,@qq2,@qlr,@qq3,@qnF,@qAY,@qAZ,@qez,@qad,@qae,@List.take_succ_cons.{0},@List.take_zero.{0},@List.drop_succ_cons.{0},@qbk,@qas,@qaw,@qav,@qar,@List.drop_nil.{0},@List.take_nil.{0},@qab,@qai⟩
theorem qdW {R:Type} (x y:Option R):ifA (.bool false) x y=y:=rfl
theorem qfw {R:Type} (x y:Option R):ifA (.bool true) x y=x:=rfl
theorem qDz {m:Mem} {s p:Nat} {arms na:AV} {most:Int} {l:List ND} {T:List Nat} (h:SAt m s p arms na most l T) {n:ND} (hn:n.ok) (hm:n∈l) (z:Bool) (o:Own) :
  AC cfg 139 [.ptr s 0,.agg [.int .i64 n.var,.lst none z o (n.kids.map (AV.int .i64)),.int .i64 n.leaf]] m=some (.int .i64 (l.idxOf n:Nat),m++[some (Ent.obj true [.int .i64 n.var,.lst none z o (n.kids.map (AV.int .i64)),.int .i64 n.leaf])]):=by
 have hs:=h.hs;have hp:=h.hp
 have hsl:=qbz hs;have hpl:=qbz hp
 have hp':Mem.get (m++[some (Ent.obj true [.int .i64 n.var,.lst none z o (n.kids.map (AV.int .i64)),.int .i64 n.leaf])]) p=some (Ent.mp .str (qkQ 0 l)):=by rw[qey hpl];exact hp
 have nm:=qv6 hn z o
 have lk:=qn3 hp' h.ok hn (.int .i64 0)
 rw[qal hm] at lk
 rw[qFS]
 repeat ((with_reducible (first | apply bs | apply bsy));(focus (first | (simp (disch:=(first | assumption | omega | (simp only[qab,qai,qad,qae];first | done | omega))) only[LLb,beq_self_eq_true,qcN,oBs,Sh.size,qa5,qbK,Nat.reduceAdd,Nat.reduceLeDiff,qak,hs,qvp,nm,lk];first | done | rfl) | rfl));try dsimp only)
 rw[qfw]
theorem qAq (a b:Int) (z:Bool) (o:Own) (ks:List AV):qaY (some 3) [.agg [.int .i64 a,.lst none z o ks,.int .i64 b]]=some (.lst (some 3) false .full [.agg [.int .i64 a,qhq (.lst none z o ks),.int .i64 b]]):=by
 cases o<;>rfl
theorem qyZ (b:Nat) (m:Mem) (y:AV):qd6 (some b) false 74 (some 3) 40 m (.lst none true .full []) (.lst (some 3) false .full [y])=some (.lst (some 3) false (.tok b 74) [y],m.set b (some (Ent.tok 1 3))):=rfl
theorem qy1 {b t:Nat} {m:Mem} {es:List AV} {y:AV} (ht:m.get t=some (Ent.tok es.length 3)) (h:es.length < 1000000):qd6 (some b) false 74 (some 3) 40 m (.lst (some 3) false (.tok t 74) es) (.lst (some 3) false .full [y])=some (.lst (some 3) false (.tok t 74) (es++[y]),m.set t (some (Ent.tok (es.length+1) 3))):=by
 have h2:(es.length+1) * 40<=qef:=by unfold qef;omega
 simp[qd6,ht,Sh.size,h2]
theorem NA.move {m m':Mem} {na:AV} {l:List ND} {T:List Nat} (h:NA m na l T) (f:∀ x∈T,m'.get x=m.get x):NA m' na l T:=by
 cases h with
 | none=>exact .none
 | some t l ht=>exact .some t l ((f t (by simp)).trans ht)
theorem SAt.move {m m':Mem} {s p:Nat} {arms na:AV} {most:Int} {l:List ND} {T:List Nat} (h:SAt m s p arms na most l T) (f:∀ x∈s::p::T,m'.get x=m.get x):SAt m' s p arms na most l T:=
 ⟨(f s (by simp)).trans h.hs,(f p (by simp)).trans h.hp,h.hn.move fun x hx=>f x (by simp[hx]),h.ok,h.ne,h.hT⟩
theorem SAt.lt {m:Mem} {s p:Nat} {arms na:AV} {most:Int} {l:List ND} {T:List Nat} (h:SAt m s p arms na most l T):∀ x∈s::p::T,x < m.length:=by
 intro x hx
 simp only[qa1] at hx
 rcases hx with rfl | rfl | hx
 ·exact qbz h.hs
 ·exact qbz h.hp
 ·cases h.hn with
  | none=>cases hx
  | some t l ht=>
    obtain rfl:x=t:=by simpa using hx
    exact qbz ht
def St8 (m:Mem) (s:Nat) (F:List Nat) (arms:AV) (most:Int) (l:List ND):Prop:=∃ p na T,SAt m s p arms na most l T/\F=s::p::T
theorem St8.move {m m':Mem} {s:Nat} {F:List Nat} {arms:AV} {most:Int} {l:List ND} (h:St8 m s F arms most l) (f:∀ x∈F,m'.get x=m.get x):St8 m' s F arms most l:=by
 obtain ⟨p,na,T,h,rfl⟩:=h
 exact ⟨p,na,T,h.move f,rfl⟩
theorem St8.lt {m:Mem} {s:Nat} {F:List Nat} {arms:AV} {most:Int} {l:List ND} (h:St8 m s F arms most l):∀ x∈F,x < m.length:=by
 obtain ⟨p,na,T,h,rfl⟩:=h
 exact h.lt
theorem St8.fr {m m':Mem} {s:Nat} {F G:List Nat} {arms:AV} {most:Int} {l:List ND} (h:St8 m s F arms most l) (f:Fr m m' G) (hd:∀ x∈F,x∉G):St8 m' s F arms most l:=h.move fun x hx=>f.get x (h.lt x hx) (hd x hx)
def Gr (m:Mem) (F F':List Nat):Prop:=∀ x∈F',x∈F\/m.length<=x
theorem Gr.refl (m:Mem) (F:List Nat):Gr m F F:=fun _ h=>.inl h
theorem Gr.trans {m m1:Mem} {F F1 F2:List Nat} (hl:m.length<=m1.length) (h:Gr m F F1) (k:Gr m1 F1 F2):Gr m F F2:=fun x hx=>by
 rcases k x hx with h1 | h1
 ·exact h x h1
 ·exact .inr (by omega)
def ins (l:List ND) (n:ND):List ND:=if n∈l then l else l++[n]
theorem qnS {l:List ND} {n:ND} (h:n∉l):l.idxOf n=l.length:=List.idxOf_eq_length h
theorem qDy {m:Mem} {s p:Nat} {arms na:AV} {most:Int} {l:List ND} {T:List Nat} (h:SAt m s p arms na most l T) {n:ND} (hn:n.ok) (hm:n∉l) {z:Bool} {o:Own} (hk:qhq (.lst none z o (n.kids.map (AV.int .i64)))=qdE n)
  (hl:(l.length:Int) < most) (hmo:most<=100000):∃ m' na' T',AC cfg 139 [.ptr s 0,.agg [.int .i64 n.var,.lst none z o (n.kids.map (AV.int .i64)),.int .i64 n.leaf]] m=some (.int .i64 l.length,m') /\
   SAt m' s p arms na' most (l++[n]) T'/\Fr m m' (s::p::T)/\∀ t∈T',t∈T\/m.length<=t:=by
 have hs:=h.hs;have hp:=h.hp
 have hsl:=qbz hs;have hpl:=qbz hp
 have hne:=h.ne
 have hne':p≠s:=fun e=>hne e.symm
 have nm:=qv6 hn z o
 have hok:∀ x∈l++[n],x.ok:=fun x hx=>by
  rcases qaW.1 hx with hx | hx
  ·exact h.ok x hx
  ·obtain rfl:x=n:=by simpa using hx
   exact hn
 have hll:l.length < 100000:=by omega
 generalize hbx:some (Ent.obj true [.int .i64 n.var,.lst none z o (n.kids.map (AV.int .i64)),.int .i64 n.leaf])=bx
 have hp':Mem.get (m++[bx]) p=some (Ent.mp .str (qkQ 0 l)):=by rw[qey hpl];exact hp
 have lk:=qn3 hp' h.ok hn (.int .i64 0)
 rw[qah hm] at lk
 have hbox:=qvp n.var n.leaf z o (n.kids.map (AV.int .i64)) m
 rw[hbx] at hbox
 have ldb:qD4 bx=some (true,[.int .i64 n.var,.lst none z o (n.kids.map (AV.int .i64)),.int .i64 n.leaf]):=by rw[<- hbx];rfl
 have hT:=h.hT
 have hav:AV.agg [.int .i64 n.var,qdE n,.int .i64 n.leaf]=n.av:=rfl
 have up:=fun m' hp=>qzZ (m:=m') (p:=p) hp h.ok hn hm hll
 have len1:∀ y:AV,((l.map ND.av)++[y]).length=l.length+1:=fun y=>by simp
 have wr1:IntKind.wrap .i64 (((l.length+1:Nat):Int) - 1)=l.length:=by rw[qbQ (by omega) (by omega)];omega
 have key:∃ m' na' T',AC cfg 139 [.ptr s 0,.agg [.int .i64 n.var,.lst none z o (n.kids.map (AV.int .i64)),.int .i64 n.leaf]] m=some (.int .i64 l.length,m') /\
   Mem.get m' s=some (Ent.obj true [arms,na',.mref p,.int .i64 most])/\Mem.get m' p=some (Ent.mp .str (qkQ 0 (l++[n])))/\NA m' na' (l++[n]) T'/\Fr m m' (s::p::T)/\(∀ t∈T',t≠s/\t≠p)/\∀ t∈T',t∈T\/m.length<=t:=by
  cases h.hn with
  | none=>
   have e:AC cfg 139 [.ptr s 0,.agg [.int .i64 n.var,.lst none z o (n.kids.map (AV.int .i64)),.int .i64 n.leaf]] m=some (.int .i64 (0:Nat),(((((m++[bx])++[some Ent.resv]).set (m.length+1) (some (Ent.tok 1 3))).set s (some (Ent.obj true [arms,.lst (some 3) false (.tok (m.length+1) 74) [n.av],.mref p,.int .i64 most]))).set p (some (Ent.mp .str (qkQ 0 ([]++[n])))))):=by
    rw[qFS]
    repeat ((with_reducible (first | apply bs | apply bsy));(focus (first | (simp (disch:=(first | assumption | omega | (simp only[qab,qai,qad,qae];first | done | omega))) only[LLb,beq_self_eq_true,qcN,oBs,Sh.size,qa5,qbK,Nat.reduceAdd,Nat.reduceLeDiff,qak,hs,hbox,nm,lk,ldb];first | done | rfl) | rfl));try dsimp only)
    rw[qdW]
    repeat ((with_reducible (first | apply bs | apply bsy));(focus (first | (simp (disch:=(first | assumption | omega | (simp only[qab,qai,qad,qae];first | done | omega))) only[LLb,beq_self_eq_true,qcN,oBs,Sh.size,qa5,qbK,Nat.reduceAdd,Nat.reduceLeDiff,qak,hs,hbox,nm,lk,ldb];first | done | rfl) | rfl));try dsimp only)
    rw[qap,qah (by simp at hl ⊢;omega)]
    repeat ((with_reducible (first | apply bs | apply bsy));(focus (first | (simp (disch:=(first | assumption | omega | (simp only[qab,qai,qad,qae];first | done | omega))) only[LLb,beq_self_eq_true,qcN,oBs,Sh.size,qa5,qbK,Nat.reduceAdd,Nat.reduceLeDiff,qak,hs,hbox,nm,lk,ldb,qAq,hk,qyZ,hav];first | done | rfl) | rfl));try dsimp only)
    rw[show IntKind.wrap .i64 ((1:Nat) - 1:Int)=((([]:List ND).length:Nat):Int) from rfl,up _ ?hq,oBs]
    case hq=>exact (by simp (disch:=(first | assumption | omega | (simp only[qab,qai,qad,qae];first | done | omega))) only[qeI,qey,qev,qdb,qdF,hp];first | done | rfl)
    repeat ((with_reducible (first | apply bs | apply bsy));(focus (first | (simp (disch:=(first | assumption | omega | (simp only[qab,qai,qad,qae];first | done | omega))) only[LLb,beq_self_eq_true,qcN,oBs,Sh.size,qa5,qbK,Nat.reduceAdd,Nat.reduceLeDiff,qak,hs];first | done | rfl) | rfl));try dsimp only)
    rfl
   refine ⟨_,_,[m.length+1],e,(by simp (disch:=(first | assumption | omega | (simp only[qab,qai,qad,qae];first | done | omega))) only[qeI,qey,qev,qdb,qdF];first | done | rfl),(by simp (disch:=(first | assumption | omega | (simp only[qab,qai,qad,qae];first | done | omega))) only[qeI,qey,qev,qdb,qdF];first | done | rfl),?_,?_,?_,?_⟩
   ·exact .some _ [n] (by simp (disch:=(first | assumption | omega | (simp only[qab,qai,qad,qae];first | done | omega))) only[qeI,qey,qev,qdb,qdF];first | done | rfl)
   ·exact ((((Fr.app m bx _).snoc _).set _ (.inr (by omega))).set _ (.inl (by simp))).set _ (.inl (by simp))
   ·intro t ht
    obtain rfl:t=m.length+1:=by simpa using ht
    omega
   ·intro t ht
    obtain rfl:t=m.length+1:=by simpa using ht
    omega
  | some t l ht=>
   have htl:=qbz ht
   have hts:=(hT t (by simp)).1
   have htp:=(hT t (by simp)).2
   have hts':s≠t:=fun e=>hts e.symm
   have htp':p≠t:=fun e=>htp e.symm
   have e:AC cfg 139 [.ptr s 0,.agg [.int .i64 n.var,.lst none z o (n.kids.map (AV.int .i64)),.int .i64 n.leaf]] m=some (.int .i64 l.length,(((((m++[bx])++[some Ent.resv]).set t (some (Ent.tok (l.length+1) 3))).set s (some (Ent.obj true [arms,.lst (some 3) false (.tok t 74) (l.map ND.av++[n.av]),.mref p,.int .i64 most]))).set p (some (Ent.mp .str (qkQ 0 (l++[n])))))):=by
    have ap:=fun m' b ht=>qy1 (b:=b) (m:=m') (t:=t) (es:=l.map ND.av) (y:=n.av) ht (by simp;omega)
    simp only[qaE] at ap
    rw[qFS]
    repeat ((with_reducible (first | apply bs | apply bsy));(focus (first | (simp (disch:=(first | assumption | omega | (simp only[qab,qai,qad,qae];first | done | omega))) only[LLb,beq_self_eq_true,qcN,oBs,Sh.size,qa5,qbK,Nat.reduceAdd,Nat.reduceLeDiff,qak,hs,hbox,nm,lk,ldb];first | done | rfl) | rfl));try dsimp only)
    rw[qdW]
    repeat ((with_reducible (first | apply bs | apply bsy));(focus (first | (simp (disch:=(first | assumption | omega | (simp only[qab,qai,qad,qae];first | done | omega))) only[LLb,beq_self_eq_true,qcN,oBs,Sh.size,qa5,qbK,Nat.reduceAdd,Nat.reduceLeDiff,qak,hs,hbox,nm,lk,ldb,qaE];first | done | rfl) | rfl));try dsimp only)
    rw[qap,qah (by omega)]
    repeat ((with_reducible (first | apply bs | apply bsy));(focus (first | (simp (disch:=(first | assumption | omega | (simp only[qab,qai,qad,qae];first | done | omega))) only[LLb,beq_self_eq_true,qcN,oBs,Sh.size,qa5,qbK,Nat.reduceAdd,Nat.reduceLeDiff,qak,hs,hbox,nm,lk,ldb,qAq,hk,hav];first | done | rfl) | rfl));try dsimp only)
    rw[ap _ _ ?hq,oBs]
    case hq=>exact (by simp (disch:=(first | assumption | omega | (simp only[qab,qai,qad,qae];first | done | omega))) only[qeI,qey,qev,qdb,qdF,ht];first | done | rfl)
    dsimp only
    repeat ((with_reducible (first | apply bs | apply bsy));(focus (first | (simp (disch:=(first | assumption | omega | (simp only[qab,qai,qad,qae];first | done | omega))) only[LLb,beq_self_eq_true,qcN,oBs,Sh.size,qa5,qbK,Nat.reduceAdd,Nat.reduceLeDiff,qak,hs,len1];first | done | rfl) | rfl));try dsimp only)
    rw[wr1,up _ ?hq,oBs]
    case hq=>exact (by simp (disch:=(first | assumption | omega | (simp only[qab,qai,qad,qae];first | done | omega))) only[qeI,qey,qev,qdb,qdF,hp];first | done | rfl)
    repeat ((with_reducible (first | apply bs | apply bsy));(focus (first | (simp (disch:=(first | assumption | omega | (simp only[qab,qai,qad,qae];first | done | omega))) only[LLb,beq_self_eq_true,qcN,oBs,Sh.size,qa5,qbK,Nat.reduceAdd,Nat.reduceLeDiff,qak,hs,len1];first | done | rfl) | rfl));try dsimp only)
    rw[wr1]
   refine ⟨_,_,[t],e,(by simp (disch:=(first | assumption | omega | (simp only[qab,qai,qad,qae];first | done | omega))) only[qeI,qey,qev,qdb,qdF];first | done | rfl),(by simp (disch:=(first | assumption | omega | (simp only[qab,qai,qad,qae];first | done | omega))) only[qeI,qey,qev,qdb,qdF];first | done | rfl),?_,?_,?_,?_⟩
   ·have e2:(l++[n]).map ND.av=l.map ND.av++[n.av]:=by simp
    rw[<- e2]
    refine .some t (l++[n]) ?_
    rw[qab]
    exact (by simp (disch:=(first | assumption | omega | (simp only[qab,qai,qad,qae];first | done | omega))) only[qeI,qey,qev,qdb,qdF];first | done | rfl)
   ·exact ((((Fr.app m bx _).snoc _).set _ (.inl (by simp))).set _ (.inl (by simp))).set _ (.inl (by simp))
   ·intro x hx
    obtain rfl:x=t:=by simpa using hx
    exact ⟨hts,htp⟩
   ·intro x hx
    exact .inl hx
 obtain ⟨m',na',T',e,k1,k2,k3,k4,k5,k6⟩:=key
 exact ⟨m',na',T',e,⟨k1,k2,k3,hok,hne,k5⟩,k4,k6⟩
theorem qAP {m:Mem} {s:Nat} {F:List Nat} {arms:AV} {most:Int} {l:List ND} (h:St8 m s F arms most l) {n:ND} (hn:n.ok) {z:Bool} {o:Own} (hk:qhq (.lst none z o (n.kids.map (AV.int .i64)))=qdE n)
  (hl:(l.length:Int) < most) (hmo:most<=100000):∃ m' F',AC cfg 139 [.ptr s 0,.agg [.int .i64 n.var,.lst none z o (n.kids.map (AV.int .i64)),.int .i64 n.leaf]] m=some (.int .i64 (l.idxOf n:Nat),m') /\
   St8 m' s F' arms most (ins l n)/\Fr m m' F/\Gr m F F':=by
 obtain ⟨p,na,T,h,rfl⟩:=h
 by_cases hm:n∈l
 ·refine ⟨_,s::p::T,qDz h hn hm z o,?_,Fr.app m _ _,Gr.refl _ _⟩
  rw[ins,qal hm]
  exact ⟨p,na,T,h.move fun x hx=>qey (h.lt x hx),rfl⟩
 ·obtain ⟨m',na',T',e,h1,h2,h3⟩:=qDy h hn hm hk hl hmo
  refine ⟨m',s::p::T',by rw[qnS hm];exact e,?_,h2,fun x hx=>?_⟩
  ·rw[ins,qah hm];exact ⟨p,na',T',h1,rfl⟩
  ·simp only[qa1] at hx ⊢
   rcases hx with rfl | rfl | hx
   ·exact .inl (.inl rfl)
   ·exact .inl (.inr (.inl rfl))
   ·rcases h3 x hx with h | h
    ·exact .inl (.inr (.inr h))
    ·exact .inr h
end Go.Ab

/- What the interpreter does, function by function. -/
set_option maxRecDepth 100000
namespace Go.Ab
open Go.Proofs.Tryz
theorem T34 (a0 a1 a2:AV) (m:Mem):AC cfg 34 [a0,a1,a2] m =
 (qf8 none none m a0).bind fun r1=>
 (qf8 none none r1.2 a1).bind fun r2=>
 (qf8 none none r2.2 a2).bind fun r3=>
 (qat none r3.2 r1.1).bind fun v4=>
 (AC cfg 80 [v4] r3.2).bind fun r5=>
 ifA r5.1 (
 some ((.tup [(.int .i64 0),(.int .i64 4)]),r5.2)) (
 (qat none r5.2 r2.1).bind fun v6=>
 (qaz .other .lss v6 (.int .i64 0)).bind fun v7=>
 ifA v7 (
 some ((.tup [(.int .i64 0),(.int .i64 1)]),r5.2)) (
 (qat none r5.2 r2.1).bind fun v8=>
 (qat none r5.2 r1.1).bind fun v9=>
 (qjD v9).bind fun v10=>
 (qaB 0 v10).bind fun v11=>
 (qat none r5.2 v11).bind fun v12=>
 (qbY false v12).bind fun v13=>
 (qaz .other .geq v8 v13).bind fun v14=>
 ifA v14 (
 some ((.tup [(.int .i64 0),(.int .i64 1)]),r5.2)) (
 (qat none r5.2 r3.1).bind fun v15=>
 (qbY false v15).bind fun v16=>
 (qat none r5.2 r1.1).bind fun v17=>
 (qjD v17).bind fun v18=>
 (qaB 0 v18).bind fun v19=>
 (qat none r5.2 v19).bind fun v20=>
 (qat none r5.2 r2.1).bind fun v21=>
 (qag none v20 v21).bind fun v22=>
 (qat none r5.2 v22).bind fun v23=>
 (qaz .other .neq v16 v23).bind fun v24=>
 ifA v24 (
 some ((.tup [(.int .i64 0),(.int .i64 1)]),r5.2)) (
 (qat none r5.2 r3.1).bind fun v25=>
 (AC cfg 92 [v25,(.fn 97 [r1.1,r2.1])] r5.2).bind fun r26=>
 ifA r26.1 (
 some ((.tup [(.int .i64 0),(.int .i64 1)]),r26.2)) (
 (qat none r26.2 r1.1).bind fun v27=>
 (AC cfg 84 [v27,(.fn 98 [r1.1,r2.1,r3.1])] r26.2).bind fun r28=>
 (qaF r28.1 0).bind fun v29=>
 (qaF r28.1 1).bind fun v30=>
 some ((.tup [v29,v30]),r28.2)))))):=
(qbx cfg 34 [a0,a1,a2] m (fn:=f34) (c:=qaq f34) qJg rfl).trans (by kernel_rfl)
theorem T97 (a0 a1 a2:AV) (m:Mem):AC cfg 97 [a0,a1,a2] m =
 (qat none m a1).bind fun v1=>
 (AC cfg 81 [v1,a0] m).bind fun r2=>
 (unA .not r2.1).bind fun v3=>
 ifA v3 (
 ifP (some (AV.tup [],r2.2)=some (AV.tup [],r2.2)) (
 some ((.bool true),r2.2))) (
 (qat none r2.2 a1).bind fun v4=>
 (qat none r2.2 a2).bind fun v5=>
 (AC cfg 68 [v4,a0] r2.2).bind fun r6=>
 ifP ((qat none r6.2 a2).bind (fun v=>some (v,r6.2))=some (v5,r6.2)) (
 (qaz .other .leq r6.1 v5).bind fun v7=>
 some (v7,r6.2))):=
(qbx cfg 97 [a0,a1,a2] m (fn:=f97) (c:=qaq f97) qJO rfl).trans (by kernel_rfl)
theorem T98 (a0 a1 a2:AV) (m:Mem):AC cfg 98 [a0,a1,a2] m =
 (qat none m a0).bind fun v1=>
 (qat none m a1).bind fun v2=>
 (qat none m a2).bind fun v3=>
 (qaN (AP cfg) none m 88 [v3]).bind fun r4=>
 ifP ((qat none r4.2 a0).bind (fun v=>some (v,r4.2))=some (v1,r4.2)) (
 ifP ((qat none r4.2 a1).bind (fun v=>some (v,r4.2))=some (v2,r4.2)) (
 (AC cfg 99 [v1,v2,r4.1] r4.2).bind fun r5=>
 some (r5.1,r5.2))):=
(qbx cfg 98 [a0,a1,a2] m (fn:=f98) (c:=qaq f98) qJP rfl).trans (by kernel_rfl)
end Go.Ab

/- The store's methods: Leaf, Make, Node, Count, New, by value. -/
set_option maxRecDepth 100000
namespace Go.Ab
open Go.Proofs Go.Proofs.Tryz
abbrev IA (z:Bool) (o:Own) (ns:List Int):AV:=.lst none z o (ns.map (AV.int .i64))
theorem qg6 (z:Bool) (o:Own) (ns:List Int):Fz (IA z o ns) (IA z o.fr ns):=fun m=>by cases o<;>rfl
theorem qeb (z:Bool) (o:Own) (ns:List Int):qbY false (IA z o ns)=some (.int .i64 ns.length):=by
 rw[qez,qaE]
theorem qeN {z:Bool} {o:Own} {ns:List Int} {k:IntKind} {i:Nat} (h:i < ns.length):qag none (IA z o ns) (.int k i)=some (.vptr [.int .i64 ns[i]]):=by
 simp[qag,h,AV.cells]
theorem qpl {z:Bool} {o:Own} {ns:List Int} {k:IntKind} (h:0 < ns.length):qag none (IA z o ns) (.int k 0)=some (.vptr [.int .i64 ns[0]]):=qeN (i:=0) h
def clA (z:Bool) (ns:List Int):AV:=if z then .lst none true .full [] else if ns=[] then .lst none false .full [] else IA false .no ns
theorem V49 (z:Bool) (o:Own) (ns:List Int) (hl:ns.length<=1000000):AP cfg 88 [IA z o ns]=some (clA z ns):=by
 have e0:qaz .sl .eql (IA z o ns) (.lst none true .full [])=some (.bool z):=rfl
 cases z with
 | true=>
  refine qeG (m:=[]) (v:=.lst none true .full []) (l:=[]) ?_ rfl rfl
  rw[T88,e0,oBs,qfw]
 | false=>
  cases ns with
  | nil=>
   refine qeG (m:=[]) (v:=.lst none false .full []) (l:=[]) ?_ rfl rfl
   rw[T88,e0,oBs,qdW]
   rfl
  | cons n ns=>
   refine qeG (m:=[some (Ent.tok (0+(ns.length+1)) 1)]) (v:=.lst none false (.tok 0 3) ((n::ns).map (AV.int .i64))) (l:=[]) ?_ rfl rfl
   rw[T88,e0,oBs,qdW,show qaY none []=some (.lst none false .full []) from rfl,oBs]
   have hb:(0+(ns.length+1)) * 8<=qef:=by unfold qef;simp at hl;omega
   simp only[qd6,qaX,qae,qad,qaE,hb,qa5,or_true,qbe,qg7,qaH,qae,qaw,oBs,Sh.size]
theorem qG3 (z:Bool) (o:Own) (ns:List Int) (hl:ns.length<=1000000) (m:Mem):qaN (AP cfg) none m 88 [IA z o ns]=some (clA z ns,m):=by
 rw[qbt (qg6 z o ns),V49 _ _ _ hl];rfl
theorem V51 (n:Int):AP cfg 94 [.int .i64 n]=some (.bool (decide (0<=n/\n<=2147483647))):=by
 refine qeG (m:=[]) (v:=.bool (decide (0<=n/\n<=2147483647))) (l:=[]) ?_ rfl rfl
 rw[T94,qdD,oBs,qap]
 by_cases h:n≥0
 ·rw[qal h,qf2,oBs]
  congr 3
  exact qbP.2 (by omega)
 ·rw[qah h]
  congr 3
  exact (qa7 (by omega)).symm
theorem qHI (n:Int) (m:Mem):qaN (AP cfg) none m 94 [.int .i64 n]=some (.bool (decide (0<=n/\n<=2147483647)),m):=by
 rw[qbt (qcR _ _),V51];rfl
section
variable {m:Mem} {s:Nat} {F:List Nat} {arms:AV} {most:Int} {l:List ND}
theorem A50 (h:St8 m s F arms most l) (hm:most≠0):AC cfg 80 [.ptr s 0] m=some (.bool false,m):=by
 obtain ⟨p,na,T,h,rfl⟩:=h
 have hs:=h.hs
 rw[T80,show qaz .pt .eql (.ptr s 0) .nilp=some (.bool false) from rfl,oBs,qdW]
 repeat ((with_reducible (first | apply bs | apply bsy));(focus (first | (simp (disch:=(first | assumption | omega | (simp only[qab,qai,qad,qae];first | done | omega))) only[LLb,beq_self_eq_true,qcN,oBs,Sh.size,qa5,qbK,Nat.reduceAdd,Nat.reduceLeDiff,qak,hs];first | done | rfl) | rfl));try dsimp only)
 rw[show (decide (most=0))=false from qa7 hm]
theorem A56 (h:St8 m s F arms most l) (i:Int):AC cfg 81 [.ptr s 0,.int .i64 i] m=some (.bool (decide (0<=i/\i < l.length)),m):=by
 obtain ⟨p,na,T,h,rfl⟩:=h
 have hs:=h.hs
 have hlen:qbY false na=some (.int .i64 l.length):=by
  cases h.hn with
  | none=>rfl
  | some t l ht=>rw[qez,qaE]
 rw[T81,qdD,oBs,qap]
 by_cases h0:i≥0
 ·rw[qal h0]
  repeat ((with_reducible (first | apply bs | apply bsy));(focus (first | (simp (disch:=(first | assumption | omega | (simp only[qab,qai,qad,qae];first | done | omega))) only[LLb,beq_self_eq_true,qcN,oBs,Sh.size,qa5,qbK,Nat.reduceAdd,Nat.reduceLeDiff,qak,hs,hlen];first | done | rfl) | rfl));try dsimp only)
  congr 3
  exact qbP.2 (by omega)
 ·rw[qah h0,show (decide (0<=i/\i < l.length))=false from qa7 (by omega)]
def abv (a:Nat) (n:ND):Int:=if n.var≥0 then n.var else a
theorem qob {na:AV} {T:List Nat} (h:NA m na l T) {i:Nat} (hi:i < l.length):qag (some 3) na (.int .i64 i)=some (.vptr [.int .i64 l[i].var,qdE l[i],.int .i64 l[i].leaf]):=by
 cases h with
 | none=>simp at hi
 | some t l ht=>simp[qag,hi];rfl
theorem qzl (n:ND):qcE (qdE n)=true:=by unfold qdE;split<;>rfl
theorem qpo (n:ND):(qdE n).cells=[qdE n]:=by unfold qdE;split<;>rfl
theorem qAp (n:ND) (m:Mem) (h:Mem.get m m.length=none):qaR (some 3) (m++[some (Ent.obj true [.int .i64 0,.lst none true .full [],.int .i64 0])]) (.ptr m.length 0) (.agg [.int .i64 n.var,qdE n,.int .i64 n.leaf])=some (m++[some (Ent.obj true [.int .i64 n.var,qdE n,.int .i64 n.leaf])]):=by
 have e:qeJ (some 3) (.agg [.int .i64 n.var,qdE n,.int .i64 n.leaf])=true:=by unfold qdE;split<;>rfl
 rw[qlJ,qev rfl,qd5,oBs]
 simp[qcN,Sh.size,e,qbK,AV.cells]
theorem qvJ (m:Mem):Mem.get m m.length=none:=by simp[Mem.get]
theorem A57 {z:Bool} {o:Own} {ar:List Int} (h:St8 m s F (IA z o ar) most l) {i:Nat} (hi:i < l.length):∃ m',AC cfg 68 [.ptr s 0,.int .i64 i] m=some (.int .i64 (abv ar.length l[i]),m')/\Fr m m' []:=by
 obtain ⟨p,na,T,h,rfl⟩:=h
 have hs:=h.hs
 have hsl:=qbz hs
 have hidx:=qob h.hn hi
 have bx:=qAp l[i] m (qvJ m)
 refine ⟨_,?_,Fr.app m (some (Ent.obj true [.int .i64 l[i].var,qdE l[i],.int .i64 l[i].leaf])) []⟩
 rw[T68]
 repeat ((with_reducible (first | apply bs | apply bsy));(focus (first | (simp (disch:=(first | assumption | omega | (simp only[qab,qai,qad,qae];first | done | omega))) only[LLb,beq_self_eq_true,qcN,oBs,Sh.size,qa5,qbK,Nat.reduceAdd,Nat.reduceLeDiff,qak,hs,hidx,bx];first | done | rfl) | rfl));try dsimp only)
 rw[qap]
 by_cases hv:l[i].var≥0
 ·rw[qal hv]
  repeat ((with_reducible (first | apply bs | apply bsy));(focus (first | (simp (disch:=(first | assumption | omega | (simp only[qab,qai,qad,qae];first | done | omega))) only[LLb,beq_self_eq_true,qcN,oBs,Sh.size,qa5,qbK,Nat.reduceAdd,Nat.reduceLeDiff,qak,hs];first | done | rfl) | rfl));try dsimp only)
  rw[abv,qal hv]
 ·rw[qah hv]
  repeat ((with_reducible (first | apply bs | apply bsy));(focus (first | (simp (disch:=(first | assumption | omega | (simp only[qab,qai,qad,qae];first | done | omega))) only[LLb,beq_self_eq_true,qcN,oBs,Sh.size,qa5,qbK,Nat.reduceAdd,Nat.reduceLeDiff,qak,hs,qeb];first | done | rfl) | rfl));try dsimp only)
  rw[abv,qah hv]
def qfa (x:Int):ND:=⟨-1,[],x⟩
theorem qrm {x:Int} (h:0<=x/\x<=2147483647):(qfa x).ok:=.inl ⟨rfl,rfl,h⟩
theorem A54 (h:St8 m s F arms most l) {x:Int} (hx:0<=x/\x<=2147483647) (hl:(l.length:Int) < most) (hmo:most<=100000) :
  ∃ m' F',AC cfg 96 [.ptr s 0,.int .i64 x] m=some (.int .i64 (l.idxOf (qfa x):Nat),m')/\St8 m' s F' arms most (ins l (qfa x))/\Fr m m' F/\Gr m F F':=by
 obtain ⟨m',F',e,h1,h2,h3⟩:=qAP h (qrm hx) (z:=true) (o:=.full) rfl hl hmo
 refine ⟨m',F',?_,h1,h2,h3⟩
 have e:AC cfg 139 [.ptr s 0,.agg [.int .i64 (-1),.lst none true .full [],.int .i64 x]] m=_:=e
 rw[T96,show qdz (.agg [(.int .i64 0),(.lst none true .full []),(.int .i64 0)]) [(0,none,(.int .i64 (-1))),(2,none,.int .i64 x)]=some (.agg [.int .i64 (-1),.lst none true .full [],.int .i64 x]) from rfl,oBs,e,oBs]
def qeq (v:Int) (ks:List Int):ND:=⟨v,ks,0⟩
def qiZ (l:List ND) (v:Int) (ks:List Int):Int×List ND:=if ks.all (fun k=>k == ks.headD 0) then (ks.headD 0,l) else (((l.idxOf (qeq v ks):Nat):Int),ins l (qeq v ks))
theorem qlB (l:List ND) (v k0:Int) (ks:List Int):qiZ l v (k0::ks)=if (k0::ks).all (fun k=>k == k0) then (k0,l) else (((l.idxOf (qeq v (k0::ks)):Nat):Int),ins l (qeq v (k0::ks))):=rfl
theorem W59 (x0:AV) (v:Int) (z:Bool) (o:Own) (k0:Int) (ks:List Int) (hlen:(k0::ks).length<=1000) (K:KT):∀ j i:Nat,i+j=(k0::ks).length ->
  qyN x0 (.int .i64 v) (IA z o (k0::ks)) (IA z o (k0::ks)) (.int .i64 (k0::ks).length) (.int .i64 i) m K =
   if ((k0::ks).drop i).all (fun k=>k == k0) then K (.exit 0) (qCw (IA z o (k0::ks)) m) else
    (AC cfg 139 [x0,.agg [.int .i64 v,IA z o (k0::ks),.int .i64 0]] m).bind fun r8=>K .ret (qCA r8.1 r8.2)
 | 0,i,h=>by
  rw[qqP,qaU,oBs,qap,qah (by omega),qbc (by omega)];rfl
 | j+1,i,h=>by
  have hi:i < (k0::ks).length:=by omega
  rw[qqP,qaU,oBs,qap,qal (by omega),qeN hi,oBs,qbs,oBs,qpl (by simp),oBs,qbs,oBs,qcW,oBs,qap,qbr hi,qeR]
  have hb:∀ (a b:Int),qdz (.agg [(.int .i64 0),(.lst none true .full []),(.int .i64 0)]) [(0,none,.int .i64 v),(1,none,IA z o (k0::ks))]=some (.agg [.int .i64 v,IA z o (k0::ks),.int .i64 0]):=fun _ _=>rfl
  by_cases he:(k0::ks)[i]=k0
  ·rw[qah (by simpa using he),qbM (by omega),oBs,W59 x0 v z o k0 ks hlen K j (i+1) (by omega),show ((k0::ks)[i] == k0)=true by simpa using he,qdx]
  ·rw[qal (by simpa using he),hb 0 0,oBs,show ((k0::ks)[i] == k0)=false by simpa using he,Bool.false_and];rfl
theorem A59 (h:St8 m s F arms most l) {v:Int} {z:Bool} {o:Own} {ks:List Int} (hne:ks≠[]) (hn:(qeq v ks).ok) (hz:z=false) (ho:o=.no\/∃ t e,o=.tok t e) (hl:(l.length:Int) < most) (hmo:most<=100000) :
  ∃ m' F',AC cfg 99 [.ptr s 0,.int .i64 v,IA z o ks] m=some (.int .i64 (qiZ l v ks).1,m')/\St8 m' s F' arms most (qiZ l v ks).2/\Fr m m' F/\Gr m F F':=by
 obtain ⟨k0,ks,rfl⟩:=List.exists_cons_of_ne_nil hne
 subst hz
 have hv:¬ v < 0/\(k0::ks).length<=64:=by
  rcases hn with ⟨_,h2,_⟩ | ⟨h1,_,_,_,h5⟩
  ·cases h2
  ·exact ⟨by simp only[qeq] at h1;omega,h5⟩
 rw[T99,qeb,oBs]
 have w:=W59 (m:=m) (.ptr s 0) v false o k0 ks (by omega) (qyy (qbw cfg.P f99.results.toList)) (k0::ks).length 0 (by omega)
 rw[qbk] at w
 rw[show (AV.int .i64 0)=.int .i64 ((0:Nat):Int) from rfl,w,qlB]
 by_cases ha:((k0::ks).all fun k=>k == k0)=true
 ·rw[qal ha,qal ha,qyz,qpl (by simp),oBs,qbs,oBs]
  exact ⟨m,F,rfl,h,Fr.refl _ _,Gr.refl _ _⟩
 ·rw[qah ha,qah ha]
  have hk:qhq (.lst none false o (((qeq v (k0::ks)).kids).map (AV.int .i64)))=qdE (qeq v (k0::ks)):=by
   unfold qdE
   rw[qah (show ¬ (qeq v (k0::ks)).var < 0 from hv.1)]
   rcases ho with rfl | ⟨t,e,rfl⟩<;>rfl
  obtain ⟨m',F',e,h1,h2,h3⟩:=qAP h hn (z:=false) (o:=o) hk hl hmo
  refine ⟨m',F',?_,h1,h2,h3⟩
  have e:AC cfg 139 [.ptr s 0,.agg [.int .i64 v,IA false o (k0::ks),.int .i64 0]] m=_:=e
  rw[e,oBs,quz]
theorem qft {f g:Nat} {vs:List AV} {m:Mem} {K:AV->Mem->OM} (h1:((cfg.lib g).isNone && (cfg.libm g).isNone)=true) (h2:cfg.inl f g=true) (h3:cfg.thaw f g=false) (h4:cfg.frzc f g=false:=by rfl):qfL cfg f (AP cfg) (AC cfg) none g vs m K=(AC cfg g vs m).bind fun r=>K r.1 r.2:=by
 have h5:cfg.lib g=none/\cfg.libm g=none:=by
  rw[qay] at h1
  exact ⟨Option.isNone_iff_eq_none.1 h1.1,Option.isNone_iff_eq_none.1 h1.2⟩
 unfold qfL
 rw[h5.2,h5.1,h2,h4,h3]
theorem A52 {g:Nat} {caps:List AV} {id:Int} {l':List ND} (h:St8 m s F arms most l) (h1:((cfg.lib g).isNone && (cfg.libm g).isNone)=true) (h2:cfg.inl 84 g=true) (h3:cfg.thaw 84 g=false)
  (hc:∀ m1,Fr m m1 []->∃ m' F',AC cfg g caps m1=some (.int .i64 id,m')/\St8 m' s F' arms most l'/\Fr m1 m' F/\Gr m1 F F') :
  ∃ m' F',AC cfg 84 [.ptr s 0,.fn g caps] m=some (.tup [.int .i64 id,.int .i64 0],m')/\St8 m' s F' arms most l'/\Fr m m' F/\Gr m F F':=by
 have hlt:=h.lt
 obtain ⟨p,na,T,h,rfl⟩:=h
 have hs:=h.hs
 have hsl:=qbz hs
 have hlen:qbY false na=some (.int .i64 l.length):=by
  cases h.hn with
  | none=>rfl
  | some t l ht=>rw[qez,qaE]
 obtain ⟨m2,F2,e2,k1,k2,k3⟩:=hc (List.set (((m++[some (Ent.obj true [.ptr s 0])])++[some (Ent.obj true [.int .i64 0])])++[some (Ent.obj true [.int .i64 0])]++[some (Ent.obj true [.int .i64 0])]) (m.length+1+1+1) (some (Ent.obj true [.int .i64 l.length]))) (((((Fr.app m _ _).snoc _).snoc _).snoc _).set _ (.inr (by omega)))
 have len2:=k2.len
 simp only[qai,qab,qad,qae] at len2
 have g1:Mem.get m2 (m.length+1)=some (Ent.obj true [.int .i64 0]):=by
  rw[k2.get _ (by simp) (fun hx=>by have:=hlt _ hx;omega)];exact (by simp (disch:=(first | assumption | omega | (simp only[qab,qai,qad,qae];first | done | omega))) only[qeI,qey,qev,qdb,qdF];first | done | rfl)
 have g2:Mem.get m2 (m.length+2)=some (Ent.obj true [.int .i64 0]):=by
  rw[k2.get _ (by simp) (fun hx=>by have:=hlt _ hx;omega)];exact (by simp (disch:=(first | assumption | omega | (simp only[qab,qai,qad,qae];first | done | omega))) only[qeI,qey,qev,qdb,qdF];first | done | rfl)
 have e:AC cfg 84 [.ptr s 0,.fn g caps] m=some (.tup [.int .i64 id,.int .i64 0],(m2.set (m.length+1) (some (Ent.obj true [.int .i64 id]))).set (m.length+1+1) (some (Ent.obj true [.int .i64 0]))):=by
  rw[T84]
  repeat ((with_reducible (first | apply bs | apply bsy));(focus (first | (simp (disch:=(first | assumption | omega | (simp only[qab,qai,qad,qae];first | done | omega))) only[LLb,beq_self_eq_true,qcN,oBs,Sh.size,qa5,qbK,Nat.reduceAdd,Nat.reduceLeDiff,qak,hs,hlen,qiQ];first | done | rfl) | rfl));try dsimp only)
  rw[qaw,qft h1 h2 h3,e2,oBs]
  dsimp only
  repeat ((with_reducible (first | apply bs | apply bsy));(focus (first | (simp (disch:=(first | assumption | omega | (simp only[qab,qai,qad,qae];first | done | omega))) only[LLb,beq_self_eq_true,qcN,oBs,Sh.size,qa5,qbK,Nat.reduceAdd,Nat.reduceLeDiff,qak,g1,g2];first | done | rfl) | rfl));try dsimp only)
 refine ⟨_,F2,e,?_,?_,?_⟩
 ·refine k1.move fun x hx=>?_
  have hx2:x≠m.length+1/\x≠m.length+1+1:=by
   rcases k3 x hx with h | h
   ·have:=hlt x h;omega
   ·simp only[qai,qab,qad,qae] at h;omega
  rw[qdb hx2.2,qdb hx2.1]
 ·have f1:Fr m m2 (s::p::T):=Fr.trans (((((Fr.app m _ _).snoc _).snoc _).snoc _).set _ (.inr (by omega))) k2 fun x hx=>.inl hx
  exact (f1.set _ (.inr (by omega))).set _ (.inr (by omega))
 ·intro x hx
  rcases k3 x hx with h | h
  ·exact .inl h
  ·simp only[qai,qab,qad,qae] at h
   exact .inr (by omega)
end
end Go.Ab

/- The store's methods: Leaf, Make, Node, Count, New, by value. -/
set_option maxRecDepth 100000
namespace Go.Ab
open Go.Proofs Go.Proofs.Tryz
section
variable {m:Mem} {s:Nat} {F:List Nat} {arms:AV} {most:Int} {l:List ND}
theorem not_mem_nil {F:List Nat}:∀ x∈F,x∉([]:List Nat):=fun _ _ h=>by cases h
theorem St8.app (h:St8 m s F arms most l) {m':Mem} (f:Fr m m' []):St8 m' s F arms most l:=h.fr f not_mem_nil
def qmk (l:List ND) (x:Int):(Int×Int)×List ND:=if 0<=x/\x<=2147483647 then ((((l.idxOf (qfa x):Nat):Int),0),ins l (qfa x)) else ((0,1),l)
theorem A53 {b1 b2:Nat} {x:Int} (h:St8 m s F arms most l) (h1:m.get b1=some (Ent.obj true [.ptr s 0])) (h2:m.get b2=some (Ent.obj true [.int .i64 x])) (hx:0<=x/\x<=2147483647) (hl:(l.length:Int) < most) (hmo:most<=100000) :
  ∃ m' F',AC cfg 95 [.ptr b1 0,.ptr b2 0] m=some (.int .i64 (l.idxOf (qfa x):Nat),m')/\St8 m' s F' arms most (ins l (qfa x))/\Fr m m' F/\Gr m F F':=by
 obtain ⟨m',F',e,k⟩:=A54 h hx hl hmo
 refine ⟨m',F',?_,k⟩
 rw[T95]
 repeat ((with_reducible (first | apply bs | apply bsy));(focus (first | (simp (disch:=(first | assumption | omega | (simp only[qab,qai,qad,qae];first | done | omega))) only[LLb,beq_self_eq_true,qcN,oBs,Sh.size,qa5,qbK,Nat.reduceAdd,Nat.reduceLeDiff,qak,h1,h2,e];first | done | rfl) | rfl));try dsimp only)
theorem A15 (h:St8 m s F arms most l) (x:Int) (hl:(l.length:Int) < most) (hmo:most<=100000) :
  ∃ m' F',AC cfg 33 [.ptr s 0,.int .i64 x] m=some (.tup [.int .i64 (qmk l x).1.1,.int .i64 (qmk l x).1.2],m')/\St8 m' s F' arms most (qmk l x).2/\Fr m m' F/\Gr m F F':=by
 have f2:Fr m ((m++[some (Ent.obj true [.ptr s 0])])++[some (Ent.obj true [.int .i64 x])]) []:=(Fr.app m _ _).snoc _
 have h2:=h.app f2
 have e50:=A50 h2 (by omega)
 have hlt:=h.lt
 by_cases hx:0<=x/\x<=2147483647
 ·have hd:decide (0<=x/\x<=2147483647)=true:=qa6 hx
  obtain ⟨m',F',e52,k1,k2,k3⟩:=A52 (g:=95) (caps:=[.ptr m.length 0,.ptr (m.length+1) 0]) (id:=(l.idxOf (qfa x):Nat)) h2 rfl rfl rfl
   (fun m1 fr=>A53 (h2.app fr) (by rw[fr.get _ (by simp) (by simp)];exact (by simp (disch:=(first | assumption | omega | (simp only[qab,qai,qad,qae];first | done | omega))) only[qeI,qey,qev,qdb,qdF];first | done | rfl)) (by rw[fr.get _ (by simp) (by simp)];exact (by simp (disch:=(first | assumption | omega | (simp only[qab,qai,qad,qae];first | done | omega))) only[qeI,qey,qev,qdb,qdF];first | done | rfl)) hx hl hmo)
  refine ⟨m',F',?_,by rw[qmk,qal hx];exact k1,Fr.trans (f2.mono (by simp)) k2 fun _ h=>.inl h,Gr.trans f2.len (Gr.refl m F) k3⟩
  rw[T33,qmk,qal hx]
  repeat ((with_reducible (first | apply bs | apply bsy));(focus (first | (simp (disch:=(first | assumption | omega | (simp only[qab,qai,qad,qae];first | done | omega))) only[LLb,beq_self_eq_true,qcN,oBs,Sh.size,qa5,qbK,Nat.reduceAdd,Nat.reduceLeDiff,qak,qiQ,ql6,e50];first | done | rfl) | rfl));try dsimp only)
  rw[qdW]
  repeat ((with_reducible (first | apply bs | apply bsy));(focus (first | (simp (disch:=(first | assumption | omega | (simp only[qab,qai,qad,qae];first | done | omega))) only[LLb,beq_self_eq_true,qcN,oBs,Sh.size,qa5,qbK,Nat.reduceAdd,Nat.reduceLeDiff,qak,qiQ,ql6,qHI,hd];first | done | rfl) | rfl));try dsimp only)
  rw[qcC,qdW]
  repeat ((with_reducible (first | apply bs | apply bsy));(focus (first | (simp (disch:=(first | assumption | omega | (simp only[qab,qai,qad,qae];first | done | omega))) only[LLb,beq_self_eq_true,qcN,oBs,Sh.size,qa5,qbK,Nat.reduceAdd,Nat.reduceLeDiff,qak,e52];first | done | rfl) | rfl));try dsimp only)
 ·have hd:decide (0<=x/\x<=2147483647)=false:=qa7 hx
  refine ⟨_,F,?_,by rw[qmk,qah hx];exact h2,f2.mono (by simp),Gr.refl _ _⟩
  rw[T33,qmk,qah hx]
  repeat ((with_reducible (first | apply bs | apply bsy));(focus (first | (simp (disch:=(first | assumption | omega | (simp only[qab,qai,qad,qae];first | done | omega))) only[LLb,beq_self_eq_true,qcN,oBs,Sh.size,qa5,qbK,Nat.reduceAdd,Nat.reduceLeDiff,qak,qiQ,ql6,e50];first | done | rfl) | rfl));try dsimp only)
  rw[qdW]
  repeat ((with_reducible (first | apply bs | apply bsy));(focus (first | (simp (disch:=(first | assumption | omega | (simp only[qab,qai,qad,qae];first | done | omega))) only[LLb,beq_self_eq_true,qcN,oBs,Sh.size,qa5,qbK,Nat.reduceAdd,Nat.reduceLeDiff,qak,qiQ,ql6,qHI,hd];first | done | rfl) | rfl));try dsimp only)
  rw[qcS,qfw]
def qkT (a:Nat) (l:List ND) (v k:Int):Bool:=decide (0<=k/\k < l.length) && decide (v < abv a (l.getD k.toNat ⟨0,[],0⟩))
def qmn (ar:List Int) (l:List ND) (v:Int) (ks:List Int):(Int×Int)×List ND:=
 if 0<=v/\v < ar.length/\(ks.length:Int)=ar.getD v.toNat 0/\ks.all (qkT ar.length l v)=true then (((qiZ l v ks).1,0),(qiZ l v ks).2) else ((0,1),l)
theorem A55 {z:Bool} {o:Own} {ar:List Int} {b1 b2:Nat} {k v:Int} (h:St8 m s F (IA z o ar) most l) (h1:m.get b1=some (Ent.obj true [.ptr s 0])) (h2:m.get b2=some (Ent.obj true [.int .i64 v])) :
  ∃ m',AC cfg 97 [.int .i64 k,.ptr b1 0,.ptr b2 0] m=some (.bool (!qkT ar.length l v k),m')/\Fr m m' []:=by
 have e56:=A56 h k
 have hl1:=qbz h1
 have hl2:=qbz h2
 by_cases hk:0<=k/\k < l.length
 ·have hd:decide (0<=k/\k < l.length)=true:=qa6 hk
  obtain ⟨i,rfl⟩:=qc0 hk.1
  have hi:i < l.length:=by omega
  obtain ⟨m',e57,f⟩:=A57 h hi
  refine ⟨m',?_,f⟩
  have h2':m'.get b2=some (Ent.obj true [.int .i64 v]):=(f.get _ hl2 (by simp)).trans h2
  rw[T97]
  repeat ((with_reducible (first | apply bs | apply bsy));(focus (first | (simp (disch:=(first | assumption | omega | (simp only[qab,qai,qad,qae];first | done | omega))) only[LLb,beq_self_eq_true,qcN,oBs,Sh.size,qa5,qbK,Nat.reduceAdd,Nat.reduceLeDiff,qak,h1,e56];first | done | rfl) | rfl));try dsimp only)
  rw[hd,qcC,qdW]
  repeat ((with_reducible (first | apply bs | apply bsy));(focus (first | (simp (disch:=(first | assumption | omega | (simp only[qab,qai,qad,qae];first | done | omega))) only[LLb,beq_self_eq_true,qcN,oBs,Sh.size,qa5,qbK,Nat.reduceAdd,Nat.reduceLeDiff,qak,h1,h2,e57];first | done | rfl) | rfl));try dsimp only)
  rw[qh0 (by simp only[qea,h2',qd5,oBs];rfl)]
  repeat ((with_reducible (first | apply bs | apply bsy));(focus (first | (simp (disch:=(first | assumption | omega | (simp only[qab,qai,qad,qae];first | done | omega))) only[LLb,beq_self_eq_true,qcN,oBs,Sh.size,qa5,qbK,Nat.reduceAdd,Nat.reduceLeDiff,qak];first | done | rfl) | rfl));try dsimp only)
  rw[qkT,hd,qdx,qaQ,qaa,qam hi,qaP]
  congr 3
  rw[<- decide_not]
  exact qbP.2 (by omega)
 ·have hd:decide (0<=k/\k < l.length)=false:=qa7 hk
  refine ⟨m,?_,Fr.refl _ _⟩
  rw[T97]
  repeat ((with_reducible (first | apply bs | apply bsy));(focus (first | (simp (disch:=(first | assumption | omega | (simp only[qab,qai,qad,qae];first | done | omega))) only[LLb,beq_self_eq_true,qcN,oBs,Sh.size,qa5,qbK,Nat.reduceAdd,Nat.reduceLeDiff,qak,h1,e56];first | done | rfl) | rfl));try dsimp only)
  rw[hd,qcS,qfw,qh0 rfl,qkT,hd,Bool.false_and,qcS]
theorem W71 {z:Bool} {o:Own} {ks:List Int} {g:Nat} {caps:List AV} {p:Int->Bool} (hlen:ks.length<=100000) (h1:((cfg.lib g).isNone && (cfg.libm g).isNone)=true) (h2:cfg.inl 145 g=true) (h3:cfg.thaw 145 g=false) (m0:Mem)
  (hc:∀ m1 k,Fr m0 m1 []->∃ m',AC cfg g (.int .i64 k::caps) m1=some (.bool (p k),m')/\Fr m1 m' []):∀ (j i:Nat) (m1:Mem),i+j=ks.length->Fr m0 m1 [] ->
  ∃ m' v,qk7 (IA z o ks) (.fn g caps) (.int .i64 ks.length) (.int .i64 i) m1 (qk3 (qbw cfg.P f145.results.toList))=some (.int .i64 v,m')/\decide (v≥0)=(ks.drop i).any p/\Fr m0 m' []
 | 0,i,m1,h,f=>by
  refine ⟨m1,-1,?_,?_,f⟩
  ·rw[qnm,qaU,oBs,qap,qah (by omega),qtE]
  ·rw[qbc (by omega)];rfl
 | j+1,i,m1,h,f=>by
  have hi:i < ks.length:=by omega
  obtain ⟨m2,e,f2⟩:=hc m1 ks[i] f
  have f3:Fr m0 m2 []:=Fr.trans f f2 fun x hx=>by cases hx
  have e0:qk7 (IA z o ks) (.fn g caps) (.int .i64 ks.length) (.int .i64 i) m1 (qk3 (qbw cfg.P f145.results.toList)) =
    ifA (.bool (p ks[i])) (some (.int .i64 i,m2)) (qk7 (IA z o ks) (.fn g caps) (.int .i64 ks.length) (.int .i64 (i+1:Nat)) m2 (qk3 (qbw cfg.P f145.results.toList))):=by
   rw[qnm,qaU,oBs,qap,qal (by omega),qeN hi,oBs,qbs,oBs,show qlv (.fn g caps)=some (g,caps) from rfl,oBs,qft h1 h2 h3,List.singleton_append,e,oBs,qsa,qbM (by omega),oBs]
  rw[e0,qbr hi,List.any_cons]
  cases hp:p ks[i] with
  | true=>
   rw[qfw]
   exact ⟨m2,i,rfl,by simp,f3⟩
  | false=>
   rw[qdW]
   obtain ⟨m',v,e1,e2,e3⟩:=W71 hlen h1 h2 h3 m0 hc j (i+1) m2 (by omega) f3
   exact ⟨m',v,e1,by rw[e2,Bool.false_or],e3⟩
theorem A47 {z:Bool} {o:Own} {ks:List Int} {g:Nat} {caps:List AV} {p:Int->Bool} (hlen:ks.length<=100000) (h1:((cfg.lib g).isNone && (cfg.libm g).isNone)=true) (h2:cfg.inl 145 g=true) (h3:cfg.thaw 145 g=false)
  (hc:∀ m1 k,Fr m m1 []->∃ m',AC cfg g (.int .i64 k::caps) m1=some (.bool (p k),m')/\Fr m1 m' []):∃ m',AC cfg 92 [IA z o ks,.fn g caps] m=some (.bool (ks.any p),m')/\Fr m m' []:=by
 obtain ⟨m',v,e1,e2,e3⟩:=W71 (z:=z) (o:=o) hlen h1 h2 h3 m hc ks.length 0 m (by omega) (Fr.refl _ _)
 refine ⟨m',?_,e3⟩
 rw[T92,qIe,qeb,oBs,show (AV.int .i64 0)=.int .i64 ((0:Nat):Int) from rfl,e1,oBs,show ((0:Nat):Int)=0 from rfl]
 rw[qdD,oBs,e2,qbk]
theorem A58 {z:Bool} {o:Own} {ar:List Int} {b1 b2 b3:Nat} {v:Int} {kz:Bool} {ko:Own} {ks:List Int} (h:St8 m s F (IA z o ar) most l) (h1:m.get b1=some (Ent.obj true [.ptr s 0])) (h2:m.get b2=some (Ent.obj true [.int .i64 v])) (h3:m.get b3=some (Ent.obj true [IA kz ko ks]))
  (hne:ks≠[]) (hz:kz=false) (hn:(qeq v ks).ok) (hl:(l.length:Int) < most) (hmo:most<=100000) :
  ∃ m' F',AC cfg 98 [.ptr b1 0,.ptr b2 0,.ptr b3 0] m=some (.int .i64 (qiZ l v ks).1,m')/\St8 m' s F' (IA z o ar) most (qiZ l v ks).2/\Fr m m' F/\Gr m F F':=by
 subst hz
 have hkl:ks.length<=64:=by
  rcases hn with ⟨_,h2,_⟩ | ⟨_,_,_,_,h5⟩
  ·exact absurd h2 hne
  ·exact h5
 have hcl:clA false ks=IA false .no ks:=by unfold clA;rw[qah (by simp),qah hne]
 have c49:=fun m=>qG3 false ko ks (by omega) m
 obtain ⟨m',F',e,k⟩:=A59 h hne hn (z:=false) rfl (.inl rfl) hl hmo
 refine ⟨m',F',?_,k⟩
 rw[T98]
 repeat ((with_reducible (first | apply bs | apply bsy));(focus (first | (simp (disch:=(first | assumption | omega | (simp only[qab,qai,qad,qae];first | done | omega))) only[LLb,beq_self_eq_true,qcN,oBs,Sh.size,qa5,qbK,Nat.reduceAdd,Nat.reduceLeDiff,qak,h1,h2,h3,c49,hcl];first | done | rfl) | rfl));try dsimp only)
 rw[qh0 (by simp only[qea,h1,qd5,oBs];rfl),qh0 (by simp only[qea,h2,qd5,oBs];rfl)]
 repeat ((with_reducible (first | apply bs | apply bsy));(focus (first | (simp (disch:=(first | assumption | omega | (simp only[qab,qai,qad,qae];first | done | omega))) only[LLb,beq_self_eq_true,qcN,oBs,Sh.size,qa5,qbK,Nat.reduceAdd,Nat.reduceLeDiff,qak,e];first | done | rfl) | rfl));try dsimp only)
theorem qvc (ks:List Int) (p:Int->Bool):ks.any (fun k=>!p k) = !ks.all p:=by
 induction ks with
 | nil=>rfl
 | cons k ks ih=>rw[List.any_cons,qeR,ih,Bool.not_and]
theorem qvo (z:Bool) (o:Own) (es:List AV) (m:Mem):qf8 none none m (.lst none z o es)=some (.ptr m.length 0,m++[some (Ent.obj true [.lst none z o es])]):=rfl
theorem A17 {z:Bool} {o:Own} {ar:List Int} {kz:Bool} {ko:Own} {ks:List Int} (h:St8 m s F (IA z o ar) most l) (v:Int) (hz:kz=true->ks=[]) (har:∀ a∈ar,1<=a/\a<=64) (harl:ar.length<=16) (hkl:ks.length<=1000) (hl:(l.length:Int) < most) (hmo:most<=100000) :
  ∃ m' F',AC cfg 34 [.ptr s 0,.int .i64 v,IA kz ko ks] m=some (.tup [.int .i64 (qmn ar l v ks).1.1,.int .i64 (qmn ar l v ks).1.2],m')/\St8 m' s F' (IA z o ar) most (qmn ar l v ks).2/\Fr m m' F/\Gr m F F':=by
 have f3:Fr m (((m++[some (Ent.obj true [.ptr s 0])])++[some (Ent.obj true [.int .i64 v])])++[some (Ent.obj true [IA kz ko ks])]) []:=((Fr.app m _ _).snoc _).snoc _
 have h3:=h.app f3
 have e50:=A50 h3 (by omega)
 have hs:∃ na p,Mem.get m s=some (Ent.obj true [IA z o ar,na,.mref p,.int .i64 most]):=by
  obtain ⟨p,na,T,h,rfl⟩:=h
  exact ⟨na,p,h.hs⟩
 obtain ⟨na,p,hs⟩:=hs
 have hsl:=qbz hs
 have bad:¬ (0<=v/\v < ar.length/\(ks.length:Int)=ar.getD v.toNat 0/\ks.all (qkT ar.length l v)=true)->qmn ar l v ks=((0,1),l):=fun hb=>by rw[qmn,qah hb]
 by_cases hv0:v < 0
 ·refine ⟨_,F,?_,by rw[bad (by omega)];exact h3,f3.mono (by simp),Gr.refl _ _⟩
  rw[T34,bad (by omega)]
  repeat ((with_reducible (first | apply bs | apply bsy));(focus (first | (simp (disch:=(first | assumption | omega | (simp only[qab,qai,qad,qae];first | done | omega))) only[LLb,beq_self_eq_true,qcN,oBs,Sh.size,qa5,qbK,Nat.reduceAdd,Nat.reduceLeDiff,qak,qiQ,ql6,qvo,e50];first | done | rfl) | rfl));try dsimp only)
  rw[qdW]
  repeat ((with_reducible (first | apply bs | apply bsy));(focus (first | (simp (disch:=(first | assumption | omega | (simp only[qab,qai,qad,qae];first | done | omega))) only[LLb,beq_self_eq_true,qcN,oBs,Sh.size,qa5,qbK,Nat.reduceAdd,Nat.reduceLeDiff,qak];first | done | rfl) | rfl));try dsimp only)
  rw[qap,qal hv0]
 by_cases hv1:v≥ar.length
 ·refine ⟨_,F,?_,by rw[bad (by omega)];exact h3,f3.mono (by simp),Gr.refl _ _⟩
  rw[T34,bad (by omega)]
  repeat ((with_reducible (first | apply bs | apply bsy));(focus (first | (simp (disch:=(first | assumption | omega | (simp only[qab,qai,qad,qae];first | done | omega))) only[LLb,beq_self_eq_true,qcN,oBs,Sh.size,qa5,qbK,Nat.reduceAdd,Nat.reduceLeDiff,qak,qiQ,ql6,qvo,e50];first | done | rfl) | rfl));try dsimp only)
  rw[qdW]
  repeat ((with_reducible (first | apply bs | apply bsy));(focus (first | (simp (disch:=(first | assumption | omega | (simp only[qab,qai,qad,qae];first | done | omega))) only[LLb,beq_self_eq_true,qcN,oBs,Sh.size,qa5,qbK,Nat.reduceAdd,Nat.reduceLeDiff,qak];first | done | rfl) | rfl));try dsimp only)
  rw[qap,qah hv0]
  repeat ((with_reducible (first | apply bs | apply bsy));(focus (first | (simp (disch:=(first | assumption | omega | (simp only[qab,qai,qad,qae];first | done | omega))) only[LLb,beq_self_eq_true,qcN,oBs,Sh.size,qa5,qbK,Nat.reduceAdd,Nat.reduceLeDiff,qak,hs];first | done | rfl) | rfl));try dsimp only)
  rw[qap,qal hv1]
 obtain ⟨i,rfl⟩:=qc0 (by omega:0<=v)
 have hi:i < ar.length:=by omega
 have hix:=qeN (z:=z) (o:=o) (k:=.i64) hi
 have hai:ar.getD ((i:Int).toNat) 0=ar[i]:=by rw[qaQ,qaa,qam hi,qaP]
 have hab:=har ar[i] (qaJ hi)
 by_cases hk:(ks.length:Int)=ar[i]
 case neg=>
  refine ⟨_,F,?_,by rw[bad (by rw[hai];omega)];exact h3,f3.mono (by simp),Gr.refl _ _⟩
  rw[T34,bad (by rw[hai];omega)]
  repeat ((with_reducible (first | apply bs | apply bsy));(focus (first | (simp (disch:=(first | assumption | omega | (simp only[qab,qai,qad,qae];first | done | omega))) only[LLb,beq_self_eq_true,qcN,oBs,Sh.size,qa5,qbK,Nat.reduceAdd,Nat.reduceLeDiff,qak,qiQ,ql6,qvo,e50];first | done | rfl) | rfl));try dsimp only)
  rw[qdW]
  repeat ((with_reducible (first | apply bs | apply bsy));(focus (first | (simp (disch:=(first | assumption | omega | (simp only[qab,qai,qad,qae];first | done | omega))) only[LLb,beq_self_eq_true,qcN,oBs,Sh.size,qa5,qbK,Nat.reduceAdd,Nat.reduceLeDiff,qak];first | done | rfl) | rfl));try dsimp only)
  rw[qap,qah hv0]
  repeat ((with_reducible (first | apply bs | apply bsy));(focus (first | (simp (disch:=(first | assumption | omega | (simp only[qab,qai,qad,qae];first | done | omega))) only[LLb,beq_self_eq_true,qcN,oBs,Sh.size,qa5,qbK,Nat.reduceAdd,Nat.reduceLeDiff,qak,hs];first | done | rfl) | rfl));try dsimp only)
  rw[qap,qah hv1]
  repeat ((with_reducible (first | apply bs | apply bsy));(focus (first | (simp (disch:=(first | assumption | omega | (simp only[qab,qai,qad,qae];first | done | omega))) only[LLb,beq_self_eq_true,qcN,oBs,Sh.size,qa5,qbK,Nat.reduceAdd,Nat.reduceLeDiff,qak,hs,hix];first | done | rfl) | rfl));try dsimp only)
  rw[qap,qal hk]
 have hne:ks≠[]:=fun e=>by rw[e] at hk;simp at hk;omega
 have hzf:kz=false:=by cases kz with
  | false=>rfl
  | true=>exact absurd (hz rfl) hne
 obtain ⟨m4,e47,f4⟩:=A47 (m:=(((m++[some (Ent.obj true [.ptr s 0])])++[some (Ent.obj true [.int .i64 i])])++[some (Ent.obj true [IA kz ko ks])])) (z:=kz) (o:=ko) (ks:=ks) (g:=97) (caps:=[.ptr m.length 0,.ptr (m.length+1) 0]) (p:=fun k=>!qkT ar.length l i k) (by omega) rfl rfl rfl
  (fun m1 k fr=>A55 (h3.app fr) (by rw[fr.get _ (by simp) (by simp)];exact (by simp (disch:=(first | assumption | omega | (simp only[qab,qai,qad,qae];first | done | omega))) only[qeI,qey,qev,qdb,qdF];first | done | rfl)) (by rw[fr.get _ (by simp) (by simp)];exact (by simp (disch:=(first | assumption | omega | (simp only[qab,qai,qad,qae];first | done | omega))) only[qeI,qey,qev,qdb,qdF];first | done | rfl)))
 rw[qvc] at e47
 have h4:=h3.app f4
 have f34:Fr m m4 []:=Fr.trans f3 f4 fun x hx=>by cases hx
 have g1:m4.get m.length=some (Ent.obj true [.ptr s 0]):=by rw[f4.get _ (by simp) (by simp)];exact (by simp (disch:=(first | assumption | omega | (simp only[qab,qai,qad,qae];first | done | omega))) only[qeI,qey,qev,qdb,qdF];first | done | rfl)
 have g2:m4.get (m.length+1)=some (Ent.obj true [.int .i64 i]):=by rw[f4.get _ (by simp) (by simp)];exact (by simp (disch:=(first | assumption | omega | (simp only[qab,qai,qad,qae];first | done | omega))) only[qeI,qey,qev,qdb,qdF];first | done | rfl)
 have g3:m4.get (m.length+1+1)=some (Ent.obj true [IA kz ko ks]):=by rw[f4.get _ (by simp) (by simp)];exact (by simp (disch:=(first | assumption | omega | (simp only[qab,qai,qad,qae];first | done | omega))) only[qeI,qey,qev,qdb,qdF];first | done | rfl)
 by_cases ha:ks.all (qkT ar.length l i)=true
 case neg=>
  have ha':ks.all (qkT ar.length l i)=false:=by simpa using ha
  refine ⟨_,F,?_,by rw[bad (by rw[ha'];simp)];exact h4,f34.mono (by simp),Gr.refl _ _⟩
  rw[T34,bad (by rw[ha'];simp)]
  repeat ((with_reducible (first | apply bs | apply bsy));(focus (first | (simp (disch:=(first | assumption | omega | (simp only[qab,qai,qad,qae];first | done | omega))) only[LLb,beq_self_eq_true,qcN,oBs,Sh.size,qa5,qbK,Nat.reduceAdd,Nat.reduceLeDiff,qak,qiQ,ql6,qvo,e50];first | done | rfl) | rfl));try dsimp only)
  rw[qdW]
  repeat ((with_reducible (first | apply bs | apply bsy));(focus (first | (simp (disch:=(first | assumption | omega | (simp only[qab,qai,qad,qae];first | done | omega))) only[LLb,beq_self_eq_true,qcN,oBs,Sh.size,qa5,qbK,Nat.reduceAdd,Nat.reduceLeDiff,qak];first | done | rfl) | rfl));try dsimp only)
  rw[qap,qah hv0]
  repeat ((with_reducible (first | apply bs | apply bsy));(focus (first | (simp (disch:=(first | assumption | omega | (simp only[qab,qai,qad,qae];first | done | omega))) only[LLb,beq_self_eq_true,qcN,oBs,Sh.size,qa5,qbK,Nat.reduceAdd,Nat.reduceLeDiff,qak,hs];first | done | rfl) | rfl));try dsimp only)
  rw[qap,qah hv1]
  repeat ((with_reducible (first | apply bs | apply bsy));(focus (first | (simp (disch:=(first | assumption | omega | (simp only[qab,qai,qad,qae];first | done | omega))) only[LLb,beq_self_eq_true,qcN,oBs,Sh.size,qa5,qbK,Nat.reduceAdd,Nat.reduceLeDiff,qak,hs,hix];first | done | rfl) | rfl));try dsimp only)
  rw[qap,qah (by omega)]
  repeat ((with_reducible (first | apply bs | apply bsy));(focus (first | (simp (disch:=(first | assumption | omega | (simp only[qab,qai,qad,qae];first | done | omega))) only[LLb,beq_self_eq_true,qcN,oBs,Sh.size,qa5,qbK,Nat.reduceAdd,Nat.reduceLeDiff,qak,e47];first | done | rfl) | rfl));try dsimp only)
  rw[ha',qcS,qfw]
 have good:qmn ar l i ks=(((qiZ l i ks).1,0),(qiZ l i ks).2):=by rw[qmn,qal ⟨by omega,by omega,by rw[hai];exact hk,ha⟩]
 have hn:(qeq i ks).ok:=by
  refine .inr ⟨by simp only[qeq];omega,by simp only[qeq];omega,rfl,fun k hk'=>?_,by simp only[qeq];omega⟩
  have:=qaV.1 ha k hk'
  unfold qkT at this
  simp only[qay,qcI] at this
  omega
 obtain ⟨m',F',e52,k1,k2,k3⟩:=A52 (g:=98) (caps:=[.ptr m.length 0,.ptr (m.length+1) 0,.ptr (m.length+1+1) 0]) (id:=(qiZ l i ks).1) (l':=(qiZ l i ks).2) h4 rfl rfl rfl
  (fun m1 fr=>A58 (h4.app fr) (by rw[fr.get _ (qbz g1) (by simp)];exact g1) (by rw[fr.get _ (qbz g2) (by simp)];exact g2) (by rw[fr.get _ (qbz g3) (by simp)];exact g3) hne hzf hn hl hmo)
 refine ⟨m',F',?_,by rw[good];exact k1,Fr.trans (f34.mono (by simp)) k2 fun _ h=>.inl h,Gr.trans f34.len (Gr.refl m F) k3⟩
 rw[T34,good]
 repeat ((with_reducible (first | apply bs | apply bsy));(focus (first | (simp (disch:=(first | assumption | omega | (simp only[qab,qai,qad,qae];first | done | omega))) only[LLb,beq_self_eq_true,qcN,oBs,Sh.size,qa5,qbK,Nat.reduceAdd,Nat.reduceLeDiff,qak,qiQ,ql6,qvo,e50];first | done | rfl) | rfl));try dsimp only)
 rw[qdW]
 repeat ((with_reducible (first | apply bs | apply bsy));(focus (first | (simp (disch:=(first | assumption | omega | (simp only[qab,qai,qad,qae];first | done | omega))) only[LLb,beq_self_eq_true,qcN,oBs,Sh.size,qa5,qbK,Nat.reduceAdd,Nat.reduceLeDiff,qak];first | done | rfl) | rfl));try dsimp only)
 rw[qap,qah hv0]
 repeat ((with_reducible (first | apply bs | apply bsy));(focus (first | (simp (disch:=(first | assumption | omega | (simp only[qab,qai,qad,qae];first | done | omega))) only[LLb,beq_self_eq_true,qcN,oBs,Sh.size,qa5,qbK,Nat.reduceAdd,Nat.reduceLeDiff,qak,hs];first | done | rfl) | rfl));try dsimp only)
 rw[qap,qah hv1]
 repeat ((with_reducible (first | apply bs | apply bsy));(focus (first | (simp (disch:=(first | assumption | omega | (simp only[qab,qai,qad,qae];first | done | omega))) only[LLb,beq_self_eq_true,qcN,oBs,Sh.size,qa5,qbK,Nat.reduceAdd,Nat.reduceLeDiff,qak,hs,hix];first | done | rfl) | rfl));try dsimp only)
 rw[qap,qah (by omega)]
 repeat ((with_reducible (first | apply bs | apply bsy));(focus (first | (simp (disch:=(first | assumption | omega | (simp only[qab,qai,qad,qae];first | done | omega))) only[LLb,beq_self_eq_true,qcN,oBs,Sh.size,qa5,qbK,Nat.reduceAdd,Nat.reduceLeDiff,qak,e47];first | done | rfl) | rfl));try dsimp only)
 rw[ha,qcC,qdW]
 repeat ((with_reducible (first | apply bs | apply bsy));(focus (first | (simp (disch:=(first | assumption | omega | (simp only[qab,qai,qad,qae];first | done | omega))) only[LLb,beq_self_eq_true,qcN,oBs,Sh.size,qa5,qbK,Nat.reduceAdd,Nat.reduceLeDiff,qak,g1,e52];first | done | rfl) | rfl));try dsimp only)
end
end Go.Ab

/- Diagrams: what a store's nodes stand for; equal meanings, equal nodes. Plain Lean, no program in sight. -/
namespace Go.Ab
theorem qv9 {α:Type} {l:List α} (h:l.Nodup) {i j:Nat} (hi:i < l.length) (hj:j < l.length) (e:l[i]=l[j]):i=j:=by
 have hp:=List.pairwise_iff_getElem.1 h
 rcases Nat.lt_trichotomy i j with hh | hh | hh
 ·exact absurd e (hp i j hi hj hh)
 ·exact hh
 ·exact absurd e.symm (hp j i hj hi hh)
structure GoodL (ar:List Int) (l:List ND):Prop where
 ok:∀ n∈l,n.ok
 nd:l.Nodup
 var:∀ (i:Nat) (h:i < l.length),0<=l[i].var->l[i].var < ar.length/\(l[i].kids.length:Int)=ar.getD l[i].var.toNat 0
 kid:∀ (i:Nat) (h:i < l.length),0<=l[i].var->∀ k∈l[i].kids,∃ t:Nat,k=t/\t < i/\∀ (ht:t < l.length),l[i].var < abv ar.length l[t]
 dif:∀ (i:Nat) (h:i < l.length),0<=l[i].var->∃ k∈l[i].kids,k≠l[i].kids.headD 0
def sem (l:List ND) (a:Nat->Nat):Nat->Nat->Int
 | 0,_=>0
 | n+1,i=>match l[i]? with
  | none=>0
  | some x=>if x.var < 0 then x.leaf else sem l a n (x.kids.getD (a x.var.toNat) 0).toNat
def S (l:List ND) (a:Nat->Nat) (i:Nat):Int:=sem l a (i+1) i
def Asg (ar:List Int) (a:Nat->Nat):Prop:=∀ v,v < ar.length->(a v:Int) < ar.getD v 0
def upd (a:Nat->Nat) (v k:Nat):Nat->Nat:=fun w=>if w=v then k else a w
theorem Asg.upd {ar:List Int} {a:Nat->Nat} (h:Asg ar a) {v k:Nat} (hk:(k:Int) < ar.getD v 0):Asg ar (upd a v k):=fun w hw=>by
 unfold Ab.upd
 split
 ·rename_i e;rw[e];exact hk
 ·exact h w hw
section
variable {ar:List Int} {l:List ND}
theorem qjh (g:GoodL ar l) {i:Nat} (hi:i < l.length) (hv:0<=l[i].var) {k:Nat} (hk:(k:Int) < ar.getD l[i].var.toNat 0) :
  ∃ t:Nat,l[i].kids.getD k 0=t/\t < i/\∀ (ht:t < l.length),l[i].var < abv ar.length l[t]:=by
 have hl:=(g.var i hi hv).2
 have hkl:k < l[i].kids.length:=by omega
 rw[qaa,qam hkl,qaP]
 exact g.kid i hi hv _ (qaJ hkl)
theorem qrK (g:GoodL ar l) {a:Nat->Nat} (ha:Asg ar a):∀ (n i m:Nat),i < l.length->i < n->i < m->sem l a n i=sem l a m i
 | 0,i,m,_,h,_=>by omega
 | n+1,i,0,_,_,h=>by omega
 | n+1,i,m+1,hi,_,_=>by
  simp only[sem,qam hi]
  by_cases hv:l[i].var < 0
  ·rw[qal hv,qal hv]
  ·rw[qah hv,qah hv]
   obtain ⟨hv1,hv2⟩:=g.var i hi (by omega)
   obtain ⟨t,e,ht,_⟩:=qjh g hi (by omega) (ha l[i].var.toNat (by omega))
   rw[e,qaQ]
   exact qrK g ha n t m (by omega) (by omega) (by omega)
theorem qlj {a:Nat->Nat} {i:Nat} (hi:i < l.length) (hv:l[i].var < 0):S l a i=l[i].leaf:=by
 simp only[S,sem,qam hi,qal hv]
theorem qlk (g:GoodL ar l) {a:Nat->Nat} (ha:Asg ar a) {i:Nat} (hi:i < l.length) (hv:¬ l[i].var < 0):S l a i=S l a (l[i].kids.getD (a l[i].var.toNat) 0).toNat:=by
 obtain ⟨hv1,hv2⟩:=g.var i hi (by omega)
 obtain ⟨t,e,ht,_⟩:=qjh g hi (by omega) (ha l[i].var.toNat (by omega))
 rw[e,qaQ]
 unfold S
 rw[sem]
 simp only[qam hi,qah hv,e,qaQ]
 exact qrK g ha _ _ _ (by omega) (by omega) (by omega)
theorem qu5 (g:GoodL ar l) {a:Nat->Nat} (ha:Asg ar a) {v k:Nat} (hk:(k:Int) < ar.getD v 0):∀ (i:Nat) (hi:i < l.length),(v:Int) < abv ar.length l[i]->S l (upd a v k) i=S l a i:=by
 intro i
 induction i using Nat.strongRecOn with
 | ind i ih=>
  intro hi hv
  by_cases hn:l[i].var < 0
  ·rw[qlj hi hn,qlj hi hn]
  ·rw[abv,qal (by omega)] at hv
   have hne:l[i].var.toNat≠v:=by omega
   have e:upd a v k l[i].var.toNat=a l[i].var.toNat:=by unfold upd;rw[qah hne]
   rw[qlk g (ha.upd hk) hi hn,qlk g ha hi hn,e]
   obtain ⟨hv1,hv2⟩:=g.var i hi (by omega)
   obtain ⟨t,e,ht,h2⟩:=qjh g hi (by omega) (ha l[i].var.toNat (by omega))
   rw[e,qaQ]
   exact ih t ht (by omega) (by have:=h2 (by omega);omega)
theorem qCT (h1:∀ x∈ar,1<=x):Asg ar fun _=>0:=fun v hv=>by
 have:=h1 (ar[v]) (qaJ hv)
 rw[qaa,qam hv,qaP]
 show ((0:Nat):Int) < _
 omega
theorem qEo (g:GoodL ar l) (r:List ND) {a:Nat->Nat} (ha:Asg ar a):∀ (i:Nat),i < l.length->S (l++r) a i=S l a i:=by
 have key:∀ (n i:Nat),i < l.length->i < n->sem (l++r) a n i=sem l a n i:=by
  intro n
  induction n with
  | zero=>intro i _ h;omega
  | succ n ih=>
   intro i hi _
   simp only[sem,qbZ hi,qam hi]
   by_cases hv:l[i].var < 0
   ·rw[qal hv,qal hv]
   ·rw[qah hv,qah hv]
    obtain ⟨hv1,hv2⟩:=g.var i hi (by omega)
    obtain ⟨t,e,ht,_⟩:=qjh g hi (by omega) (ha l[i].var.toNat (by omega))
    rw[e,qaQ]
    exact ih t (by omega) (by omega)
 intro i hi
 exact key _ i hi (by omega)
theorem qzh:GoodL ar []:=⟨by simp,by simp,fun i h=>by simp at h,fun i h=>by simp at h,fun i h=>by simp at h⟩
theorem qvK (g:GoodL ar l) {n:ND} (hn:n.ok) (hne:n∉l) (h1:0<=n.var->n.var < ar.length/\(n.kids.length:Int)=ar.getD n.var.toNat 0/\(∀ k∈n.kids,∃ t:Nat,k=t/\∃ ht:t < l.length,n.var < abv ar.length l[t])/\∃ k∈n.kids,k≠n.kids.headD 0):GoodL ar (l++[n]):=by
 have old:∀ i (h:i < (l++[n]).length),(∃ h':i < l.length,(l++[n])[i]=l[i])\/(i=l.length/\(l++[n])[i]=n):=fun i h=>by
  by_cases hi:i < l.length
  ·exact .inl ⟨hi,List.getElem_append_left hi⟩
  ·have:i=l.length:=by simp at h;omega
   subst this
   exact .inr ⟨rfl,by simp⟩
 refine ⟨fun x hx=>?_,?_,fun i h hv=>?_,fun i h hv k hk=>?_,fun i h hv=>?_⟩
 ·rcases qaW.1 hx with hx | hx
  ·exact g.ok x hx
  ·obtain rfl:x=n:=by simpa using hx
   exact hn
 ·rw[List.nodup_append]
  exact ⟨g.nd,by simp,fun a ha b hb e=>by
   obtain rfl:b=n:=by simpa using hb
   exact hne (e▸ha)⟩
 ·rcases old i h with ⟨h',e⟩ | ⟨_,e⟩
  ·rw[e] at hv ⊢;exact g.var i h' hv
  ·rw[e] at hv ⊢;exact ⟨(h1 hv).1,(h1 hv).2.1⟩
 ·rcases old i h with ⟨h',e⟩ | ⟨hil,e⟩
  ·rw[e] at hv hk ⊢
   obtain ⟨t,a1,a2,a3⟩:=g.kid i h' hv k hk
   refine ⟨t,a1,a2,fun ht=>?_⟩
   rw[List.getElem_append_left (by omega)]
   exact a3 (by omega)
  ·rw[e] at hv hk ⊢
   obtain ⟨t,a1,ht,a3⟩:=(h1 hv).2.2.1 k hk
   refine ⟨t,a1,by omega,fun ht'=>?_⟩
   rw[List.getElem_append_left ht]
   exact a3
 ·rcases old i h with ⟨h',e⟩ | ⟨_,e⟩
  ·rw[e] at hv ⊢;exact g.dif i h' hv
  ·rw[e] at hv ⊢;exact (h1 hv).2.2.2
theorem qnV (n:ND) (l:List ND):∃ r,ins l n=l++r/\r.length<=1/\∃ h:l.idxOf n < (ins l n).length,(ins l n)[l.idxOf n]=n:=by
 unfold ins
 by_cases hm:n∈l
 ·rw[qal hm]
  exact ⟨[],by simp,by simp,List.idxOf_lt_length_of_mem hm,List.getElem_idxOf _⟩
 ·rw[qah hm]
  have e:=qnS hm
  refine ⟨[n],rfl,by simp,by rw[e];simp,?_⟩
  simp[e]
theorem qrd (g:GoodL ar l) {n:ND} (hn:n.ok) (h1:0<=n.var->n.var < ar.length/\(n.kids.length:Int)=ar.getD n.var.toNat 0/\(∀ k∈n.kids,∃ t:Nat,k=t/\∃ ht:t < l.length,n.var < abv ar.length l[t])/\∃ k∈n.kids,k≠n.kids.headD 0):GoodL ar (ins l n):=by
 unfold ins
 split
 ·exact g
 ·rename_i hm;exact qvK g hn hm h1
end
end Go.Ab

/- Tables of diagrams. Plain Lean. -/
namespace Go.Ab
def qbD:List Int->Nat
 | []=>1
 | n::r=>n.toNat * qbD r
def qhl:List Int->Nat->(Nat->Nat)->Nat
 | [],_,_=>0
 | n::r,v,a=>a v * qbD r+qhl r (v+1) a
theorem qlt {ar:List Int} {v:Nat} (hv:v < ar.length):ar.drop v=ar.getD v 0::ar.drop (v+1):=by
 rw[qaa,qam hv,qaP]
 exact qbr hv
theorem qfv {ar:List Int} {v:Nat} (hv:v < ar.length) (a:Nat->Nat):qhl (ar.drop v) v a=a v * qbD (ar.drop (v+1))+qhl (ar.drop (v+1)) (v+1) a:=by
 rw[qlt hv,qhl]
theorem qgr {ar:List Int} {v:Nat} (hv:v < ar.length):qbD (ar.drop v)=(ar.getD v 0).toNat * qbD (ar.drop (v+1)):=by
 rw[qlt hv,qbD]
theorem qnU {ar:List Int} {a:Nat->Nat} (ha:Asg ar a):∀ (d v:Nat),v+d=ar.length->qhl (ar.drop v) v a < qbD (ar.drop v)
 | 0,v,h=>by rw[qbc (by omega)];simp[qhl,qbD]
 | d+1,v,h=>by
  have hv:v < ar.length:=by omega
  have ih:=qnU ha d (v+1) (by omega)
  have hk:=ha v hv
  rw[qfv hv,qgr hv]
  have h2:a v+1<=(ar.getD v 0).toNat:=by omega
  calc a v * qbD (ar.drop (v+1))+qhl (ar.drop (v+1)) (v+1) a < a v * qbD (ar.drop (v+1))+qbD (ar.drop (v+1)):=by omega
   _=(a v+1) * qbD (ar.drop (v+1)):=by rw[qbd,qek]
   _<=_:=qaS _ h2
theorem qvO {ar:List Int} {a:Nat->Nat} {w k:Nat}:∀ (d v:Nat),v+d=ar.length->w < v->qhl (ar.drop v) v (upd a w k)=qhl (ar.drop v) v a
 | 0,v,h,_=>by rw[qbc (by omega)];rfl
 | d+1,v,h,hw=>by
  have hv:v < ar.length:=by omega
  rw[qfv hv,qfv hv,qvO d (v+1) (by omega) (by omega)]
  have:upd a w k v=a v:=by unfold upd;rw[qah (by omega)]
  rw[this]
theorem qrg {ar:List Int} (h1:∀ x∈ar,1<=x):∀ (d v i:Nat),v+d=ar.length->i < qbD (ar.drop v)->∃ a,Asg ar a/\qhl (ar.drop v) v a=i
 | 0,v,i,h,hi=>by
  rw[qbc (by omega)] at hi ⊢
  simp only[qbD] at hi
  exact ⟨_,qCT h1,by simp only[qhl];omega⟩
 | d+1,v,i,h,hi=>by
  have hv:v < ar.length:=by omega
  rw[qgr hv] at hi
  have hpos:0 < qbD (ar.drop (v+1)):=qbG fun e=>by rw[e] at hi;omega
  obtain ⟨a,ha,e⟩:=qrg h1 d (v+1) (i % qbD (ar.drop (v+1))) (by omega) (qcO _ hpos)
  have hk:i / qbD (ar.drop (v+1)) < (ar.getD v 0).toNat:=Nat.div_lt_of_lt_mul (by rw[qaI];exact hi)
  have hdm:=qe6 i (qbD (ar.drop (v+1)))
  generalize i / qbD (ar.drop (v+1))=q at hk hdm
  refine ⟨upd a v q,ha.upd (by omega),?_⟩
  rw[qfv hv,qvO d (v+1) (by omega) (by omega),e]
  have:upd a v q v=q:=by unfold upd;rw[qal rfl]
  rw[this,qaI]
  exact hdm
def part (t:List Int) (n k:Nat):List Int:=(t.drop (k * n)).take n
theorem part_len {t:List Int} {n k a:Nat} (ht:t.length=a * n) (hk:k < a):(part t n k).length=n:=by
 unfold part
 rw[qbn,qdt,ht]
 have:k * n+n<=a * n:=by
  have:=qaS n (show k+1<=a by omega)
  rwa [qbd,qek] at this
 omega
theorem qzA {t:List Int} {n k r:Nat} (hr:r < n):(part t n k).getD r 0=t.getD (k * n+r) 0:=by
 unfold part
 simp only[qaa,qcT,qal hr,qda]
theorem qzB {t:List Int} {n k:Nat}:∀ x∈part t n k,x∈t:=fun x hx=>List.drop_subset _ _ (List.take_subset _ _ hx)
structure TabV (ar:List Int) (l:List ND) (id v:Nat) (t:List Int):Prop where
 len:t.length=qbD (ar.drop v)
 lt:id < l.length
 top:∀ h:id < l.length,(v:Int)<=abv ar.length l[id]
 val:∀ a,Asg ar a->S l a id=t.getD (qhl (ar.drop v) v a) 0
theorem TabV.app {ar:List Int} {l:List ND} {id v:Nat} {t:List Int} (g:GoodL ar l) (h:TabV ar l id v t) (r:List ND):TabV ar (l++r) id v t:=
 ⟨h.len,by have:=h.lt;simp;omega,fun hh=>by rw[List.getElem_append_left h.lt];exact h.top h.lt,fun a ha=>by rw[qEo g r ha id h.lt];exact h.val a ha⟩
section
variable {ar:List Int} {l:List ND}
theorem qpz (g:GoodL ar l) (h1:∀ x∈ar,1<=x/\x<=64) (hal:ar.length<=16) {v:Nat} (hv:v < ar.length) {ks:List Nat} (hl:(ks.length:Int)=ar.getD v 0) (hk:∀ k∈ks,∃ h:k < l.length,(v:Int) < abv ar.length l[k]) (hll:l.length<=100000) :
  ∃ r id,qiZ l v (ks.map Int.ofNat)=(((id:Nat):Int),l++r)/\r.length<=1/\(ks.length=1->r=[])/\GoodL ar (l++r)/\∃ h:id < (l++r).length,(v:Int)<=abv ar.length (l++r)[id]/\∀ a,Asg ar a->S (l++r) a id=S l a (ks.getD (a v) 0):=by
 have hav:=h1 (ar[v]) (qaJ hv)
 have hget:ar.getD v 0=ar[v]:=by rw[qaa,qam hv,qaP]
 rw[hget] at hl
 obtain ⟨k0,kt,rfl⟩:∃ k0 kt,ks=k0::kt:=by
  cases ks with
  | nil=>simp at hl;omega
  | cons k0 kt=>exact ⟨k0,kt,rfl⟩
 rw[qaX,qlB]
 obtain ⟨hk0,hk0v⟩:=hk k0 qaC
 by_cases hall:((Int.ofNat k0::kt.map Int.ofNat).all fun k=>k == Int.ofNat k0)=true
 ·rw[qal hall]
  refine ⟨[],k0,by rw[qav];rfl,by simp,fun _=>rfl,by rw[qav];exact g,by rw[qav];exact hk0,?_,fun a ha=>?_⟩
  ·simp only[qav];omega
  ·have hlt:a v < (k0::kt).length:=by have:=ha v hv;rw[hget] at this;omega
   have:(k0::kt).getD (a v) 0=k0:=by
    rw[qaa,qam hlt,qaP]
    have h2:=qaV.1 hall (Int.ofNat (k0::kt)[a v]) (by rw[<- qaX];exact List.mem_map_of_mem (qaJ hlt))
    exact Int.ofNat.inj (by simpa using h2)
   rw[this,qav]
 ·rw[qah hall]
  have hmem:∀ k∈(Int.ofNat k0::kt.map Int.ofNat),∃ t:Nat,k=t/\∃ ht:t < l.length,(v:Int) < abv ar.length l[t]:=fun k hk'=>by
   rw[<- qaX] at hk'
   obtain ⟨t,ht,rfl⟩:=qbF.1 hk'
   exact ⟨t,rfl,hk t ht⟩
  have hok:(qeq v (Int.ofNat k0::kt.map Int.ofNat)).ok:=by
   refine .inr ⟨by simp only[qeq];omega,by simp only[qeq];omega,rfl,fun k hk'=>?_,?_⟩
   ·obtain ⟨t,rfl,ht,_⟩:=hmem k hk'
    omega
   ·simp only[qeq,qad,qaE]
    simp only[qad] at hl
    omega
  obtain ⟨r,er,hr,hidl,hid⟩:=qnV (qeq v (Int.ofNat k0::kt.map Int.ofNat)) l
  have gi:GoodL ar (ins l (qeq v (Int.ofNat k0::kt.map Int.ofNat))):=by
   refine qrd g hok fun _=>⟨by simp only[qeq];omega,?_,hmem,?_⟩
   ·simp only[qeq,qad,qaE,qaQ]
    rw[hget]
    simpa using hl
   ·simp only[qeq]
    rw[Bool.not_eq_true,List.all_eq_false] at hall
    obtain ⟨k,hk',hne⟩:=hall
    exact ⟨k,hk',by simpa using hne⟩
  rw[er] at gi hidl ⊢
  have hid:(l++r)[l.idxOf (qeq v (Int.ofNat k0::kt.map Int.ofNat))]=qeq v (Int.ofNat k0::kt.map Int.ofNat):=by
   have:∀ (y:List ND) (h:l.idxOf (qeq v (Int.ofNat k0::kt.map Int.ofNat)) < y.length),ins l (qeq v (Int.ofNat k0::kt.map Int.ofNat))=y->y[l.idxOf (qeq v (Int.ofNat k0::kt.map Int.ofNat))]=qeq v (Int.ofNat k0::kt.map Int.ofNat):=fun y h e=>by subst e;exact hid
   exact this _ hidl er
  refine ⟨r,_,rfl,hr,fun hone=>?_,gi,hidl,?_,fun a ha=>?_⟩
  ·exfalso
   have:kt=[]:=by simpa using hone
   rw[this] at hall
   simp at hall
  ·rw[hid,abv,qal (by simp only[qeq];omega)]
   exact qeH _
  ·have e:=qlk gi ha hidl (by rw[hid];simp only[qeq];omega)
   rw[hid] at e
   have hlt:a v < (k0::kt).length:=by have:=ha v hv;rw[hget] at this;omega
   rw[e,show (qeq (↑v) (Int.ofNat k0::kt.map Int.ofNat)).kids=Int.ofNat k0::kt.map Int.ofNat from rfl,show (qeq (↑v) (Int.ofNat k0::kt.map Int.ofNat)).var=v from rfl,qaQ]
   have e2:(Int.ofNat k0::kt.map Int.ofNat).getD (a v) 0=(((k0::kt).getD (a v) 0:Nat):Int):=by
    rw[<- qaX,qaa,qiL,qaa,qam hlt];rfl
   rw[e2,qaQ]
   refine qEo g r ha _ ?_
   rw[qaa,qam hlt,qaP]
   exact (hk _ (qaJ hlt)).1
theorem qsC (g:GoodL ar l) {x:Int} (hx:0<=x/\x<=2147483647):∃ r,ins l (qfa x)=l++r/\r.length<=1/\GoodL ar (l++r)/\TabV ar (l++r) (l.idxOf (qfa x)) ar.length [x]:=by
 obtain ⟨r,er,hr,hidl,hid⟩:=qnV (qfa x) l
 have gi:GoodL ar (ins l (qfa x)):=qrd g (qrm hx) fun h=>by simp[qfa] at h
 rw[er] at gi
 have hidl':l.idxOf (qfa x) < (l++r).length:=by rw[<- er];exact hidl
 have hid':(l++r)[l.idxOf (qfa x)]=qfa x:=by
  have:∀ (y:List ND) (h:l.idxOf (qfa x) < y.length),ins l (qfa x)=y->y[l.idxOf (qfa x)]=qfa x:=fun y h e=>by subst e;exact hid
  exact this _ hidl' er
 refine ⟨r,er,hr,gi,⟨by rw[List.drop_length];rfl,hidl',fun _=>?_,fun a ha=>?_⟩⟩
 ·rw[hid',abv,qah (by simp[qfa])];exact qeH _
 ·rw[qlj hidl' (by rw[hid'];simp[qfa]),hid',List.drop_length];rfl
theorem qzQ (g:GoodL ar l) (h1:∀ x∈ar,1<=x/\x<=64) (hal:ar.length<=16) {v:Nat} (hv:v < ar.length) {ks:List Nat} {t:List Int} (hl:(ks.length:Int)=ar.getD v 0) (ht:t.length=qbD (ar.drop v)) (hk:∀ (k:Nat) (h:k < ks.length),TabV ar l ks[k] (v+1) (part t (qbD (ar.drop (v+1))) k)) (hll:l.length<=100000) :
  ∃ r id,qiZ l v (ks.map Int.ofNat)=(((id:Nat):Int),l++r)/\r.length<=1/\(ks.length=1->r=[])/\GoodL ar (l++r)/\TabV ar (l++r) id v t:=by
 have hget:ar.getD v 0=ar[v]:=by rw[qaa,qam hv,qaP]
 obtain ⟨r,id,e,hr,hr1,gi,hidl,htop,hS⟩:=qpz g h1 hal hv hl (fun k hk'=>by
  obtain ⟨i,hi,e⟩:=qbH hk'
  have:=hk i hi
  rw[e] at this
  exact ⟨this.lt,by have:=this.top this.lt;omega⟩) hll
 refine ⟨r,id,e,hr,hr1,gi,ht,hidl,fun _=>htop,fun a ha=>?_⟩
 have hlt:a v < ks.length:=by have:=ha v hv;omega
 have hn:=qnU ha (ar.length - (v+1)) (v+1) (by omega)
 rw[hS a ha,qaa,qam hlt,qaP,(hk _ hlt).val a ha,qzA hn,qfv hv]
end
end Go.Ab

/- The nodes of a diagram in postorder; the reference's list. Plain Lean. -/
namespace Go.Ab
def vis (l:List ND):Nat->Nat->List Nat->List Nat
 | 0,_,out=>out
 | n+1,id,out=>if id∈out then out else match l[id]? with
  | none=>out
  | some x=>(x.kids.foldl (fun o k=>vis l n k.toNat o) out)++[id]
def Vi (l:List ND) (id:Nat) (out:List Nat):List Nat:=vis l (id+1) id out
def Vis (l:List ND) (ks:List Int) (out:List Nat):List Nat:=ks.foldl (fun o k=>Vi l k.toNat o) out
theorem qiT {α β:Type} {f g:β->α->β}:∀ (l:List α) (b:β),(∀ x∈l,∀ b,f b x=g b x)->l.foldl f b=l.foldl g b
 | [],_,_=>rfl
 | x::l,b,h=>by
  rw[qe5,qe5,h x qaC,qiT l _ fun y hy=>h y (qax _ hy)]
section
variable {ar:List Int} {l:List ND}
theorem qkj (g:GoodL ar l) {i:Nat} (hi:i < l.length):∀ k∈l[i].kids,∃ t:Nat,k=t/\t < i:=fun k hk=>by
 by_cases hv:0<=l[i].var
 ·obtain ⟨t,e,ht,_⟩:=g.kid i hi hv k hk
  exact ⟨t,e,ht⟩
 ·rcases g.ok _ (qaJ hi) with ⟨_,h2,_⟩ | ⟨h1,_⟩
  ·rw[h2] at hk;cases hk
  ·omega
theorem qr0 (g:GoodL ar l):∀ (n id m:Nat) (out:List Nat),id < l.length->id < n->id < m->vis l n id out=vis l m id out
 | 0,id,m,_,_,h,_=>by omega
 | n+1,id,0,_,_,_,h=>by omega
 | n+1,id,m+1,out,hi,_,_=>by
  simp only[vis,qam hi]
  rw[qiT l[id].kids out fun k hk b=>?_]
  obtain ⟨t,rfl,ht⟩:=qkj g hi k hk
  exact qr0 g n _ m b (by omega) (by simp;omega) (by simp;omega)
theorem qo4 (g:GoodL ar l) {id:Nat} (hi:id < l.length) (out:List Nat):Vi l id out=if id∈out then out else Vis l l[id].kids out++[id]:=by
 unfold Vi Vis
 rw[vis,qam hi]
 dsimp only
 rw[qiT l[id].kids out fun k hk b=>?_]
 obtain ⟨t,rfl,ht⟩:=qkj g hi k hk
 exact qr0 g id _ _ b (by omega) (by simp;omega) (by simp[Vi])
theorem qjw (k:Int) (ks:List Int) (out:List Nat):Vis l (k::ks) out=Vis l ks (Vi l k.toNat out):=rfl
structure Cl (l:List ND) (out:List Nat):Prop where
 nd:out.Nodup
 lt:∀ j∈out,j < l.length
 cl:∀ i (h:i < out.length) (hj:out[i] < l.length),∀ k∈l[out[i]].kids,k.toNat∈out.take i
theorem qjd:Cl l []:=⟨by simp,by simp,fun i h=>by simp at h⟩
theorem Cl.kids {out:List Nat} (h:Cl l out) {j:Nat} (hj:j∈out) (hl:j < l.length):∀ k∈l[j].kids,k.toNat∈out:=fun k hk=>by
 obtain ⟨i,hi,e⟩:=qbH hj
 subst e
 exact List.take_subset _ _ (h.cl i hi hl k hk)
theorem Cl.snoc {out:List Nat} (h:Cl l out) {id:Nat} (hi:id < l.length) (hn:id∉out) (hk:∀ k∈l[id].kids,k.toNat∈out):Cl l (out++[id]):=by
 refine ⟨?_,fun j hj=>?_,fun i h2 hj k hk2=>?_⟩
 ·rw[List.nodup_append]
  exact ⟨h.nd,by simp,fun a ha b hb e=>by
   obtain rfl:b=id:=by simpa using hb
   exact hn (e▸ha)⟩
 ·rcases qaW.1 hj with hj | hj
  ·exact h.lt j hj
  ·obtain rfl:j=id:=by simpa using hj
   exact hi
 ·by_cases hil:i < out.length
  ·rw[List.take_append_of_le_length (by omega)]
   refine h.cl i hil (h.lt _ (qaJ hil)) k ?_
   have e:(out++[id])[i]=out[i]:=List.getElem_append_left hil
   rw[List.getElem_of_eq rfl] at hk2
   have:∀ (y:Nat) (hy:y < l.length),y=out[i]->k∈l[y].kids->k∈(l[out[i]]'(h.lt _ (qaJ hil))).kids:=fun y hy e h=>by subst e;exact h
   exact this _ hj e hk2
  ·have hie:i=out.length:=by simp at h2;omega
   subst hie
   have e:(out++[id])[out.length]=id:=by simp
   have:∀ (y:Nat) (hy:y < l.length),y=id->k∈l[y].kids->k∈l[id].kids:=fun y hy e h=>by subst e;exact h
   have:=hk k (this _ hj e hk2)
   simpa using this
theorem qfs (g:GoodL ar l):∀ id,id < l.length->∀ out,Cl l out->Cl l (Vi l id out)/\id∈Vi l id out/\∃ r,Vi l id out=out++r/\∀ y∈r,y<=id:=by
 intro id
 induction id using Nat.strongRecOn with
 | ind id ih=>
  intro hi out hc
  have key:∀ (ks:List Int),(∀ k∈ks,∃ t:Nat,k=t/\t < id)->∀ out,Cl l out->Cl l (Vis l ks out)/\(∀ k∈ks,k.toNat∈Vis l ks out)/\∃ r,Vis l ks out=out++r/\∀ y∈r,y < id:=by
   intro ks
   induction ks with
   | nil=>intro _ out hc;exact ⟨hc,by simp,[],by simp[Vis],by simp⟩
   | cons k ks ihk=>
    intro hk out hc
    obtain ⟨t,rfl,ht⟩:=hk k qaC
    obtain ⟨a1,a2,r1,a3,a4⟩:=ih t ht (by omega) out hc
    obtain ⟨b1,b2,r2,b3,b4⟩:=ihk (fun k hk'=>hk k (qax _ hk')) _ a1
    rw[qjw,qaQ]
    refine ⟨b1,fun k hk'=>?_,r1++r2,by rw[b3,a3,qaL],fun y hy=>?_⟩
    ·rcases qa1.1 hk' with rfl | hk'
     ·rw[b3];exact qz6 _ (by simpa using a2)
     ·exact b2 k hk'
    ·rcases qaW.1 hy with hy | hy
     ·have:=a4 y hy;omega
     ·exact b4 y hy
  rw[qo4 g hi]
  by_cases hm:id∈out
  ·rw[qal hm];exact ⟨hc,hm,[],by simp,by simp⟩
  ·rw[qah hm]
   obtain ⟨b1,b2,r,b3,b4⟩:=key l[id].kids (fun k hk=>qkj g hi k hk) out hc
   refine ⟨b1.snoc hi (fun h=>?_) b2,by simp,r++[id],by rw[b3,qaL],fun y hy=>?_⟩
   ·rw[b3] at h
    rcases qaW.1 h with h | h
    ·exact hm h
    ·have:=b4 _ h;omega
   ·rcases qaW.1 hy with hy | hy
    ·have:=b4 y hy;omega
    ·have:y=id:=by simpa using hy
     omega
theorem qu8 (g:GoodL ar l) {id:Nat} (hi:id < l.length):∀ (ks:List Int),(∀ k∈ks,∃ t:Nat,k=t/\t < id)->∀ out,Cl l out->Cl l (Vis l ks out)/\(∀ k∈ks,k.toNat∈Vis l ks out)/\∃ r,Vis l ks out=out++r/\∀ y∈r,y < id:=by
 intro ks
 induction ks with
 | nil=>intro _ out hc;exact ⟨hc,by simp,[],by simp[Vis],by simp⟩
 | cons k ks ihk=>
  intro hk out hc
  obtain ⟨t,rfl,ht⟩:=hk k qaC
  obtain ⟨a1,a2,r1,a3,a4⟩:=qfs g t (by omega) out hc
  obtain ⟨b1,b2,r2,b3,b4⟩:=ihk (fun k hk'=>hk k (qax _ hk')) _ a1
  rw[qjw,qaQ]
  refine ⟨b1,fun k hk'=>?_,r1++r2,by rw[b3,a3,qaL],fun y hy=>?_⟩
  ·rcases qa1.1 hk' with rfl | hk'
   ·rw[b3];exact qz6 _ (by simpa using a2)
   ·exact b2 k hk'
  ·rcases qaW.1 hy with hy | hy
   ·have:=a4 y hy;omega
   ·exact b4 y hy
def nd (l:List ND) (out:List Nat) (id:Nat):ND:=⟨(l.getD id ⟨0,[],0⟩).var,(l.getD id ⟨0,[],0⟩).kids.map (fun k=>((out.idxOf k.toNat:Nat):Int)),(l.getD id ⟨0,[],0⟩).leaf⟩
theorem qeD {id:Nat} (hi:id < l.length):l.getD id ⟨0,[],0⟩=l[id]:=by rw[qaa,qam hi,qaP]
end
end Go.Ab

/- What the nodes of a diagram tell: the variables that its table hangs on, the values of the table. Plain Lean. -/
namespace Go.Ab
section
variable {ar:List Int} {l:List ND}
inductive Rc (l:List ND) (id:Nat):Nat->Prop
 | refl:Rc l id id
 | kid (j:Nat) (k:Int) (h:Rc l id j) (hj:j < l.length) (hk:k∈l[j].kids):Rc l id k.toNat
theorem Rc.trans (g:GoodL ar l) {a b c:Nat} (h:Rc l a b) (k:Rc l b c):Rc l a c:=by
 induction k with
 | refl=>exact h
 | kid j q _ hj hk ih=>exact .kid j q ih hj hk
theorem qyW (g:GoodL ar l):∀ id,id < l.length->∀ out,∀ y∈Vi l id out,y∈out\/Rc l id y:=by
 intro id
 induction id using Nat.strongRecOn with
 | ind id ih=>
  intro hi out y hy
  have key:∀ (ks:List Int),(∀ k∈ks,k∈l[id].kids)->∀ out,∀ y∈Vis l ks out,y∈out\/Rc l id y:=by
   intro ks
   induction ks with
   | nil=>intro _ out y hy;exact .inl hy
   | cons k ks ihk=>
    intro hk out y hy
    obtain ⟨t,e,ht⟩:=qkj g hi k (hk k qaC)
    rw[qjw] at hy
    rcases ihk (fun k hk'=>hk k (qax _ hk')) _ y hy with h | h
    ·rw[e,qaQ] at h
     rcases ih t ht (by omega) out y h with h | h
     ·exact .inl h
     ·refine .inr (Rc.trans g ?_ h)
      have:=Rc.kid id k (Rc.refl (l:=l) (id:=id)) hi (hk k qaC)
      rw[e,qaQ] at this
      exact this
    ·exact .inr h
  rw[qo4 g hi] at hy
  split at hy
  ·exact .inl hy
  ·rcases qaW.1 hy with hy | hy
   ·exact key _ (fun _ h=>h) out y hy
   ·have:y=id:=by simpa using hy
    rw[this];exact .inr .refl
theorem qrZ {a:Nat->Nat} {v k w:Nat} (h:w≠v):upd a v k w=a w:=by unfold upd;rw[qah h]
theorem qiA {a:Nat->Nat} {v k:Nat}:upd a v k v=k:=by unfold upd;rw[qal rfl]
theorem Rc.path (g:GoodL ar l) (h1:∀ x∈ar,1<=x) {id j:Nat} (h:Rc l id j) (hid:id < l.length):∃ y0,Asg ar y0/\∀ (hj:j < l.length) y,Asg ar y->(∀ w:Nat,(w:Int) < abv ar.length l[j]->w < ar.length->y w=y0 w)->S l y id=S l y j:=by
 induction h with
 | refl=>exact ⟨_,qCT h1,fun _ y _ _=>rfl⟩
 | kid j k h hj hk ih=>
  obtain ⟨y0,hy0,hp⟩:=ih
  have hvar:0<=l[j].var:=by
   refine Decidable.byContradiction fun hn=>?_
   rcases g.ok _ (qaJ hj) with ⟨_,h2,_⟩ | ⟨h3,_⟩
   ·rw[h2] at hk;cases hk
   ·omega
  obtain ⟨v1,v2⟩:=g.var j hj hvar
  have hab:abv ar.length l[j]=l[j].var:=by unfold abv;rw[qal hvar]
  obtain ⟨i,hi,e⟩:=qbH hk
  obtain ⟨v,hv⟩:=qc0 hvar
  have hvt:l[j].var.toNat=v:=by omega
  rw[hvt] at v2
  have hia:(i:Int) < ar.getD v 0:=by omega
  refine ⟨upd y0 v i,hy0.upd hia,fun hj' y hy hag=>?_⟩
  obtain ⟨t,et,ht,h2⟩:=g.kid j hj hvar k hk
  have htl:t < l.length:=by omega
  have h3:=h2 htl
  have e1:∀ (q:Nat) (hq:q < l.length),q=k.toNat->abv ar.length l[q]=abv ar.length l[k.toNat]:=fun q hq e=>by subst e;rfl
  have hkt:k.toNat=t:=by rw[et,qaQ]
  have h4:l[j].var < abv ar.length l[k.toNat]:=by rw[<- e1 t htl hkt.symm];exact h3
  have a1:=hp hj y hy fun w hw hwl=>by
   rw[hab] at hw
   rw[hag w (by omega) hwl,qrZ (by omega)]
  rw[a1,qlk g hy hj (by omega),hvt]
  have hyv:y v=i:=by rw[hag v (by omega) (by omega),qiA]
  rw[hyv,qaa,qam hi,qaP,e]
theorem qzm (g:GoodL ar l) {out:List Nat} (hc:Cl l out) {y:Nat->Nat} (hy:Asg ar y):∀ (k:Nat),k∈out->∃ j∈out,∃ hj:j < l.length,l[j].var < 0/\l[j].leaf=S l y k:=by
 intro k
 induction k using Nat.strongRecOn with
 | ind k ih=>
  intro hk
  have hkl:=hc.lt k hk
  by_cases hvar:l[k].var < 0
  ·exact ⟨k,hk,hkl,hvar,(qlj hkl hvar).symm⟩
  ·rw[qlk g hy hkl hvar]
   obtain ⟨v1,v2⟩:=g.var k hkl (by omega)
   obtain ⟨t,e,ht,_⟩:=qjh g hkl (by omega) (hy l[k].var.toNat (by omega))
   have hm:l[k].kids.getD (y l[k].var.toNat) 0∈l[k].kids:=by
    have hq:y l[k].var.toNat < l[k].kids.length:=by have:=hy l[k].var.toNat (by omega);omega
    rw[qaa,qam hq,qaP]
    exact qaJ hq
   have hmo:=hc.kids hk hkl _ hm
   rw[e,qaQ] at hmo ⊢
   exact ih t ht hmo
theorem qsD (g:GoodL ar l) (h1:∀ x∈ar,1<=x) {id:Nat} (hid:id < l.length) {x:Int}:(∃ j∈Vi l id [],∃ hj:j < l.length,l[j].var < 0/\l[j].leaf=x)↔∃ y,Asg ar y/\S l y id=x:=by
 obtain ⟨c1,c2,_⟩:=qfs g id hid [] qjd
 constructor
 ·rintro ⟨j,hj,hjl,hv,e⟩
  have hr:=(qyW g id hid [] j hj).resolve_left (by simp)
  obtain ⟨y0,hy0,hp⟩:=hr.path g h1 hid
  exact ⟨y0,hy0,by rw[hp hjl y0 hy0 fun w _ _=>rfl,qlj hjl hv,e]⟩
 ·rintro ⟨y,hy,e⟩
  obtain ⟨j,hj,hjl,h2,h3⟩:=qzm g c1 hy id c2
  exact ⟨j,hj,hjl,h2,h3.trans e⟩
end
theorem qwu:∀ {a b:List Int},a.Pairwise (· < ·)->b.Pairwise (· < ·)->(∀ x,x∈a↔x∈b)->a=b
 | [],[],_,_,_=>rfl
 | [],y::b,_,_,h=>by have:=(h y).2 qaC;cases this
 | x::a,[],_,_,h=>by have:=(h x).1 qaC;cases this
 | x::a,y::b,ha,hb,h=>by
  rw[qhM] at ha hb
  have hxy:x=y:=by
   rcases qa1.1 ((h x).1 qaC) with e | e
   ·exact e
   ·rcases qa1.1 ((h y).2 qaC) with e' | e'
    ·exact e'.symm
    ·have:=ha.1 y e';have:=hb.1 x e;omega
  subst hxy
  rw[qwu ha.2 hb.2 fun z=>?_]
  constructor
  ·intro hz
   rcases qa1.1 ((h z).1 (qax _ hz)) with e | e
   ·have:=ha.1 z hz;omega
   ·exact e
  ·intro hz
   rcases qa1.1 ((h z).2 (qax _ hz)) with e | e
   ·have:=hb.1 z hz;omega
   ·exact e
end Go.Ab

/- Weights in plain Lean: sums over all assignments in whole numbers; what flows down a diagram. -/
namespace Go.Ab
def qgA (n:Nat) (F:Nat->Nat):Nat:=((List.range n).map F).sum
theorem qox (F:Nat->Nat):qgA 0 F=0:=rfl
theorem qdA (n:Nat) (F:Nat->Nat):qgA (n+1) F=qgA n F+F n:=by
 unfold qgA;rw[List.range_succ,qcA,List.sum_append];simp
theorem qdI {n:Nat} {F G:Nat->Nat} (h:∀ k,k < n->F k=G k):qgA n F=qgA n G:=by
 induction n with
 | zero=>rfl
 | succ n ih=>rw[qdA,qdA,ih fun k hk=>h k (by omega),h n (by omega)]
theorem qjI (c n:Nat) (F:Nat->Nat):qgA n (fun k=>c * F k)=c * qgA n F:=by
 induction n with
 | zero=>rfl
 | succ n ih=>rw[qdA,qdA,ih,qa8]
theorem qkF (c n:Nat) (F:Nat->Nat):qgA n (fun k=>F k * c)=qgA n F * c:=by
 rw[qaI,<- qjI];exact qdI fun k _=>qaI _ _
theorem qrS (n m:Nat) (F:Nat->Nat):qgA (n+m) F=qgA n F+qgA m fun k=>F (n+k):=by
 induction m with
 | zero=>rfl
 | succ m ih=>rw[<- qcD,qdA,qdA,ih,qcD]
theorem qDM {n:Nat} (F:Nat->Nat) {k:Nat} (hk:k < n):F k<=qgA n F:=by
 induction n with
 | zero=>omega
 | succ n ih=>
  rw[qdA]
  by_cases h:k=n
  ·subst h;omega
  ·have:=ih (by omega);omega
theorem qkE (P:Nat) (F:Nat->Nat):∀ a,qgA (a * P) F=qgA a fun k=>qgA P fun r=>F (k * P+r)
 | 0=>by simp[qgA]
 | a+1=>by rw[qbd,qek,qrS,qkE P F a,qdA]
section
variable {ar:List Int} (s:Nat->Nat->Nat)
abbrev ql3 (ar:List Int) (v:Nat):Nat:=(ar.getD v 0).toNat
def Ct (ar:List Int) (s:Nat->Nat->Nat):Nat->Nat->((Nat->Nat)->Nat)->(Nat->Nat)->Nat
 | 0,_,φ,a=>φ a
 | d+1,v,φ,a=>qgA (ql3 ar v) fun k=>s v k * Ct ar s d (v+1) φ (upd a v k)
def SS (ar:List Int) (s:Nat->Nat->Nat) (v:Nat):Nat:=qgA (ql3 ar v) (s v)
def PM (ar:List Int) (s:Nat->Nat->Nat):Nat->Nat->Nat
 | 0,_=>1
 | d+1,v=>SS ar s v * PM ar s d (v+1)
variable {s}
theorem qhc {v k:Nat} (hk:k < ql3 ar v):(k:Int) < ar.getD v 0:=by unfold ql3 at hk;omega
theorem qju {φ ψ:(Nat->Nat)->Nat}:∀ (d v:Nat) (a:Nat->Nat),Asg ar a->(∀ b,Asg ar b->(∀ w,w < v->b w=a w)->φ b=ψ b)->Ct ar s d v φ a=Ct ar s d v ψ a
 | 0,v,a,ha,h=>h a ha fun _ _=>rfl
 | d+1,v,a,ha,h=>by
  refine qdI fun k hk=>?_
  rw[qju d (v+1) (upd a v k) (ha.upd (qhc hk)) fun b hb hw=>h b hb fun w hwv=>(hw w (by omega)).trans (qrZ (by omega))]
theorem qh7 (x:Nat):∀ (d v:Nat) (a:Nat->Nat),Ct ar s d v (fun _=>x) a=PM ar s d v * x
 | 0,v,a=>by simp[Ct,PM]
 | d+1,v,a=>by
  rw[Ct,PM,qdI (G:=fun k=>s v k * (PM ar s d (v+1) * x)) fun k _=>by rw[qh7 x d],qkF,SS,qaO]
theorem qzY {a:Nat->Nat} {v w j k:Nat} (h:v≠w):upd (upd a v j) w k=upd (upd a w k) v j:=by
 funext x
 unfold upd
 by_cases h1:x=v<;>by_cases h2:x=w<;>simp[h1,h2]
 ·subst h1;exact absurd h2 h
 ·intro e;exact absurd e h
 ·intro e;exact absurd e.symm h
theorem qs3 {φ:(Nat->Nat)->Nat} {v j:Nat} (hj:(j:Int) < ar.getD v 0) (h:∀ b,Asg ar b->φ (upd b v j)=φ b):∀ (d v':Nat) (a:Nat->Nat),v < v'->Asg ar a->Ct ar s d v' φ (upd a v j)=Ct ar s d v' φ a
 | 0,v',a,hv,ha=>h a ha
 | d+1,v',a,hv,ha=>by
  refine qdI fun k hk=>?_
  rw[qzY (by omega),qs3 hj h d (v'+1) (upd a v' k) (by omega) (ha.upd (qhc hk))]
theorem qA9 {φ:(Nat->Nat)->Nat} {d v:Nat} {a:Nat->Nat} (ha:Asg ar a) (h:∀ (b:Nat->Nat) (k:Nat),Asg ar b->(k:Int) < ar.getD v 0->φ (upd b v k)=φ b):Ct ar s (d+1) v φ a=SS ar s v * Ct ar s d (v+1) φ a:=by
 rw[Ct,qdI (G:=fun k=>s v k * Ct ar s d (v+1) φ a) fun k hk=>by rw[qs3 (qhc hk) (fun b hb=>h b k hb (qhc hk)) d (v+1) a (by omega) ha],qkF];rfl
theorem qs1 {φ:(Nat->Nat)->Nat} {a:Nat->Nat} (ha:Asg ar a):∀ (u d v:Nat),(∀ (b:Nat->Nat) (w k:Nat),v<=w->w < v+u->Asg ar b->(k:Int) < ar.getD w 0->φ (upd b w k)=φ b)->Ct ar s (u+d) v φ a=PM ar s u v * Ct ar s d (v+u) φ a
 | 0,d,v,h=>by simp[PM]
 | u+1,d,v,h=>by
  rw[show u+1+d=(u+d)+1 by omega,qA9 ha fun b k hb hk=>h b v k (by omega) (by omega) hb hk,qs1 ha u d (v+1) fun b w k h1 h2=>h b w k (by omega) (by omega),PM,qaO,show v+1+u=v+(u+1) by omega]
theorem qli:∀ (u d v:Nat),PM ar s (u+d) v=PM ar s u v * PM ar s d (v+u)
 | 0,d,v=>by simp[PM]
 | u+1,d,v=>by
  rw[show u+1+d=(u+d)+1 by omega,PM,PM,qli u d (v+1),qaO,show v+1+u=v+(u+1) by omega]
variable {l:List ND}
def Hc (ar:List Int) (s:Nat->Nat->Nat) (l:List ND) (c:Int) (k:Nat):Nat:=Ct ar s ar.length 0 (fun a=>if S l a k=c then 1 else 0) fun _=>0
def qDY (ar:List Int) (s:Nat->Nat->Nat) (l:List ND) (h:Nat->Nat):Prop:=∀ (k u:Nat) (hk:k < l.length),l[k].var=u->∃ q:Nat->Nat,(∀ j,j < ql3 ar u->h (l[k].kids.getD j 0).toNat=SS ar s u * q j)/\h k=qgA (ql3 ar u) fun j=>s u j * q j
theorem qEN (g:GoodL ar l) (h1:∀ x∈ar,1<=x) (c:Int):qDY ar s l (Hc ar s l c):=by
 intro k u hk hu
 have ha:=qCT h1
 obtain ⟨hv1,hv2⟩:=g.var k hk (by omega)
 have hul:u < ar.length:=by omega
 have hut:l[k].var.toNat=u:=by omega
 have hab:abv ar.length l[k]=u:=by unfold abv;rw[qal (by omega)];exact hu
 have frm:∀ (i:Nat) (hi:i < l.length) (w:Nat),(w:Int)<=abv ar.length l[i]->w<=ar.length->Hc ar s l c i=PM ar s w 0 * Ct ar s (ar.length - w) w (fun a=>if S l a i=c then 1 else 0) fun _=>0:=fun i hi w hw hwl=>by
  have:=qs1 (s:=s) (φ:=fun a=>if S l a i=c then 1 else 0) ha w (ar.length - w) 0 fun b x j _ hx hb hj=>by
   skip
   rw[qu5 g hb hj i hi (by omega)]
  rw[qar,show w+(ar.length - w)=ar.length by omega] at this
  exact this
 refine ⟨fun j=>PM ar s u 0 * Ct ar s (ar.length - (u+1)) (u+1) (fun a=>if S l a (l[k].kids.getD j 0).toNat=c then 1 else 0) fun _=>0,fun j hj=>?_,?_⟩
 ·obtain ⟨t,e,ht,h2⟩:=qjh g hk (by omega) (k:=j) (by rw[hut];exact qhc hj)
  have h2:=h2 (by omega)
  rw[e,qaQ,frm t (by omega) (u+1) (by omega) (by omega),qli u 1 0]
  simp only[PM,qc1,qar,e,qaQ]
  rw[<- qaO,qaI (SS ar s u)]
 ·rw[frm k hk u (by omega) (by omega),show ar.length - u=(ar.length - (u+1))+1 by omega,Ct,<- qjI]
  refine qdI fun j hj=>?_
  obtain ⟨t,e,ht,h2⟩:=qjh g hk (by omega) (k:=j) (by rw[hut];exact qhc hj)
  have h2:=h2 (by omega)
  have e1:Ct ar s (ar.length - (u+1)) (u+1) (fun a=>if S l a k=c then 1 else 0) (upd (fun _=>0) u j)=Ct ar s (ar.length - (u+1)) (u+1) (fun a=>if S l a t=c then 1 else 0) (upd (fun _=>0) u j):=
   qju _ _ _ (ha.upd (qhc hj)) fun b hb hw=>by
    have:b u=j:=(hw u (by omega)).trans qiA
    rw[qlk g hb hk (by omega),hut,this,e,qaQ]
  dsimp only
  rw[e1,e,qaQ,qs3 (qhc hj) (fun b hb=>by
   skip
   rw[qu5 g hb (qhc hj) t (by omega) (by omega)]) _ _ _ (by omega) ha]
  rw[<- qaO,qaI (PM ar s u 0),qaO]
theorem qEc (c:Int) {k:Nat} (hk:k < l.length) (hv:l[k].var < 0):Hc ar s l c k=if l[k].leaf=c then PM ar s ar.length 0 else 0:=by
 unfold Hc
 have:(fun a:Nat->Nat=>if S l a k=c then (1:Nat) else 0)=fun _=>if l[k].leaf=c then 1 else 0:=by funext a;rw[qlj hk hv]
 rw[this,qh7]
 split<;>simp
theorem qzj (g:GoodL ar l):qDY ar s l fun _=>PM ar s ar.length 0:=by
 intro k u hk hu
 obtain ⟨hv1,_⟩:=g.var k hk (by omega)
 have e:PM ar s ar.length 0=PM ar s u 0 * (SS ar s u * PM ar s (ar.length - (u+1)) (u+1)):=by
  have:=qli (ar:=ar) (s:=s) u ((ar.length - (u+1))+1) 0
  rw[show u+((ar.length - (u+1))+1)=ar.length by omega,qar] at this
  rw[this];rfl
 refine ⟨fun _=>PM ar s u 0 * PM ar s (ar.length - (u+1)) (u+1),fun j _=>?_,?_⟩
 ·dsimp only;rw[e,<- qaO,<- qaO,qaI (PM ar s u 0)]
 ·dsimp only;rw[qkF,e,<- qaO,<- qaO,qaI (PM ar s u 0)];rfl
def qeT (ar:List Int) (s:Nat->Nat->Nat) (n:ND):List (Nat×Nat):=(List.range (ql3 ar n.var.toNat)).map fun j=>((n.kids.getD j 0).toNat,s n.var.toNat j)
def qdY (t:Nat):List (Nat×Nat)->(Nat->Nat)->Nat->Nat
 | [],T=>T
 | p::L,T=>qdY t L (upd T p.1 (T p.1+t * p.2))
theorem qhC (t:Nat) (p:Nat×Nat):∀ (L:List (Nat×Nat)) (T:Nat->Nat),qdY t (L++[p]) T=upd (qdY t L T) p.1 (qdY t L T p.1+t * p.2)
 | [],T=>rfl
 | q::L,T=>by rw[qas,qdY,qhC t p L];rfl
def pot (h T:Nat->Nat) (R:List Nat):Nat:=(R.map fun j=>T j * h j).sum
theorem qmy {h T:Nat->Nat} {j x:Nat}:∀ {R:List Nat},R.Nodup->pot h (upd T j (T j+x)) R=pot h T R+if j∈R then x * h j else 0
 | [],_=>by simp[pot]
 | i::R,hn=>by
  obtain ⟨h1,h2⟩:=qes.1 hn
  have ih:=qmy (h:=h) (T:=T) (j:=j) (x:=x) h2
  unfold pot at ih ⊢
  rw[qaX,qbN,qaX,qbN,ih]
  by_cases hi:i=j
  ·subst hi
   rw[qiA,qah h1,qal qaC,qbd];omega
  ·have hm:(j∈i::R)↔j∈R:=by simp[qa1,show ¬ j=i from fun e=>hi e.symm]
   rw[qrZ hi,qcD]
   congr 2
   by_cases hj:j∈R
   ·rw[qal hj,qal (hm.2 hj)]
   ·rw[qah hj,qah (fun h=>hj (hm.1 h))]
theorem qhB {h:Nat->Nat} {t:Nat} {R:List Nat} (hn:R.Nodup):∀ (L:List (Nat×Nat)) (T:Nat->Nat),(∀ p∈L,p.1∈R)->pot h (qdY t L T) R=pot h T R+t * (L.map fun p=>p.2 * h p.1).sum
 | [],T,_=>by simp[qdY]
 | p::L,T,hL=>by
  rw[qdY,qhB hn L _ fun q hq=>hL q (qax _ hq),qmy hn,qal (hL p qaC),qaX,qbN,qa8,qaO,qcD]
theorem qAO {h T:Nat->Nat}:∀ {R:List Nat} {j:Nat},j∈R->T j * h j<=pot h T R
 | i::R,j,hj=>by
  unfold pot
  rw[qaX,qbN]
  rcases qa1.1 hj with rfl | hj
  ·omega
  ·have:T j * h j<=(R.map fun j=>T j * h j).sum:=qAO (R:=R) hj
   omega
def run (ar:List Int) (s:Nat->Nat->Nat) (l:List ND):List Nat->(Nat->Nat)->List (Int×Nat)
 | [],_=>[]
 | k::R,T=>match l[k]? with
  | none=>[]
  | some n=>if n.var < 0 then (n.leaf,T k)::run ar s l R T else run ar s l R (qdY (T k / SS ar s n.var.toNat) (qeT ar s n) T)
structure Flow (ar:List Int) (s:Nat->Nat->Nat) (l:List ND) (R:List Nat) (T:Nat->Nat) (done:Nat):Prop where
 nd:R.Nodup
 lt:∀ j∈R,j < l.length
 srt:R.Pairwise fun x y=>abv ar.length (l.getD x ⟨0,[],0⟩)<=abv ar.length (l.getD y ⟨0,[],0⟩)
 kids:∀ (j:Nat) (hj:j < l.length),j∈R->0<=l[j].var->∀ k∈l[j].kids,k.toNat∈R
 dvd:∀ (j:Nat) (hj:j < l.length) (v:Nat),j∈R->abv ar.length l[j]=v->PM ar s (ar.length - v) v∣T j
 tot:pot (fun _=>1) T R+done=PM ar s ar.length 0
theorem qnY (g:GoodL ar l) {k:Nat} (hk:k < l.length) (hv:0<=l[k].var):∀ p∈qeT ar s l[k],(p.1:Int)∈l[k].kids/\∃ hp:p.1 < l.length,l[k].var < abv ar.length l[p.1]:=fun p hp=>by
 obtain ⟨j,hj,rfl⟩:=qbF.1 hp
 have hj:=qhc (qfX.1 hj)
 obtain ⟨t,e,ht,h2⟩:=qjh g hk hv hj
 have hl:=(g.var k hk hv).2
 have hjl:j < l[k].kids.length:=by omega
 dsimp only
 rw[e,qaQ]
 refine ⟨?_,by omega,h2 (by omega)⟩
 rw[<- e,qaa,qam hjl];exact qaJ hjl
theorem qvT (k:ND) (h:Nat->Nat):((qeT ar s k).map fun p=>p.2 * h p.1).sum=qgA (ql3 ar k.var.toNat) fun j=>s k.var.toNat j * h (k.kids.getD j 0).toNat:=by
 unfold qeT qgA
 rw[List.map_map];rfl
theorem Flow.inner (g:GoodL ar l) (h0:∀ v,v < ar.length->0 < SS ar s v) {k:Nat} {R:List Nat} {T:Nat->Nat} {done:Nat} (F:Flow ar s l (k::R) T done) {u:Nat} (hk:k < l.length) (hu:l[k].var=u) :
  u < ar.length/\T k / SS ar s u * SS ar s u=T k/\(∀ p∈qeT ar s l[k],p.1∈R)/\k∉R /\
  (∀ (L:List (Nat×Nat)) (p:Nat×Nat) (L':List (Nat×Nat)),qeT ar s l[k]=L++p::L'->qdY (T k / SS ar s u) L T p.1+T k / SS ar s u * p.2<=PM ar s ar.length 0) /\
  Flow ar s l R (qdY (T k / SS ar s u) (qeT ar s l[k]) T) done /\
  ∀ h,qDY ar s l h->pot h T (k::R)=pot h (qdY (T k / SS ar s u) (qeT ar s l[k]) T) R:=by
 obtain ⟨hn1,hn2⟩:=qes.1 F.nd
 obtain ⟨hv1,hv2⟩:=g.var k hk (by omega)
 have hul:u < ar.length:=by omega
 have hut:l[k].var.toNat=u:=by omega
 have hab:abv ar.length l[k]=u:=by unfold abv;rw[qal (by omega)];exact hu
 have hS:=h0 u hul
 have hPM:PM ar s (ar.length - u) u=SS ar s u * PM ar s (ar.length - (u+1)) (u+1):=by
  rw[show ar.length - u=(ar.length - (u+1))+1 by omega];rfl
 obtain ⟨c,hc⟩:=F.dvd k hk u qaC hab
 have htd:T k / SS ar s u=PM ar s (ar.length - (u+1)) (u+1) * c:=by
  rw[hc,hPM,qaO,Nat.mul_div_cancel_left _ hS]
 have htm:T k / SS ar s u * SS ar s u=T k:=by rw[htd,hc,hPM,qaI,<- qaO]
 have hmem:∀ p∈qeT ar s l[k],p.1∈R:=fun p hp=>by
  obtain ⟨a1,hpl,a2⟩:=qnY g hk (by omega) p hp
  have:=F.kids k hk qaC (by omega) _ a1
  rw[qaQ] at this
  rcases qa1.1 this with e | h
  ·exfalso
   have:∀ (x:Nat) (hx:x < l.length),x=k->l[k].var < abv ar.length l[x]->False:=fun x hx e h=>by
    subst e;rw[hab] at h;omega
   exact this _ hpl e a2
  ·exact h
 have hwt:∀ h,qDY ar s l h->T k / SS ar s u * ((qeT ar s l[k]).map fun p=>p.2 * h p.1).sum=T k * h k:=fun h hh=>by
  obtain ⟨q,q1,q2⟩:=hh k u hk hu
  rw[qvT,hut,qdI (G:=fun j=>SS ar s u * (s u j * q j)) fun j hj=>by rw[q1 j hj,<- qaO,qaI (s u j),qaO],qjI,<- q2,<- qaO,htm]
 have hpe:∀ h,qDY ar s l h->pot h T (k::R)=pot h (qdY (T k / SS ar s u) (qeT ar s l[k]) T) R:=fun h hh=>by
  rw[qhB hn2 _ _ hmem,hwt h hh]
  unfold pot
  rw[qaX,qbN,qfI]
 have hM0:∀ v,v<=ar.length->0 < PM ar s (ar.length - v) v:=by
  have:∀ d v,v+d=ar.length->0 < PM ar s d v:=by
   intro d
   induction d with
   | zero=>intro v _;exact Nat.one_pos
   | succ d ih=>intro v hv;exact Nat.mul_pos (h0 v (by omega)) (ih (v+1) (by omega))
  intro v hv;exact this _ v (by omega)
 have hM:=hM0 0 (qdq _)
 rw[Nat.sub_zero] at hM
 have hone:∀ (T':Nat->Nat) (R':List Nat),pot (fun _=>PM ar s ar.length 0) T' R'=pot (fun _=>1) T' R' * PM ar s ar.length 0:=fun T' R'=>by
  unfold pot
  induction R' with
  | nil=>simp
  | cons j R' ih=>rw[qaX,qbN,ih,qaX,qbN,qbd,qc1]
 have htot:pot (fun _=>1) T (k::R)=pot (fun _=>1) (qdY (T k / SS ar s u) (qeT ar s l[k]) T) R:=by
  have:=hpe _ (qzj g)
  rw[hone,hone] at this
  exact Nat.eq_of_mul_eq_mul_right hM this
 refine ⟨hul,htm,hmem,hn1,fun L p L' hL=>?_,⟨hn2,fun j hj=>F.lt j (qax _ hj),(qhM.1 F.srt).2,fun j hj hjR hv q hq=>?_,fun j hj v hjR hv=>?_,?_⟩,hpe⟩
 ·have hp:p.1∈R:=hmem p (by rw[hL];simp)
  have h2:pot (fun _=>1) (qdY (T k / SS ar s u) (L++[p]) T) R<=pot (fun _=>1) (qdY (T k / SS ar s u) (qeT ar s l[k]) T) R:=by
   rw[qhB hn2 _ _ fun q hq=>hmem q (by
     rw[hL];rw[qaW] at hq ⊢;rcases hq with hq | hq
     ·exact .inl hq
     ·exact .inr (by simp at hq;simp[hq])),qhB hn2 _ _ hmem,hL]
   refine Nat.add_le_add_left (qa9 _ ?_) _
   simp only[qcA,qaX,List.sum_append,qbN,qia,List.sum_nil]
   omega
  have h3:=qAO (h:=fun _=>1) (T:=qdY (T k / SS ar s u) (L++[p]) T) hp
  rw[qhC,qiA,qc1] at h3
  have h4:=F.tot
  rw[qhC] at h2
  omega
 ·have:=F.kids j hj (qax _ hjR) hv q hq
  rcases qa1.1 this with e | h
  ·exfalso
   obtain ⟨t,et,ht,h2⟩:=g.kid j hj hv q hq
   have hs:=(qhM.1 F.srt).1 j hjR
   rw[qeD hk,qeD hj] at hs
   have hj2:abv ar.length l[j]=l[j].var:=by unfold abv;rw[qal (by omega)]
   have:∀ (x:Nat) (hx:x < l.length),x=k->l[j].var < abv ar.length l[x]->False:=fun x hx e h=>by
    subst e;omega
   have htk:t=k:=by rw[et,qaQ] at e;exact e
   exact this t (by omega) htk (h2 (by omega))
  ·exact h
 ·
  have hold:=F.dvd j hj v (qax _ hjR) hv
  have key:∀ (L:List (Nat×Nat)) (T':Nat->Nat),(∀ p∈L,p.1=j->PM ar s (ar.length - v) v∣T k / SS ar s u)->PM ar s (ar.length - v) v∣T' j->PM ar s (ar.length - v) v∣qdY (T k / SS ar s u) L T' j:=by
   intro L
   induction L with
   | nil=>intro T' _ h;exact h
   | cons p L ih=>
    intro T' hL h
    rw[qdY]
    refine ih _ (fun q hq=>hL q (qax _ hq)) ?_
    unfold upd
    split
    ·rename_i e
     rw[<- e]
     exact Nat.dvd_add h (Nat.dvd_mul_right_of_dvd (hL p qaC e.symm) _)
    ·exact h
  refine key _ T (fun p hp e=>?_) hold
  obtain ⟨a1,hpl,a2⟩:=qnY g hk (by omega) p hp
  have hvb:u < v:=by
   have:∀ (x:Nat) (hx:x < l.length),x=j->l[k].var < abv ar.length l[x]->(u:Int) < v:=fun x hx e h=>by
    subst e;omega
   have:=this _ hpl e a2
   omega
  have hvl:v<=ar.length:=by
   unfold abv at hv
   split at hv
   ·have:=(g.var j hj (by omega)).1;omega
   ·omega
  rw[htd]
  refine Nat.dvd_mul_right_of_dvd ?_ _
  have:=qli (ar:=ar) (s:=s) (v - (u+1)) (ar.length - v) (u+1)
  rw[show v - (u+1)+(ar.length - v)=ar.length - (u+1) by omega,show u+1+(v - (u+1))=v by omega] at this
  rw[this]
  exact Nat.dvd_mul_left _ _
 ·rw[<- htot];exact F.tot
theorem Flow.leaf (g:GoodL ar l) {k:Nat} {R:List Nat} {T:Nat->Nat} {done:Nat} (F:Flow ar s l (k::R) T done) (hk:k < l.length) (hv:l[k].var < 0):Flow ar s l R T (done+T k)/\T k<=PM ar s ar.length 0/\k∉R:=by
 obtain ⟨hn1,hn2⟩:=qes.1 F.nd
 have ht:=F.tot
 unfold pot at ht
 rw[qaX,qbN,qc1] at ht
 refine ⟨⟨hn2,fun j hj=>F.lt j (qax _ hj),(qhM.1 F.srt).2,fun j hj hjR hvj q hq=>?_,fun j hj v hjR=>F.dvd j hj v (qax _ hjR),?_⟩,by omega,hn1⟩
 ·have:=F.kids j hj (qax _ hjR) hvj q hq
  rcases qa1.1 this with e | h
  ·exfalso
   obtain ⟨t,et,ht',h2⟩:=g.kid j hj hvj q hq
   have hs:=(qhM.1 F.srt).1 j hjR
   rw[qeD hk,qeD hj] at hs
   have hj1:=(g.var j hj hvj).1
   have hj2:abv ar.length l[j]=l[j].var:=by unfold abv;rw[qal (by omega)]
   have hk2:abv ar.length l[k]=ar.length:=by unfold abv;rw[qah (by omega)]
   omega
  ·exact h
 ·unfold pot
  omega
theorem qpK (g:GoodL ar l) (h0:∀ v,v < ar.length->0 < SS ar s v) {h:Nat->Nat} {q:Int->Nat} (hh:qDY ar s l h) (hq:∀ (k:Nat) (hk:k < l.length),l[k].var < 0->h k=q l[k].leaf):∀ (R:List Nat) (T:Nat->Nat) (done:Nat),Flow ar s l R T done ->
  pot h T R=((run ar s l R T).map fun p=>p.2 * q p.1).sum
 | [],T,done,F=>rfl
 | k::R,T,done,F=>by
  have hk:=F.lt k qaC
  have e:l[k]?=some l[k]:=qam hk
  rw[run,e]
  dsimp only
  by_cases hv:l[k].var < 0
  ·rw[qal hv,qaX,qbN,<- qpK g h0 hh hq R T _ (F.leaf g hk hv).1]
   unfold pot
   rw[qaX,qbN,hq k hk hv]
  ·rw[qah hv]
   obtain ⟨_,_,_,_,_,F',hp⟩:=F.inner g h0 (u:=l[k].var.toNat) hk (by omega)
   rw[hp h hh,qpK g h0 hh hq R _ _ F']
theorem qjF (g:GoodL ar l):∀ (R:List Nat) (T:Nat->Nat),(∀ j∈R,j < l.length)->(run ar s l R T).map Prod.fst=(R.filter fun j=>decide ((l.getD j ⟨0,[],0⟩).var < 0)).map fun j=>(l.getD j ⟨0,[],0⟩).leaf
 | [],T,_=>rfl
 | k::R,T,h=>by
  have hk:=h k qaC
  have e:l[k]?=some l[k]:=qam hk
  have h':∀ j∈R,j < l.length:=fun j hj=>h j (qax _ hj)
  rw[run,e]
  dsimp only
  rw[List.filter_cons,qeD hk]
  by_cases hv:l[k].var < 0
  ·rw[qal hv,qa6 hv,qal rfl,qaX,qaX,qjF g R T h',qeD hk]
  ·rw[qah hv,qa7 hv,qah (by simp),qjF g R _ h']
end
end Go.Ab

/- A stable sort's merges, in plain lists: what is told at a border is true of all. -/
namespace Go.Ab
def Srt (f:Nat->Int) (l:List Nat):Prop:=l.Pairwise fun x y=>f x<=f y
theorem Srt.app {f:Nat->Int} {A B:List Nat}:Srt f (A++B)↔Srt f A/\Srt f B/\∀ a∈A,∀ b∈B,f a<=f b:=List.pairwise_append
theorem Srt.le_last {f:Nat->Int} {A:List Nat} {y:Nat} (h:Srt f (A++[y])):∀ a∈A++[y],f a<=f y:=fun a ha=>by
 rcases qaW.1 ha with ha | ha
 ·exact (Srt.app.1 h).2.2 a ha y (by simp)
 ·simp at ha;subst ha;exact qeH _
theorem Srt.head_le {f:Nat->Int} {A:List Nat} {y:Nat} (h:Srt f (y::A)):∀ a∈y::A,f y<=f a:=fun a ha=>by
 rcases qa1.1 ha with rfl | ha
 ·exact qeH _
 ·exact (qhM.1 h).1 a ha
theorem Srt.put {f:Nat->Int} {x:Nat} {S1 S2:List Nat} (h:Srt f (S1++S2)) (h1:∀ a∈S1,f a<=f x) (h2:∀ b∈S2,f x<=f b):Srt f (S1++x::S2):=by
 obtain ⟨a1,a2,a3⟩:=Srt.app.1 h
 refine Srt.app.2 ⟨a1,qhM.2 ⟨h2,a2⟩,fun a ha b hb=>?_⟩
 rcases qa1.1 hb with rfl | hb
 ·exact h1 a ha
 ·exact a3 a ha b hb
theorem Srt.both {f:Nat->Int} {L1 L2 R1 R2 M1 M2:List Nat} (hA:Srt f (L1++L2)) (hB:Srt f (R1++R2)) (h1:∀ a∈L1,∀ b∈R2,f a<=f b) (h2:∀ a∈R1,∀ b∈L2,f a<=f b)
  (p1:M1.Perm (L1++R1)) (p2:M2.Perm (L2++R2)) (s1:Srt f M1) (s2:Srt f M2):Srt f (M1++M2)/\(M1++M2).Perm ((L1++L2)++(R1++R2)):=by
 constructor
 ·refine Srt.app.2 ⟨s1,s2,fun a ha b hb=>?_⟩
  have ha:=p1.mem_iff.1 ha
  have hb:=p2.mem_iff.1 hb
  rcases qaW.1 ha with ha | ha<;>rcases qaW.1 hb with hb | hb
  ·exact (Srt.app.1 hA).2.2 a ha b hb
  ·exact h1 a ha b hb
  ·exact h2 a ha b hb
  ·exact (Srt.app.1 hB).2.2 a ha b hb
 ·refine (p1.append p2).trans ?_
  rw[qaL,qaL]
  refine qh9 L1 ?_
  rw[<- qaL,<- qaL]
  exact List.Perm.append_right R2 List.perm_append_comm
def Edge (T:Nat->Prop) (lo hi s:Nat):Prop:=lo<=s/\s<=hi/\(s=lo\/T (s - 1))/\(s=hi\/¬ T s)
inductive Runs (f:Nat->Int) (n:Nat):List Nat->Prop
 | last (l:List Nat) (h:l.length<=n) (s:Srt f l):Runs f n l
 | more (x l:List Nat) (h:x.length=n) (s:Srt f x) (r:Runs f n l):Runs f n (x++l)
inductive Full (f:Nat->Int) (n:Nat):List Nat->Prop
 | nil:Full f n []
 | more (l x:List Nat) (r:Full f n l) (h:x.length=n) (s:Srt f x):Full f n (l++x)
theorem Full.runs {f:Nat->Int} {n:Nat} {l:List Nat} (h:Full f n l):∀ q,Runs f n q->Runs f n (l++q):=by
 induction h with
 | nil=>exact fun q h=>h
 | more l x r hx s ih=>
  intro q hq
  rw[qaL]
  exact ih _ (.more x q hx s hq)
theorem Runs.one {f:Nat->Int} {n:Nat} {l:List Nat} (h:Runs f n l) (hn:l.length<=n):Srt f l:=by
 cases h with
 | last _ _ s=>exact s
 | more x l hx s r=>
  have:l=[]:=qa4 (by simp at hn;omega)
  subst this
  simpa using s
theorem Runs.two {f:Nat->Int} {n:Nat} {q:List Nat} (h:Runs f n q) (hn:0 < n) (hl:n < q.length):∃ x r,q=x++r/\x.length=n/\Srt f x/\Runs f n r:=by
 cases h with
 | last _ h _=>omega
 | more x l hx s r=>exact ⟨x,l,rfl,hx,s,r⟩
end Go.Ab

/- What the interpreter does, function by function. -/
set_option maxRecDepth 100000
namespace Go.Ab
open Go.Proofs.Tryz
def qCf (x3:AV) (m:Mem):St:=⟨(yA2 (yA1 (x3::qd7 (yA8 (yA1 []))))),m⟩
noncomputable def quA (x3:AV) (m:Mem) (K:KT):OM:=qbq (qaM cfg 10 (AP cfg) (AC cfg) (c1 (c1 (c1 (c2 (c2 (c2 (qaq f10)))))))) (cfg.mask 10 (some 4)) ⟨(yA2 (yA1 (x3::qd7 (yA8 (yA1 []))))),m⟩ K
noncomputable abbrev qBb (K:KT):KT:=qdH (fun st=>qaM cfg 10 (AP cfg) (AC cfg) (c2 (c2 (c2 (c2 (qaq f10))))) st K) K
noncomputable abbrev qBc (K:KT):KT:=qbb 0 (qBb K)
noncomputable abbrev qw3 (K:KT):KT:=(qBc K)
theorem T10 (a0:AV) (m:Mem):AC cfg 10 [a0] m =
 (qaY none []).bind fun v1=>
 (qbY false a0).bind fun v2=>
 (qDk false v2 (.int .i64 17)).bind fun v3=>
 (qf7 none a0 none (some v3) none).bind fun v4=>
 (qd6 none false 3 none 8 m v1 v4).bind fun r5=>
 (qaN (AP cfg) none r5.2 11 [r5.1]).bind fun r6=>
 (qaz .other .neq r6.1 (.int .i64 0)).bind fun v7=>
 ifA v7 (
 some (r5.1,r6.2)) (
 quA r5.1 r6.2 (qw3 (qbw cfg.P f10.results.toList))):=
(qbx cfg 10 [a0] m (fn:=f10) (c:=qaq f10) qI0 rfl).trans (by kernel_rfl)
theorem qqc (x3:AV) (m:Mem) (K:KT):quA x3 m K =
 (qbY false x3).bind fun v1=>
 (qaz .other .gtr v1 (.int .i64 0)).bind fun v2=>
 ifA v2 (
 (qaN (AP cfg) none m 12 [x3,(.int .i64 300)]).bind fun r3=>
 (qaz .other .eql r3.1 (.int .i64 0)).bind fun v4=>
 ifA v4 (
 (qbY false x3).bind fun v5=>
 (qaz .other .sub v5 (.int .i64 1)).bind fun v6=>
 (qf7 none x3 none (some v6) none).bind fun v7=>
 quA v7 r3.2 K) (
 K (.exit 0) (qCf x3 r3.2))) (
 K (.exit 0) (qCf x3 m)):=
(qa3 (qaT _) _ _ _).trans (by kernel_rfl)
theorem qp0 (x3:AV) (m:Mem):qw3 (qbw cfg.P f10.results.toList) (.exit 0) (qCf x3 m) =
 some (x3,m):=by kernel_rfl
theorem T13 (m:Mem):AC cfg 13 [] m =
 (qaY none [(.int .i64 2)]).bind fun v1=>
 (AC cfg 32 [v1] m).bind fun r2=>
 (qaF r2.1 0).bind fun v3=>
 (qaF r2.1 1).bind fun v4=>
 (qaz .other .neq v4 (.int .i64 0)).bind fun v5=>
 ifA v5 (
 some ((.bool false),r2.2)) (
 (qaz .pt .eql v3 .nilp).bind fun v6=>
 ifA v6 (
 some ((.bool false),r2.2)) (
 (AC cfg 33 [v3,(.int .i64 7)] r2.2).bind fun r7=>
 (qaF r7.1 0).bind fun v8=>
 (qaF r7.1 1).bind fun v9=>
 (AC cfg 35 [v3,v8] r7.2).bind fun r10=>
 (qaF r10.1 0).bind fun v11=>
 (qaF r10.1 1).bind fun v12=>
 (qaR (some 3) (qaH none r10.2 (.obj true [(.int .i64 0),(.lst none true .full []),(.int .i64 0)])).2 (.ptr (qaH none r10.2 .resv).1 0) v11).bind fun m13=>
 (qaz .other .eql v9 (.int .i64 0)).bind fun v14=>
 ifA v14 (
 (qaz .other .eql v12 (.int .i64 0)).bind fun v15=>
 ifA v15 (
 (qaB 2 (.ptr (qaH none r10.2 .resv).1 0)).bind fun v16=>
 (qat none m13 v16).bind fun v17=>
 (qaz .other .eql v17 (.int .i64 7)).bind fun v18=>
 ifA v18 (
 (qaB 0 (.ptr (qaH none r10.2 .resv).1 0)).bind fun v19=>
 (qat none m13 v19).bind fun v20=>
 (qaz .other .eql v20 (.int .i64 (-1))).bind fun v21=>
 some (v21,m13)) (
 some ((.bool false),m13))) (
 some ((.bool false),m13))) (
 some ((.bool false),m13)))):=
(qbx cfg 13 [] m (fn:=f13) (c:=qaq f13) qI3 rfl).trans (by kernel_rfl)
end Go.Ab

/- What the interpreter does, function by function. -/
set_option maxRecDepth 100000
namespace Go.Ab
open Go.Proofs.Tryz
def qCg (m:Mem):St:=⟨(qd7 (yA4 (yA1 []))),m⟩
def qyR (x2:AV) (m:Mem):St:=⟨(yA2 (x2::qd7 (yA2 []))),m⟩
noncomputable def qyB (x8 x9 x10:AV) (m:Mem) (K:KT):OM:=qbq (qaM cfg 11 (AP cfg) (AC cfg) (c1 (c1 (c2 (c1 (c2 (c2 (qaq f11)))))))) (cfg.mask 11 (some 4)) ⟨(yA8 (x8::x9::x10::yA8 (yA2 []))),m⟩ K
noncomputable abbrev qBe (K:KT):KT:=qdH (fun st=>qaM cfg 11 (AP cfg) (AC cfg) (c2 (c2 (c2 (qaq f11)))) st K) K
noncomputable abbrev qBf (K:KT):KT:=qbb 0 (qBe K)
noncomputable abbrev qBd (K:KT):KT:=(qBf K)
theorem T11 (a0:AV) (m:Mem):AC cfg 11 [a0] m =
 (qbY false a0).bind fun v1=>
 (qaz .other .gtr v1 (.int .i64 16)).bind fun v2=>
 ifA v2 (
 some ((.int .i64 2),m)) (
 (qbY false a0).bind fun v3=>
 qyB a0 v3 (.int .i64 0) m (qBd (qbw cfg.P f11.results.toList))):=
(qbx cfg 11 [a0] m (fn:=f11) (c:=qaq f11) qI1 rfl).trans (by kernel_rfl)
theorem qqf (x8 x9 x10:AV) (m:Mem) (K:KT):qyB x8 x9 x10 m K =
 (qaz .other .lss x10 x9).bind fun v1=>
 ifA v1 (
 (qag none x8 x10).bind fun v2=>
 (qat none m v2).bind fun v3=>
 (qaz .other .lss v3 (.int .i64 1)).bind fun v4=>
 ifA v4 (
 K .ret (qyR (.int .i64 1) m)) (
 (qaz .other .gtr v3 (.int .i64 64)).bind fun v5=>
 ifA v5 (
 K .ret (qyR (.int .i64 1) m)) (
 (qaz .other .add x10 (.int .i64 1)).bind fun v6=>
 qyB x8 x9 v6 m K))) (
 K (.exit 0) (qCg m)):=
(qa3 (qaT _) _ _ _).trans (by kernel_rfl)
theorem qw8 (m:Mem):qBd (qbw cfg.P f11.results.toList) (.exit 0) (qCg  m) =
 some ((.int .i64 0),m):=by kernel_rfl
theorem qth (x2:AV) (m:Mem):qBd (qbw cfg.P f11.results.toList) .ret (qyR x2 m) =
 some (x2,m):=by kernel_rfl
def qEh (x5:AV) (m:Mem):St:=⟨(yA4 (yA1 (x5::qd7 []))),m⟩
def qEl (x4:AV) (m:Mem):St:=⟨(yA4 (x4::qd7 (yA1 []))),m⟩
noncomputable def qyC (x1 x5 x8 x9 x10:AV) (m:Mem) (K:KT):OM:=qbq (qaM cfg 12 (AP cfg) (AC cfg) (c1 (c1 (c2 (c1 (c2 (c2 (qaq f12)))))))) (cfg.mask 12 (some 3)) ⟨(yA1 (x1::yA2 (yA1 (x5::yA2 (x8::x9::x10::yA8 (yA2 (yA1 []))))))),m⟩ K
noncomputable abbrev qBg (K:KT):KT:=qdH (fun st=>qaM cfg 12 (AP cfg) (AC cfg) (c2 (c2 (c2 (qaq f12)))) st K) K
noncomputable abbrev qBh (K:KT):KT:=qbb 0 (qBg K)
noncomputable abbrev qxl (K:KT):KT:=(qBh K)
theorem T12 (a0 a1:AV) (m:Mem):AC cfg 12 [a0,a1] m =
 (qbY false a0).bind fun v1=>
 qyC a1 (.int .i64 1) a0 v1 (.int .i64 0) m (qxl (qbw cfg.P f12.results.toList)):=
(qbx cfg 12 [a0,a1] m (fn:=f12) (c:=qaq f12) qI2 rfl).trans (by kernel_rfl)
theorem qqj (x1 x5 x8 x9 x10:AV) (m:Mem) (K:KT):qyC x1 x5 x8 x9 x10 m K =
 (qaz .other .lss x10 x9).bind fun v1=>
 ifA v1 (
 (qag none x8 x10).bind fun v2=>
 (qat none m v2).bind fun v3=>
 (qaz .other .mul x5 v3).bind fun v4=>
 (qaz .other .gtr v4 x1).bind fun v5=>
 ifA v5 (
 K .ret (qEl (.int .i64 0) m)) (
 (qaz .other .add x10 (.int .i64 1)).bind fun v6=>
 qyC x1 v4 x8 x9 v6 m K)) (
 K (.exit 0) (qEh x5 m)):=
(qa3 (qaT _) _ _ _).trans (by kernel_rfl)
theorem qxm (x5:AV) (m:Mem):qxl (qbw cfg.P f12.results.toList) (.exit 0) (qEh x5 m) =
 some (x5,m):=by kernel_rfl
theorem qtr (x4:AV) (m:Mem):qxl (qbw cfg.P f12.results.toList) .ret (qEl x4 m) =
 some (x4,m):=by kernel_rfl
end Go.Ab

/- The laws' and the reference's small functions, by value. -/
set_option maxRecDepth 100000
namespace Go.Ab
open Go.Proofs Go.Proofs.Tryz
def qvk (n:Int):Bool:=decide (1<=n/\n<=64)
def qhH (ns:List Int):Int:=if ns.length > 16 then 2 else if ns.all qvk then 0 else 1
theorem W12 (z:Bool) (o:Own) (ns:List Int) (hl:ns.length<=16) (m:Mem) (K:KT):∀ j i:Nat,i+j=ns.length->qyB (IA z o ns) (.int .i64 ns.length) (.int .i64 i) m K=if (ns.drop i).all qvk then K (.exit 0) (qCg m) else K .ret (qyR (.int .i64 1) m)
 | 0,i,h=>by
  rw[qqf,qdc,oBs,qap,qah (by omega),qbc (by omega)];rfl
 | j+1,i,h=>by
  have hi:i < ns.length:=by omega
  have ih:=W12 z o ns hl m K j (i+1) (by omega)
  rw[qqf,qdc,oBs,qap,qal hi,qeN hi,oBs,qbs,oBs,qaU,oBs,qap,qbr hi,qeR]
  by_cases h1:ns[i] < 1
  ·rw[qal h1,show qvk ns[i]=false from qa7 (by omega)];rfl
  ·rw[qah h1,qcB,oBs,qap]
   by_cases h2:ns[i] > 64
   ·rw[qal h2,show qvk ns[i]=false from qa7 (by omega)];rfl
   ·rw[qah h2,qbM (by omega),oBs,ih,show qvk ns[i]=true from qa6 (by omega),qdx]
theorem V12 (z:Bool) (o:Own) (ns:List Int):AP cfg 11 [IA z o ns]=some (.int .i64 (qhH ns)):=by
 refine qeG (m:=[]) (v:=.int .i64 (qhH ns)) (l:=[]) ?_ rfl rfl
 unfold qhH
 rw[T11,qeb,oBs,show ((16:Int))=((16:Nat):Int) from rfl,qsG,oBs,qap]
 by_cases h:ns.length > 16
 ·rw[qal h,qal h]
 ·rw[qah h,qah h,oBs,show ((0:Int))=((0:Nat):Int) from rfl,W12 z o ns (by omega) [] _ ns.length 0 (by omega),qbk]
  by_cases h2:ns.all qvk=true
  ·rw[qal h2,qal h2,qw8];rfl
  ·rw[qah h2,qah h2,qth]
theorem qHH (z:Bool) (o:Own) (ns:List Int) (d:Option Nat) (m:Mem):qaN (AP cfg) d m 11 [IA z o ns]=some (.int .i64 (qhH ns),m):=by
 rw[qbt (qg6 z o ns),V12];rfl
theorem qhs {ns:List Int} (h:qhH ns=0):ns.length<=16/\∀ a∈ns,1<=a/\a<=64:=by
 unfold qhH at h
 split at h
 ·cases h
 ·split at h
  ·rename_i h1 h2
   exact ⟨by omega,fun a ha=>by have:=qaV.1 h2 a ha;exact qi0 this⟩
  ·cases h
def qdG (most:Int):Int->List Int->Int
 | acc,[]=>acc
 | acc,n::l=>if acc * n > most then 0 else qdG most (acc * n) l
theorem W27 (z:Bool) (o:Own) (ns:List Int) (hl:ns.length<=16) (hb:∀ a∈ns,1<=a/\a<=64) (most:Int) (hm:0<=most/\most<=1048576) (m:Mem):∀ (j i:Nat) (acc:Int),i+j=ns.length->1<=acc->acc<=most\/acc=1 ->
  qyC (.int .i64 most) (.int .i64 acc) (IA z o ns) (.int .i64 ns.length) (.int .i64 i) m (qxl (qbw cfg.P f12.results.toList))=some (.int .i64 (qdG most acc (ns.drop i)),m)
 | 0,i,acc,h,h1,h2=>by
  rw[qqj,qdc,oBs,qap,qah (by omega),qbc (by omega),qxm];rfl
 | j+1,i,acc,h,h1,h2=>by
  have hi:i < ns.length:=by omega
  have ha:=hb ns[i] (qaJ hi)
  have p1:acc * ns[i]<=1048576 * 64:=Int.mul_le_mul (by omega) ha.2 (by omega) (by omega)
  have p2:1<=acc * ns[i]:=by
   have:=Int.mul_le_mul h1 ha.1 (by omega) (by omega)
   simpa using this
  rw[qqj,qdc,oBs,qap,qal hi,qeN hi,oBs,qbs,oBs,qf3,oBs,qbQ (by omega) (by omega),qcB,oBs,qap,qbr hi,qdG]
  by_cases h3:acc * ns[i] > most
  ·rw[qal h3,qal h3,qtr]
  ·rw[qah h3,qah h3,qbM (by omega),oBs]
   exact W27 z o ns hl hb most hm m j (i+1) _ (by omega) p2 (.inl (by omega))
theorem V27 (z:Bool) (o:Own) (ns:List Int) (hl:ns.length<=16) (hb:∀ a∈ns,1<=a/\a<=64) (most:Int) (hm:0<=most/\most<=1048576):AP cfg 12 [IA z o ns,.int .i64 most]=some (.int .i64 (qdG most 1 ns)):=by
 refine qeG (m:=[]) (v:=.int .i64 (qdG most 1 ns)) (l:=[]) ?_ rfl rfl
 rw[T12,qeb,oBs,show ((0:Int))=((0:Nat):Int) from rfl,W27 z o ns hl hb most hm [] ns.length 0 1 (by omega) (by omega) (.inr rfl),qbk]
theorem qD5 (z:Bool) (o:Own) (ns:List Int) (hl:ns.length<=16) (hb:∀ a∈ns,1<=a/\a<=64) (most:Int) (hm:0<=most/\most<=1048576) (d:Option Nat) (m:Mem):qaN (AP cfg) d m 12 [IA z o ns,.int .i64 most]=some (.int .i64 (qdG most 1 ns),m):=by
 rw[qcH (qg6 z o ns) (qcR _ _),V27 z _ ns hl hb most hm];rfl
theorem qy0 (m:Mem) (z:Bool) (o:Own) (ns:List Int) (hl:ns.length<=1000000):∃ o' m',qd6 none false 3 none 8 m (.lst none false .full []) (IA z o ns)=some (IA false o' ns,m')/\Fr m m' []/\(o'=.full/\ns=[]\/o'=.tok m.length 3):=by
 cases ns with
 | nil=>exact ⟨.full,m,rfl,Fr.refl _ _,.inl ⟨rfl,rfl⟩⟩
 | cons n ns=>
  have hb:(0+(ns.length+1)) * 8<=qef:=by unfold qef;simp at hl;omega
  refine ⟨.tok m.length 3,m++[some (Ent.tok (0+(ns.length+1)) 1)],?_,Fr.app m _ _,.inr rfl⟩
  simp only[qd6,qaX,qae,qad,qaE,hb,qa5,or_true,qbe,qg7,qaH,qaw,Sh.size]
  rfl
theorem qrP (z:Bool) (o:Own) (ns:List Int) (k:IntKind) (i:Nat) (h:i<=ns.length):qf7 none (IA z o ns) none (some (.int k i)) none=some (IA z .no (ns.take i)):=by
 simp[qf7,qgs,qdL,h,qCe]
def qmh (r:List Int):Prop:=qhH r=0->qdG 300 1 r≠0
theorem W11:∀ (n:Nat) (r:List Int) (o:Own) (m:Mem),r.length=n->qhH r=0->∃ o' r' m',quA (IA false o r) m (qw3 (qbw cfg.P f10.results.toList))=some (IA false o' r',m')/\qhH r'=0/\qdG 300 1 r'≠0
 | 0,r,o,m,hn,hr=>by
  obtain rfl:r=[]:=qa4 hn
  refine ⟨o,[],m,?_,hr,by decide⟩
  rw[qqc,qeb,oBs,qcB,oBs,qap,qah (by simp),qp0]
 | n+1,r,o,m,hn,hr=>by
  obtain ⟨h1,h2⟩:=qhs hr
  rw[qqc,qeb,oBs,qcB,oBs,qap,qal (by omega),qD5 _ _ _ h1 h2 300 (by omega),oBs,qcK,oBs,qap]
  by_cases hp:qdG 300 1 r=0
  ·rw[qal hp,oBs,qfN (by omega) (by omega),oBs,qrP _ _ _ _ _ (by omega),oBs]
   refine W11 n (r.take (r.length - 1)) .no m (by rw[qbn];omega) ?_
   unfold qhH
   rw[qah (by rw[qbn];omega),qal]
   exact qaV.2 fun a ha=>qa6 (h2 a (List.take_subset _ _ ha))
  ·rw[qah hp,qp0]
   exact ⟨o,r,m,rfl,hr,hp⟩
theorem V11 (z:Bool) (o:Own) (ns:List Int):∃ o' r,AP cfg 10 [IA z o ns]=some (IA false o' r)/\qmh r/\r.length<=17/\(o'=.no\/o'=.full):=by
 have key:∃ o' r m',AC cfg 10 [IA z o ns] []=some (IA false o' r,m')/\qmh r/\r.length<=17:=by
  have hmin:qDk false (.int .i64 ns.length) (.int .i64 17)=some (.int .i64 (min ns.length 17:Nat)):=by
   simp only[qDk,qa5,qbe,qg7]
   congr 2
   split<;>omega
  obtain ⟨o1,m1,ha,_,_⟩:=qy0 [] z .no (ns.take (min ns.length 17)) (by rw[qbn];omega)
  have e0:AC cfg 10 [IA z o ns] []=ifA (.bool (decide (qhH (ns.take (min ns.length 17))≠0))) (some (IA false o1 (ns.take (min ns.length 17)),m1)) (quA (IA false o1 (ns.take (min ns.length 17))) m1 (qw3 (qbw cfg.P f10.results.toList))):=by
   rw[T10,show qaY none []=some (.lst none false .full []) from rfl,oBs,qeb,oBs,hmin,oBs,qrP _ _ _ _ _ (by omega),oBs,ha,oBs,qHH,oBs,qcW,oBs]
  rw[e0,qap]
  by_cases hz:qhH (ns.take (min ns.length 17))≠0
  ·rw[qal hz]
   exact ⟨_,_,_,rfl,fun h=>absurd h hz,by rw[qbn];omega⟩
  ·rw[qah hz]
   obtain ⟨o',r',m',e,h1,h2⟩:=W11 _ _ o1 m1 rfl (Decidable.not_not.1 hz)
   exact ⟨o',r',m',e,fun _=>h2,by have:=(qhs h1).1;omega⟩
 obtain ⟨o',r,m',e,h1,h2⟩:=key
 refine ⟨o'.fr,r,?_,h1,h2,?_⟩
 ·unfold AP qdK
  rw[e,oBs,qg6 false o' r m',oBs]
  rfl
 ·cases o'<;>simp[Own.fr]
def kz (n:ND):Bool:=if n.var < 0 then true else false
def ko (n:ND):Own:=if n.var < 0 then .full else .no
theorem qpp {n:ND} (h:n.ok):qdE n=IA (kz n) (ko n) n.kids:=by
 unfold qdE kz ko
 split
 ·rename_i hv
  rcases h with ⟨_,h2,_⟩ | ⟨h1,_⟩
  ·rw[h2];rfl
  ·omega
 ·rfl
abbrev NL (z:Bool) (o:Own) (l:List ND):AV:=.lst (some 3) z o (l.map ND.av)
theorem ldn (m:Mem) (n:ND):qat (some 3) m (.vptr [.int .i64 n.var,qdE n,.int .i64 n.leaf])=some n.av:=rfl
end Go.Ab

/- Node, New, alive, into, by value. -/
set_option maxRecDepth 100000
namespace Go.Ab
open Go.Proofs Go.Proofs.Tryz
theorem qpP {m:Mem} {k:Nat} {a b c a' b' c':AV} (h:m.get k=some (Ent.obj true [a,b,c])) (hs:qeJ (some 3) (.agg [a',b',c'])=true):qaR (some 3) m (.ptr k 0) (.agg [a',b',c'])=some (m.set k (some (Ent.obj true [a',b',c']))):=by
 rw[qlJ,h,qd5,oBs]
 simp[qcN,Sh.size,hs,qbK,AV.cells]
theorem qHK (a b:Int) (z:Bool) (o:Own) (es:List AV):qeJ (some 3) (.agg [.int .i64 a,.lst none z o es,.int .i64 b])=true:=rfl
section
variable {m:Mem} {s:Nat} {F:List Nat} {arms:AV} {most:Int} {l:List ND}
theorem qy6 {n:ND} (h:n.ok) (hne:¬ n.var < 0->n.kids≠[]):clA (kz n) n.kids=qdE n:=by
 unfold clA kz qdE
 by_cases hv:n.var < 0
 ·rw[qal hv,qal rfl,qal hv]
 ·rw[qah hv,qah (by simp),qah hv,qah (hne hv)]
def qpA (l:List ND) (i:Int):AV×Int:=if 0<=i/\i < l.length then ((l.getD i.toNat ⟨0,[],0⟩).av,0) else (.agg [.int .i64 0,.lst none true .full [],.int .i64 0],1)
def qEU (l:List ND):Prop:=∀ n∈l,¬ n.var < 0->n.kids≠[]
theorem A21 (h:St8 m s F arms most l) (hm:most≠0) (hk:qEU l) (i:Int):∃ m',AC cfg 35 [.ptr s 0,.int .i64 i] m=some (.tup [(qpA l i).1,.int .i64 (qpA l i).2],m')/\Fr m m' []:=by
 have f1:Fr m (m++[some (Ent.obj true [.int .i64 0,.lst none true .full [],.int .i64 0])]) []:=Fr.app m _ _
 have h1:=h.app f1
 have e50:=A50 h1 hm
 have e56:=A56 h1 i
 have hs:∃ na p T,Mem.get m s=some (Ent.obj true [arms,na,.mref p,.int .i64 most])/\NA m na l T/\∀ x∈l,x.ok:=by
  obtain ⟨p,na,T,h,rfl⟩:=h
  exact ⟨na,p,T,h.hs,h.hn,h.ok⟩
 obtain ⟨na,p,T,hs,hna,hok⟩:=hs
 have hsl:=qbz hs
 by_cases hi:0<=i/\i < l.length
 ·have hd:decide (0<=i/\i < l.length)=true:=qa6 hi
  obtain ⟨t,rfl⟩:=qc0 hi.1
  have ht:t < l.length:=by omega
  have hnv:qpA l t=(l[t].av,0):=by rw[qpA,qal hi,qaQ,qaa,qam ht,qaP]
  have hidx:=qob hna ht
  have hto:=hok _ (qaJ ht)
  have bx:=qAp l[t] (m++[some (Ent.obj true [.int .i64 0,.lst none true .full [],.int .i64 0])]) (qvJ _)
  simp only[qab,qad,qae,qar] at bx
  have kk:=qpp hto
  have hl64:l[t].kids.length<=1000000:=by
   rcases hto with ⟨_,h2,_⟩ | ⟨_,_,_,_,h5⟩
   ·rw[h2];simp
   ·omega
  have c49:=fun m=>qG3 (kz l[t]) (ko l[t]) l[t].kids hl64 m
  rw[<- kk,qy6 hto (hk _ (qaJ ht))] at c49
  have oka:=qzl l[t]
  have cel:=qpo l[t]
  have e:∃ m',AC cfg 35 [.ptr s 0,.int .i64 t] m=some (.tup [l[t].av,.int .i64 0],m')/\m'=List.set ((((m++[some (Ent.obj true [.int .i64 0,.lst none true .full [],.int .i64 0])])++[some (Ent.obj true [.int .i64 l[t].var,qdE l[t],.int .i64 l[t].leaf])]).set (m.length+1) (some (Ent.obj true [.int .i64 l[t].var,qdE l[t],.int .i64 l[t].leaf])))) m.length (some (Ent.obj true [.int .i64 l[t].var,qdE l[t],.int .i64 l[t].leaf])):=by
   refine ⟨_,?_,rfl⟩
   rw[T35]
   repeat ((with_reducible (first | apply bs | apply bsy));(focus (first | (simp (disch:=(first | assumption | omega | (simp only[qab,qai,qad,qae];first | done | omega))) only[LLb,beq_self_eq_true,qcN,oBs,Sh.size,qa5,qbK,Nat.reduceAdd,Nat.reduceLeDiff,qak,e50];first | done | rfl) | rfl));try dsimp only)
   rw[qdW]
   repeat ((with_reducible (first | apply bs | apply bsy));(focus (first | (simp (disch:=(first | assumption | omega | (simp only[qab,qai,qad,qae];first | done | omega))) only[LLb,beq_self_eq_true,qcN,oBs,Sh.size,qa5,qbK,Nat.reduceAdd,Nat.reduceLeDiff,qak,e56];first | done | rfl) | rfl));try dsimp only)
   rw[hd,qcC,qdW]
   repeat ((with_reducible (first | apply bs | apply bsy));(focus (first | (simp (disch:=(first | assumption | omega | (simp only[qab,qai,qad,qae];first | done | omega))) only[LLb,beq_self_eq_true,qcN,oBs,Sh.size,qa5,qbK,Nat.reduceAdd,Nat.reduceLeDiff,qak,hs,hidx,bx,c49,oka,cel];first | done | rfl) | rfl));try dsimp only)
   rfl
  obtain ⟨m',e,rfl⟩:=e
  refine ⟨_,by rw[hnv];exact e,((f1.snoc _).set _ (.inr (by omega))).set _ (.inr (by omega))⟩
 ·have hd:decide (0<=i/\i < l.length)=false:=qa7 hi
  have hnv:qpA l i=(.agg [.int .i64 0,.lst none true .full [],.int .i64 0],1):=by rw[qpA,qah hi]
  have hb:qdz (.agg [(.int .i64 0),(.lst none true .full []),(.int .i64 0)]) []=some (.agg [(.int .i64 0),(.lst none true .full []),(.int .i64 0)]):=rfl
  have sa:=qpP (m:=m++[some (Ent.obj true [.int .i64 0,.lst none true .full [],.int .i64 0])]) (k:=m.length) (a:=.int .i64 0) (b:=.lst none true .full []) (c:=.int .i64 0) (by simp (disch:=(first | assumption | omega | (simp only[qab,qai,qad,qae];first | done | omega))) only[qeI,qey,qev,qdb,qdF];first | done | rfl) (qHK 0 0 true .full [])
  refine ⟨_,?_,f1.set (k:=m.length) (some (Ent.obj true [.int .i64 0,.lst none true .full [],.int .i64 0])) (.inr (qak _))⟩
  rw[T35,hnv]
  repeat ((with_reducible (first | apply bs | apply bsy));(focus (first | (simp (disch:=(first | assumption | omega | (simp only[qab,qai,qad,qae];first | done | omega))) only[LLb,beq_self_eq_true,qcN,oBs,Sh.size,qa5,qbK,Nat.reduceAdd,Nat.reduceLeDiff,qak,e50];first | done | rfl) | rfl));try dsimp only)
  rw[qdW]
  repeat ((with_reducible (first | apply bs | apply bsy));(focus (first | (simp (disch:=(first | assumption | omega | (simp only[qab,qai,qad,qae];first | done | omega))) only[LLb,beq_self_eq_true,qcN,oBs,Sh.size,qa5,qbK,Nat.reduceAdd,Nat.reduceLeDiff,qak,e56];first | done | rfl) | rfl));try dsimp only)
  rw[hd,qcS,qfw]
  repeat ((with_reducible (first | apply bs | apply bsy));(focus (first | (simp (disch:=(first | assumption | omega | (simp only[qab,qai,qad,qae];first | done | omega))) only[LLb,beq_self_eq_true,qcN,oBs,Sh.size,qa5,qbK,Nat.reduceAdd,Nat.reduceLeDiff,qak,hb,sa];first | done | rfl) | rfl));try dsimp only)
theorem A48 (k:Int) (m:Mem):AC cfg 93 [.int .i64 k] m=some (.bool (!qvk k),m):=by
 rw[T93,qaU,oBs,qap]
 by_cases h1:k < 1
 ·rw[qal h1,qvk,qa7 (by omega)];rfl
 ·rw[qah h1,qcB,oBs,qvk,<- decide_not]
  congr 3
  exact qbP.2 (by omega)
theorem qEz (z:Bool) (ns:List Int) (h:z=true->ns=[]):∃ z' o',clA z ns=IA z' o' ns/\(o'=.no\/o'=.full)/\(z'=true->ns=[]):=by
 cases z with
 | true=>rw[h rfl];exact ⟨true,.full,rfl,.inr rfl,fun _=>rfl⟩
 | false=>
  cases ns with
  | nil=>exact ⟨false,.full,rfl,.inr rfl,fun h=>by cases h⟩
  | cons n ns=>exact ⟨false,.no,rfl,.inl rfl,fun h=>by cases h⟩
theorem A14 (m:Mem) (z:Bool) (o:Own) (ns:List Int) (hz:z=true->ns=[]) (he:qhH ns=0) :
  ∃ m' s F z' o',AC cfg 32 [IA z o ns] m=some (.tup [.ptr s 0,.int .i64 0],m')/\St8 m' s F (IA z' o' ns) 4000 []/\Fr m m' []/\(∀ x∈F,m.length<=x):=by
 obtain ⟨h1,h2⟩:=qhs he
 obtain ⟨m1,e47,f1⟩:=A47 (m:=m) (z:=z) (o:=o) (ks:=ns) (g:=93) (caps:=[]) (p:=fun k=>!qvk k) (by omega) rfl rfl rfl (fun m1 k _=>⟨m1,A48 k m1,Fr.refl _ _⟩)
 have ha:ns.all qvk=true:=qaV.2 fun a ha=>qa6 (h2 a ha)
 rw[qvc,ha,qcC] at e47
 obtain ⟨z',o',ec,_,_⟩:=qEz z ns hz
 have c49:=fun m=>qG3 z o ns (by omega) m
 rw[ec] at c49
 have l1:=f1.len
 refine ⟨(m1++[some (Ent.mp .str [])])++[some (Ent.obj true [IA z' o' ns,.lst none true .full [],.mref m1.length,.int .i64 4000])],m1.length+1,[m1.length+1,m1.length],z',o',?_,?_,(f1.snoc _).snoc _,?_⟩
 ·have hb:qdz (.agg [(.lst none true .full []),(.lst none true .full []),.nilm,(.int .i64 0)]) [(0,none,IA z' o' ns),(2,none,(.mref m1.length)),(3,none,(.int .i64 4000))]=some (.agg [IA z' o' ns,.lst none true .full [],.mref m1.length,.int .i64 4000]):=rfl
  have hx:∀ m,qf8 none (some 4) m (.agg [IA z' o' ns,.lst none true .full [],.mref m1.length,.int .i64 4000])=some (.ptr m.length 0,m++[some (Ent.obj true [IA z' o' ns,.lst none true .full [],.mref m1.length,.int .i64 4000])]):=fun m=>rfl
  rw[T32,qeb,oBs,qcB,oBs,qap,qah (by omega),e47,oBs,qdW]
  repeat ((with_reducible (first | apply bs | apply bsy));(focus (first | (simp (disch:=(first | assumption | omega | (simp only[qab,qai,qad,qae];first | done | omega))) only[LLb,beq_self_eq_true,qcN,oBs,Sh.size,qa5,qbK,Nat.reduceAdd,Nat.reduceLeDiff,qak,c49,hb,hx];first | done | rfl) | rfl));try dsimp only)
 ·refine ⟨m1.length,.lst none true .full [],[],⟨(by simp (disch:=(first | assumption | omega | (simp only[qab,qai,qad,qae];first | done | omega))) only[qeI,qey,qev,qdb,qdF];first | done | rfl),(by simp (disch:=(first | assumption | omega | (simp only[qab,qai,qad,qae];first | done | omega))) only[qeI,qey,qev,qdb,qdF];first | done | rfl),.none,by simp,by omega,by simp⟩,rfl⟩
 ·intro x hx
  simp only[qa1,List.not_mem_nil,or_false] at hx
  omega
theorem V13:AP cfg 13 []=some (.bool true):=by
 have key:∃ m',AC cfg 13 [] []=some (.bool true,m'):=by
  obtain ⟨m1,s,F,z',o',e1,h1,_,_⟩:=A14 [] false .full [2] (fun h=>by cases h) (by decide)
  obtain ⟨m2,F2,e2,h2,_,_⟩:=A15 h1 7 (by decide) (by omega)
  have hr:qmk [] 7=((0,0),[qfa 7]):=by decide
  rw[hr] at e2 h2
  obtain ⟨m3,e3,f3⟩:=A21 h2 (by omega) (by
    intro n hn hv;obtain rfl:n=qfa 7:=by simpa using hn
    exact absurd (show (qfa 7).var < 0 by decide) hv) 0
  have hnv:qpA [qfa 7] 0=(.agg [.int .i64 (-1),.lst none true .full [],.int .i64 7],0):=rfl
  rw[hnv] at e3
  have e1:AC cfg 32 [.lst none false .full [.int .i64 2]] []=_:=e1
  have sa:=qpP (m:=m3++[some (Ent.obj true [.int .i64 0,.lst none true .full [],.int .i64 0])]) (k:=m3.length) (a:=.int .i64 0) (b:=.lst none true .full []) (c:=.int .i64 0) (by simp (disch:=(first | assumption | omega | (simp only[qab,qai,qad,qae];first | done | omega))) only[qeI,qey,qev,qdb,qdF];first | done | rfl) (qHK (-1) 7 true .full [])
  refine ⟨List.set (m3++[some (Ent.obj true [.int .i64 0,.lst none true .full [],.int .i64 0])]) m3.length (some (Ent.obj true [.int .i64 (-1),.lst none true .full [],.int .i64 7])),?_⟩
  rw[T13,show qaY none [(.int .i64 2)]=some (.lst none false .full [.int .i64 2]) from rfl,oBs]
  repeat ((with_reducible (first | apply bs | apply bsy));(focus (first | (simp (disch:=(first | assumption | omega | (simp only[qab,qai,qad,qae];first | done | omega))) only[LLb,beq_self_eq_true,qcN,oBs,Sh.size,qa5,qbK,Nat.reduceAdd,Nat.reduceLeDiff,qak,e1];first | done | rfl) | rfl));try dsimp only)
  rw[qa7 (by decide),qdW,show qaz .pt .eql (.ptr s 0) .nilp=some (.bool false) from rfl,oBs,qdW]
  repeat ((with_reducible (first | apply bs | apply bsy));(focus (first | (simp (disch:=(first | assumption | omega | (simp only[qab,qai,qad,qae];first | done | omega))) only[LLb,beq_self_eq_true,qcN,oBs,Sh.size,qa5,qbK,Nat.reduceAdd,Nat.reduceLeDiff,qak,e2,e3,sa];first | done | rfl) | rfl));try dsimp only)
  rw[qa6 (by decide),qfw]
  repeat ((with_reducible (first | apply bs | apply bsy));(focus (first | (simp (disch:=(first | assumption | omega | (simp only[qab,qai,qad,qae];first | done | omega))) only[LLb,beq_self_eq_true,qcN,oBs,Sh.size,qa5,qbK,Nat.reduceAdd,Nat.reduceLeDiff,qak];first | done | rfl) | rfl));try dsimp only)
  rw[qa6 (by decide),qfw]
  repeat ((with_reducible (first | apply bs | apply bsy));(focus (first | (simp (disch:=(first | assumption | omega | (simp only[qab,qai,qad,qae];first | done | omega))) only[LLb,beq_self_eq_true,qcN,oBs,Sh.size,qa5,qbK,Nat.reduceAdd,Nat.reduceLeDiff,qak];first | done | rfl) | rfl));try dsimp only)
  rw[qa6 (by decide),qfw]
  repeat ((with_reducible (first | apply bs | apply bsy));(focus (first | (simp (disch:=(first | assumption | omega | (simp only[qab,qai,qad,qae];first | done | omega))) only[LLb,beq_self_eq_true,qcN,oBs,Sh.size,qa5,qbK,Nat.reduceAdd,Nat.reduceLeDiff,qak];first | done | rfl) | rfl));try dsimp only)
  rfl
 obtain ⟨m',e⟩:=key
 unfold AP qdK
 rw[e]
 rfl
theorem qFE (d:Option Nat) (m:Mem):qaN (AP cfg) d m 13 []=some (.bool true,m):=by rw[qkt,V13];rfl
end
inductive NR (e:Nat) (m:Mem):AV->List ND->List Nat->Prop
 | none:NR e m (.lst none true .full []) [] []
 | some (t:Nat) (l:List ND) (ht:m.get t=some (.tok l.length 3)):NR e m (.lst (some 3) false (.tok t e) (l.map ND.av)) l [t]
end Go.Ab

/- What the interpreter does, function by function. -/
set_option maxRecDepth 100000
namespace Go.Ab
open Go.Proofs.Tryz
def qEi (x5:AV) (m:Mem):St:=⟨(yA4 (yA1 (x5::qd7 (yA8 (yA2 []))))),m⟩
noncomputable def qsn (x0 x1 x5 x6:AV) (m:Mem) (K:KT):OM:=qbq (qaM cfg 14 (AP cfg) (AC cfg) (c1 (c1 (c2 (c1 (c2 (c2 (qaq f14)))))))) (cfg.mask 14 (some 3)) ⟨(x0::x1::yA2 (yA1 (x5::x6::qd7 (yA8 (yA1 []))))),m⟩ K
noncomputable abbrev qBi (K:KT):KT:=qdH (fun st=>qaM cfg 14 (AP cfg) (AC cfg) (c2 (c2 (c2 (qaq f14)))) st K) K
noncomputable abbrev qBj (K:KT):KT:=qbb 0 (qBi K)
noncomputable abbrev qxz (K:KT):KT:=(qBj K)
theorem T14 (a0 a1:AV) (m:Mem):AC cfg 14 [a0,a1] m =
 qsn a0 a1 (.lst none true .full []) (.int .i64 0) m (qxz (qbw cfg.P f14.results.toList)):=
(qbx cfg 14 [a0,a1] m (fn:=f14) (c:=qaq f14) qI4 rfl).trans (by kernel_rfl)
theorem qqn (x0 x1 x5 x6:AV) (m:Mem) (K:KT):qsn x0 x1 x5 x6 m K =
 (qaN (AP cfg) none m 12 [x0,(.int .i64 300)]).bind fun r1=>
 (qaz .other .lss x6 r1.1).bind fun v2=>
 ifA v2 (
 (qbY false x1).bind fun v3=>
 (qaz .other .gtr v3 (.int .i64 0)).bind fun v4=>
 ifA v4 (
 (qbY false x1).bind fun v5=>
 (qaz .other .rem x6 v5).bind fun v6=>
 (qag none x1 v6).bind fun v7=>
 (qat none r1.2 v7).bind fun v8=>
 (qaz .other .rem v8 (.int .i64 5)).bind fun v9=>
 (qaz .other .add v9 (.int .i64 5)).bind fun v10=>
 (qaz .other .rem v10 (.int .i64 5)).bind fun v11=>
 (qaY none [v11]).bind fun v12=>
 (qd6 none false 3 none 8 r1.2 x5 v12).bind fun r13=>
 (qaz .other .add x6 (.int .i64 1)).bind fun v14=>
 qsn x0 x1 r13.1 v14 r13.2 K) (
 (qaz .other .rem (.int .i64 0) (.int .i64 5)).bind fun v15=>
 (qaz .other .add v15 (.int .i64 5)).bind fun v16=>
 (qaz .other .rem v16 (.int .i64 5)).bind fun v17=>
 (qaY none [v17]).bind fun v18=>
 (qd6 none false 3 none 8 r1.2 x5 v18).bind fun r19=>
 (qaz .other .add x6 (.int .i64 1)).bind fun v20=>
 qsn x0 x1 r19.1 v20 r19.2 K)) (
 K (.exit 0) (qEi x5 r1.2)):=
(qa3 (qaT _) _ _ _).trans (by kernel_rfl)
theorem qxA (x5:AV) (m:Mem):qxz (qbw cfg.P f14.results.toList) (.exit 0) (qEi x5 m) =
 some (x5,m):=by kernel_rfl
theorem T15 (a0 a1:AV) (m:Mem):AC cfg 15 [a0,a1] m =
 (AC cfg 32 [a0] m).bind fun r1=>
 (qaF r1.1 0).bind fun v2=>
 (qaF r1.1 1).bind fun v3=>
 (qaz .other .neq v3 (.int .i64 0)).bind fun v4=>
 ifA v4 (
 some ((.tup [.nilp,(.int .i64 0),(.bool false)]),r1.2)) (
 (AC cfg 62 [v2,a0,a1,(.int .i64 0)] r1.2).bind fun r5=>
 (qaF r5.1 0).bind fun v6=>
 (qaF r5.1 1).bind fun v7=>
 (qaz .other .eql v7 (.int .i64 0)).bind fun v8=>
 some ((.tup [v2,v6,v8]),r5.2)):=
(qbx cfg 15 [a0,a1] m (fn:=f15) (c:=qaq f15) qI5 rfl).trans (by kernel_rfl)
def qCh (x5:AV) (m:Mem):St:=⟨(yA4 (yA1 (x5::qdR (yA4 (yA2 (yA1 [])))))),m⟩
noncomputable def quC (x1 x5 x6 x12 x13 x14:AV) (m:Mem) (K:KT):OM:=qbq (qaM cfg 16 (AP cfg) (AC cfg) (c1 (c1 (c2 (c1 (c2 (c2 (c2 (qaq f16))))))))) (cfg.mask 16 (some 4)) ⟨(yA1 (x1::yA2 (yA1 (x5::x6::yA4 (yA1 (x12::x13::x14::qd7 (yA8 (yA4 (yA2 []))))))))),m⟩ K
def qyP (x1 x5 x6 x9 x12 x13 x14:AV) (m:Mem):St:=⟨(yA1 (x1::yA2 (yA1 (x5::x6::yA2 (x9::yA2 (x12::x13::x14::qd7 (yA8 (yA4 (yA2 []))))))))),m⟩
noncomputable def qoR (x1 x5 x6 x8 x9 x10 x12 x13 x14:AV) (m:Mem) (K:KT):OM:=qbq (qaM cfg 16 (AP cfg) (AC cfg) (c1 (c1 (c2 (c1 (c2 (c2 (c1 (c1 (c2 (c2 (c1 (c1 (c2 (c1 (c2 (c2 (c2 (qaq f16))))))))))))))))))) (cfg.mask 16 (some 8)) ⟨(yA1 (x1::yA2 (yA1 (x5::x6::yA1 (x8::x9::x10::yA1 (x12::x13::x14::qd7 (yA8 (yA4 (yA2 []))))))))),m⟩ K
noncomputable abbrev qBk (K:KT):KT:=qdH (fun st=>qaM cfg 16 (AP cfg) (AC cfg) (c2 (c2 (c2 (c2 (qaq f16))))) st K) K
noncomputable abbrev qBl (K:KT):KT:=qbb 0 (qBk K)
noncomputable abbrev qxL (K:KT):KT:=(qBl K)
noncomputable abbrev qBm (K:KT):KT:=qdH (fun st=>qaM cfg 16 (AP cfg) (AC cfg) (c2 (c2 (c2 (c1 (c1 (c2 (c1 (c2 (c2 (c2 (qaq f16))))))))))) st (qcQ (fun st=>qbq (qaM cfg 16 (AP cfg) (AC cfg) (c1 (c1 (c2 (c1 (c2 (c2 (c2 (qaq f16))))))))) (cfg.mask 16 (some 4)) st K) (cfg.mask 16 (some 4)) K)) (qcQ (fun st=>qbq (qaM cfg 16 (AP cfg) (AC cfg) (c1 (c1 (c2 (c1 (c2 (c2 (c2 (qaq f16))))))))) (cfg.mask 16 (some 4)) st K) (cfg.mask 16 (some 4)) K)
noncomputable abbrev qtT (K:KT):KT:=qbb 1 (qBm K)
noncomputable abbrev qBn (K:KT):KT:=qdH (fun st=>qaM cfg 16 (AP cfg) (AC cfg) (c2 (c2 (c2 (c1 (c1 (c2 (c2 (c1 (c1 (c2 (c1 (c2 (c2 (c2 (qaq f16))))))))))))))) st (qtT K)) (qtT K)
noncomputable abbrev qBo (K:KT):KT:=qbb 2 (qBn K)
noncomputable abbrev qxN (K:KT):KT:=(qBo K)
theorem T16 (a0 a1:AV) (m:Mem):AC cfg 16 [a0,a1] m =
 (qbY false a0).bind fun v1=>
 quC a1 (.lst none true .full []) (.int .i64 0) a0 v1 (.int .i64 0) m (qxL (qbw cfg.P f16.results.toList)):=
(qbx cfg 16 [a0,a1] m (fn:=f16) (c:=qaq f16) qI6 rfl).trans (by kernel_rfl)
theorem qqr (x1 x5 x6 x12 x13 x14:AV) (m:Mem) (K:KT):quC x1 x5 x6 x12 x13 x14 m K =
 (qaz .other .lss x14 x13).bind fun v1=>
 ifA v1 (
 (qag none x12 x14).bind fun v2=>
 (qat none m v2).bind fun v3=>
 qoR x1 x5 x6 v3 (.lst none true .full []) (.int .i64 0) x12 x13 x14 m (qxN K)) (
 K (.exit 0) (qCh x5 m)):=
(qa3 (qaT _) _ _ _).trans (by kernel_rfl)
theorem qlR (x1 x5 x6 x8 x9 x10 x12 x13 x14:AV) (m:Mem) (K:KT):qoR x1 x5 x6 x8 x9 x10 x12 x13 x14 m K =
 (qaz .other .lss x10 x8).bind fun v1=>
 ifA v1 (
 (qbY false x1).bind fun v2=>
 (qaz .other .gtr v2 (.int .i64 0)).bind fun v3=>
 ifA v3 (
 (qbY false x1).bind fun v4=>
 (qaz .other .rem x6 v4).bind fun v5=>
 (qag none x1 v5).bind fun v6=>
 (qat none m v6).bind fun v7=>
 (qaz .other .add x6 (.int .i64 1)).bind fun v8=>
 (qaY none [v7]).bind fun v9=>
 (qd6 none false 3 none 8 m x9 v9).bind fun r10=>
 (qaz .other .add x10 (.int .i64 1)).bind fun v11=>
 qoR x1 x5 v8 x8 r10.1 v11 x12 x13 x14 r10.2 K) (
 (qaY none [(.int .i64 1)]).bind fun v12=>
 (qd6 none false 3 none 8 m x9 v12).bind fun r13=>
 (qaz .other .add x10 (.int .i64 1)).bind fun v14=>
 qoR x1 x5 x6 x8 r13.1 v14 x12 x13 x14 r13.2 K)) (
 K (.exit 2) (qyP x1 x5 x6 x9 x12 x13 x14 m)):=
(qa3 (qaT _) _ _ _).trans (by kernel_rfl)
theorem qxM (x5:AV) (m:Mem):qxL (qbw cfg.P f16.results.toList) (.exit 0) (qCh x5 m) =
 some (x5,m):=by kernel_rfl
theorem qxO (x1 x5 x6 x9 x12 x13 x14:AV) (m:Mem) (K:KT):qxN K (.exit 2) (qyP x1 x5 x6 x9 x12 x13 x14 m) =
 (qaY none [x9]).bind fun v1=>
 (qd6 none false 22 none 24 m x5 v1).bind fun r2=>
 (qaz .other .add x14 (.int .i64 1)).bind fun v3=>
 quC x1 r2.1 x6 x12 x13 v3 r2.2 K:=by kernel_rfl
def qEk (x0 x3 x10:AV) (m:Mem):St:=⟨(x0::yA2 (x3::yA4 (yA2 (x10::qdR (qd7 (yA8 (yA4 []))))))),m⟩
def qFO (x8 x9:AV) (m:Mem):St:=⟨(yA8 (x8::x9::qdR (qd7 (yA8 (yA4 (yA1 [])))))),m⟩
noncomputable def qsp (x0 x1 x2 x3 x10 x11 x12:AV) (m:Mem) (K:KT):OM:=qbq (qaM cfg 62 (AP cfg) (AC cfg) (c1 (c1 (c2 (c1 (c2 (c2 (c2 (c2 (qaq f62)))))))))) (cfg.mask 62 (some 6)) ⟨(x0::x1::x2::x3::yA4 (yA2 (x10::x11::x12::qdR (qd7 (yA8 (yA2 [])))))),m⟩ K
noncomputable abbrev qBN (K:KT):KT:=qdH (fun st=>qaM cfg 62 (AP cfg) (AC cfg) (c2 (c2 (c2 (c2 (c2 (qaq f62)))))) st K) K
noncomputable abbrev qBO (K:KT):KT:=qbb 0 (qBN K)
noncomputable abbrev qut (K:KT):KT:=(qBO K)
theorem T62 (a0 a1 a2 a3:AV) (m:Mem):AC cfg 62 [a0,a1,a2,a3] m =
 (qbY false a1).bind fun v1=>
 (qaz .other .eql a3 v1).bind fun v2=>
 ifA v2 (
 (qag none a2 (.int .i64 0)).bind fun v3=>
 (qat none m v3).bind fun v4=>
 (AC cfg 33 [a0,v4] m).bind fun r5=>
 (qaF r5.1 0).bind fun v6=>
 (qaF r5.1 1).bind fun v7=>
 some ((.tup [v6,v7]),r5.2)) (
 (qbY false a2).bind fun v8=>
 (qag none a1 a3).bind fun v9=>
 (qat none m v9).bind fun v10=>
 (qaz .other .quo v8 v10).bind fun v11=>
 qsp a0 a1 a2 a3 (.lst none true .full []) v11 (.int .i64 0) m (qut (qbw cfg.P f62.results.toList))):=
(qbx cfg 62 [a0,a1,a2,a3] m (fn:=f62) (c:=qaq f62) qJn rfl).trans (by kernel_rfl)
theorem qqH (x0 x1 x2 x3 x10 x11 x12:AV) (m:Mem) (K:KT):qsp x0 x1 x2 x3 x10 x11 x12 m K =
 (qag none x1 x3).bind fun v1=>
 (qat none m v1).bind fun v2=>
 (qaz .other .lss x12 v2).bind fun v3=>
 ifA v3 (
 (qaz .other .mul x12 x11).bind fun v4=>
 (qaz .other .add x12 (.int .i64 1)).bind fun v5=>
 (qaz .other .mul v5 x11).bind fun v6=>
 (qf7 none x2 (some v4) (some v6) none).bind fun v7=>
 (qaz .other .add x3 (.int .i64 1)).bind fun v8=>
 (AC cfg 62 [x0,x1,v7,v8] m).bind fun r9=>
 (qaF r9.1 0).bind fun v10=>
 (qaF r9.1 1).bind fun v11=>
 (qaz .other .neq v11 (.int .i64 0)).bind fun v12=>
 ifA v12 (
 K .ret (qFO (.int .i64 0) v11 r9.2)) (
 (qaY none [v10]).bind fun v13=>
 (qd6 none false 3 none 8 r9.2 x10 v13).bind fun r14=>
 (qaz .other .add x12 (.int .i64 1)).bind fun v15=>
 qsp x0 x1 x2 x3 r14.1 x11 v15 r14.2 K)) (
 K (.exit 0) (qEk x0 x3 x10 m)):=
(qa3 (qaT _) _ _ _).trans (by kernel_rfl)
theorem qyn (x0 x3 x10:AV) (m:Mem):qut (qbw cfg.P f62.results.toList) (.exit 0) (qEk x0 x3 x10 m) =
 (AC cfg 34 [x0,x3,x10] m).bind fun r1=>
 (qaF r1.1 0).bind fun v2=>
 (qaF r1.1 1).bind fun v3=>
 some ((.tup [v2,v3]),r1.2):=by kernel_rfl
def qCm (x15:AV) (m:Mem):St:=⟨(yA8 (yA4 (yA2 (yA1 (x15::qdC (qdR (yA8 (yA2 [])))))))),m⟩
def qEm (x6:AV) (m:Mem):St:=⟨(yA4 (yA2 (x6::qdC (qdR (qd7 (yA2 (yA1 []))))))),m⟩
noncomputable def quF (x12 x14 x15 x79 x80:AV) (m:Mem) (K:KT):OM:=qbq (qaM cfg 3 (AP cfg) (AC cfg) (c1 (c1 (c2 (c1 (c2 (c2 (c2 (c2 (c2 (c2 (c2 (c2 (c2 (c2 (c2 (c2 (qaq f3)))))))))))))))))) (cfg.mask 3 (some 17)) ⟨(yA8 (yA4 (x12::yA1 (x14::x15::qdR (qd7 (yA8 (yA4 (yA2 (yA1 (x79::x80::qdR (yA8 (yA1 [])))))))))))),m⟩ K
noncomputable abbrev qBA (K:KT):KT:=qdH (fun st=>qaM cfg 3 (AP cfg) (AC cfg) (c2 (c2 (c2 (c2 (c2 (c2 (c2 (c2 (c2 (c2 (c2 (c2 (c2 (qaq f3)))))))))))))) st K) K
noncomputable abbrev qBB (K:KT):KT:=qbb 0 (qBA K)
noncomputable abbrev qyg (K:KT):KT:=(qBB K)
theorem T3 (a0 a1 a2:AV) (m:Mem):AC cfg 3 [a0,a1,a2] m =
 (qaN (AP cfg) none m 10 [a0]).bind fun r1=>
 (qaN (AP cfg) none r1.2 11 [r1.1]).bind fun r2=>
 (qaz .other .neq r2.1 (.int .i64 0)).bind fun v3=>
 ifA v3 (
 (qaN (AP cfg) none r2.2 13 []).bind fun r4=>
 some (r4.1,r4.2)) (
 (qaN (AP cfg) none r2.2 12 [r1.1,(.int .i64 100)]).bind fun r5=>
 (qaz .other .eql r5.1 (.int .i64 0)).bind fun v6=>
 ifA v6 (
 (qaN (AP cfg) none r5.2 13 []).bind fun r7=>
 some (r7.1,r7.2)) (
 (qaN (AP cfg) none r5.2 14 [r1.1,a1]).bind fun r8=>
 (AC cfg 15 [r1.1,r8.1] r8.2).bind fun r9=>
 (qaF r9.1 0).bind fun v10=>
 (qaF r9.1 1).bind fun v11=>
 (qaF r9.1 2).bind fun v12=>
 (unA .not v12).bind fun v13=>
 ifA v13 (
 some ((.bool false),r9.2)) (
 (qaN (AP cfg) none r9.2 16 [r1.1,a2]).bind fun r14=>
 (AC cfg 17 [v10,v11,r14.1] r14.2).bind fun r15=>
 (qaF r15.1 0).bind fun v16=>
 (qaF r15.1 1).bind fun v17=>
 (qaN (AP cfg) none r15.2 18 [r1.1,r14.1]).bind fun r18=>
 (unA .not r18.1).bind fun v19=>
 ifA v19 (
 (qaz .other .eql v17 (.int .i64 1)).bind fun v20=>
 ifA v20 (
 (qbY false v16).bind fun v21=>
 (qaz .other .eql v21 (.int .i64 0)).bind fun v22=>
 ifA v22 (
 (qaN (AP cfg) none r18.2 13 []).bind fun r23=>
 some (r23.1,r23.2)) (
 some ((.bool false),r18.2))) (
 some ((.bool false),r18.2))) (
 (qaN (AP cfg) none r18.2 19 [r1.1,r8.1,r14.1]).bind fun r24=>
 (qaN (AP cfg) none r24.2 20 []).bind fun r25=>
 (qaR (some 3) (qaH none r25.2 (.obj true [(.bool false),(.lst none true .full []),(.lst none true .full [])])).2 (.ptr (qaH none r25.2 .resv).1 0) r25.1).bind fun m26=>
 (qaz .other .neq v17 (.int .i64 0)).bind fun v27=>
 ifA v27 (
 some ((.bool false),m26)) (
 (qbY false v16).bind fun v28=>
 (qbY false r24.1).bind fun v29=>
 (qaz .other .neq v28 v29).bind fun v30=>
 ifA v30 (
 some ((.bool false),m26)) (
 (qbY false v16).bind fun v31=>
 quF v16 r24.1 (.ptr (qaH none r25.2 .resv).1 0) v31 (.int .i64 0) m26 (qyg (qbw cfg.P f3.results.toList)))))))):=
(qbx cfg 3 [a0,a1,a2] m (fn:=f3) (c:=qaq f3) at3 rfl).trans (by kernel_rfl)
theorem qqC (x12 x14 x15 x79 x80:AV) (m:Mem) (K:KT):quF x12 x14 x15 x79 x80 m K =
 (qaz .other .lss x80 x79).bind fun v1=>
 ifA v1 (
 (qag (some 4) x12 x80).bind fun v2=>
 (qaB 0 v2).bind fun v3=>
 (qat none m v3).bind fun v4=>
 (qag (some 4) x14 x80).bind fun v5=>
 (qaB 0 v5).bind fun v6=>
 (qat none m v6).bind fun v7=>
 (qaz .other .neq v4 v7).bind fun v8=>
 ifA v8 (
 K .ret (qEm (.bool false) m)) (
 (qag (some 4) x12 x80).bind fun v9=>
 (qaB 1 v9).bind fun v10=>
 (qat (some 3) m v10).bind fun v11=>
 (qag (some 4) x14 x80).bind fun v12=>
 (qaB 1 v12).bind fun v13=>
 (qat (some 3) m v13).bind fun v14=>
 (qaN (AP cfg) (some m.length) m 21 [v11,v14]).bind fun r15=>
 (unA .not r15.1).bind fun v16=>
 ifA v16 (
 K .ret (qEm (.bool false) r15.2)) (
 (qat (some 3) r15.2 x15).bind fun v17=>
 (qag (some 4) x12 x80).bind fun v18=>
 (qaB 1 v18).bind fun v19=>
 (qat (some 3) r15.2 v19).bind fun v20=>
 (qaN (AP cfg) (some r15.2.length) r15.2 22 [v17,v20]).bind fun r21=>
 (qaR (some 3) r21.2 x15 r21.1).bind fun m22=>
 (qaz .other .add x80 (.int .i64 1)).bind fun v23=>
 quF x12 x14 x15 x79 v23 m22 K))) (
 K (.exit 0) (qCm x15 m)):=
(qa3 (qaT _) _ _ _).trans (by kernel_rfl)
theorem qyh (x15:AV) (m:Mem):qyg (qbw cfg.P f3.results.toList) (.exit 0) (qCm x15 m) =
 (qat (some 3) m x15).bind fun v1=>
 (qaN (AP cfg) (some m.length) m 23 []).bind fun r2=>
 (qaN (AP cfg) (some m.length) r2.2 21 [v1,r2.1]).bind fun r3=>
 ifA r3.1 (
 (qaN (AP cfg) (some m.length) r3.2 13 []).bind fun r4=>
 some (r4.1,r4.2)) (
 some ((.bool false),r3.2)):=by kernel_rfl
end Go.Ab
