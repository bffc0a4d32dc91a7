/- WholeImage, part 25 of 38: contracts and lemmas of its proof. Conditions: none. -/
import Derived.Test.YtaaihijkdhmcdaaGreatDoorW23
set_option linter.unusedVariables false
set_option linter.unusedSimpArgs false
set_option maxRecDepth 100000
namespace Go.Proofs.YtaaihijkdhmcdaaGreatDoor
section
open Go Go.RowKit
open TR
section
variable {w w':World} {m b p j x base cap:Nat} {V V':PV} {G G' F F':Nat→Prop} {made:List Nat} {a:Option Addr}
set_option maxHeartbeats 4000000
theorem cmn_ne:∀ {a b:List Nb} (h:cmn a b<a.length) (h2:cmn a b<b.length),a[cmn a b]≠b[cmn a b]
 | [],_,h,_=>absurd h (Nat.not_lt_zero _)
 | _::_,[],_,h2=>absurd h2 (Nat.not_lt_zero _)
 | x::a,y::b,h,h2=>by
  by_cases e:x=y
  ·have e2:cmn (x::a) (y::b)=cmn a b+1:=by rw [cmn,if_pos e]
   simp only [e2,List.getElem_cons_succ];rw [e2] at h h2;exact cmn_ne (by simpa using h) (by simpa using h2)
  ·have e2:cmn (x::a) (y::b)=0:=by rw [cmn,if_neg e]
   simp only [e2,List.getElem_cons_zero];exact e
theorem jobGrowB_calls (hm:m=6∨m=24)(q:NP)(o wd:Nat)(lab:Nb)(pr:List Nb)(vl:BitVec 64)(ks:Ks)(key r:List Nb)(a7:Option Addr)(c7:Nat)(u:BitVec 64)(w0:World)(h:JS w0 m V b p j x base made F)(hr:Rest m V)(hst:V.D.steps+3010000<1099511627776)
  (hq:NdS w0 F q (Tr.nd o pr vl ks).nv) (h7:SlIn .u8 w0 a7 r c7) (hs7:SepA w0 F a7) (hA:(Tr.nd o pr vl ks).At (NAt m V)) (hO:(Tr.nd o pr vl ks).Ok key) (hmd:made.length≤900) (hk:(key++r).length≤32∧(key++r).length%2=0) (h16:∀ y∈r,y.toNat<16) (hu:u≠0#64)
  (sm:Nat) (hsm:cmn pr r=sm) (hlt:sm<pr.length) :
  Ret Tryz.prog 134 #[.pointer (some ⟨j,0,none⟩),.agg (plC q (Tr.nd o pr vl ks).nv o lab wd),.slice a7 r.length c7,.int .u64 (uv u)] w0 fun v w'=>GrowP m V b p j x base made F (.nd o pr vl ks) key r u w0 v w':=by
 have bel0:=Below.refl w0.heap.size w0;have zf:=sz hm;have hmx:=h7.max;have hle:=h7.le;have hr32:r.length≤32:=by have:=hk.1;rw [List.length_append] at this;omega
 have hsr:=(cmn_le pr r).2;rw [hsm] at hsr;obtain ⟨n,hn⟩:∃ n:NdV,n=⟨pr,vl,ks.labels,ks.offs⟩:=⟨_,rfl⟩;have hnn:(Tr.nd o pr vl ks).nv=n:=hn.symm;have hN:=(at_nd.1 hA).1;rw [← hn] at hN;rw [hnn] at hq ⊢;have hpn:n.pre=pr:=by rw [hn]
 have hB:=Blk.new w0 (plC q n o lab wd) 236;obtain ⟨C,hC⟩:∃ C,C=plC q n o lab wd:=⟨_,rfl⟩;have hC0:C[0]?=some (.slice q.a1 pr.length q.c1):=by rw [hC,hn];rfl
 have hC1:C[1]?=some (.int .u64 (uv n.val)):=by rw [hC];rfl
 have hC2:C[2]?=some (.slice q.a2 n.labels.length q.c2):=by rw [hC];rfl
 have hC3:C[3]?=some (.slice q.a3 n.kids.length q.c3):=by rw [hC];rfl
 have hqc:q.cs n=#[.slice q.a1 pr.length q.c1,.int .u64 (uv n.val),.slice q.a2 n.labels.length q.c2,.slice q.a3 n.kids.length q.c3]:=by rw [hn];rfl
 have hqpre:=hq.in_.pre;rw [hpn] at hqpre;have hp15:pr.length≤15:=by have:=hN.right.p15;rw [hpn] at this;exact this
 have hcle:=hqpre.le;have hcmx:=hqpre.max;obtain ⟨pb,po,ha,-⟩:=hqpre.at_.cell hlt;have e1:=IntWalk.i64_in ((sm:Int)+1) (by omega);have v1:(sm:Int)+1≤pr.length:=by omega
 have v2:sm+1≤pr.length:=by omega
 have v3:(0:Int)≤(sm:Int)+1:=by omega
 have v4:¬ (sm:Int)<0:=by omega
 have v5:(sm:Int)<pr.length:=by omega
 have v6:((sm:Int)==(pr.length:Int))=false:=by rw [beq_eq_false_iff_ne];omega
 rw [← hC] at hB ⊢;have hCs:C.size=7:=by rw [hC];rfl
 refine ret_of (args:=[_,_,_,_]) _ Tryz.func134 rfl Tryz.ntmps134 (by simp) ?_;simp -implicitDefEqProofs [go_sem,hC0];have hBF:¬ F w0.heap.size:=fun hf=>by have:=h.lt _ hf;omega
 have hw0:=h;have hq0:=hq;have h70:=h7;generalize hw1:World.alloc w0 _=w1 at *;obtain ⟨hB1,b1,sz1,bel1⟩:=newF hw1 bel0;replace h:=h.next b1
 replace hq:=hq.next b1
 replace h7:=h7.next b1
 have hs7':=hs7.next b1
 refine callE_of (nibCommon_calls q.a1 a7 pr r q.c1 c7 w1 (by have:=hq.in_.pre;rw [hpn] at this;exact this) h7) ?_;rintro v w2 ⟨rfl,b2⟩;rw [hsm];have bel2:=btr bel1 b2;replace h:=h.next b2
 replace hq:=hq.next b2
 replace h7:=h7.next b2
 replace hB1:=hB1.next b2
 replace hs7':=hs7'.next b2
 have ld2:=ldE (P:=Tryz.prog) (o:=0) (cs:=q.cs n) hB1 Tryz.underlying234 rfl ndI (by rw [hCs];decide) (by rw [hC];rfl);have st2:=stNew (P:=Tryz.prog) (t:=234) (cs:=q.cs n) (C0:=#[.slice none 0 0,.int .u64 0,.slice none 0 0,.slice none 0 0]) ndI rfl (q.cs_one n);simp -implicitDefEqProofs [go_sem,hB1.cell,hC0,e1,v1,v2,v3,v6,ha,↓ld2,↓st2];generalize hw3:World.alloc w2 _=w3 at *;obtain ⟨hB3,b3,sz3,bel3⟩:=newF hw3 bel2;replace h:=h.next b3
 replace hq:=hq.next b3
 replace h7:=h7.next b3
 replace hB1:=hB1.next b3
 replace hs7':=hs7'.next b3
 obtain ⟨al,hal⟩:∃ al,al=if q.c1=sm+1 then some (⟨pb,po,none⟩:Addr) else some ⟨pb,po+(sm+1),none⟩:=⟨_,rfl⟩
 obtain ⟨ql,hql⟩:∃ ql:NP,ql=⟨al,q.c1-(sm+1),q.a2,q.c2,q.a3,q.c3⟩:=⟨_,rfl⟩;obtain ⟨nl,hnl⟩:∃ nl:NdV,nl=⟨pr.drop (sm+1),n.val,n.labels,n.kids⟩:=⟨_,rfl⟩;have hB4:Blk (w3.setCell ⟨w2.heap.size,0,none⟩ (.slice (if q.c1=sm+1 then some (⟨pb,po,none⟩:Addr) else some ⟨pb,po+(sm+1),none⟩) (pr.length-(sm+1)) (q.c1-(sm+1)))) w2.heap.size (ql.cs nl) 234:=by
  have h1:=hB3.set 0 (.slice (if q.c1=sm+1 then some (⟨pb,po,none⟩:Addr) else some ⟨pb,po+(sm+1),none⟩) (pr.length-(sm+1)) (q.c1-(sm+1)));have e:(q.cs n).setIfInBounds 0 (.slice (if q.c1=sm+1 then some (⟨pb,po,none⟩:Addr) else some ⟨pb,po+(sm+1),none⟩) (pr.length-(sm+1)) (q.c1-(sm+1)))=ql.cs nl:=by
   rw [hql,hnl,← hal,← List.length_drop];rfl
  rw [e] at h1;exact h1
 have ld4:=ldAll (P:=Tryz.prog) hB4 Tryz.underlying234 rfl ndI (n:=4) (ql.cs_size nl);simp -implicitDefEqProofs [go_sem,hB1.cell,hC0,e1,v1,v2,v3,v6,ha,hB3.cell,hB3.thaw,NP.cs_0,↓ld4];have s02:=bel2.size;have bel4:=bel3.setCell (p:=⟨w2.heap.size,0,none⟩) (show w0.heap.size≤w2.heap.size by omega) (.slice (if q.c1=sm+1 then some (⟨pb,po,none⟩:Addr) else some ⟨pb,po+(sm+1),none⟩) (pr.length-(sm+1)) (q.c1-(sm+1)))
 have hB14:=hB1.setOther (a:=⟨w2.heap.size,0,none⟩) (show w2.heap.size≠w0.heap.size by have:=hB1.lt;have:=sz1;have:=b2.size;omega) (.slice (if q.c1=sm+1 then some (⟨pb,po,none⟩:Addr) else some ⟨pb,po+(sm+1),none⟩) (pr.length-(sm+1)) (q.c1-(sm+1)));generalize World.setCell w3 _ _=w4 at *;have hJ4:=hw0.next bel4
 have hq4:=hq0.next bel4
 have h74:=h70.next bel4
 have hs74:=hs7.next bel4
 have hpre4:SlIn .u8 w4 (some ⟨pb,po,none⟩) pr q.c1:=by
  have:=hq4.in_.pre;rw [ha,hpn] at this;exact this
 have hin4:NdIn w4 ql nl:=by
  rw [hql,hnl,hal];exact ⟨hpre4.drop v2,hq4.in_.lab,hq4.in_.kid⟩
 have hnlR:nl.Right:=by
  have h1:=hN.right;rw [hnl];exact ⟨by rw [List.length_drop];omega,fun x hx=>h1.p16 x (by rw [hpn];exact List.mem_of_mem_drop hx),h1.l16,h1.rise,h1.len,h1.nz⟩
 have hl0:(pr.take sm).length=sm:=by rw [List.length_take];omega
 have htR:∀ z:BitVec 64,NdV.Right ⟨pr.take sm,z,[],[]⟩:=fun z=>⟨by rw [hl0];omega,fun x hx=>hN.right.p16 x (by rw [hpn];exact List.mem_of_mem_take hx),(fun _ h=>by cases h),List.Pairwise.nil,rfl,(fun _ h=>by cases h)⟩
 have hcs:∀ z:BitVec 64,NP.cs ⟨some ⟨pb,po,none⟩,sm,none,0,none,0⟩ ⟨pr.take sm,z,[],[]⟩=#[.slice (some ⟨pb,po,none⟩) sm sm,.int .u64 (uv z),.slice none 0 0,.slice none 0 0]:=fun z=>by
  show #[Value.slice _ (pr.take sm).length sm,_,_,_]=_;rw [hl0];rfl
 have hins:∀ (w:World) (z:BitVec 64),SlIn .u8 w (some ⟨pb,po,none⟩) pr q.c1→NdIn w ⟨some ⟨pb,po,none⟩,sm,none,0,none,0⟩ ⟨pr.take sm,z,[],[]⟩:=fun w z hin=>⟨⟨hin.at_.take sm,show (pr.take sm).length≤sm by omega,show sm≤9223372036854775807 by omega,fun h=>by cases h⟩,⟨.inl rfl,Nat.le_refl _,Nat.zero_le _,fun _=>rfl⟩,⟨.inl rfl,Nat.le_refl _,Nat.zero_le _,fun _=>rfl⟩⟩
 have hy16:pr[sm].toNat<16:=hN.right.p16 _ (by rw [hpn];exact List.getElem_mem _);have w1':(sm:Int)≤q.c1:=by omega
 have w2':sm≤q.c1:=by omega
 have w3':(0:Int)≤(sm:Int):=by omega
 refine callE_of (jobBuild_calls ql nl w4 hJ4 hr hm (by omega) hin4 hnlR (by omega)) ?_;rintro v w5 ⟨F5,t5,hres⟩;obtain ⟨hB5,hBF5⟩:=hB14.keepT hBF t5;have hq5:=hq4.turn t5;have h75:=h74.turn hs74 t5;have hs75:=hs74.turn t5;have st5:=stNew (P:=Tryz.prog) (t:=234) (cs:=#[.slice (some ⟨pb,po,none⟩) sm sm,.int .u64 0,.slice none 0 0,.slice none 0 0]) (C0:=#[.slice none 0 0,.int .u64 0,.slice none 0 0,.slice none 0 0]) ndI rfl (by simp [Value.oneCell']);have tw5:=(Turn.of bel4).trans t5
 have s5:=hB5.lt;by_cases hsr2:sm=r.length
 ·have x1:((sm:Int)==(r.length:Int))=true:=by rw [beq_iff_eq];omega
  have hpr:pr.take sm=r:=by rw [cmn_take (l:=pr) (r:=r) (by omega),hsr2,List.take_length]
  rcases hres with ⟨o1,V1,rfl,hG1,hN1,hJ5⟩|⟨rfl,hM5,hJ5⟩
  all_goals
   simp -implicitDefEqProofs [go_sem,hB5.cell,hC0,ha,x1,w1',w2',w3',↓st5];obtain ⟨CT,hCT⟩:∃ CT:Array Value,CT=#[.slice (some ⟨pb,po,none⟩) sm sm,.int .u64 (uv u),.slice none 0 0,.slice none 0 0]:=⟨_,rfl⟩;rw [← hCT];have hCTs:CT.size=4:=by rw [hCT];rfl
   refine drawE_mix [.pure 0,.pure 2,.pure 3,.pure 5,.pure 8,.pure 9,.take 1,.run 4 [1],.pure 6,.run 7 [1],.run 10 [],.pure 11,.pure 12,.pure 13,.pure 14] mixed (by decide +kernel) (by simp only [wo];rfl) ?_;have b6:Below w5.heap.size w5 (World.drew (w5.alloc (.cells CT 234))):=((Below.refl _ _).alloc (Nat.le_refl _) _).drew;have hBT:Blk (World.drew (w5.alloc (.cells CT 234))) w5.heap.size CT 234:=Blk.new _ _ _;generalize World.drew (w5.alloc (.cells CT 234))=w6 at *;have hB6:=hB5.next b6
   have hJ6:=hJ5.next b6
   have hq6:=hq5.next b6
   have hpre6:SlIn .u8 w6 (some ⟨pb,po,none⟩) pr q.c1:=by
    have:=hq6.in_.pre;rw [ha,hpn] at this;exact this
   obtain ⟨pb',po',hpa,hpc⟩:=hpre6.at_.cell hlt;obtain ⟨rfl,rfl⟩:pb=pb'∧po=po':=by simpa using hpa
   simp -implicitDefEqProofs [go_sem,v4,v5,hlt];refine onTake_of (fun w'=>Blk w' w5.heap.size CT 234) (.agg CT) hBT (fun w' hw=>by simp -implicitDefEqProofs [go_sem,hw.cell,hCT]) ?_;simp -implicitDefEqProofs [go_sem,hB6.cell,hC0,ha,v4,v5,hlt,hpc]
  ·have hA2:=jobAbove_calls ⟨some ⟨pb,po,none⟩,sm,none,0,none,0⟩ ⟨pr.take sm,u,[],[]⟩ pr[sm] (nameW o1) w6 hJ6 hG1.rest hm (by have:=hG1.steps;simp only [List.length_singleton] at this;omega) (hins w6 u hpre6) (htR u) (by rw [List.length_append,List.length_singleton];omega) (fun h=>by cases h) hy16 (name_ne (o:=o1) (by obtain ⟨g1,g2,g3,_⟩:=hN1.in_ hm;omega) (by obtain ⟨g1,g2,g3,_⟩:=hN1.in_ hm;omega));rw [hcs,← hCT] at hA2;refine callE_of hA2 ?_
   rintro v w7 ⟨F7,i,hi,hi1,hi2,t7,⟨off,V7,rfl,hG7,hN7,hJ7⟩|⟨rfl,hM7,hJ7⟩⟩
   ·refine ⟨.inr ⟨(fun h=>by cases h),trivial⟩,?_⟩;simp -implicitDefEqProofs [go_sem];refine body_tmp2 8 9 rfl ?_;simp -implicitDefEqProofs [go_sem];have hi0:i=0:=by simpa using hi
    subst hi0;have hsplit:pr=r++pr[sm]::pr.drop (sm+1):=by
     rw [← List.drop_eq_getElem_cons hlt,← hpr,List.take_append_drop]
    have hN7':NAt m V7 off ⟨r,u,[pr[sm]],[nameW o1]⟩:=by rw [← hpr];exact hN7
    rw [hnl] at hN1;rw [hn] at hN1;have hO':=hO;have hA':=hA;obtain ⟨T',hTo,hT'⟩:=grown_top (o:=o) (o1:=o1) (o2:=off) (pc:=r) (p2:=pr.drop (sm+1)) (y:=pr[sm]) (v:=vl) (u:=u) (ks:=ks) (a:=key) (by rw [← hsplit];exact hO) (by rw [← hsplit];exact hA) hk.2 hG1 hN1 hG7 hN7';rw [← hsplit] at hT';exact ⟨F7,[o1]++[off],V7,tw5.trans ((Turn.of b6).trans t7),hG1.trans hG7,by rw [← List.append_assoc];exact hJ7,by simp,.inl ⟨T',by rw [hTo],hT'⟩⟩
   ·refine ⟨.inr ⟨(fun h=>by cases h),trivial⟩,?_⟩;simp -implicitDefEqProofs [go_sem];refine body_tmp2 8 9 rfl ?_;simp -implicitDefEqProofs [go_sem];exact ⟨F7,[o1],V1,tw5.trans ((Turn.of b6).trans t7),hG1,hJ7,by simp,.inr ⟨rfl,by simp,hM7⟩⟩
  ·have hA2:=jobAboveNo_calls (j:=j) ⟨some ⟨pb,po,none⟩,sm,none,0,none,0⟩ ⟨pr.take sm,u,[],[]⟩ (.int .u8 (uv pr[sm])) (.int .u64 0) w6;rw [hcs,← hCT] at hA2;refine callE_of hA2 ?_;rintro v w7 ⟨rfl,b7⟩;refine ⟨.inr ⟨(fun h=>by cases h),trivial⟩,?_⟩;simp -implicitDefEqProofs [go_sem];refine body_tmp2 8 9 rfl ?_;simp -implicitDefEqProofs [go_sem];exact ⟨F5,[],V,tw5.trans ((Turn.of b6).trans (Turn.of b7)),Grew.refl hr,by rw [List.append_nil];exact hJ6.next b7,by simp,.inr ⟨rfl,by simp,hM5⟩⟩
 ·have x1:((sm:Int)==(r.length:Int))=false:=by rw [beq_eq_false_iff_ne];omega
  have hsr3:sm<r.length:=by omega
  rcases hres with ⟨o1,V1,rfl,hG1,hN1,hJ5⟩|⟨rfl,hM5,hJ5⟩
  ·simp -implicitDefEqProofs [go_sem,hB5.cell,hC0,ha,x1,w1',w2',w3',↓st5];obtain ⟨CT,hCT⟩:∃ CT:Array Value,CT=#[.slice (some ⟨pb,po,none⟩) sm sm,.int .u64 0,.slice none 0 0,.slice none 0 0]:=⟨_,rfl⟩;rw [← hCT];have hCTs:CT.size=4:=by rw [hCT];rfl
   refine drawE_mix [.pure 1,.pure 2,.pure 4,.pure 7,.take 0,.run 3 [0],.pure 5,.run 6 [0],.run 8 [],.pure 9,.pure 10,.pure 11,.run 12 [],.pure 13] mixed (by decide +kernel) (by simp only [wo];rfl) ?_;have b6:Below w5.heap.size w5 (World.drew (w5.alloc (.cells CT 234))):=((Below.refl _ _).alloc (Nat.le_refl _) _).drew;have hBT:Blk (World.drew (w5.alloc (.cells CT 234))) w5.heap.size CT 234:=Blk.new _ _ _;generalize World.drew (w5.alloc (.cells CT 234))=w6 at *;have hB6:=hB5.next b6
   have hJ6:=hJ5.next b6
   have hq6:=hq5.next b6
   have hpre6:SlIn .u8 w6 (some ⟨pb,po,none⟩) pr q.c1:=by
    have:=hq6.in_.pre;rw [ha,hpn] at this;exact this
   obtain ⟨pb',po',hpa,hpc⟩:=hpre6.at_.cell hlt;obtain ⟨rfl,rfl⟩:pb=pb'∧po=po':=by simpa using hpa
   simp -implicitDefEqProofs [go_sem,v4,v5,hlt];refine onTake_of (fun w'=>Blk w' w5.heap.size CT 234) (.agg CT) hBT (fun w' hw=>by simp -implicitDefEqProofs [go_sem,hw.cell,hCT]) ?_;simp -implicitDefEqProofs [go_sem,hB6.cell,hC0,ha,v4,v5,hlt,hpc]
   have hW6:=nodeWith_calls ⟨some ⟨pb,po,none⟩,sm,none,0,none,0⟩ ⟨pr.take sm,0#64,[],[]⟩ pr[sm] (nameW o1) w6 (hins w6 0#64 hpre6) (htR 0#64) (fun h=>by cases h) hy16 (name_ne (o:=o1) (by obtain ⟨g1,g2,g3,_⟩:=hN1.in_ hm;omega) (by obtain ⟨g1,g2,g3,_⟩:=hN1.in_ hm;omega));rw [hcs,show uv (0#64)=0 from rfl,← hCT] at hW6;refine callE_of hW6 ?_;rintro v w7 ⟨q7,i,rfl,hi,hi1,hi2,hin7,hq7,b7⟩;have hi0:i=0:=by simpa using hi
   subst hi0;obtain ⟨n2,hn2⟩:∃ n2,n2=withN ⟨pr.take sm,0#64,[],[]⟩ 0 pr[sm] (nameW o1):=⟨_,rfl⟩;have hn2':n2=⟨pr.take sm,0#64,[pr[sm]],[nameW o1]⟩:=hn2;rw [← hn2] at hin7;rw [← hn2];have hBT7:=hBT.next b7
   have st7:=stAll (P:=Tryz.prog) (ty:=234) (cs:=q7.cs n2) hBT7 ndI (by rw [hCTs];rfl) (q7.cs_one _);have hBT8:=hBT7.row (q7.cs n2);have m8:Mod (fun k=>k=w5.heap.size) w7 (w7.setRow w5.heap.size (q7.cs n2)):=(Mod.refl (fun k=>k=w5.heap.size) w7).row (.inl rfl) _;have b57:=btr b6 b7;have b58:=below_setRow b57 (Nat.le_refl _) (q7.cs n2);obtain ⟨w8,hw8⟩:∃ w8,w8=w7.setRow w5.heap.size (q7.cs n2):=⟨_,rfl⟩;rw [← hw8] at st7 hBT8 m8 b58;refine ⟨.inr ⟨(fun h=>by cases h),trivial⟩,?_⟩
   simp -implicitDefEqProofs [go_sem,↓st7];have hJ8:=hJ5.next b58
   have h78:=h75.next b58
   have hs78:=hs75.next b58
   have s56:=b6.size;have s67:=b7.size;have hBlt:=hBT.lt;have hsz8:w8.heap.size=w7.heap.size:=by rw [hw8];simp
   have hge:∀ k,(BlkOf q7.a1 k∨BlkOf q7.a2 k∨BlkOf q7.a3 k)→w5.heap.size<k∧k<w7.heap.size:=fun k hk=>by have:=hq7 k hk;omega
   have hin8:NdIn w8 q7 n2:=⟨⟨hin7.pre.at_.mod m8 (fun k ⟨o,ho⟩ e=>by have:=hge k (.inl ⟨_,ho,rfl⟩);omega),hin7.pre.le,hin7.pre.max,hin7.pre.nil⟩,
    ⟨hin7.lab.at_.mod m8 (fun k ⟨o,ho⟩ e=>by have:=hge k (.inr (.inl ⟨_,ho,rfl⟩));omega),hin7.lab.le,hin7.lab.max,hin7.lab.nil⟩,
    ⟨hin7.kid.at_.mod m8 (fun k ⟨o,ho⟩ e=>by have:=hge k (.inr (.inr ⟨_,ho,rfl⟩));omega),hin7.kid.le,hin7.kid.max,hin7.kid.nil⟩⟩
   have hq8:NdS w8 F5 q7 n2:=⟨hin8,fun y hy=>⟨by have:=hge y.block (.inl ⟨y,hy,rfl⟩);omega,fun hf=>by have:=hge y.block (.inl ⟨y,hy,rfl⟩);have:=hJ5.lt _ hf;omega⟩,
    fun y hy=>⟨by have:=hge y.block (.inr (.inl ⟨y,hy,rfl⟩));omega,fun hf=>by have:=hge y.block (.inr (.inl ⟨y,hy,rfl⟩));have:=hJ5.lt _ hf;omega⟩,
    fun y hy=>⟨by have:=hge y.block (.inr (.inr ⟨y,hy,rfl⟩));omega,fun hf=>by have:=hge y.block (.inr (.inr ⟨y,hy,rfl⟩));have:=hJ5.lt _ hf;omega⟩⟩
   have hBTF:¬ F5 w5.heap.size:=fun hf=>by have:=hJ5.lt _ hf;omega
   obtain ⟨rb,ro,hra,-⟩:=h78.at_.cell hsr3;subst hra;have y1:(sm:Int)+1≤r.length:=by omega
   have y2:sm+1≤r.length:=by omega
   simp -implicitDefEqProofs [go_sem,e1,y1,y2,v3];have hd:=h78.drop y2;have hsd:SepA w8 F5 (if c7=sm+1 then some ⟨rb,ro,none⟩ else some ⟨rb,ro+(sm+1),none⟩):=fun y hy=>by
    have hy2:y.block=rb:=by split at hy<;>(obtain rfl:=Option.some.inj hy;rfl)
    have h3:=hs78 _ rfl;rw [hy2];exact h3
   have hl:=jobLeaf_calls hm u hu (r.drop (sm+1)).length (r.drop (sm+1)) _ (c7-(sm+1)) V1 (made++[o1]) F5 w8 (Nat.le_refl _) hJ8 hG1.rest (by have:=hG1.steps;simp only [List.length_singleton] at this;rw [List.length_drop];omega) hd hsd (fun x hx=>h16 x (List.mem_of_mem_drop hx)) (by rw [List.length_drop];omega) (by rw [List.length_drop,List.length_append,List.length_singleton];omega);rw [List.length_drop] at hl;refine callE_of hl ?_;rintro v w9 ⟨F9,L1,V9,t9,hG9,hJ9,hL1,hres⟩
   obtain ⟨hBT9,hBTF9⟩:=hBT8.keepT hBTF t9;have hq9:=hq8.turn t9;have h79:=h78.turn hs78 t9;have tw9:=tw5.trans ((Turn.of b58).trans t9);have hG19:=hG1.trans hG9;have hr7:(7:Nat)≤7:=Nat.le_refl _;have hL3:L1.length≤2:=by omega
   obtain ⟨rb',ro',hra',hrc'⟩:=h79.at_.cell hsr3;obtain ⟨rfl,rfl⟩:rb=rb'∧ro=ro':=by simpa using hra'
   have z1:(sm:Int)<r.length:=by omega
   have hne:=cmn_ne (a:=pr) (b:=r) (by rw [hsm];exact hlt) (by rw [hsm];exact hsr3);simp only [hsm] at hne;have hn2R:n2.Right:=by
    rw [hn2'];exact ⟨by rw [hl0];omega,(htR 0#64).p16,(fun x hx=>by rw [List.mem_singleton] at hx;rw [hx];exact hy16),List.pairwise_singleton _ _,rfl,(fun x hx=>by rw [List.mem_singleton] at hx;rw [hx];exact name_ne (o:=o1) (by obtain ⟨g1,g2,g3,_⟩:=hN1.in_ hm;omega) (by obtain ⟨g1,g2,g3,_⟩:=hN1.in_ hm;omega))⟩
   rcases hres with ⟨T,rfl,hT⟩|⟨rfl,hL1',hM1⟩
   all_goals
    simp -implicitDefEqProofs [go_sem,v4,z1,hsr3];refine drawE_mix [.pure 0,.pure 2,.pure 3,.pure 4,.pure 6,.pure 7,.take 1,.run 5 [1],.run 8 [],.pure 9,.pure 10,.pure 11,.pure 12] mixed (by decide +kernel) (by simp only [wo];rfl) ?_;have bd:=(Below.refl w9.heap.size w9).drew;have hrc4:(World.drew w9).cell? ⟨rb,ro+sm,none⟩=some (.int .u8 (uv r[sm])):=hrc';generalize World.drew w9=w10 at *;have hBT10:=hBT9.next bd
    have hJ10:=hJ9.next bd
    have hq10:=hq9.next bd
    simp -implicitDefEqProofs [go_sem,v4,z1,hsr3];refine onTake_of (fun w'=>Blk w' w5.heap.size (q7.cs n2) 234) (.agg (q7.cs n2)) hBT10 (fun w' hw=>by simp -implicitDefEqProofs [go_sem,hw.cell,NP.cs]) ?_;simp -implicitDefEqProofs [go_sem,hrc4]
   ·have hA2:=jobAbove_calls q7 n2 r[sm] (nameW T.off) w10 hJ10 hG19.rest hm (by have:=hG19.steps;rw [List.length_append,List.length_singleton] at this;omega) hq10.in_ hn2R (by rw [List.length_append,List.length_append,List.length_singleton];omega) (by rw [hn2'];intro hx;rw [List.mem_singleton] at hx;exact hne hx.symm) (h16 _ (List.getElem_mem _)) (leaf_off hm hT).1;refine callE_of hA2 ?_;rintro v w11 ⟨F11,i,hi,hi1,hi2,t11,⟨off,V11,rfl,hG11,hN11,hJ11⟩|⟨rfl,hM11,hJ11⟩⟩
    ·refine ⟨.inr ⟨(fun h=>by cases h),trivial⟩,?_⟩;simp -implicitDefEqProofs [go_sem];refine body_tmp2 8 9 rfl ?_;simp -implicitDefEqProofs [go_sem];have hsp:pr=pr.take sm++pr[sm]::pr.drop (sm+1):=by
      rw [← List.drop_eq_getElem_cons hlt,List.take_append_drop]
     have hrs:r=pr.take sm++r[sm]::r.drop (sm+1):=by
      rw [cmn_take (l:=pr) (r:=r) (k:=sm) (by omega),← List.drop_eq_getElem_cons hsr3,List.take_append_drop]
     rw [hnl] at hN1;rw [hn] at hN1;rw [hn2'] at hi hi1 hi2 hN11;have hi2':i≤1:=hi;have hN3:(pr[sm].toNat<r[sm].toNat∧NAt m V11 off ⟨pr.take sm,0#64,[pr[sm],r[sm]],[nameW o1,nameW T.off]⟩)∨(r[sm].toNat<pr[sm].toNat∧NAt m V11 off ⟨pr.take sm,0#64,[r[sm],pr[sm]],[nameW T.off,nameW o1]⟩):=by
      rcases Nat.lt_or_ge 0 i with h|h
      ·obtain rfl:i=1:=by omega
       exact .inl ⟨hi1 0 (Nat.lt_succ_self _) (Nat.lt_succ_self _),hN11⟩
      ·obtain rfl:i=0:=by omega
       exact .inr ⟨hi2 0 (Nat.lt_succ_self _) (Nat.le_refl _),hN11⟩
     obtain ⟨T',hTo,hT'⟩:=grown_two (o:=o) (o1:=o1) (o3:=off) (pc:=pr.take sm) (p2:=pr.drop (sm+1)) (r2:=r.drop (sm+1)) (y:=pr[sm]) (z:=r[sm]) (v:=vl) (u:=u) (ks:=ks) (a:=key) (by rw [← hsp];exact hO) (by rw [← hsp];exact hA) (by rw [← hrs];exact hk) (h16 _ (List.getElem_mem _)) hG1 hN1 hG9 hT hG11 hN3;rw [← hsp,← hrs] at hT'
     exact ⟨F11,[o1]++L1++[off],V11,tw9.trans ((Turn.of bd).trans t11),hG19.trans hG11,by rw [← List.append_assoc,← List.append_assoc];exact hJ11,by simp;omega,.inl ⟨T',by rw [hTo],hT'⟩⟩
    ·refine ⟨.inr ⟨(fun h=>by cases h),trivial⟩,?_⟩;simp -implicitDefEqProofs [go_sem];refine body_tmp2 8 9 rfl ?_;simp -implicitDefEqProofs [go_sem];exact ⟨F11,[o1]++L1,V9,tw9.trans ((Turn.of bd).trans t11),hG19,by rw [← List.append_assoc];exact hJ11,by simp;omega,.inr ⟨rfl,by simp;omega,hM11⟩⟩
   ·refine callE_of (jobAboveNo_calls (j:=j) q7 n2 (.int .u8 (uv r[sm])) (.int .u64 0) w10) ?_;rintro v w11 ⟨rfl,b11⟩;refine ⟨.inr ⟨(fun h=>by cases h),trivial⟩,?_⟩;simp -implicitDefEqProofs [go_sem];refine body_tmp2 8 9 rfl ?_;simp -implicitDefEqProofs [go_sem];exact ⟨F9,[o1]++L1,V9,tw9.trans ((Turn.of bd).trans (Turn.of b11)),hG19,by rw [← List.append_assoc];exact hJ10.next b11,by simp;omega,.inr ⟨rfl,by simp;omega,hM1⟩⟩
  ·simp -implicitDefEqProofs [go_sem,hB5.cell,hC0,ha,x1,w1',w2',w3',↓st5];refine body_tmp2 8 9 rfl ?_;simp -implicitDefEqProofs [go_sem];have bA:=(Below.refl w5.heap.size w5).alloc (Nat.le_refl _) (.cells #[.slice (some ⟨pb,po,none⟩) sm sm,.int .u64 0,.slice none 0 0,.slice none 0 0] 234);exact ⟨F5,[],V,tw5.trans (Turn.of bA),Grew.refl hr,by rw [List.append_nil];exact hJ5.next bA,by simp,.inr ⟨rfl,by simp,hM5⟩⟩
end
end
section
open Go Go.RowKit
open TR
structure Gone (m:Nat) (V V':PV) (L:List Nat):Prop where
 rest:Rest m V'
 old:∀ y:Nat,y∉L→Bk m V' (y:Int)=Bk m V (y:Int)
 gone:∀ y∈L,Bk m V' ((y:Nat):Int)=0
 words:∀ x,x%8=0→x<64*nL m→(x<128∨dT m≤x)→V'.D.word x=V.D.word x
 steps:V'.D.steps≤V.D.steps+3*L.length
section
variable {m:Nat} {V V1 V2:PV} {L L1 L2:List Nat}
theorem Gone.refl (h:Rest m V):Gone m V V []:=⟨h,fun _ _=>rfl,(fun _ h=>by cases h),fun _ _ _ _=>rfl,Nat.le_refl _⟩
theorem Gone.trans (h:Gone m V V1 L1)(k:Gone m V1 V2 L2):Gone m V V2 (L1++L2):=by
 refine ⟨k.rest,fun y hy=>?_,fun y hy=>?_,fun x h1 h2 h3=>(k.words x h1 h2 h3).trans (h.words x h1 h2 h3),?_⟩
 ·rw [List.mem_append,not_or] at hy;exact (k.old y hy.2).trans (h.old y hy.1)
 ·by_cases h2:y∈L2
  ·exact k.gone y h2
  ·rcases List.mem_append.1 hy with hy|hy
   ·rw [k.old y h2];exact h.gone y hy
   ·exact absurd hy h2
 ·have:=h.steps;have:=k.steps;rw [List.length_append];omega
theorem gone_one (h:Rest m V)(hm:m=6∨m=24){off:Nat}(hb:0<Bk m V off):∃ V2,dropV (shN m) V off=(V2,0)∧Gone m V V2 [off]:=by
 obtain ⟨V2,e,r,b0,bo,hw,hs⟩:=rest_drop h hm hb;refine ⟨V2,e,r,fun y hy=>bo _ (nat_not_mem hy),fun y hy=>?_,hw,hs⟩;rw [List.mem_singleton] at hy;subst hy;exact b0
theorem bk_word (hm:m=6∨m=24){y i:Nat}(h:((8*i:Nat):Int)<Bk m V (y:Int)):(y+8*i)%8=0∧y+8*i<64*nL m∧dT m≤y+8*i:=by
 have zf:=sz hm;obtain ⟨n,e,h1,h2,h3,h4⟩:=bk_in hm (show 0<Bk m V (y:Int) by omega);obtain rfl:y=n:=by omega
 omega
theorem Gone.node (h:Gone m V V1 L)(hm:m=6∨m=24){o:Nat}{n:NdV}(hn:NAt m V o n)(ho:o∉L):NAt m V1 o n :=
 hn.keep (h.old o ho) fun i hi=>by
  obtain ⟨h1,h2,h3⟩:=bk_word (V:=V) (y:=o) hm (show ((8*i:Nat):Int)<_ by rw [hn.blk];omega);exact h.words _ h1 h2 (.inr h3)
theorem Gone.tree (h:Gone m V V1 L)(hm:m=6∨m=24){t:Tr}(ht:t.At (NAt m V))(hL:∀ y∈t.nodes,y∉L):t.At (NAt m V1):=at_mono ht fun o ho _ hn=>h.node hm hn (hL o ho)
def nodesO:Option Tr→List Nat
 | some T=>T.nodes
 | none=>[]
structure Own (m:Nat) (V:PV) (o:Option Tr) (X:List Nat):Prop where
 rest:Rest m V
 tree:TreeS m V o
 nd:(nodesO o++X).Nodup
 all:∀ y:Nat,0<Bk m V (y:Int)↔y∈nodesO o++X
structure Side (m:Nat) (V V':PV) (X:List Nat):Prop where
 blk:∀ y∈X,Bk m V' ((y:Nat):Int)=Bk m V ((y:Nat):Int)
 words:∀ y∈X,∀ i:Nat,((8*i:Nat):Int)<Bk m V ((y:Nat):Int)→V'.D.word (y+8*i)=V.D.word (y+8*i)
 head:∀ x,x%8=0→x<128→x≠72→V'.D.word x=V.D.word x
theorem Side.trans {X:List Nat}(h:Side m V V1 X)(k:Side m V1 V2 X):Side m V V2 X :=
 ⟨fun y hy=>(k.blk y hy).trans (h.blk y hy),fun y hy i hi=>(k.words y hy i (by rw [h.blk y hy];exact hi)).trans (h.words y hy i hi),fun x h1 h2 h3=>(k.head x h1 h2 h3).trans (h.head x h1 h2 h3)⟩
theorem Side.sub {X Y:List Nat}(h:Side m V V1 X)(hs:∀ y∈Y,y∈X):Side m V V1 Y:=⟨fun y hy=>h.blk y (hs y hy),fun y hy=>h.words y (hs y hy),h.head⟩
theorem Grew.side {X:List Nat}(h:Grew m V V1 L)(hX:∀ y∈X,0<Bk m V ((y:Nat):Int)):Side m V V1 X :=
 ⟨fun y hy=>(h.keep (hX y hy)).2,fun y _ i hi=>h.words y i hi,fun x h1 h2 _=>h.head x h1 h2⟩
theorem Gone.side {X:List Nat}(h:Gone m V V1 L)(hm:m=6∨m=24)(hX:∀ y∈X,y∉L):Side m V V1 X :=
 ⟨fun y hy=>h.old y (hX y hy),fun y _ i hi=>by
  obtain ⟨h1,h2,h3⟩:=bk_word hm hi;exact h.words _ h1 h2 (.inr h3),fun x h1 h2 _=>h.words x h1 (by have:=sz hm;omega) (.inl h2)⟩
theorem undone (hm:m=6∨m=24){o:Option Tr}{X:List Nat}(h:Own m V o X)(hG:Grew m V V1 L)(hD:Gone m V1 V2 L):Own m V2 o X∧Side m V V2 X:=by
 have hb:∀ y:Nat,Bk m V2 (y:Int)=Bk m V (y:Int):=fun y=>by
  by_cases hy:y∈L
  ·rw [hD.gone y hy,(hG.new y hy).1]
  ·rw [hD.old y hy,hG.old y hy]
 have hn:∀ y∈nodesO o++X,y∉L:=fun y hy=>(hG.keep ((h.all y).2 hy)).1
 have zf:=sz hm;refine ⟨⟨hD.rest,⟨?_,fun T hT=>?_,h.tree.ok⟩,h.nd,fun y=>by rw [hb];exact h.all y⟩,?_⟩
 ·rw [hD.words 72 (by decide) (by omega) (.inl (by decide)),hG.head 72 (by decide) (by decide)];exact h.tree.root
 ·obtain rfl:o=some T:=hT;exact hD.tree hm (hG.tree (h.tree.at_ T rfl)) fun y hy=>hn y (List.mem_append_left _ hy)
 ·exact (hG.side fun y hy=>(h.all y).2 (List.mem_append_right _ hy)).trans (hD.side hm fun y hy=>hn y (List.mem_append_right _ hy))
end
end
section
open Go Go.RowKit
open TR
namespace TR
theorem plug_at2 {N N':Nat→NdV→Prop}:∀ {c:List Fr} {t t':Tr},(plug c t).At N→(∀ o∈ndL c++ndR c,∀ n,N o n→N' o n)→t'.off=t.off→t'.At N'→(plug c t').At N'
 | [],_,_,_,_,_,ht=>ht
 | f::c,t,t',h,hm,ho,ht=>by
  have h2:=fill_at.1 (show (f.fill (plug c t)).At N from h);have hmem:∀ o,o∈ndL (f::c)++ndR (f::c)↔o=f.off∨o∈f.l.nodes∨o∈ndL c++ndR c∨o∈f.r.nodes:=fun o=>by
   show o∈(f.off::f.l.nodes++ndL c)++(ndR c++f.r.nodes)↔_;simp only [List.mem_append,List.mem_cons,List.cons_append,or_assoc]
  have hoff:(plug c t').off=(plug c t).off:=by cases c with
   | nil=>exact ho
   | cons g c=>rfl
  refine fill_at.2 ⟨?_,kids_mono h2.2.1 fun o ho=>hm o ((hmem o).2 (.inr (.inl ho))),plug_at2 h2.2.2.1 (fun o ho=>hm o ((hmem o).2 (.inr (.inr (.inl ho))))) ho ht,kids_mono h2.2.2.2 fun o ho=>hm o ((hmem o).2 (.inr (.inr (.inr ho))))⟩;show N' f.off (f.fill (plug c t')).nv;rw [nv_off hoff];exact hm _ ((hmem _).2 (.inl rfl)) _ h2.1
theorem fill_nv (f:Fr)(t t':Tr):(f.fill t').nv={ (f.fill t).nv with kids:=(f.fill t).nv.kids.set f.l.len (nameW t'.off) }:=by
 show NdV.mk _ _ _ _=NdV.mk _ _ _ _;simp only [Fr.fill,Tr.nv,app_labels,app_offs,Ks.labels,Ks.offs]
 congr 1
 rw [← offs_len f.l];simp
theorem ndL_snoc (f:Fr):∀ c:List Fr,f.off∈ndL (c++[f])
 | []=>by show f.off∈f.off::f.l.nodes++[];exact List.mem_cons_self
 | d::c=>by show f.off∈d.off::d.l.nodes++ndL (c++[f]);exact List.mem_append_right _ (ndL_snoc f c)
end TR
structure SwapT (m:Nat) (V':PV) (a key:List Nb) (u v:BitVec 64) (t T':Tr) (L D:List Nat):Prop where
 at_:T'.At (NAt m V')
 chg:TR.Chg key u v (t.items a) (T'.items a)
 ok:T'.Ok a
 nodes:(D++T'.nodes).Perm (t.nodes++L)
 sub:∀ y∈D,y∈t.nodes
theorem GrownT.swap {m:Nat}{V':PV}{a k:List Nb}{u:BitVec 64}{t T':Tr}{L:List Nat}(h:GrownT m V' a k u t T' L):SwapT m V' a k 0#64 u t T' L [t.off]:=by
 refine ⟨h.at_,h.chg,h.ok,h.nodes,fun y hy=>?_⟩;rw [List.mem_singleton] at hy;subst hy;obtain ⟨o,p,v,k⟩:=t;rw [nodes_nd];exact List.mem_cons_self
section
variable {m:Nat} {V V1 V2 V3:PV} {L D X:List Nat}
def pokeV (V:PV)(z:Nat)(u:BitVec 64):PV:={ V with D:=(runS V.D (putS (z:Int) u)).1 }
theorem poke_bk (V:PV)(z:Nat)(u:BitVec 64)(m:Nat)(y:Int):Bk m (pokeV V z u) y=Bk m V y:=rfl
structure Poke (m:Nat) (V V1:PV) (z:Nat) (u:BitVec 64):Prop where
 rest:Rest m V1
 bk:∀ y,Bk m V1 y=Bk m V y
 words:∀ x,x%8=0→x<64*nL m→V1.D.word x=if x=z then u else V.D.word x
 steps:V1.D.steps≤V.D.steps+3
theorem poke (h:Rest m V)(hm:m=6∨m=24){z:Nat}(h8:z%8=0)(ho:z+8≤64*nL m)(ho2:64≤z∧z<128∨dT m≤z)(u:BitVec 64):(runS V.D (putS (z:Int) u)).2=0∧Poke m V (pokeV V z u) z u:=by
 obtain ⟨h1,h2,h3,h4⟩:=rest_put h hm h8 ho ho2 u;exact ⟨h1,h2,fun _=>rfl,h3,h4⟩
theorem Poke.other {z o i:Nat}{u:BitVec 64}(h:Poke m V V1 z u)(hm:m=6∨m=24)(hz:z=o+8*i)(hi:((8*i:Nat):Int)<Bk m V (o:Int)){y j:Nat}(hy:y≠o)(hj:((8*j:Nat):Int)<Bk m V (y:Int)):V1.D.word (y+8*j)=V.D.word (y+8*j):=by
 obtain ⟨h1,h2,h3⟩:=bk_word hm hj;obtain ⟨g1,g2,g3⟩:=bk_word hm hi;have ha:=bk_apart hm (show 0<Bk m V (y:Int) by omega) (show 0<Bk m V (o:Int) by omega) (show (y:Int)≠(o:Int) by omega);have i1:=bk_in hm (show 0<Bk m V (y:Int) by omega);have i2:=bk_in hm (show 0<Bk m V (o:Int) by omega);obtain ⟨n1,e1,_,_,_,k1⟩:=i1;obtain ⟨n2,e2,_,_,_,k2⟩:=i2;rw [h.words _ h1 h2,if_neg (by omega)]
theorem Poke.low {z:Nat}{u:BitVec 64}(h:Poke m V V1 z u)(hm:m=6∨m=24)(hz:z<128){y j:Nat}(hj:((8*j:Nat):Int)<Bk m V (y:Int)):V1.D.word (y+8*j)=V.D.word (y+8*j):=by
 have zf:=sz hm;obtain ⟨h1,h2,h3⟩:=bk_word hm hj;rw [h.words _ h1 h2,if_neg (by omega)]
theorem Poke.node {z o i:Nat}{u:BitVec 64}(h:Poke m V V1 z u)(hm:m=6∨m=24)(hz:z=o+8*i)(hi:((8*i:Nat):Int)<Bk m V (o:Int)){y:Nat}{n:NdV}(hy:y≠o)(hn:NAt m V y n):NAt m V1 y n :=
 hn.keep (h.bk _) fun j hj=>h.other hm hz hi hy (by rw [hn.blk];omega)
theorem Poke.nodeL {z:Nat}{u:BitVec 64}(h:Poke m V V1 z u)(hm:m=6∨m=24)(hz:z<128){y:Nat}{n:NdV}(hn:NAt m V y n):NAt m V1 y n :=
 hn.keep (h.bk _) fun j hj=>h.low hm hz (by rw [hn.blk];omega)
theorem wd_facts {c:List Fr}{t:Tr}(hm:m=6∨m=24)(hA:(plug c t).At (NAt m V)):(c=[]∧wdW c t c.length=72)∨∃ c0 f,c=c0++[f]∧wdW c t c.length=f.off+8*numW (f.fill t).nv f.l.len∧NAt m V f.off (f.fill t).nv∧f.l.len<(f.fill t).nv.kids.length∧numW (f.fill t).nv f.l.len<(f.fill t).nv.many:=by
 rcases List.eq_nil_or_concat c with rfl|⟨c0,f,rfl⟩
 ·exact .inl ⟨rfl,rfl⟩
 ·refine .inr ⟨c0,f,by simp,?_,?_⟩
  ·simp only [List.concat_eq_append,List.length_append,List.length_singleton];exact wdW_end c0 f t
  ·rw [List.concat_eq_append,plug_app] at hA;have h1:=(fill_at.1 (show (f.fill t).At (NAt m V) from plug_at hA)).1;have hl:f.l.len<(f.fill t).nv.kids.length:=by
    show _<(Ks.offs _).length;rw [offs_len,app_len];show _<f.l.len+(f.r.len+1);omega
   exact ⟨h1,hl,(num_lt h1.right hl).2⟩
theorem wd_ok {c:List Fr}{t:Tr}(hm:m=6∨m=24)(hA:(plug c t).At (NAt m V)):wdW c t c.length%8=0∧wdW c t c.length+8≤64*nL m∧(64≤wdW c t c.length∧wdW c t c.length<128∨dT m≤wdW c t c.length):=by
 have zf:=sz hm
 rcases wd_facts hm hA with ⟨rfl,e⟩|⟨c0,f,rfl,e,h1,h2,h3⟩
 ·rw [e];omega
 ·obtain ⟨n1,n2,n3,_⟩:=h1.in_ hm;rw [e];omega
theorem own_swap {c:List Fr}{t T':Tr}{key:List Nb}{u v:BitVec 64}(hm:m=6∨m=24)(h:Own m V (some (plug c t)) X)(hG:Grew m V V1 L)(hS:SwapT m V1 (pth c) key u v t T' L D) :
  (runS V1.D (putS ((wdW c t c.length:Nat):Int) (nameW T'.off))).2=0∧Poke m V1 (pokeV V1 (wdW c t c.length) (nameW T'.off)) (wdW c t c.length) (nameW T'.off)∧D.Nodup∧(∀ y∈D,0<Bk m V1 ((y:Nat):Int)) ∧
   TR.Chg key u v ((plug c t).items []) ((plug c T').items [])∧∀ V3,Gone m (pokeV V1 (wdW c t c.length) (nameW T'.off)) V3 D→Own m V3 (some (plug c T')) X∧Side m V V3 X:=by
 have zf:=sz hm;have hA:(plug c t).At (NAt m V):=h.tree.at_ _ rfl;have hA1:=hG.tree hA;have hO:(plug c t).Ok []:=h.tree.ok _ rfl;obtain ⟨q1,q2,q3⟩:=wd_ok hm hA;obtain ⟨p1,hP⟩:=poke hG.rest hm q1 q2 q3 (nameW T'.off);obtain ⟨z,hz⟩:∃ z,z=wdW c t c.length:=⟨_,rfl⟩;rw [← hz] at p1 hP q1 q2 q3 ⊢;have hn:nodesO (some (plug c t))=ndL c++t.nodes++ndR c:=plug_nodes c t;have hn':nodesO (some (plug c T'))=ndL c++T'.nodes++ndR c:=plug_nodes c T'
 have hnew:∀ y∈L,y∉nodesO (some (plug c t))++X:=fun y hy hm2=>by
  have:=(h.all y).2 hm2;have:=(hG.new y hy).1;omega
 have hbig:((D++(ndL c++T'.nodes++ndR c))++X).Perm ((ndL c++t.nodes++ndR c++X)++L):=by
  have e1:(D++(ndL c++T'.nodes++ndR c)).Perm (ndL c++(D++T'.nodes)++ndR c):=by
   rw [← List.append_assoc,← List.append_assoc,← List.append_assoc];exact ((List.perm_append_comm (l₁:=D) (l₂:=ndL c)).append (List.Perm.refl _)).append (List.Perm.refl _)
  have e2:(ndL c++(D++T'.nodes)++ndR c++X).Perm (ndL c++(t.nodes++L)++ndR c++X):=(((List.Perm.refl _).append hS.nodes).append (List.Perm.refl _)).append (List.Perm.refl _);refine (e1.append (List.Perm.refl _)).trans (e2.trans ?_);simp only [List.append_assoc];refine (List.Perm.refl _).append ((List.Perm.refl _).append ?_);refine (List.perm_append_comm (l₁:=L)).trans ?_;simp only [List.append_assoc];exact List.Perm.refl _
 have hnd0:((ndL c++t.nodes++ndR c++X)++L).Nodup:=by
  refine List.nodup_append.2 ⟨by rw [← hn];exact h.nd,hG.nd,fun a ha b hb e=>?_⟩;subst e;exact hnew a hb (by rw [hn];exact ha)
 have hnd:=hbig.nodup_iff.2 hnd0;rw [List.append_assoc] at hnd;obtain ⟨d1,d2,d3⟩:=List.nodup_append.1 hnd;have hDt:∀ y∈D,y∈nodesO (some (plug c t)):=fun y hy=>by
  rw [hn];exact List.mem_append_left _ (List.mem_append_right _ (hS.sub y hy))
 have hDpos:∀ y∈D,0<Bk m V1 ((y:Nat):Int):=fun y hy=>by
  have h1:=(h.all y).2 (List.mem_append_left _ (hDt y hy));rw [(hG.keep h1).2];exact h1
 refine ⟨p1,hP,d1,hDpos,Chg.plug (by rw [List.nil_append];exact hS.chg),fun V3 hD=>?_⟩;have hX:∀ y∈X,y∉D∧y∉L∧0<Bk m V ((y:Nat):Int):=fun y hy=>by
  have hp:=(h.all y).2 (List.mem_append_right _ hy);exact ⟨fun hd=>d3 y hd y (List.mem_append_right _ hy) rfl,(hG.keep hp).1,hp⟩
 have hstay:∀ o∈ndL c++ndR c,o∉D:=fun o ho hd=>by
  refine d3 o hd o (List.mem_append_left _ ?_) rfl
  rcases List.mem_append.1 ho with ho|ho
  ·exact List.mem_append_left _ (List.mem_append_left _ ho)
  ·exact List.mem_append_right _ ho
 have hT'D:∀ o∈T'.nodes,o∉D:=fun o ho hd=>d3 o hd o (List.mem_append_left _ (List.mem_append_left _ (List.mem_append_right _ ho))) rfl
 have hbk:∀ y:Nat,Bk m V3 (y:Int)=if y∈D then 0 else Bk m V1 (y:Int):=fun y=>by
  by_cases hy:y∈D
  ·rw [if_pos hy,hD.gone y hy]
  ·rw [if_neg hy,hD.old y hy,hP.bk]
 have hok':(plug c T').Ok []:=plug_ok' hO (by rw [List.nil_append];exact hS.ok);have hall:∀ y:Nat,0<Bk m V3 (y:Int)↔y∈nodesO (some (plug c T'))++X:=fun y=>by
  have hmm:=hbig.mem_iff (a:=y);rw [hbk,hn'];have h1:0<Bk m V1 (y:Int)↔y∈(ndL c++t.nodes++ndR c++X)++L:=by
   rw [List.mem_append,← hn,← h.all];by_cases hy:y∈L
   ·exact ⟨fun _=>.inr hy,fun _=>(hG.new y hy).2⟩
   ·rw [hG.old y hy];exact ⟨.inl,fun h=>h.elim id fun h=>absurd h hy⟩
  by_cases hy:y∈D
  ·rw [if_pos hy];refine ⟨fun h=>absurd h (by omega),fun hc=>absurd rfl (d3 y hy y hc)⟩
  ·rw [if_neg hy,h1,← hmm,List.append_assoc,List.mem_append];exact ⟨fun h=>h.elim (fun h=>absurd h hy) id,.inr⟩
 have hroot2:(pokeV V1 z (nameW T'.off)).D.word 72=nameW (plug c T').off:=by
  rw [hP.words 72 (by decide) (by omega)]
  rcases wd_facts hm hA with ⟨rfl,e⟩|⟨c0,f,rfl,e,h1,h2,h3⟩
  ·rw [if_pos (by omega)];rfl
  ·obtain ⟨n1,n2,n3,_⟩:=h1.in_ hm;rw [if_neg (by omega),hG.head 72 (by decide) (by decide),plug_off c0 f t T'];exact h.tree.root
 have hside:Side m V1 (pokeV V1 z (nameW T'.off)) X:=by
  refine ⟨fun y _=>hP.bk _,fun y hy i hi=>?_,fun x x1 x2 x3=>?_⟩
  ·rcases wd_facts hm hA1 with ⟨rfl,e⟩|⟨c0,f,rfl,e,h1,h2,h3⟩
   ·exact hP.low hm (by omega) hi
   ·refine hP.other hm (o:=f.off) (i:=numW (f.fill t).nv f.l.len) (by omega) (by rw [h1.blk];omega) (fun e2=>?_) hi;have h4:f.off∈ndL (c0++[f]):=ndL_snoc f c0;have:=(List.nodup_append.1 d2).2.2 f.off (List.mem_append_left _ (List.mem_append_left _ h4)) y hy;exact this e2.symm
  ·rw [hP.words x x1 (by omega),if_neg ?_]
   rcases wd_facts hm hA with ⟨rfl,e⟩|⟨c0,f,rfl,e,h1,h2,h3⟩
   ·omega
   ·obtain ⟨n1,n2,n3,_⟩:=h1.in_ hm;omega
 refine ⟨⟨hD.rest,⟨?_,fun T hT=>?_,fun T hT=>by obtain rfl:=Option.some.inj (show some (plug c T')=some T from hT);exact hok'⟩,by rw [hn'];exact d2,hall⟩,?_⟩
 ·rw [hD.words 72 (by decide) (by omega) (.inl (by decide))];exact hroot2
 ·obtain rfl:=Option.some.inj (show some (plug c T')=some T from hT)
  rcases wd_facts hm hA1 with ⟨rfl,e⟩|⟨c0,f,rfl,e,h1,h2,h3⟩
  ·exact hD.tree hm (at_mono hS.at_ fun o _ n hn=>hP.nodeL hm (by omega) hn) hT'D
  ·have hfi:((8*numW (f.fill t).nv f.l.len:Nat):Int)<Bk m V1 (f.off:Int):=by rw [h1.blk];omega
   have d4:=(List.nodup_append.1 d2).1;have hfL:f.off∈ndL (c0++[f]):=ndL_snoc f c0;have hsub:(ndL (c0++[f])++ndR (c0++[f])).Nodup:=by
    refine List.Sublist.nodup ?_ d4;exact List.Sublist.append (List.sublist_append_left _ _) (List.Sublist.refl _)
   have hfT:∀ o∈T'.nodes,o≠f.off:=fun o ho e2=>by
    have:=(List.nodup_append.1 (List.nodup_append.1 d4).1).2.2 f.off hfL o ho;exact this e2.symm
   refine plug_at' (N:=NAt m V1) (t:=t) hA1 (fun o ho hne n hn=>?_) hsub ?_ ?_
   ·exact hD.node hm (hP.node hm (o:=f.off) (i:=numW (f.fill t).nv f.l.len) (by omega) hfi hne hn) (hstay o ho)
   ·refine hD.node hm (n:=(f.fill T').nv) ?_ (hstay _ (List.mem_append_left _ hfL));rw [fill_nv f t T'];have hT0:nameW T'.off≠0#64:=by
     obtain ⟨o',p',v',k'⟩:=T';obtain ⟨g1,g2,g3,_⟩:=(at_nd.1 hS.at_).1.in_ hm;exact name_ne (o:=o') (by omega) (by omega)
    have hmany:({ (f.fill t).nv with kids:=(f.fill t).nv.kids.set f.l.len (nameW T'.off) }:NdV).many=(f.fill t).nv.many:=by
     unfold NdV.many;simp only [List.length_set]
    refine ⟨⟨h1.right.p15,h1.right.p16,h1.right.l16,h1.right.rise,by simp only [List.length_set];exact h1.right.len,fun k hk=>?_⟩,?_,fun i hi=>?_⟩
    ·rcases List.mem_or_eq_of_mem_set hk with hk|rfl
     ·exact h1.right.nz k hk
     ·exact hT0
    ·rw [hmany,hP.bk];exact h1.blk
    ·rw [hmany] at hi;rw [enc_kid h1.right h2 _ hi,hP.words _ (by obtain ⟨g1,g2,g3,_⟩:=h1.in_ hm;omega) (by obtain ⟨g1,g2,g3,_⟩:=h1.in_ hm;omega)];by_cases hi2:i=numW (f.fill t).nv f.l.len
     ·rw [if_pos hi2,if_pos (by omega)]
     ·rw [if_neg hi2,if_neg (by omega)];exact h1.words i hi
   ·exact hD.tree hm (at_mono hS.at_ fun o ho n hn=>hP.node hm (o:=f.off) (i:=numW (f.fill t).nv f.l.len) (by omega) hfi (hfT o ho) hn) hT'D
 ·exact (hG.side fun y hy=>(hX y hy).2.2).trans (hside.trans (hD.side hm fun y hy=>(hX y hy).1))
theorem own_value {c:List Fr}{o:Nat}{p:List Nb}{v u:BitVec 64}{k:Ks}(hm:m=6∨m=24)(h:Own m V (some (plug c (.nd o p v k))) X)(he:u≠0#64→(pth c++p).length%2=0) :
  (runS V.D (putS ((o+16:Nat):Int) u)).2=0∧Poke m V (pokeV V (o+16) u) (o+16) u∧Own m (pokeV V (o+16) u) (some (plug c (.nd o p u k))) X∧Side m V (pokeV V (o+16) u) X∧TR.Chg (pth c++p) v u ((plug c (.nd o p v k)).items []) ((plug c (.nd o p u k)).items []):=by
 have zf:=sz hm;have hA:(plug c (.nd o p v k)).At (NAt m V):=h.tree.at_ _ rfl;have hO:(plug c (.nd o p v k)).Ok []:=h.tree.ok _ rfl;have hN:=(at_nd.1 (plug_at hA)).1;obtain ⟨n1,n2,n3,_⟩:=hN.in_ hm;have hmany:8≤(NdV.mk p v k.labels k.offs).many:=by rcases many_eq (NdV.mk p v k.labels k.offs) with ⟨e,_⟩|⟨e,_⟩<;>omega
 obtain ⟨p1,hP⟩:=poke h.rest hm (z:=o+16) (by omega) (by omega) (.inr (by omega)) u;have hn:nodesO (some (plug c (.nd o p v k)))=ndL c++(o::k.nodes)++ndR c:=by rw [← nodes_nd];exact plug_nodes c _
 have hn':nodesO (some (plug c (.nd o p u k)))=ndL c++(o::k.nodes)++ndR c:=by rw [← nodes_nd];exact plug_nodes c _
 have hnd:=h.nd;rw [hn] at hnd;have d1:=List.nodup_append.1 hnd;have d2:=List.nodup_append.1 d1.1;have d3:=List.nodup_append.1 d2.1;have hok:o∉k.nodes:=(List.nodup_cons.1 d3.2.1).1;have hstay:∀ y∈ndL c++ndR c,y≠o:=fun y hy e=>by
  rcases List.mem_append.1 hy with hy|hy
  ·exact d3.2.2 y hy o List.mem_cons_self e
  ·exact d2.2.2 o (List.mem_append_right _ List.mem_cons_self) y hy e.symm
 have hi:((8*2:Nat):Int)<Bk m V (o:Int):=by rw [hN.blk];omega
 have hko:=kids_mono (N':=NAt m (pokeV V (o+16) u)) (at_nd.1 (plug_at hA)).2 fun y hy n hn=>hP.node hm (o:=o) (i:=2) rfl hi (fun e=>hok (e▸hy)) hn
 have hto:=plug_ok hO;rw [List.nil_append] at hto;refine ⟨p1,hP,⟨hP.rest,⟨?_,fun T hT=>?_,fun T hT=>?_⟩,by rw [hn'];exact hnd,fun y=>by rw [hn',← hn,poke_bk];exact h.all y⟩,⟨fun y _=>rfl,fun y hy j hj=>?_,fun x x1 x2 x3=>?_⟩,Chg.plug (by rw [List.nil_append];exact chg_value o p v u k _)⟩
 ·rw [hP.words 72 (by decide) (by omega),if_neg (by omega)];have:=h.tree.root;rw [this];cases c with
  | nil=>rfl
  | cons f c=>rfl
 ·obtain rfl:=Option.some.inj (show some (plug c (.nd o p u k))=some T from hT);refine plug_at2 hA (fun y hy n hn=>hP.node hm (o:=o) (i:=2) rfl hi (hstay y hy) hn) rfl (at_nd.2 ⟨⟨?_,hN.blk,fun i hi=>?_⟩,hko⟩)
  ·exact ⟨hN.right.p15,hN.right.p16,hN.right.l16,hN.right.rise,hN.right.len,hN.right.nz⟩
  ·have e:=enc_val (n:=NdV.mk p v k.labels k.offs) u i;have hi:i<(NdV.mk p v k.labels k.offs).many:=hi;show _=encW { NdV.mk p v k.labels k.offs with val:=u } i;rw [e,hP.words _ (by omega) (by omega)];by_cases h2:i=2
   ·rw [if_pos h2,if_pos (by omega)]
   ·rw [if_neg h2,if_neg (by omega)];exact hN.words i hi
 ·obtain rfl:=Option.some.inj (show some (plug c (.nd o p u k))=some T from hT);exact plug_ok' hO (by rw [List.nil_append];exact ok_value hto he)
 ·exact hP.other hm (o:=o) (i:=2) rfl hi (fun e=>d1.2.2 o (List.mem_append_left _ (List.mem_append_right _ List.mem_cons_self)) y hy e.symm) hj
 ·rw [hP.words x x1 (by omega),if_neg (by omega)]
end
end
section
open Go Go.RowKit
open TR
namespace TR
theorem subT_app (c d:List Fr)(t:Tr){i:Nat}(h:i≤c.length):subT (c++d) t i=subT c (plug d t) i:=by
 unfold subT;rw [List.drop_append_of_le_length h,plug_app]
theorem lbW_app (c d:List Fr){i:Nat}(h:i≤c.length):lbW (c++d) i=lbW c i:=by
 cases i with
 | zero=>rfl
 | succ i=>rw [lbW_succ,lbW_succ,List.getElem?_append_left (by omega)]
theorem wdW_app (c d:List Fr)(t:Tr){i:Nat}(h:i≤c.length):wdW (c++d) t i=wdW c (plug d t) i:=by
 cases i with
 | zero=>rfl
 | succ i=>rw [wdW_succ,wdW_succ,List.getElem?_append_left (by omega),subT_app c d t (by omega)]
theorem bare_iff (f:Fr)(t:Tr):f.bare↔(f.fill t).nv.val=0#64∧(f.fill t).nv.kids.length=1:=by
 have e:(f.fill t).nv.kids.length=f.l.len+(f.r.len+1):=by
  show (Ks.offs _).length=_;rw [offs_len,app_len];rfl
 rw [e];constructor
 ·rintro ⟨h1,h2,h3⟩;exact ⟨h1,by rw [h2,h3];rfl⟩
 ·rintro ⟨h1,h2⟩;refine ⟨h1,?_,?_⟩
  ·cases hl:f.l with
   | nil=>rfl
   | cons x t r=>rw [hl] at h2;simp only [Ks.len] at h2;omega
  ·cases hl:f.r with
   | nil=>rfl
   | cons x t r=>rw [hl] at h2;simp only [Ks.len] at h2;omega
end TR
section
variable {m:Nat} {V V1 V2 V3:PV} {L D X:List Nat}
theorem less_nv (o o2:Nat)(p:List Nb)(v:BitVec 64)(kl kr:Ks)(x:Nb)(t:Tr):(Tr.nd o2 p v (kl.app kr)).nv=lessN (Tr.nd o p v (kl.app (.cons x t kr))).nv kl.len:=by
 show NdV.mk _ _ _ _=NdV.mk _ _ _ _;simp only [Tr.nv,app_labels,app_offs,Ks.labels,Ks.offs]
 congr 1
 ·rw [← labels_len kl];simp [List.eraseIdx_append_of_length_le]
 ·rw [← offs_len kl];simp [List.eraseIdx_append_of_length_le]
theorem swap_prune {f:Fr}{c2:List Fr}{o off:Nat}{p:List Nb}{v:BitVec 64}{a:List Nb}(hG:Grew m V V1 [off])(hb:∀ g∈c2,g.bare)(hA:(f.fill (plug c2 (.nd o p v .nil))).At (NAt m V))(hO:(f.fill (plug c2 (.nd o p v .nil))).Ok a)
  (hN:NAt m V1 off (lessN (f.fill (plug c2 (.nd o p v .nil))).nv f.l.len)) (hD:D.Perm (f.off::(c2.map Fr.off++[o]))) :
  SwapT m V1 a (a++(f.pre++f.x::(pth c2++p))) v 0#64 (f.fill (plug c2 (.nd o p v .nil))) (.nd off f.pre f.val (f.l.app f.r)) [off] D:=by
 have hk:=fill_at.1 hA;have hbn:=bare_nodes (.nd o p v .nil) hb;have hnod:(f.fill (plug c2 (.nd o p v .nil))).nodes=(f.off::f.l.nodes)++(c2.map Fr.off++[o])++f.r.nodes:=by
  rw [fill_nodes,hbn,nodes_nd];rw [show Ks.nodes .nil=[] from by rw [Ks.nodes]]
 refine ⟨at_nd.2 ⟨?_,?_⟩,?_,?_,?_,fun y hy=>?_⟩
 ·have:=less_nv f.off off f.pre f.val f.l f.r f.x (plug c2 (.nd o p v .nil));have e:(f.fill (plug c2 (.nd o p v .nil))).nv=(Tr.nd f.off f.pre f.val (f.l.app (.cons f.x (plug c2 (.nd o p v .nil)) f.r))).nv:=rfl;rw [e,← this] at hN;exact hN
 ·rw [app_at];exact ⟨hG.kids hk.2.1,hG.kids hk.2.2.2⟩
 ·refine chg_less f.off off f.pre f.val f.l f.r f.x _ a _ v ?_;rw [bare_items _ _ hb,items_nd];rw [show ∀ b,Ks.items b .nil=[] from fun b=>by rw [Ks.items]];rw [List.append_nil]
  congr 1
  simp
 ·exact ok_less (o:=f.off) hO
 ·rw [hnod,nodes_nd,app_nodes];refine (hD.append (List.Perm.refl _)).trans ?_;have e1:(f.off::(c2.map Fr.off++[o])++off::(f.l.nodes++f.r.nodes)).Perm (f.off::(f.l.nodes++(c2.map Fr.off++[o])++f.r.nodes++[off])):=by
   rw [List.cons_append];refine List.Perm.cons _ ?_;have h1:(off::(f.l.nodes++f.r.nodes)).Perm ((f.l.nodes++f.r.nodes)++[off]):=List.perm_append_comm (l₁:=[off]);refine ((List.Perm.refl _).append h1).trans ?_;rw [← List.append_assoc];refine List.Perm.append ?_ (List.Perm.refl _);rw [← List.append_assoc];exact List.Perm.append List.perm_append_comm (List.Perm.refl _)
  refine e1.trans ?_;simp only [List.cons_append,List.append_assoc];exact List.Perm.refl _
 ·rw [hnod];have:=hD.mem_iff.1 hy;simp only [List.mem_cons,List.mem_append,List.cons_append] at this ⊢
  rcases this with h|h|h
  ·exact .inl h
  ·exact .inr (.inl (.inr (.inl h)))
  ·exact .inr (.inl (.inr (.inr h)))
theorem own_none {c:List Fr}{o:Nat}{p:List Nb}{v:BitVec 64}(hm:m=6∨m=24)(h:Own m V (some (plug c (.nd o p v .nil))) X)(hb:∀ g∈c,g.bare)(hD:D.Perm (c.map Fr.off++[o])) :
  (runS V.D (putS ((72:Nat):Int) 0#64)).2=0∧Poke m V (pokeV V 72 0#64) 72 0#64∧D.Nodup∧(∀ y∈D,0<Bk m V ((y:Nat):Int)) ∧
   TR.Chg (pth c++p) v 0#64 ((plug c (.nd o p v .nil)).items []) []∧∀ V3,Gone m (pokeV V 72 0#64) V3 D→Own m V3 none X∧Side m V V3 X:=by
 have zf:=sz hm;obtain ⟨p1,hP⟩:=poke h.rest hm (z:=72) (by omega) (by omega) (.inl (by omega)) 0#64;have hn:nodesO (some (plug c (.nd o p v .nil)))=c.map Fr.off++[o]:=by
  show (plug c _).nodes=_;rw [bare_nodes _ hb,nodes_nd,show Ks.nodes .nil=[] from by rw [Ks.nodes]]
 have hnd:=h.nd;rw [hn] at hnd;have d:=List.nodup_append.1 hnd;refine ⟨p1,hP,hD.nodup_iff.2 d.1,fun y hy=>(h.all y).2 (by rw [hn];exact List.mem_append_left _ (hD.mem_iff.1 hy)),⟨[],[],?_,by rw [own_zero];rfl⟩,fun V3 hg=>?_⟩
 ·rw [bare_items _ _ hb,items_nd,show ∀ b,Ks.items b .nil=[] from fun b=>by rw [Ks.items]];simp
 ·have hX:∀ y∈X,y∉D:=fun y hy hd=>d.2.2 y (hD.mem_iff.1 hd) y hy rfl
  refine ⟨⟨hg.rest,⟨?_,fun T hT=>(by cases hT),fun T hT=>(by cases hT)⟩,by rw [show nodesO none=[] from rfl,List.nil_append];exact d.2.1,fun y=>?_⟩,?_⟩
  ·rw [hg.words 72 (by decide) (by omega) (.inl (by decide)),hP.words 72 (by decide) (by omega),if_pos rfl]
  ·rw [show nodesO none=[] from rfl,List.nil_append];by_cases hy:y∈D
   ·rw [hg.gone y hy];exact ⟨fun h=>absurd h (by omega),fun hx=>absurd hy (hX y hx)⟩
   ·rw [hg.old y hy,poke_bk,h.all,hn,List.mem_append];exact ⟨fun h=>h.elim (fun h=>absurd (hD.mem_iff.2 h) hy) id,.inr⟩
  ·refine Side.trans (V1:=pokeV V 72 0#64) ⟨fun y _=>rfl,fun y _ i hi=>hP.low hm (by omega) hi,fun x x1 x2 x3=>?_⟩ (hg.side hm hX);rw [hP.words x x1 (by omega),if_neg x3]
end
end
end Go.Proofs.YtaaihijkdhmcdaaGreatDoor
