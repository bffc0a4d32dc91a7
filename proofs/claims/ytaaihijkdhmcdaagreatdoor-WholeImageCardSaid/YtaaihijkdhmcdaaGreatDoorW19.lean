/- WholeImage, part 20 of 38: contracts and lemmas of its proof. Conditions: none. -/
import Derived.Test.YtaaihijkdhmcdaaGreatDoorW18
import Derived.Test.YtaaihijkdhmcdaaGreatDoorW15
import Derived.Test.YtaaihijkdhmcdaaGreatDoorW17
set_option linter.unusedVariables false
set_option linter.unusedSimpArgs false
set_option maxRecDepth 100000
namespace Go.Proofs.YtaaihijkdhmcdaaGreatDoor
section
open Go Go.RowKit
section
set_option maxHeartbeats 1000000
theorem equalB_calls (a b:Option Addr)(la lb:List (BitVec 8))(ca cb:Nat)(w:World)(h63:la.length≤9223372036854775807)(ha:SlAt .u8 w a la)(hb:SlAt .u8 w b lb) :
  Ret Tryz.prog 165 #[.slice a la.length ca,.slice b lb.length cb] w fun v w'=>v=.bool (decide (la=lb))∧Below w.heap.size w w':=by
 refine ret_of (args:=[_,_]) _ Tryz.func165 rfl Tryz.ntmps165 (by simp) ?_;by_cases hn:la.length=lb.length
 ·simp -implicitDefEqProofs [go_sem,hn];refine wpE_loop (fun e' w'=>∃ k:Nat,k≤la.length∧la.take k=lb.take k∧e' 0=.slice a la.length ca∧e' 1=.slice b lb.length cb∧e' 12=.int .i64 la.length∧e' 13=.int .i64 k∧Below w.heap.size w w') (fun e' _=>la.length-(intOf (e' 13)).toNat) ?_ ?_
  ·refine ⟨0,Nat.zero_le _,by simp,?_⟩;simp -implicitDefEqProofs [go_sem,hn];exact Below.refl _ _
  ·rintro e' w' ⟨k,hk,heq,h0,h1,h12,h5,bel⟩;by_cases hlt:k<la.length
   ·have hlb:k<lb.length:=by omega
    obtain ⟨ba,oa,rfl,ga⟩:=(ha.below bel).cell hlt;obtain ⟨bb,ob,rfl,gb⟩:=(hb.below bel).cell hlb;have hw:=IntWalk.i64_in ((k:Int)+1) (by omega);simp -implicitDefEqProofs [go_sem,h0,h1,h12,h5,hlt];refine drawE_still mixed (by decide +kernel) ?_;simp -implicitDefEqProofs [go_sem,h0,h1,h12,h5,hlt,hlb,ga,gb];unfold endE;simp -implicitDefEqProofs [go_sem];by_cases hx:la[k]=lb[k]
    ·have hx':(la[k] != lb[k])=false:=by rw [hx];simp
     rw [hx'];simp -implicitDefEqProofs [go_sem,hw,h5];refine goE_round ⟨k+1,by omega,?_,?_⟩ ?_
     ·rw [List.take_succ_eq_append_getElem hlt,List.take_succ_eq_append_getElem hlb,heq,hx]
     ·simp -implicitDefEqProofs [go_sem,h0,h1,h12];exact bel.drew
     ·simp -implicitDefEqProofs [go_sem,intOf,h5];omega
    ·have hx':(la[k] != lb[k])=true:=by rw [bne_iff_ne];exact hx
     have hne:decide (la=lb)=false:=by
      rw [decide_eq_false_iff_not];rintro rfl;exact hx rfl
     rw [hx',hne];simp -implicitDefEqProofs [go_sem];refine body_tmp 4 rfl ?_;simp -implicitDefEqProofs [go_sem];exact bel.drew
   ·have hk':k=la.length:=by omega
    have e:la=lb:=by
     rw [hk'] at heq;rw [List.take_length,List.take_of_length_le (by omega)] at heq;exact heq
    simp -implicitDefEqProofs [go_sem,h0,h1,h12,h5,hlt];refine body_tmp 4 rfl ?_;simp -implicitDefEqProofs [go_sem,e];exact bel
 ·have hne:decide (la=lb)=false:=by
   rw [decide_eq_false_iff_not];intro e;exact hn (by rw [e])
  have hn':((la.length:Int) != lb.length)=true:=by rw [bne_iff_ne];omega
  rw [hne];simp -implicitDefEqProofs [go_sem,hn'];refine body_tmp 4 rfl ?_;simp -implicitDefEqProofs [go_sem];exact Below.refl _ _
theorem containsW_calls (a:Option Addr)(l:List (BitVec 64))(c:Nat)(x:BitVec 64)(w:World)(hin:SlIn .u64 w a l c) :
  Ret Tryz.prog 204 #[.slice a l.length c,.int .u64 (uv x)] w fun v w'=>v=.bool (decide (x∈l))∧w'=w:=by
 refine ret_of (args:=[_,_]) _ Tryz.func204 rfl Tryz.ntmps204 (by simp) ?_;simp -implicitDefEqProofs [go_sem];refine callE_of (idxW_calls a l c x w hin) ?_;rintro v w1 ⟨rfl,rfl⟩;by_cases h:x∈l
 ·have h0:(0:Int)≤(l.idxOf x:Nat):=by omega
  rw [if_pos h];simp -implicitDefEqProofs [go_sem,h,h0];refine body_tmp 4 rfl ?_;simp -implicitDefEqProofs [go_sem];exact h
 ·rw [if_neg h];simp -implicitDefEqProofs [go_sem,h];refine body_tmp 4 rfl ?_;simp -implicitDefEqProofs [go_sem,h]
theorem nanB_calls (x:BitVec 8)(w:World):Ret Tryz.prog 222 #[.int .u8 (uv x)] w fun v w'=>v=.bool false∧w'=w:=by
 refine ret_of (args:=[_]) _ Tryz.func222 rfl Tryz.ntmps222 (by simp) ?_;simp -implicitDefEqProofs [go_sem];refine body_tmp 2 rfl ?_;simp -implicitDefEqProofs [go_sem]
theorem nanS_calls (x:BitVec 8)(w:World):Ret Tryz.prog 212 #[.int .u8 (uv x)] w fun v w'=>v=.bool false∧w'=w:=by
 refine ret_of (args:=[_]) _ Tryz.func212 rfl Tryz.ntmps212 (by simp) ?_;simp -implicitDefEqProofs [go_sem];refine body_tmp 2 rfl ?_;simp -implicitDefEqProofs [go_sem]
theorem lessB_calls (x y:BitVec 8)(w:World):Ret Tryz.prog 211 #[.int .u8 (uv x),.int .u8 (uv y)] w fun v w'=>v=.bool (decide (x<y))∧w'=w:=by
 refine ret_of (args:=[_,_]) _ Tryz.func211 rfl Tryz.ntmps211 (by simp) ?_;simp -implicitDefEqProofs [go_sem];refine callE_of (nanB_calls x w) ?_;rintro v w1 ⟨rfl,rfl⟩;simp -implicitDefEqProofs [go_sem];refine body_tmp 4 rfl ?_;simp -implicitDefEqProofs [go_sem]
theorem bsB_calls (a:Option Addr)(l:List (BitVec 8))(c:Nat)(x:BitVec 8)(w:World)(hin:SlIn .u8 w a l c)(hl:l.length≤1000)(hr:TR.Rise l) :
  Ret Tryz.prog 195 #[.slice a l.length c,.int .u8 (uv x)] w fun v w'=>∃ i:Nat,v=.tuple #[.int .i64 (i:Int),.bool (decide (x∈l))]∧i≤l.length∧(∀ j (h:j<l.length),j<i→l[j].toNat<x.toNat)∧(∀ j (h:j<l.length),i≤j→x.toNat≤l[j].toNat)∧Below w.heap.size w w':=by
 have bel0:=Below.refl w.heap.size w;refine ret_of (args:=[_,_]) _ Tryz.func195 rfl Tryz.ntmps195 (by simp) ?_;simp -implicitDefEqProofs [go_sem];refine wpE_loop (fun e' w'=>w'=w∧∃ lo hi:Nat,lo≤hi∧hi≤l.length∧(∀ j (h:j<l.length),j<lo→l[j].toNat<x.toNat)∧(∀ j (h:j<l.length),hi≤j→x.toNat≤l[j].toNat) ∧
  e' 0=.slice a l.length c∧e' 1=.int .u8 (uv x)∧e' 6=.int .i64 l.length∧e' 7=.int .i64 lo∧e' 8=.int .i64 hi) (fun e' _=>(intOf (e' 8)).toNat-(intOf (e' 7)).toNat) ?_ ?_
 ·refine ⟨rfl,0,l.length,Nat.zero_le _,Nat.le_refl _,fun j h h2=>absurd h2 (Nat.not_lt_zero _),fun j h h2=>by omega,?_⟩;simp -implicitDefEqProofs [go_sem]
 ·rintro e' w' ⟨rfl,lo,hi,h1,h2,h3,h4,q0,q1,q6,q7,q8⟩;by_cases hlt:lo<hi
  ·have hlt':(lo:Int)<hi:=by omega
   have k1:=IntWalk.i64_in ((lo:Int)+hi) (by omega);obtain ⟨h,hh⟩:∃ h:Nat,h=(lo+hi)/2:=⟨_,rfl⟩;have kh:IntKind.i64.wrap (uv (BitVec.ofInt 64 ((lo:Int)+hi) >>> 1))=(h:Int):=by
    have e:((lo:Int)+hi)=((lo+hi:Nat):Int):=by omega
    rw [e,BitVec.ofInt_natCast];unfold uv;rw [BitVec.toNat_ushiftRight,BitVec.toNat_ofNat,Nat.mod_eq_of_lt (by omega),Nat.shiftRight_eq_div_pow,IntWalk.i64_in _ (by omega),hh]
   have hhl:h<l.length:=by omega
   have hhl':(h:Int)<l.length:=by omega
   obtain ⟨b,o,rfl,g⟩:=hin.at_.cell hhl;have hmono:∀ j (hj:j<l.length),(j<h→l[j].toNat<l[h].toNat)∧(h<j→l[h].toNat<l[j].toNat):=fun j hj=>⟨fun hjh=>List.pairwise_iff_getElem.1 hr j h hj hhl hjh,fun hjh=>List.pairwise_iff_getElem.1 hr h j hhl hj hjh⟩
   simp -implicitDefEqProofs [go_sem,q0,q1,q6,q7,q8,hlt,hlt',k1,kh,hhl,hhl',g];refine callE_of (lessB_calls l[h] x w') ?_;rintro v w2 ⟨rfl,rfl⟩;by_cases hc:l[h]<x
   ·have hc2:l[h].toNat<x.toNat:=by rw [BitVec.lt_def] at hc;exact hc
    have k2:=IntWalk.i64_in ((h:Int)+1) (by omega);simp -implicitDefEqProofs [go_sem,q0,q1,q6,q7,q8,hc,k2];refine goE_round ⟨rfl,h+1,hi,by omega,h2,fun j hj hjl=>?_,h4,?_⟩ ?_
    ·by_cases e:j=h
     ·subst e;exact hc2
     ·have:=(hmono j hj).1 (by omega);omega
    ·simp -implicitDefEqProofs [go_sem,q0,q1,q6,q8]
    ·simp -implicitDefEqProofs [go_sem,intOf,q7,q8];omega
   ·have hc2:x.toNat≤l[h].toNat:=by rw [BitVec.lt_def] at hc;omega
    simp -implicitDefEqProofs [go_sem,q0,q1,q6,q7,q8,hc];refine goE_round ⟨rfl,lo,h,by omega,by omega,h3,fun j hj hjl=>?_,?_⟩ ?_
    ·by_cases e:j=h
     ·subst e;exact hc2
     ·have:=(hmono j hj).2 (by omega);omega
    ·simp -implicitDefEqProofs [go_sem,q0,q1,q6,q7]
    ·simp -implicitDefEqProofs [go_sem,intOf,q7,q8];omega
  ·have hn:¬ (lo:Int)<hi:=by omega
   have heq:hi=lo:=by omega
   subst heq;by_cases hlo:hi<l.length
   ·have hlo':(hi:Int)<l.length:=by omega
    obtain ⟨b,o,rfl,g⟩:=hin.at_.cell hlo;by_cases hx:l[hi]=x
    ·have hx':(l[hi]==x)=true:=by rw [beq_iff_eq];exact hx
     have hmem:x∈l:=hx▸List.getElem_mem hlo;simp -implicitDefEqProofs [go_sem,q0,q1,q6,q7,q8,hn,hlo,hlo',g,hx'];refine body_tmp2 4 5 rfl ?_;simp -implicitDefEqProofs [go_sem,hmem];exact ⟨hi,rfl,h2,h3,h4,bel0⟩
    ·have hx':(l[hi]==x)=false:=by rw [beq_eq_false_iff_ne];exact hx
     have hmem:¬ x∈l:=fun hm=>by
      obtain ⟨j,hj,e⟩:=List.getElem_of_mem hm
      rcases Nat.lt_trichotomy j hi with h|h|h
      ·have:=h3 j hj h;rw [e] at this;omega
      ·subst h;exact hx e
      ·have h5:=List.pairwise_iff_getElem.1 hr hi j hlo hj h;have h6:=h4 hi hlo (Nat.le_refl _);rw [e] at h5;omega
     simp -implicitDefEqProofs [go_sem,q0,q1,q6,q7,q8,hn,hlo,hlo',g,hx'];refine callE_of (nanS_calls l[hi] w') ?_;rintro v w2 ⟨rfl,rfl⟩;simp -implicitDefEqProofs [go_sem,q0,q1,q6,q7,q8,hn,hlo,hlo',g,hx'];refine body_tmp2 4 5 rfl ?_;simp -implicitDefEqProofs [go_sem,hmem];exact ⟨hi,rfl,h2,h3,h4,bel0⟩
   ·have hlo':¬ (hi:Int)<l.length:=by omega
    have hmem:¬ x∈l:=fun hm=>by
     obtain ⟨j,hj,e⟩:=List.getElem_of_mem hm;have:=h3 j hj (by omega);rw [e] at this;omega
    simp -implicitDefEqProofs [go_sem,q0,q1,q6,q7,q8,hn,hlo,hlo'];refine body_tmp2 4 5 rfl ?_;simp -implicitDefEqProofs [go_sem,hmem];exact ⟨hi,rfl,h2,h3,h4,bel0⟩
end
end
section
open Go Go.RowKit
open TR
structure NP where
 a1:Option Addr
 c1:Nat
 a2:Option Addr
 c2:Nat
 a3:Option Addr
 c3:Nat
def NP.cs (p:NP)(n:NdV):Array Value:=#[.slice p.a1 n.pre.length p.c1,.int .u64 (uv n.val),.slice p.a2 n.labels.length p.c2,.slice p.a3 n.kids.length p.c3]
structure NdIn (w:World) (p:NP) (n:NdV):Prop where
 pre:SlIn .u8 w p.a1 n.pre p.c1
 lab:SlIn .u8 w p.a2 n.labels p.c2
 kid:SlIn .u64 w p.a3 n.kids p.c3
section
variable {w w':World} {p:NP} {n:NdV} {F F':Nat→Prop}
theorem NP.cs_size (p:NP)(n:NdV):(p.cs n).size=4:=rfl
theorem NP.cs_one (p:NP)(n:NdV):∀ v∈(p.cs n).toList,v.oneCell'=true:=by
 intro v hv;simp [NP.cs] at hv
 rcases hv with rfl|rfl|rfl|rfl<;>rfl
theorem NP.cs_0 (p:NP)(n:NdV):(p.cs n)[0]?=some (.slice p.a1 n.pre.length p.c1):=rfl
theorem NP.cs_1 (p:NP)(n:NdV):(p.cs n)[1]?=some (.int .u64 (uv n.val)):=rfl
theorem NP.cs_2 (p:NP)(n:NdV):(p.cs n)[2]?=some (.slice p.a2 n.labels.length p.c2):=rfl
theorem NP.cs_3 (p:NP)(n:NdV):(p.cs n)[3]?=some (.slice p.a3 n.kids.length p.c3):=rfl
theorem NdIn.next (h:NdIn w p n)(hb:Below w.heap.size w w'):NdIn w' p n:=⟨h.pre.next hb,h.lab.next hb,h.kid.next hb⟩
theorem ndI:(Tryz.prog.info? 234).map (·.size)=some 4:=by kernel_rfl
def SepA (w:World)(F:Nat→Prop)(a:Option Addr):Prop:=∀ y,a=some y→y.block<w.heap.size∧¬ F y.block
theorem SepA.turn {a:Option Addr}(h:SepA w F a)(ht:Turn w F w' F'):SepA w' F' a:=fun y hy=>by
 obtain ⟨h1,h2⟩:=h y hy;exact ⟨Nat.lt_of_lt_of_le h1 ht.size,out_turn h2 h1 ht⟩
theorem SepA.next {a:Option Addr}(h:SepA w F a)(hb:Below w.heap.size w w'):SepA w' F a:=h.turn (Turn.of hb)
theorem SlIn.turn {m:Nat}{k:IntKind}{a:Option Addr}{l:List (BitVec m)}{c:Nat}(h:SlIn k w a l c)(hs:SepA w F a)(ht:Turn w F w' F'):SlIn k w' a l c :=
 ⟨h.at_.mod ht.mod fun b ⟨o,e⟩=>(hs _ e).2,h.le,h.max,h.nil⟩
structure NdS (w:World) (F:Nat→Prop) (p:NP) (n:NdV):Prop where
 in_:NdIn w p n
 s1:SepA w F p.a1
 s2:SepA w F p.a2
 s3:SepA w F p.a3
theorem NdS.turn (h:NdS w F p n)(ht:Turn w F w' F'):NdS w' F' p n:=⟨⟨h.in_.pre.turn h.s1 ht,h.in_.lab.turn h.s2 ht,h.in_.kid.turn h.s3 ht⟩,h.s1.turn ht,h.s2.turn ht,h.s3.turn ht⟩
theorem NdS.next (h:NdS w F p n)(hb:Below w.heap.size w w'):NdS w' F p n:=h.turn (Turn.of hb)
end
section
set_option maxHeartbeats 1000000
theorem nodeRight_calls (p:NP)(n:NdV)(w0:World)(hin:NdIn w0 p n)(hr:n.Right) :
  Ret Tryz.prog 187 #[.agg (p.cs n)] w0 fun v w'=>v=.bool true∧Below w0.heap.size w0 w':=by
 have bel0:=Below.refl w0.heap.size w0;have hl:=hr.len;have h16:=hr.many16;have hlI:((n.labels.length:Int) != n.kids.length)=false:=by rw [bne_eq_false_iff_eq];omega
 refine ret_of (args:=[_]) _ Tryz.func187 rfl Tryz.ntmps187 (by simp) ?_;simp -implicitDefEqProofs [go_sem];generalize hw1:World.alloc w0 _=w1 at *;obtain ⟨hB1,b1,sz1,bel1⟩:=newF hw1 bel0;replace hin:=hin.next b1
 simp -implicitDefEqProofs [go_sem,hB1.cell,NP.cs_0];refine callE_of (nibPack_calls p.a1 n.pre p.c1 w1 hin.pre hr.p15 hr.p16) ?_;rintro v w2 ⟨rfl,rfl⟩;simp -implicitDefEqProofs [go_sem,hB1.cell,NP.cs_2,NP.cs_3,hlI];refine wpE_loop (fun e' w'=>w'=w2∧∃ k:Nat,k≤n.labels.length∧e' 1=.pointer (some ⟨w0.heap.size,0,none⟩)∧e' 25=.slice p.a2 n.labels.length p.c2∧e' 26=.int .i64 n.labels.length∧e' 27=.int .i64 k) (fun e' _=>n.labels.length-(intOf (e' 27)).toNat) ?_ ?_
 ·refine ⟨rfl,0,Nat.zero_le _,?_⟩;simp -implicitDefEqProofs [go_sem]
 ·rintro e' w' ⟨rfl,k,hk,q1,q25,q26,q27⟩;by_cases hlt:k<n.labels.length
  ·have hlt':(k:Int)<n.labels.length:=by omega
   have hw:=IntWalk.i64_in ((k:Int)+1) (by omega);have hx:=hr.l16 n.labels[k] (List.getElem_mem _);have hx':¬ (16#8≤n.labels[k]):=by rw [BitVec.le_def];simp;omega
   by_cases hk0:k=0
   ·subst hk0;obtain ⟨b,o,ha,g⟩:=hin.lab.at_.cell hlt;rw [Nat.add_zero] at g;have hw1:=IntWalk.i64_in 1 (by omega);simp -implicitDefEqProofs [go_sem,q1,q25,q26,q27,hlt,hlt',ha,g,hx',hB1.cell,NP.cs_2];refine goE_round ⟨rfl,1,by omega,?_⟩ ?_
    ·simp -implicitDefEqProofs [go_sem,q1,q25,q26,ha,hw1]
    ·simp -implicitDefEqProofs [go_sem,intOf,q27,hw1];omega
   ·obtain ⟨j,hj⟩:∃ j:Nat,k=j+1:=⟨k-1,by omega⟩;have hjl:j<n.labels.length:=by omega
    have hjl':(j:Int)<n.labels.length:=by omega
    have hk0':(0:Int)<k:=by omega
    have hk0n:0<k:=by omega
    have hkj:(k:Int)-1=(j:Int):=by omega
    have hwj:=IntWalk.i64_in (j:Int) (by omega);obtain ⟨b,o,ha,g⟩:=hin.lab.at_.cell hlt;obtain ⟨b2,o2,ha2,g2⟩:=hin.lab.at_.cell hjl;obtain ⟨rfl,rfl⟩:b=b2∧o=o2:=by rw [ha] at ha2;cases ha2;exact ⟨rfl,rfl⟩
    have hmono:¬ (n.labels[k]≤n.labels[j]):=by
     have:=List.pairwise_iff_getElem.1 hr.rise j k hjl hlt (by omega);rw [BitVec.le_def];omega
    simp -implicitDefEqProofs [go_sem,q1,q25,q26,q27,hlt,hlt',ha,g,g2,hx',hB1.cell,NP.cs_2,hk0',hk0n,hkj,hwj,hjl,hjl',hmono,hw];refine goE_round ⟨rfl,k+1,by omega,?_⟩ ?_
    ·simp -implicitDefEqProofs [go_sem,q1,q25,q26,ha]
    ·simp -implicitDefEqProofs [go_sem,intOf,q27,hw];omega
  ·have hn:¬ (k:Int)<n.labels.length:=by omega
   have hnz:¬ (0#64∈n.kids):=fun h=>hr.nz _ h rfl
   have hcon:=containsW_calls p.a3 n.kids p.c3 0#64 w' hin.kid;simp -implicitDefEqProofs [go_sem,q1,q25,q26,q27,hlt,hn,hB1.cell,NP.cs_3];refine callE_of hcon ?_;rintro v w3 ⟨rfl,rfl⟩;simp -implicitDefEqProofs [go_sem,hnz];refine body_tmp 2 rfl ?_;simp -implicitDefEqProofs [go_sem,hnz];exact bel1
theorem nodeClass_calls (p:NP)(n:NdV)(w0:World) :
  Ret Tryz.prog 188 #[.agg (p.cs n)] w0 fun v w'=>v=.int .i64 (n.cls:Int)∧Below w0.heap.size w0 w':=by
 have bel0:=Below.refl w0.heap.size w0;refine ret_of (args:=[_]) _ Tryz.func188 rfl Tryz.ntmps188 (by simp) ?_;simp -implicitDefEqProofs [go_sem];generalize hw1:World.alloc w0 _=w1 at *;obtain ⟨hB1,b1,sz1,bel1⟩:=newF hw1 bel0;by_cases h4:n.kids.length≤4
 ·have h4':(n.kids.length:Int)≤4:=by omega
  simp -implicitDefEqProofs [go_sem,hB1.cell,NP.cs_3,h4,h4'];refine body_tmp 2 rfl ?_;simp -implicitDefEqProofs [go_sem,NdV.cls,h4];exact bel1
 ·have h4':¬ (n.kids.length:Int)≤4:=by omega
  simp -implicitDefEqProofs [go_sem,hB1.cell,NP.cs_3,h4,h4'];refine body_tmp 2 rfl ?_;simp -implicitDefEqProofs [go_sem,NdV.cls,h4];exact bel1
theorem nodeWords_calls (c:Int)(w:World) :
  Ret Tryz.prog 184 #[.int .i64 c] w fun v w'=>v=.int .i64 (8*linesI c)∧w'=w:=by
 have hl:=linesI_le c;have i1:=IntWalk.i64_in (8*linesI c) (by omega);refine ret_of (args:=[_]) _ Tryz.func184 rfl Tryz.ntmps184 (by simp) ?_;simp -implicitDefEqProofs [go_sem];refine callE_of (lines_calls c w) ?_;rintro v w1 ⟨rfl,rfl⟩;simp -implicitDefEqProofs [go_sem,i1];refine body_tmp 2 rfl ?_;simp -implicitDefEqProofs [go_sem,i1]
end
end
section
open Go Go.RowKit
namespace TR
theorem slot_snoc:∀ {ls:List Nb} {ks:List (BitVec 64)} {x:Nb} {v:BitVec 64} {y:Nat},ls.length=ks.length→(∀ z∈ls,z.toNat<x.toNat)→slotN (ls++[x]) (ks++[v]) y=if y=x.toNat then v else slotN ls ks y
 | [],[],x,v,y,_,_=>by
  show (if x.toNat=y then v else slotN [] [] y)=_;by_cases e:x.toNat=y
  ·rw [if_pos e,if_pos e.symm]
  ·rw [if_neg e,if_neg (fun h=>e h.symm)]
 | [],_::_,_,_,_,h,_=>by cases h
 | _::_,[],_,_,_,h,_=>by cases h
 | z::ls,k::ks,x,v,y,hl,h=>by
  have ih:=slot_snoc (x:=x) (v:=v) (y:=y) (by simpa using hl:ls.length=ks.length) (fun u hu=>h u (List.mem_cons_of_mem _ hu));have hz:=h z List.mem_cons_self;show (if z.toNat=y then k else slotN (ls++[x]) (ks++[v]) y)=if y=x.toNat then v else if z.toNat=y then k else slotN ls ks y
  rw [ih];by_cases e:z.toNat=y
  ·rw [if_pos e,if_neg (by omega),if_pos e]
  ·rw [if_neg e,if_neg e]
def bigW (n:NdV)(k i:Nat):BitVec 64:=if i=0 then BitVec.ofNat 64 (2+256*n.kids.length) else if i=1 then pack n.pre else if i=2 then n.val else if i<4 then 0#64 else slotN (n.labels.take k) (n.kids.take k) (i-4)
def bigL (n:NdV)(k:Nat):List (BitVec 64):=(List.range 32).map (bigW n k)
theorem bigL_len (n:NdV)(k:Nat):(bigL n k).length=32:=by simp [bigL]
theorem bigL_all {n:NdV}(h4:¬ n.kids.length≤4)(hl:n.labels.length=n.kids.length):bigL n n.labels.length=enc n:=by
 unfold bigL enc NdV.many;rw [if_neg h4];refine List.map_congr_left fun i _=>?_
 unfold bigW encW NdV.cls;rw [if_neg h4,if_neg h4,List.take_length,hl,List.take_length]
theorem bigL_set {n:NdV}(h:n.Right){k:Nat}(hk:k<n.labels.length)(hk2:k<n.kids.length):(bigL n k).set (4+n.labels[k].toNat) n.kids[k]=bigL n (k+1):=by
 have hx:=h.l16 n.labels[k] (List.getElem_mem _);refine List.ext_getElem (by simp [bigL]) fun i h1 h2=>?_
 have hi:i<32:=by rw [bigL_len] at h2;exact h2
 rw [List.getElem_set];have e:∀ q (hq:i<(bigL n q).length),(bigL n q)[i]=bigW n q i:=fun q hq=>by simp [bigL]
 rw [e,e];have e1:n.labels.take (k+1)=n.labels.take k++[n.labels[k]]:=by rw [List.take_add_one,List.getElem?_eq_getElem hk];rfl
 have e2:n.kids.take (k+1)=n.kids.take k++[n.kids[k]]:=by rw [List.take_add_one,List.getElem?_eq_getElem hk2];rfl
 have hs:=slot_snoc (ls:=n.labels.take k) (ks:=n.kids.take k) (x:=n.labels[k]) (v:=n.kids[k]) (y:=i-4) (by rw [List.length_take,List.length_take];omega) (fun z hz=>by
  obtain ⟨j,hj,rfl⟩:=List.getElem_of_mem hz;rw [List.length_take] at hj;rw [List.getElem_take];exact List.pairwise_iff_getElem.1 h.rise j k (by omega) hk (by omega))
 unfold bigW;rw [e1,e2,hs];by_cases e:4+n.labels[k].toNat=i
 ·rw [if_pos e,if_neg (by omega),if_neg (by omega),if_neg (by omega),if_neg (by omega),if_pos (by omega)]
 ·rw [if_neg e];by_cases h0:i=0
  ·rw [if_pos h0,if_pos h0]
  by_cases h1:i=1
  ·rw [if_neg h0,if_neg h0,if_pos h1,if_pos h1]
  by_cases h2:i=2
  ·rw [if_neg h0,if_neg h0,if_neg h1,if_neg h1,if_pos h2,if_pos h2]
  rw [if_neg h0,if_neg h0,if_neg h1,if_neg h1,if_neg h2,if_neg h2];by_cases h4:i<4
  ·rw [if_pos h4,if_pos h4]
  ·rw [if_neg h4,if_neg h4,if_neg (by omega)]
theorem small_words {n:NdV}(h4:n.kids.length≤4):[BitVec.ofNat 64 (1+256*n.kids.length),pack n.pre,n.val,pack n.labels]++n.kids++List.replicate (4-n.kids.length) 0#64=enc n:=by
 obtain ⟨pre,val,labels,kids⟩:=n;dsimp only at h4 ⊢;unfold enc NdV.many encW NdV.cls
 match kids,h4 with
 | [],_=>rfl
 | [a],_=>rfl
 | [a,b],_=>rfl
 | [a,b,c],_=>rfl
 | [a,b,c,d],_=>rfl
end TR
open TR
section
set_option maxHeartbeats 2000000
theorem nodeEncode_calls (p:NP)(n:NdV)(w0:World)(hin:NdIn w0 p n)(hr:n.Right) :
  Ret Tryz.prog 192 #[.agg (p.cs n)] w0 fun v w'=>∃ a c,v=.tuple #[.slice a (enc n).length c,.bool true]∧SlIn .u64 w' a (enc n) c∧(∀ y,a=some y→w0.heap.size≤y.block∧y.block<w'.heap.size)∧Below w0.heap.size w0 w':=by
 have bel0:=Below.refl w0.heap.size w0;have h16:=hr.many16;have hl:=hr.len;have hT:=Tryz.underlying100;have ld0:=ldAll (P:=Tryz.prog) (Blk.new w0 (p.cs n) 234) Tryz.underlying234 rfl ndI (n:=4) (p.cs_size n);refine ret_of (args:=[_]) _ Tryz.func192 rfl Tryz.ntmps192 (by simp) ?_;simp -implicitDefEqProofs [go_sem,↓ld0];generalize hw1:World.alloc w0 _=w1 at *;obtain ⟨hB1,b1,sz1,bel1⟩:=newF hw1 bel0;replace hin:=hin.next b1
 refine callE_of (nodeRight_calls p n w1 hin hr) ?_;rintro v w2 ⟨rfl,b2⟩;have bel2:=btr bel1 b2;have hB2:=hB1.next b2
 have hin2:=hin.next b2
 have ldN2:=ldAll (P:=Tryz.prog) hB2 Tryz.underlying234 rfl ndI (n:=4) (p.cs_size n);simp -implicitDefEqProofs [go_sem,↓ldN2];refine callE_of (nodeClass_calls p n w2) ?_;rintro v w3 ⟨rfl,b3⟩;have bel3:=btr bel2 b3;have hB3:=hB2.next b3
 have hin3:=hin2.next b3
 simp -implicitDefEqProofs [go_sem];refine callE_of (nodeWords_calls n.cls w3) ?_;rintro v w4 ⟨rfl,rfl⟩;have bel4:=bel3;have hwl:n.kids.length<2 ^ 64:=by omega
 by_cases h4:n.kids.length≤4
 ·have hc:(n.cls:Int)=1:=by unfold NdV.cls;rw [if_pos h4];rfl
  have hw8:8*linesI (n.cls:Int)=8:=by rw [hc];rfl
  have mk:=run_make_n (P:=Tryz.prog) (t:=100) (e:=42) (z:=.int .u64 0) (bytes:=8) (by kernel_rfl) (by kernel_rfl) rfl .i64 .i64 8 (by decide) (by decide) w4;rw [show (((8:Nat)):Int)=8 from rfl] at mk;rw [hw8,hc];obtain ⟨x0,hx0⟩:∃ x0:BitVec 64,x0=BitVec.ofNat 64 (1+256*n.kids.length):=⟨_,rfl⟩;have e0:1#64+256#64*BitVec.ofNat 64 n.kids.length=x0:=by
   rw [hx0];apply BitVec.eq_of_toNat_eq;rw [BitVec.toNat_add,BitVec.toNat_mul];simp
  simp -implicitDefEqProofs [go_sem,mk];generalize hw5:World.alloc w4 _=w5 at *;obtain ⟨hB5,b5,sz5,bel5⟩:=newF hw5 bel4;replace hB3:=hB3.next b5
  rw [cwK_zero (n:=64)] at hB5;obtain ⟨g,hg⟩:∃ g,g=w4.heap.size:=⟨_,rfl⟩;rw [← hg] at hB5 ⊢;have hgb:w0.heap.size≠g:=by have:=bel4.size;have:=hB2.lt;have:=b3.size;omega
  have hgb':g≠w0.heap.size:=Ne.symm hgb;have gr:List.replicate 8 0#64=[0#64,0#64,0#64,0#64,0#64,0#64,0#64,0#64]:=rfl;rw [gr] at hB5;have c0:=hB5.cell 0;have f0:=hB5.thaw 0;simp [cwK,cellsK] at c0;simp -implicitDefEqProofs [go_sem,hB3.cell,NP.cs_3,NP.cs_0,e0,c0,f0,hgb,hgb'];obtain ⟨w6,hw6⟩:∃ w6,w6=w5.setCell ⟨g,0,none⟩ (.int .u64 (uv x0)):=⟨_,rfl⟩;rw [← hw6];have hB6:Blk w6 g (cwK .u64 [x0,0#64,0#64,0#64,0#64,0#64,0#64,0#64]) 42:=by rw [hw6];exact hB5.set 0 _
  have hN6:Blk w6 w0.heap.size (p.cs n) 234:=by rw [hw6];exact hB3.setOther hgb' _
  have b6:Below w4.heap.size w4 w6:=by rw [hw6];exact b5.setCell (by rw [hg];exact Nat.le_refl _) _
  have bel6:=btr bel4 b6;clear hw6;have c1:=hB6.cell 1;have f1:=hB6.thaw 1;have c2:=hB6.cell 2;have f2:=hB6.thaw 2;simp [cwK,cellsK] at c1 c2;refine callE_of (nibPack_calls p.a1 n.pre p.c1 w6 (hin3.next b6).pre hr.p15 hr.p16) ?_;rintro v w7 ⟨rfl,rfl⟩;simp -implicitDefEqProofs [go_sem,hN6.cell,NP.cs_1,NP.cs_2,c1,f1,c2,f2,hgb,hgb'];obtain ⟨w8,hw8'⟩:∃ w8,w8=(w7.setCell ⟨g,1,none⟩ (.int .u64 (uv (pack n.pre)))).setCell ⟨g,2,none⟩ (.int .u64 (uv n.val)):=⟨_,rfl⟩;rw [← hw8']
  have hB8:Blk w8 g (cwK .u64 [x0,pack n.pre,n.val,0#64,0#64,0#64,0#64,0#64]) 42:=by rw [hw8'];exact (hB6.set 1 _).set 2 _
  have hN8:Blk w8 w0.heap.size (p.cs n) 234:=by rw [hw8'];exact (hN6.setOther hgb' _).setOther hgb' _
  have b8:Below w4.heap.size w4 w8:=by rw [hw8'];exact (b6.setCell (by rw [hg];exact Nat.le_refl _) _).setCell (by rw [hg];exact Nat.le_refl _) _
  have bel8:=btr bel4 b8;clear hw8';have c3:=hB8.cell 3;have f3:=hB8.thaw 3;simp [cwK,cellsK] at c3;have hin8:=hin3.next b8
  refine callE_of (nibPack_calls p.a2 n.labels p.c2 w8 hin8.lab (by omega) hr.l16) ?_;rintro v w9 ⟨rfl,rfl⟩;simp -implicitDefEqProofs [go_sem,hN8.cell,c3,f3,hgb,hgb'];obtain ⟨w10,hw10⟩:∃ w10,w10=w9.setCell ⟨g,3,none⟩ (.int .u64 (uv (pack n.labels))):=⟨_,rfl⟩;rw [← hw10];have hB10:Blk w10 g (cwK .u64 [x0,pack n.pre,n.val,pack n.labels,0#64,0#64,0#64,0#64]) 42:=by rw [hw10];exact hB8.set 3 _
  have hN10:Blk w10 w0.heap.size (p.cs n) 234:=by rw [hw10];exact hN8.setOther hgb' _
  have b10:Below w4.heap.size w4 w10:=by rw [hw10];exact b8.setCell (by rw [hg];exact Nat.le_refl _) _
  have bel10:=btr bel4 b10;clear hw10;have hfin:(cwK .u64 [x0,pack n.pre,n.val,pack n.labels,0#64,0#64,0#64,0#64]).toList.take 4++cellsK .u64 n.kids++(cwK .u64 [x0,pack n.pre,n.val,pack n.labels,0#64,0#64,0#64,0#64]).toList.drop (4+(cellsK .u64 n.kids).length)=cellsK .u64 (enc n):=by
   rw [← small_words h4,← hx0,cellsK_length,cellsK_append,cellsK_append]
   congr 1
   unfold cwK;generalize n.kids.length=q at h4
   match q,h4 with
   | 0,_=>rfl
   | 1,_=>rfl
   | 2,_=>rfl
   | 3,_=>rfl
   | 4,_=>rfl
  have hin10:=hin3.next b10
  have hcp:∀ ty,(copyB #[100,100] ty #[.slice (some ⟨g,4,none⟩) 4 4,.slice p.a3 n.kids.length p.c3]).run Tryz.prog w10.drew=.ok (goInt (n.kids.length:Nat)) (w10.drew.setRow g (cwK .u64 (enc n))):=fun ty=>by
   have hk:=hin10.kid;have h44:(cellsK .u64 n.kids).length≤4:=by rw [cellsK_length];exact h4
   cases ha:p.a3 with
   | none =>
    have hc3:=hk.nil ha;have hk0:n.kids=[]:=by
     rcases hk.at_ with h|⟨b,o,h,_⟩
     ·exact h
     ·rw [ha] at h;cases h
    have h2:=run_copy_nil Tryz.prog w10.drew 100 100 ty 42 ⟨g,4,none⟩ 4 4 hT (by kernel_rfl);have h3:w10.drew.setRow g (cwK .u64 (enc n))=w10.drew:=by
     have e:cwK .u64 (enc n)=cwK .u64 [x0,pack n.pre,n.val,pack n.labels,0#64,0#64,0#64,0#64]:=by
      rw [← small_words h4,← hx0,hk0];rfl
     rw [e];exact setRow_self _ _ _ _ _ hB10.drew
    rw [h3,hc3,hk0];exact h2
   | some x =>
    have h2:=run_copy_row Tryz.prog w10.drew 100 100 ty 42 g 4 4 4 x n.kids.length p.c3 _ 42 (cellsK .u64 n.kids) hT (by kernel_rfl) hB10.drew (by rw [cellsK_length];simp only [Nat.min_def];split<;>omega)
     (fun j v hj=>by
      rcases hk.at_.src with ⟨h,_⟩|⟨y,h,hy⟩
      ·rw [ha] at h;cases h
      ·rw [ha] at h;obtain rfl:=Option.some.inj h;exact hy j v hj) (by rw [cwK_size];simp;omega) cellsK_one
    rw [hfin,cellsK_length] at h2;exact h2
  have hB11:=Blk.row hB10.drew (cwK .u64 (enc n));have bel11:=below_setRow bel10.drew (show w0.heap.size≤g by have:=bel4.size;omega) (cwK .u64 (enc n));refine drawE_tail 4 mixed (by decide +kernel) (by simp only [wt];rfl) (by simp only [wt];rfl) ?_;simp -implicitDefEqProofs [go_sem,hN10.drew.cell,NP.cs_3];unfold endE;simp -implicitDefEqProofs [go_sem,hcp];refine body_tmp2 2 3 rfl ?_;simp -implicitDefEqProofs [go_sem];have he8:(enc n).length=8:=by rw [enc_len];unfold NdV.many;rw [if_pos h4]
  have hsl:=slIn_blk hB11 (by rw [he8];decide);rw [he8] at hsl ⊢;exact ⟨_,_,⟨rfl,rfl,rfl⟩,hsl,fun y hy=>by
   obtain rfl:=Option.some.inj hy;exact ⟨by have:=bel4.size;show w0.heap.size≤g;omega,hB10.lt⟩,bel11⟩
 ·have hc:(n.cls:Int)=2:=by unfold NdV.cls;rw [if_neg h4];rfl
  have hw8:8*linesI (n.cls:Int)=32:=by rw [hc];rfl
  have mk:=run_make_n (P:=Tryz.prog) (t:=100) (e:=42) (z:=.int .u64 0) (bytes:=8) (by kernel_rfl) (by kernel_rfl) rfl .i64 .i64 32 (by decide) (by decide) w4;rw [show (((32:Nat)):Int)=32 from rfl] at mk;rw [hw8,hc];obtain ⟨x0,hx0⟩:∃ x0:BitVec 64,x0=BitVec.ofNat 64 (2+256*n.kids.length):=⟨_,rfl⟩;have e0:2#64+256#64*BitVec.ofNat 64 n.kids.length=x0:=by
   rw [hx0];apply BitVec.eq_of_toNat_eq;rw [BitVec.toNat_add,BitVec.toNat_mul];simp
  simp -implicitDefEqProofs [go_sem,mk];generalize hw5:World.alloc w4 _=w5 at *;obtain ⟨hB5,b5,sz5,bel5⟩:=newF hw5 bel4;replace hB3:=hB3.next b5
  rw [cwK_zero (n:=64)] at hB5;obtain ⟨g,hg⟩:∃ g,g=w4.heap.size:=⟨_,rfl⟩;rw [← hg] at hB5 ⊢;have hgb:w0.heap.size≠g:=by have:=bel4.size;have:=hB2.lt;have:=b3.size;omega
  have hgb':g≠w0.heap.size:=Ne.symm hgb;have c0:w5.cell? ⟨g,0,none⟩=some (.int .u64 (uv 0#64)):=(hB5.cell 0).trans (cwK_get .u64 (List.replicate 32 0#64) 0 (by decide));have f0:=hB5.thaw 0;simp -implicitDefEqProofs [go_sem,hB3.cell,NP.cs_3,NP.cs_0,e0,c0,f0,hgb,hgb'];obtain ⟨w6,hw6⟩:∃ w6,w6=w5.setCell ⟨g,0,none⟩ (.int .u64 (uv x0)):=⟨_,rfl⟩;rw [← hw6];have hB6:Blk w6 g (cwK .u64 ((List.replicate 32 0#64).set 0 x0)) 42:=by rw [hw6,← cwK_set];exact hB5.set 0 _
  have hN6:Blk w6 w0.heap.size (p.cs n) 234:=by rw [hw6];exact hB3.setOther hgb' _
  have b6:Below w4.heap.size w4 w6:=by rw [hw6];exact b5.setCell (by rw [hg];exact Nat.le_refl _) _
  clear hw6;have c1:w6.cell? ⟨g,1,none⟩=some (.int .u64 (uv 0#64)):=(hB6.cell 1).trans (cwK_get .u64 ((List.replicate 32 0#64).set 0 x0) 1 (by simp));have f1:=hB6.thaw 1;have c2:w6.cell? ⟨g,2,none⟩=some (.int .u64 (uv 0#64)):=(hB6.cell 2).trans (cwK_get .u64 ((List.replicate 32 0#64).set 0 x0) 2 (by simp));have f2:=hB6.thaw 2;refine callE_of (nibPack_calls p.a1 n.pre p.c1 w6 (hin3.next b6).pre hr.p15 hr.p16) ?_;rintro v w7 ⟨rfl,rfl⟩
  simp -implicitDefEqProofs [go_sem,hN6.cell,NP.cs_1,NP.cs_2,c1,f1,c2,f2,hgb,hgb'];obtain ⟨w8,hw8'⟩:∃ w8,w8=(w7.setCell ⟨g,1,none⟩ (.int .u64 (uv (pack n.pre)))).setCell ⟨g,2,none⟩ (.int .u64 (uv n.val)):=⟨_,rfl⟩;rw [← hw8'];have hB8:Blk w8 g (cwK .u64 (bigL n 0)) 42:=by
   have e:((((List.replicate 32 0#64).set 0 x0).set 1 (pack n.pre)).set 2 n.val)=bigL n 0:=by
    rw [hx0];unfold bigL bigW;rw [List.take_zero,List.take_zero];rfl
   rw [hw8',← e,← cwK_set,← cwK_set];exact (hB6.set 1 _).set 2 _
  have hN8:Blk w8 w0.heap.size (p.cs n) 234:=by rw [hw8'];exact (hN6.setOther hgb' _).setOther hgb' _
  have b8:Below w4.heap.size w4 w8:=by rw [hw8'];exact (b6.setCell (by rw [hg];exact Nat.le_refl _) _).setCell (by rw [hg];exact Nat.le_refl _) _
  clear hw8';refine wpE_loop (fun e' w'=>∃ k:Nat,k≤n.labels.length∧e' 1=.pointer (some ⟨w0.heap.size,0,none⟩)∧e' 5=.slice (some ⟨g,0,none⟩) 32 32∧e' 55=.slice p.a2 n.labels.length p.c2∧e' 56=.int .i64 n.labels.length∧e' 57=.int .i64 k∧Blk w' g (cwK .u64 (bigL n k)) 42∧Blk w' w0.heap.size (p.cs n) 234∧Below w4.heap.size w4 w') (fun e' _=>n.labels.length-(intOf (e' 57)).toNat) ?_ ?_
  ·refine ⟨0,Nat.zero_le _,?_⟩;simp -implicitDefEqProofs [go_sem,hN8.cell,NP.cs_2];exact ⟨hB8,hN8,b8⟩
  ·rintro e' w9 ⟨k,hk,q1,q5,q55,q56,q57,hB9,hN9,b9⟩;by_cases hlt:k<n.labels.length
   ·have hlt':(k:Int)<n.labels.length:=by omega
    have hlk:k<n.kids.length:=by omega
    have hlk':(k:Int)<n.kids.length:=by omega
    have hw:=IntWalk.i64_in ((k:Int)+1) (by omega);have hin9:=hin3.next b9
    obtain ⟨bl,ol,hal,gl⟩:=hin9.lab.at_.cell hlt;obtain ⟨bk,ok,hak,gk⟩:=hin9.kid.at_.cell hlk;have hx:=hr.l16 n.labels[k] (List.getElem_mem _);obtain ⟨y,hy⟩:∃ y:Nat,y=n.labels[k].toNat:=⟨_,rfl⟩;have hyu:uv n.labels[k]=(y:Int):=by rw [hy];rfl
    have hwy:=IntWalk.i64_in (y:Int) (by omega);have hw4:=IntWalk.i64_in (4+(y:Int)) (by omega);have i1:(0:Int)≤4+y:=by omega
    have i2:(4:Int)+y<32:=by omega
    have i3:((4:Int)+y).toNat=4+y:=by omega
    have gx:=(hB9.cell (4+y)).trans (cwK_get .u64 (bigL n k) (4+y) (by rw [bigL_len];omega));have gf:=hB9.thaw (4+y);have hset:=bigL_set hr hlt hlk;rw [← hy] at hset;simp -implicitDefEqProofs [go_sem,q1,q5,q55,q56,q57,hlt,hlt',hal,gl,hN9.cell,NP.cs_3,hak,hlk,hlk',gk,hyu,hwy,hw4,i1,i2,i3,gx,gf,hw];refine goE_round ⟨k+1,by omega,?_⟩ ?_
    ·simp -implicitDefEqProofs [go_sem,q1,q5,q55,q56,hal];rw [← hset,← cwK_set];exact ⟨hB9.set _ _,hN9.setOther hgb' _,b9.setCell (by rw [hg];exact Nat.le_refl _) _⟩
    ·simp -implicitDefEqProofs [go_sem,intOf,q57,hw];omega
   ·have hn:¬ (k:Int)<n.labels.length:=by omega
    have hk':k=n.labels.length:=by omega
    subst hk';rw [bigL_all h4 hl] at hB9;simp -implicitDefEqProofs [go_sem,q1,q5,q55,q56,q57,hlt,hn];refine body_tmp2 2 3 rfl ?_;simp -implicitDefEqProofs [go_sem];have he8:(enc n).length=32:=by rw [enc_len];unfold NdV.many;rw [if_neg h4]
    have hsl:=slIn_blk hB9 (by rw [he8];decide);rw [he8] at hsl ⊢;exact ⟨_,_,⟨rfl,rfl,rfl⟩,hsl,fun y hy=>by
     obtain rfl:=Option.some.inj hy;exact ⟨by have:=bel4.size;show w0.heap.size≤g;omega,hB9.lt⟩,btr bel4 b9⟩
end
end
end Go.Proofs.YtaaihijkdhmcdaaGreatDoor
