/- WholeImage, part 22 of 38: contracts and lemmas of its proof. Conditions: none. -/
import Derived.Test.YtaaihijkdhmcdaaGreatDoorW20
import Derived.Test.YtaaihijkdhmcdaaGreatDoorW17
import Derived.Test.YtaaihijkdhmcdaaGreatDoorW19
set_option linter.unusedVariables false
set_option linter.unusedSimpArgs false
set_option maxRecDepth 100000
namespace Go.Proofs.YtaaihijkdhmcdaaGreatDoor
section
open Go Go.RowKit
open TR
def withN (n:NdV)(i:Nat)(x:Nb)(kid:BitVec 64):NdV:=⟨n.pre,n.val,n.labels.take i++x::n.labels.drop i,n.kids.take i++kid::n.kids.drop i⟩
def lessN (n:NdV)(i:Nat):NdV:=⟨n.pre,n.val,n.labels.eraseIdx i,n.kids.eraseIdx i⟩
section
set_option maxHeartbeats 2000000
theorem nodeWith_calls (p:NP)(n:NdV)(x:BitVec 8)(kid:BitVec 64)(w0:World)(hin:NdIn w0 p n)(hr:n.Right)(hx:¬ x∈n.labels)(hx16:x.toNat<16)(hk:kid≠0#64) :
  Ret Tryz.prog 170 #[.agg (p.cs n),.int .u8 (uv x),.int .u64 (uv kid)] w0 fun v w'=>∃ (q:NP) (i:Nat),v=.tuple #[.agg (q.cs (withN n i x kid)),.bool true]∧i≤n.labels.length∧(∀ j (h:j<n.labels.length),j<i→n.labels[j].toNat<x.toNat)∧(∀ j (h:j<n.labels.length),i≤j→x.toNat<n.labels[j].toNat) ∧
   NdIn w' q (withN n i x kid)∧(∀ k,(BlkOf q.a1 k∨BlkOf q.a2 k∨BlkOf q.a3 k)→w0.heap.size≤k∧k<w'.heap.size)∧Below w0.heap.size w0 w':=by
 have bel0:=Below.refl w0.heap.size w0;have h16:=hr.many16;have hl:=hr.len;have hp15:=hr.p15;have hx':¬ (16#8≤x):=by rw [BitVec.le_def];simp;omega
 have hk':(kid==0#64)=false:=by rw [beq_eq_false_iff_ne];exact hk
 refine ret_of (args:=[_,_,_]) _ Tryz.func170 rfl Tryz.ntmps170 (by simp) ?_;have ld0:=ldAll (P:=Tryz.prog) ((Blk.new w0 (p.cs n) 234).alloc (.cells #[.slice none 0 0,.int .u64 0,.slice none 0 0,.slice none 0 0] 234)) Tryz.underlying234 rfl ndI (n:=4) (p.cs_size n);simp -implicitDefEqProofs [go_sem,↓ld0];generalize hw1:World.alloc w0 _=w1 at *;obtain ⟨hB1,b1,sz1,bel1⟩:=newF hw1 bel0;generalize hw2:World.alloc w1 _=w2 at *;obtain ⟨hB2,b2,sz2,bel2⟩:=newF hw2 bel1;rw [sz1] at hB2
 obtain ⟨r1,hr1⟩:∃ r1,r1=w0.heap.size:=⟨_,rfl⟩;obtain ⟨r2,hr2⟩:∃ r2,r2=w0.heap.size+1:=⟨_,rfl⟩;rw [← hr1] at hB1;rw [← hr2] at hB2;have hB1:=hB1.next b2
 rw [← hr2,← hr1];have h12:r1≠r2:=by omega
 have h21:r2≠r1:=by omega
 have hs2:w0.heap.size+1<w2.heap.size:=by have:=hB2.lt;omega
 refine callE_of (nodeRight_calls p n w2 (hin.next bel2) hr) ?_;rintro v w3 ⟨rfl,b3⟩;have bel3:=btr bel2 b3;have s3:=b3.size;replace hB1:=hB1.next b3
 replace hB2:=hB2.next b3
 simp -implicitDefEqProofs [go_sem,hx',hk',hB1.cell,NP.cs_2];refine callE_of (bsB_calls p.a2 n.labels p.c2 x w3 (hin.next bel3).lab (by omega) hr.rise) ?_;rintro v w4 ⟨i,rfl,hi,hlo,hhi,b4⟩;have bel4:=btr bel3 b4;have s4:=b4.size;replace hB1:=hB1.next b4
 replace hB2:=hB2.next b4
 have ldN:=ldAll (P:=Tryz.prog) hB1 Tryz.underlying234 rfl ndI (n:=4) (p.cs_size n);simp -implicitDefEqProofs [go_sem,hx,↓ldN];refine callE_of (nodeClone_calls p n w4 (hin.next bel4) (by omega) (by omega) (by omega)) ?_;rintro v w5 ⟨q,rfl,hq,b5⟩;have bel5:=btr bel4 b5;have s5:=b5.size;replace hB1:=hB1.next b5
 replace hB2:=hB2.next b5
 have st1:=stAll (P:=Tryz.prog) (ty:=234) (cs:=q.cs n) hB1 ndI rfl (q.cs_one n);have hC1:=Blk.row hB1 (q.cs n);have hC2:=hB2.rowOther h21 (q.cs n);have bel6:=below_setRow bel5 (show w0.heap.size≤r1 by omega) (q.cs n);have m6:Mod (fun k=>k=r1) w5 (w5.setRow r1 (q.cs n)):=(Mod.refl (fun k=>k=r1) w5).row (.inl rfl) _;simp -implicitDefEqProofs [go_sem,hx,↓st1,hC1.cell,NP.cs_2];generalize hw6:w5.setRow r1 (q.cs n)=w6 at *;have hs6:w6.heap.size=w5.heap.size:=by rw [← hw6];simp
 rw [← hs6];clear hw6;have qk:=fun k hk=>ownsRow_blk hq.pre k hk
 have qk2:=fun k hk=>ownsRow_blk hq.lab k hk
 have qk3:=fun k hk=>ownsRow_blk hq.kid k hk
 have p6:=ownsRow_turn hq.pre m6 (fun k hk e=>by have:=qk k hk;omega);have l6:=ownsRow_turn hq.lab m6 (fun k hk e=>by have:=qk2 k hk;omega);have k6:=ownsRow_turn hq.kid m6 (fun k hk e=>by have:=qk3 k hk;omega);generalize hw7:World.alloc w6 _=w7 at *;obtain ⟨hB7,b7,sz7,bel7⟩:=newF hw7 bel6;replace hC1:=hC1.next b7
 replace hC2:=hC2.next b7
 replace p6:=ownsRow_next p6 b7;replace l6:=ownsRow_next l6 b7;replace k6:=ownsRow_next k6 b7;have s7:=b7.size;refine callE_of (insB_calls q.a2 n.labels n.labels.length q.c2 w4.heap.size i w6.heap.size x w7 rfl (by omega) hi (by omega) l6 hB7 (fun y hy=>by have:=qk2 _ ⟨y,hy,rfl⟩;omega)) ?_;rintro v w8 ⟨a2,c2,rfl,l8,b8,t8⟩;have bel8:=bel7.trans (b8.mono (by omega));have s8:=t8.size;have r1no:¬ BlkOf q.a2 r1:=fun h=>by have:=qk2 _ h;omega
 have r2no:¬ BlkOf q.a2 r2:=fun h=>by have:=qk2 _ h;omega
 replace hC1:=hC1.mod t8.mod r1no;replace hC2:=hC2.mod t8.mod r2no;have p8:=ownsRow_turn p6 t8.mod hq.s12;have k8:=ownsRow_turn k6 t8.mod (fun k h h'=>hq.s23 k h' h);have n2:∀ k,BlkOf a2 k→¬ BlkOf q.a3 k∧¬ BlkOf q.a1 k∧w4.heap.size≤k∧k<w8.heap.size:=fun k hk=>by
  have:=ownsRow_blk l8 k hk
  rcases t8.new k hk with h|h
  ·exact ⟨hq.s23 k h,fun h'=>hq.s12 k h' h,this⟩
  ·refine ⟨fun h'=>?_,fun h'=>?_,this⟩
   ·have:=qk3 k h';omega
   ·have:=qk k h';omega
 have x2:=hC1.cell 2;have y2:=hC1.thaw 2;rw [NP.cs_2] at x2;replace hC1:Blk (w8.setCell ⟨r1,2,none⟩ (.slice a2 (n.labels.length+1) c2)) r1 #[.slice q.a1 n.pre.length q.c1,.int .u64 (uv n.val),.slice a2 (n.labels.length+1) c2,.slice q.a3 n.kids.length q.c3] 234:=hC1.set 2 _;replace hC2:=hC2.setOther (a:=⟨r1,2,none⟩) h12 (.slice a2 (n.labels.length+1) c2)
 have m9:Mod (fun k=>k=r1) w8 (w8.setCell ⟨r1,2,none⟩ (.slice a2 (n.labels.length+1) c2)):=(Mod.refl (fun k=>k=r1) w8).setCell (a:=⟨r1,2,none⟩) (.inl rfl) _;have bel9:Below w0.heap.size w0 (w8.setCell ⟨r1,2,none⟩ (.slice a2 (n.labels.length+1) c2)):=bel8.setCell (by show w0.heap.size≤r1;omega) _;have p9:=ownsRow_turn p8 m9 (fun k hk e=>by have:=qk k hk;omega);have l9:=ownsRow_turn l8 m9 (fun k hk e=>by have:=n2 k hk;omega);have k9:=ownsRow_turn k8 m9 (fun k hk e=>by have:=qk3 k hk;omega)
 simp -implicitDefEqProofs [go_sem,x2,y2,hC1.cell];generalize hw9:w8.setCell ⟨r1,2,none⟩ (.slice a2 (n.labels.length+1) c2)=w9 at *;have hs9:w9.heap.size=w8.heap.size:=by rw [← hw9];simp
 rw [← hs9];clear hw9;generalize hw10:World.alloc w9 _=w10 at *;obtain ⟨hB10,b10,sz10,bel10⟩:=newF hw10 bel9;replace hC1:=hC1.next b10
 replace hC2:=hC2.next b10
 replace p9:=ownsRow_next p9 b10;replace l9:=ownsRow_next l9 b10;replace k9:=ownsRow_next k9 b10;have s10:=b10.size;refine callE_of (insW_calls q.a3 n.kids n.kids.length q.c3 w4.heap.size i w9.heap.size kid w10 rfl (by omega) (by omega) (by omega) k9 hB10 (fun y hy=>by have:=qk3 _ ⟨y,hy,rfl⟩;omega)) ?_;rintro v w11 ⟨a3,c3,rfl,k11,b11,t11⟩;have bel11:=bel10.trans (b11.mono (by omega));have s11:=t11.size;replace hC1:=hC1.mod t11.mod (fun h=>by have:=qk3 _ h;omega)
 replace hC2:=hC2.mod t11.mod (fun h=>by have:=qk3 _ h;omega);have p11:=ownsRow_turn p9 t11.mod hq.s13;have l11:=ownsRow_turn l9 t11.mod (fun k h=>(n2 k h).1);have x3:=hC1.cell 3;have y3:=hC1.thaw 3;simp at x3;obtain ⟨z,hz⟩:∃ z:NP,z=⟨q.a1,q.c1,a2,c2,a3,c3⟩:=⟨_,rfl⟩;have hlw:(withN n i x kid).labels.length=n.labels.length+1:=by show (n.labels.take i++x::n.labels.drop i).length=_;simp;omega
 have hkw:(withN n i x kid).kids.length=n.kids.length+1:=by show (n.kids.take i++kid::n.kids.drop i).length=_;simp;omega
 have hzc:z.cs (withN n i x kid)=#[.slice q.a1 n.pre.length q.c1,.int .u64 (uv n.val),.slice a2 (n.labels.length+1) c2,.slice a3 (n.kids.length+1) c3]:=by
  rw [hz];unfold NP.cs;rw [hlw,hkw];rfl
 replace hC1:Blk (w11.setCell ⟨r1,3,none⟩ (.slice a3 (n.kids.length+1) c3)) r1 (z.cs (withN n i x kid)) 234:=by rw [hzc];exact hC1.set 3 _
 replace hC2:=hC2.setOther (a:=⟨r1,3,none⟩) h12 (.slice a3 (n.kids.length+1) c3);have m12:Mod (fun k=>k=r1) w11 (w11.setCell ⟨r1,3,none⟩ (.slice a3 (n.kids.length+1) c3)):=(Mod.refl (fun k=>k=r1) w11).setCell (a:=⟨r1,3,none⟩) (.inl rfl) _;have bel12:Below w0.heap.size w0 (w11.setCell ⟨r1,3,none⟩ (.slice a3 (n.kids.length+1) c3)):=bel11.setCell (by show w0.heap.size≤r1;omega) _;have n3:=fun k hk=>ownsRow_blk k11 k hk
 have p12:=ownsRow_turn p11 m12 (fun k hk e=>by have:=qk k hk;omega);have l12:=ownsRow_turn l11 m12 (fun k hk e=>by have:=n2 k hk;omega);have k12:=ownsRow_turn k11 m12 (fun k hk e=>by have:=n3 k hk;omega);have ldZ:=ldAll (P:=Tryz.prog) hC1 Tryz.underlying234 rfl ndI (n:=4) (z.cs_size _);have stZ:=stAll (P:=Tryz.prog) (ty:=234) (cs:=z.cs (withN n i x kid)) hC2 ndI rfl (z.cs_one _);simp -implicitDefEqProofs [go_sem,x3,y3,h12,h21,↓ldZ,↓stZ]
 generalize w11.setCell ⟨r1,3,none⟩ (.slice a3 (n.kids.length+1) c3)=w12 at *;have s12:=m12.size;have hR:=Blk.row hC2 (z.cs (withN n i x kid));have belR:=below_setRow bel12 (show w0.heap.size≤r2 by omega) (z.cs (withN n i x kid));have mR:Mod (fun k=>k=r2) w12 (w12.setRow r2 (z.cs (withN n i x kid))):=(Mod.refl (fun k=>k=r2) w12).row (.inl rfl) _;have sR:(w12.setRow r2 (z.cs (withN n i x kid))).heap.size=w12.heap.size:=by simp
 refine bodyCell 6 7 rfl (by simp -implicitDefEqProofs [go_sem]) hR Tryz.underlying234 rfl ndI ?_;have p13:=ownsRow_turn p12 mR (fun k hk e=>by have:=qk k hk;omega);have l13:=ownsRow_turn l12 mR (fun k hk e=>by have:=n2 k hk;omega);have k13:=ownsRow_turn k12 mR (fun k hk e=>by have:=n3 k hk;omega);simp -implicitDefEqProofs [go_sem];generalize w12.setRow r2 (z.cs (withN n i x kid))=w13 at *;rw [hr1];have hxne:∀ j (h:j<n.labels.length),i≤j→x.toNat<n.labels[j].toNat:=fun j h hij=>by
  have h1:=hhi j h hij
  rcases Nat.lt_or_ge x.toNat n.labels[j].toNat with h2|h2
  ·exact h2
  ·exact absurd (show x∈n.labels from (BitVec.eq_of_toNat_eq (show n.labels[j].toNat=x.toNat by omega))▸List.getElem_mem h) hx
 refine ⟨z,i,rfl,hi,hlo,hxne,?_,fun k hk=>?_,belR⟩
 ·have hN:NdIn w13 ⟨q.a1,q.c1,a2,c2,a3,c3⟩ (withN n i x kid):=⟨owns_slIn rfl p13,owns_slIn hlw l13,owns_slIn hkw k13⟩;rw [hz];exact hN
 ·rw [hz] at hk
  rcases hk with hk|hk|hk
  ·have:=ownsRow_blk p13 k hk;omega
  ·have:=ownsRow_blk l13 k hk;omega
  ·have:=ownsRow_blk k13 k hk;omega
theorem nodeWithout_calls (p:NP)(n:NdV)(x:BitVec 8)(w0:World)(hin:NdIn w0 p n)(hr:n.Right){i:Nat}(hi:i<n.labels.length)(hx:n.labels[i]=x) :
  Ret Tryz.prog 166 #[.agg (p.cs n),.int .u8 (uv x)] w0 fun v w'=>∃ q:NP,v=.tuple #[.agg (q.cs (lessN n i)),.bool true] ∧
   NdIn w' q (lessN n i)∧(∀ k,(BlkOf q.a1 k∨BlkOf q.a2 k∨BlkOf q.a3 k)→w0.heap.size≤k∧k<w'.heap.size)∧Below w0.heap.size w0 w':=by
 have bel0:=Below.refl w0.heap.size w0;have h16:=hr.many16;have hl:=hr.len;have hp15:=hr.p15;have hmem:x∈n.labels:=hx▸List.getElem_mem hi;have hnd:n.labels.Nodup:=(hr.rise).imp (fun h e=>by rw [e] at h;omega);have hidx:n.labels.idxOf x=i:=by rw [← hx];exact List.Nodup.idxOf_getElem hnd i hi
 have h0i:(0:Int)≤i:=by omega
 have hneg:¬ ((i:Int)<0):=by omega
 have k1:=IntWalk.i64_in ((i:Int)+1) (by omega);refine ret_of (args:=[_,_]) _ Tryz.func166 rfl Tryz.ntmps166 (by simp) ?_;simp -implicitDefEqProofs [go_sem];generalize hw1:World.alloc w0 _=w1 at *;obtain ⟨hB1,b1,sz1,bel1⟩:=newF hw1 bel0;generalize hw2:World.alloc w1 _=w2 at *;obtain ⟨hB2,b2,sz2,bel2⟩:=newF hw2 bel1;rw [sz1] at hB2;obtain ⟨r1,hr1⟩:∃ r1,r1=w0.heap.size:=⟨_,rfl⟩;obtain ⟨r2,hr2⟩:∃ r2,r2=w0.heap.size+1:=⟨_,rfl⟩;rw [← hr1] at hB1;rw [← hr2] at hB2;have hB1:=hB1.next b2
 rw [← hr2,← hr1];have h12:r1≠r2:=by omega
 have h21:r2≠r1:=by omega
 have hs2:w0.heap.size+1<w2.heap.size:=by have:=hB2.lt;omega
 simp -implicitDefEqProofs [go_sem,hB1.cell,NP.cs_2,h12,h21];refine callE_of (idxB_calls p.a2 n.labels p.c2 x w2 (hin.next bel2).lab) ?_;rintro v w2' ⟨rfl,rfl⟩;rw [if_pos hmem,hidx];have ldM:=ldAll (P:=Tryz.prog) hB1 Tryz.underlying234 rfl ndI (n:=4) (p.cs_size n);simp -implicitDefEqProofs [go_sem,h0i,hneg,↓ldM];refine callE_of (nodeRight_calls p n w2' (hin.next bel2) hr) ?_;rintro v w4 ⟨rfl,b4⟩;have bel4:=btr bel2 b4;have s4:=b4.size;replace hB1:=hB1.next b4
 replace hB2:=hB2.next b4
 have ldN:=ldAll (P:=Tryz.prog) hB1 Tryz.underlying234 rfl ndI (n:=4) (p.cs_size n);simp -implicitDefEqProofs [go_sem,↓ldN];refine callE_of (nodeClone_calls p n w4 (hin.next bel4) (by omega) (by omega) (by omega)) ?_;rintro v w5 ⟨q,rfl,hq,b5⟩;have bel5:=btr bel4 b5;have s5:=b5.size;replace hB1:=hB1.next b5
 replace hB2:=hB2.next b5
 have st1:=stAll (P:=Tryz.prog) (ty:=234) (cs:=q.cs n) hB1 ndI rfl (q.cs_one n);have hC1:=Blk.row hB1 (q.cs n);have hC2:=hB2.rowOther h21 (q.cs n);have bel6:=below_setRow bel5 (show w0.heap.size≤r1 by omega) (q.cs n);have m6:Mod (fun k=>k=r1) w5 (w5.setRow r1 (q.cs n)):=(Mod.refl (fun k=>k=r1) w5).row (.inl rfl) _;simp -implicitDefEqProofs [go_sem,↓st1,hC1.cell,NP.cs_2,k1];generalize hw6:w5.setRow r1 (q.cs n)=w6 at *;have hs6:w6.heap.size=w5.heap.size:=by rw [← hw6];simp
 clear hw6;have qk:=fun k hk=>ownsRow_blk hq.pre k hk
 have qk2:=fun k hk=>ownsRow_blk hq.lab k hk
 have qk3:=fun k hk=>ownsRow_blk hq.kid k hk
 have p6:=ownsRow_turn hq.pre m6 (fun k hk e=>by have:=qk k hk;omega);have l6:=ownsRow_turn hq.lab m6 (fun k hk e=>by have:=qk2 k hk;omega);have k6:=ownsRow_turn hq.kid m6 (fun k hk e=>by have:=qk3 k hk;omega);refine callE_of (delB_calls q.a2 n.labels n.labels.length q.c2 w4.heap.size i w6 rfl (by omega) hi (by omega) l6) ?_;rintro v w8 ⟨a2,c2,rfl,l8,b8,t8⟩;have bel8:=bel6.trans (b8.mono (by omega));have s8:=t8.size;replace hC1:=hC1.mod t8.mod (fun h=>by have:=qk2 _ h;omega)
 replace hC2:=hC2.mod t8.mod (fun h=>by have:=qk2 _ h;omega);have p8:=ownsRow_turn p6 t8.mod hq.s12;have k8:=ownsRow_turn k6 t8.mod (fun k h h'=>hq.s23 k h' h);have n2:∀ k,BlkOf a2 k→¬ BlkOf q.a3 k∧¬ BlkOf q.a1 k∧w4.heap.size≤k∧k<w8.heap.size:=fun k hk=>by
  have:=ownsRow_blk l8 k hk
  rcases t8.new k hk with h|h
  ·exact ⟨hq.s23 k h,fun h'=>hq.s12 k h' h,this⟩
  ·refine ⟨fun h'=>?_,fun h'=>?_,this⟩
   ·have:=qk3 k h';omega
   ·have:=qk k h';omega
 have x2:=hC1.cell 2;have y2:=hC1.thaw 2;rw [NP.cs_2] at x2;replace hC1:Blk (w8.setCell ⟨r1,2,none⟩ (.slice a2 (n.labels.length-1) c2)) r1 #[.slice q.a1 n.pre.length q.c1,.int .u64 (uv n.val),.slice a2 (n.labels.length-1) c2,.slice q.a3 n.kids.length q.c3] 234:=hC1.set 2 _;replace hC2:=hC2.setOther (a:=⟨r1,2,none⟩) h12 (.slice a2 (n.labels.length-1) c2)
 have m9:Mod (fun k=>k=r1) w8 (w8.setCell ⟨r1,2,none⟩ (.slice a2 (n.labels.length-1) c2)):=(Mod.refl (fun k=>k=r1) w8).setCell (a:=⟨r1,2,none⟩) (.inl rfl) _;have bel9:Below w0.heap.size w0 (w8.setCell ⟨r1,2,none⟩ (.slice a2 (n.labels.length-1) c2)):=bel8.setCell (by show w0.heap.size≤r1;omega) _;have p9:=ownsRow_turn p8 m9 (fun k hk e=>by have:=qk k hk;omega);have l9:=ownsRow_turn l8 m9 (fun k hk e=>by have:=n2 k hk;omega);have k9:=ownsRow_turn k8 m9 (fun k hk e=>by have:=qk3 k hk;omega)
 simp -implicitDefEqProofs [go_sem,x2,y2,hC1.cell,k1];generalize hw9:w8.setCell ⟨r1,2,none⟩ (.slice a2 (n.labels.length-1) c2)=w9 at *;have hs9:w9.heap.size=w8.heap.size:=by rw [← hw9];simp
 clear hw9;refine callE_of (delW_calls q.a3 n.kids n.kids.length q.c3 w4.heap.size i w9 rfl (by omega) (by omega) (by omega) k9) ?_;rintro v w11 ⟨a3,c3,rfl,k11,b11,t11⟩;have bel11:=bel9.trans (b11.mono (by omega));have s11:=t11.size;replace hC1:=hC1.mod t11.mod (fun h=>by have:=qk3 _ h;omega);replace hC2:=hC2.mod t11.mod (fun h=>by have:=qk3 _ h;omega);have p11:=ownsRow_turn p9 t11.mod hq.s13;have l11:=ownsRow_turn l9 t11.mod (fun k h=>(n2 k h).1);have x3:=hC1.cell 3;have y3:=hC1.thaw 3
 simp at x3;obtain ⟨z,hz⟩:∃ z:NP,z=⟨q.a1,q.c1,a2,c2,a3,c3⟩:=⟨_,rfl⟩;have hlw:(lessN n i).labels.length=n.labels.length-1:=List.length_eraseIdx_of_lt hi;have hkw:(lessN n i).kids.length=n.kids.length-1:=List.length_eraseIdx_of_lt (by omega);have hzc:z.cs (lessN n i)=#[.slice q.a1 n.pre.length q.c1,.int .u64 (uv n.val),.slice a2 (n.labels.length-1) c2,.slice a3 (n.kids.length-1) c3]:=by
  rw [hz];unfold NP.cs;rw [hlw,hkw];rfl
 replace hC1:Blk (w11.setCell ⟨r1,3,none⟩ (.slice a3 (n.kids.length-1) c3)) r1 (z.cs (lessN n i)) 234:=by rw [hzc];exact hC1.set 3 _
 replace hC2:=hC2.setOther (a:=⟨r1,3,none⟩) h12 (.slice a3 (n.kids.length-1) c3);have m12:Mod (fun k=>k=r1) w11 (w11.setCell ⟨r1,3,none⟩ (.slice a3 (n.kids.length-1) c3)):=(Mod.refl (fun k=>k=r1) w11).setCell (a:=⟨r1,3,none⟩) (.inl rfl) _;have bel12:Below w0.heap.size w0 (w11.setCell ⟨r1,3,none⟩ (.slice a3 (n.kids.length-1) c3)):=bel11.setCell (by show w0.heap.size≤r1;omega) _;have n3:=fun k hk=>ownsRow_blk k11 k hk
 have p12:=ownsRow_turn p11 m12 (fun k hk e=>by have:=qk k hk;omega);have l12:=ownsRow_turn l11 m12 (fun k hk e=>by have:=n2 k hk;omega);have k12:=ownsRow_turn k11 m12 (fun k hk e=>by have:=n3 k hk;omega);have ldZ:=ldAll (P:=Tryz.prog) hC1 Tryz.underlying234 rfl ndI (n:=4) (z.cs_size _);have stZ:=stAll (P:=Tryz.prog) (ty:=234) (cs:=z.cs (lessN n i)) hC2 ndI rfl (z.cs_one _);simp -implicitDefEqProofs [go_sem,x3,y3,h12,h21,↓ldZ,↓stZ]
 generalize w11.setCell ⟨r1,3,none⟩ (.slice a3 (n.kids.length-1) c3)=w12 at *;have s12:=m12.size;have hR:=Blk.row hC2 (z.cs (lessN n i));have belR:=below_setRow bel12 (show w0.heap.size≤r2 by omega) (z.cs (lessN n i));have mR:Mod (fun k=>k=r2) w12 (w12.setRow r2 (z.cs (lessN n i))):=(Mod.refl (fun k=>k=r2) w12).row (.inl rfl) _;have sR:(w12.setRow r2 (z.cs (lessN n i))).heap.size=w12.heap.size:=by simp
 refine bodyCell 4 5 rfl (by simp -implicitDefEqProofs [go_sem]) hR Tryz.underlying234 rfl ndI ?_;have p13:=ownsRow_turn p12 mR (fun k hk e=>by have:=qk k hk;omega);have l13:=ownsRow_turn l12 mR (fun k hk e=>by have:=n2 k hk;omega);have k13:=ownsRow_turn k12 mR (fun k hk e=>by have:=n3 k hk;omega);simp -implicitDefEqProofs [go_sem];generalize w12.setRow r2 (z.cs (lessN n i))=w13 at *;rw [hr1];refine ⟨z,rfl,?_,fun k hk=>?_,belR⟩
 ·have hN:NdIn w13 ⟨q.a1,q.c1,a2,c2,a3,c3⟩ (lessN n i):=⟨owns_slIn rfl p13,owns_slIn hlw l13,owns_slIn hkw k13⟩;rw [hz];exact hN
 ·rw [hz] at hk
  rcases hk with hk|hk|hk
  ·have:=ownsRow_blk p13 k hk;omega
  ·have:=ownsRow_blk l13 k hk;omega
  ·have:=ownsRow_blk k13 k hk;omega
end
end
section
open Go Go.RowKit
open TR
namespace TR
theorem bytes_len (s:ByteArray):(bytesL s).length=s.size:=by unfold bytesL;rw [List.length_map,Array.length_toList];rfl
theorem bytes_get (s:ByteArray){k:Nat}(hk:k<(bytesL s).length):(bytesL s)[k]=tx s k:=by
 have h:k<s.size:=by rw [bytes_len] at hk;exact hk
 rw [tx_at s k h];simp only [bytesL,List.getElem_map,Array.getElem_toList]
def nibK (s:ByteArray)(k:Nat):List Nb:=((bytesL s).take k).flatMap nib2
theorem nibK_zero (s:ByteArray):nibK s 0=[]:=rfl
theorem nibK_succ (s:ByteArray){k:Nat}(hk:k<s.size):nibK s (k+1)=nibK s k++[tx s k/16#8,tx s k%16#8]:=by
 have h:k<(bytesL s).length:=by rw [bytes_len];exact hk
 unfold nibK;rw [List.take_add_one,List.getElem?_eq_getElem h,bytes_get s h,List.flatMap_append];rfl
theorem nibK_all (s:ByteArray):nibK s s.size=nibs s:=by
 unfold nibK nibs;rw [List.take_of_length_le (by rw [bytes_len];exact Nat.le_refl _)]
theorem nibK_len (s:ByteArray):∀ {k:Nat},k≤s.size→(nibK s k).length=2*k
 | 0,_=>rfl
 | k+1,h=>by rw [nibK_succ s (by omega),List.length_append,nibK_len s (by omega)];simp;omega
theorem nibs_len (s:ByteArray):(nibs s).length=2*s.size:=by rw [← nibK_all];exact nibK_len s (Nat.le_refl _)
theorem nibs_lt (s:ByteArray):∀ x∈nibs s,x.toNat<16:=by
 intro x hx;unfold nibs at hx;obtain ⟨b,hb,hx⟩:=List.mem_flatMap.1 hx;have:=b.isLt
 rcases List.mem_cons.1 hx with rfl|hx
 ·rw [BitVec.toNat_udiv];show b.toNat/16<16;omega
 ·rw [List.mem_singleton] at hx;subst hx;rw [BitVec.toNat_umod];show b.toNat%16<16;omega
end TR
section
set_option maxHeartbeats 2000000
theorem nibOf_calls (s:ByteArray)(w0:World)(hs:s.size≤1000) :
  Ret Tryz.prog 161 #[.string s] w0 fun v w'=>∃ a c,v=.slice a (nibs s).length c∧SlIn .u8 w' a (nibs s) c∧(∀ y,a=some y→w0.heap.size≤y.block∧y.block<w'.heap.size)∧Below w0.heap.size w0 w':=by
 have bel0:=Below.refl w0.heap.size w0;have i1:=IntWalk.i64_in (2*(s.size:Int)) (by omega);obtain ⟨ti,tz,hti,htz,hts,htb,-⟩:=eI_u8.get;obtain ⟨w1,hmk,ho1,hg1⟩:=run_make_own (P:=Tryz.prog) w0 w0.heap.size 36 5 ti tz 1 Tryz.underlying36 hti htz hts .i64 .i64 (2*s.size) (by rw [htb];omega) (by unfold maxLen;omega) (Nat.le_refl _);rw [show ((2*s.size:Nat):Int)=2*(s.size:Int) by omega] at hmk;have b1:Below w0.heap.size w0 w1:=bel0.grown hg1 (Nat.le_refl _) (fun k hk=>by cases hk)
 refine ret_of (args:=[_]) _ Tryz.func161 rfl Tryz.ntmps161 (by simp) ?_;simp -implicitDefEqProofs [go_sem,i1,hmk];refine wpE_loop (fun e' w'=>∃ (k:Nat) (a:Option Addr) (c:Nat),k≤s.size∧e' 0=.string s∧e' 3=.slice a (nibK s k).length c∧e' 10=.int .i64 s.size∧e' 11=.int .i64 k∧w'.ownsRow w0.heap.size 5 1 (.slice a (nibK s k).length c) (nibK s k).length (cellsK .u8 (nibK s k))∧Below w0.heap.size w0 w') (fun e' _=>s.size-(intOf (e' 11)).toNat) ?_ ?_
 ·refine ⟨0,some ⟨w0.heap.size,0,none⟩,2*s.size,Nat.zero_le _,?_⟩;simp -implicitDefEqProofs [go_sem,nibK_zero];exact ⟨ho1,b1⟩
 ·rintro e' w2 ⟨k,a,c,hk,q0,q3,q10,q11,ho,b2⟩;have hkl:=nibK_len s hk;by_cases hlt:k<s.size
  ·have hlt':(k:Int)<s.size:=by omega
   have hw:=IntWalk.i64_in ((k:Int)+1) (by omega);have gt':tx s k=(s[k]).toBitVec:=tx_at s k hlt;have b3:=b2.drew;have ho3:=ownsRow_next ho ((Below.refl w2.heap.size w2).drew);simp -implicitDefEqProofs [go_sem,q0,q3,q10,q11,hlt,hlt'];refine drawE_mix [.pure 0,.pure 1,.pure 2,.pure 5,.pure 6,.take 3,.take 7,.pure 4,.pure 8,.run 9 [],.run 10 [],.pure 11] mixed (by decide +kernel) (by simp only [wo];rfl) ?_;generalize World.drew w2=w3 at *
   simp -implicitDefEqProofs [go_sem,q0,q3,q10,q11,hlt,hlt'];refine onTake_of (fun _=>True) (.int .u8 (uv (tx s k))) trivial (fun w' _=>by simp -implicitDefEqProofs [go_sem,hlt,hlt',u8_int,gt']) ?_;simp -implicitDefEqProofs [go_sem,q0,q3,q10,q11,hlt,hlt'];refine onTake_of (fun _=>True) (.int .u8 (uv (tx s k))) trivial (fun w' _=>by simp -implicitDefEqProofs [go_sem,hlt,hlt',u8_int,gt']) ?_;obtain ⟨cs,hcs⟩:∃ cs:Array Value,cs=#[.int .u8 (uv (tx s k/16#8)),.int .u8 (uv (tx s k%16#8))]:=⟨_,rfl⟩
   have hsz3:=b3.size;obtain ⟨a2,c2,w4,hr,ho4,hg4⟩:=run_append1 (P:=Tryz.prog) w0.heap.size (t:=36) (bytes:=1) (z:=.int .u8 0) 36 Tryz.underlying36 infoB rfl (ho3.alloc (.cells #[.int .u8 (uv (tx s k/16#8)),.int .u8 (uv (tx s k%16#8))] 5)) (a2:=some ⟨w3.heap.size,0,none⟩) (c2:=2) (m:=2) (news:=[.int .u8 (uv (tx s k/16#8)),.int .u8 (uv (tx s k%16#8))]) rfl
    (.inr ⟨_,rfl,fun i u hu=>by rw [Addr.add_lit,Nat.zero_add,(Blk.new _ _ _).cell];simpa using hu⟩) (by simp) (by simp [Value.oneCell']) (by omega) (by omega) (by simp;omega)
   have b4:Below w0.heap.size w0 w4:=(b3.alloc hsz3 _).grown hg4 (by simp;omega) (fun j hj=>(ho3.lt j hj).1);simp -implicitDefEqProofs [go_sem,q0,q3,q10,q11,hlt,hlt',hr,hw];have hks:=nibK_succ s hlt;have hkn:(nibK s (k+1)).length=(nibK s k).length+2:=by rw [hks];simp
   refine goE_round ⟨k+1,a2,c2,by omega,?_⟩ ?_
   ·rw [hkn,hks,cellsK_append];simp -implicitDefEqProofs [go_sem,q0,q10];exact ⟨ho4,b4⟩
   ·simp -implicitDefEqProofs [go_sem,intOf,q11,hw];omega
  ·have hn:¬ (k:Int)<s.size:=by omega
   have hk':k=s.size:=by omega
   subst hk';rw [nibK_all] at q3 ho;simp -implicitDefEqProofs [go_sem,q0,q3,q10,q11,hn];refine body_tmp 2 rfl ?_;simp -implicitDefEqProofs [go_sem];exact ⟨a,c,⟨rfl,rfl⟩,owns_slIn rfl ho,fun y hy=>ownsRow_blk ho _ ⟨y,hy,rfl⟩,b2⟩
namespace TR
def keyB (l:List Nb):List Nb:=(List.range (l.length/2)).map fun i=>l.getD (2*i) 0#8*16#8+l.getD (2*i+1) 0#8
def keyS (l:List Nb):ByteArray:=⟨((keyB l).map UInt8.ofBitVec).toArray⟩
theorem keyB_len (l:List Nb):(keyB l).length=l.length/2:=by simp [keyB]
theorem keyB_get (l:List Nb){i:Nat}(h:i<(keyB l).length):(keyB l)[i]=l.getD (2*i) 0#8*16#8+l.getD (2*i+1) 0#8:=by simp [keyB]
end TR
theorem nibKey_calls (a:Option Addr)(l:List Nb)(c:Nat)(w0:World)(hin:SlIn .u8 w0 a l c)(hl:l.length≤1000)(he:l.length%2=0)(h:∀ x∈l,x.toNat<16) :
  Ret Tryz.prog 174 #[.slice a l.length c] w0 fun v w'=>v=.tuple #[.string (keyS l),.bool true]∧Below w0.heap.size w0 w':=by
 have bel0:=Below.refl w0.heap.size w0;obtain ⟨m,hm⟩:∃ m:Nat,l.length=2*m:=⟨l.length/2,by omega⟩;have hkm:(keyB l).length=m:=by rw [keyB_len];omega
 have t1:(l.length:Int).tmod 2=0:=by rw [Int.tmod_eq_emod_of_nonneg (by omega)];omega
 have t2:(l.length:Int).tdiv 2=(m:Int):=by rw [Int.tdiv_eq_ediv_of_nonneg (by omega)];omega
 have i1:=IntWalk.i64_in (m:Int) (by omega);have i2:=IntWalk.i64_in 0 (by omega);have mk:=run_make_n (P:=Tryz.prog) (t:=36) (e:=5) (z:=.int .u8 0) (bytes:=1) (by kernel_rfl) (by kernel_rfl) rfl .i64 .i64 m (by omega) (by omega) w0;refine ret_of (args:=[_]) _ Tryz.func174 rfl Tryz.ntmps174 (by simp) ?_;simp -implicitDefEqProofs [go_sem,t1];refine callE_of (nibRight_calls a l c w0 hin h) ?_;rintro v w1 ⟨rfl,rfl⟩;simp -implicitDefEqProofs [go_sem,t2,i1,mk];have bel1:=bel0
 generalize hw2:World.alloc w1 _=w2 at *;obtain ⟨hB2,b2,sz2,bel2⟩:=newF hw2 bel1;rw [cwK_zero (n:=8),show List.replicate m 0#8=fillL (keyB l) 0 by rw [fillL_zero,hkm]] at hB2;obtain ⟨g,hg⟩:∃ g,g=w1.heap.size:=⟨_,rfl⟩;rw [← hg] at hB2 ⊢;refine wpE_loop (fun e' w'=>∃ k:Nat,k≤m∧e' 0=.slice a l.length c∧e' 4=.slice (some ⟨g,0,none⟩) m m∧e' 20=.int .i64 m∧e' 21=.int .i64 k∧Blk w' g (cwK .u8 (fillL (keyB l) k)) 5∧Below w1.heap.size w1 w') (fun e' _=>m-(intOf (e' 21)).toNat) ?_ ?_
 ·refine ⟨0,Nat.zero_le _,?_⟩;simp -implicitDefEqProofs [go_sem];exact ⟨hB2,bel2⟩
 ·rintro e' w3 ⟨k,hk,q0,q4,q20,q21,hB,b3⟩;by_cases hlt:k<m
  ·have hlt':(k:Int)<m:=by omega
   have hw:=IntWalk.i64_in ((k:Int)+1) (by omega);have k1:=IntWalk.i64_in (2*(k:Int)) (by omega);have k2:=IntWalk.i64_in (2*(k:Int)+1) (by omega);have j0:(0:Int)≤2*k:=by omega
   have j1:2*(k:Int)<l.length:=by omega
   have j2:(2*(k:Int)).toNat=2*k:=by omega
   have j3:(0:Int)≤2*k+1:=by omega
   have j4:2*(k:Int)+1<l.length:=by omega
   have j5:(2*(k:Int)+1).toNat=2*k+1:=by omega
   have hkl:k<(keyB l).length:=by omega
   have b4:=b3.drew;have hB4:=hB.drew;obtain ⟨b,o,ha,d1⟩:=(hin.next b4).at_.cell (i:=2*k) (by omega);obtain ⟨b',o',ha',d2⟩:=(hin.next b4).at_.cell (i:=2*k+1) (by omega);obtain ⟨rfl,rfl⟩:b=b'∧o=o':=by rw [ha] at ha';cases ha';exact ⟨rfl,rfl⟩
   have gx:=(hB4.cell k).trans (cwK_get .u8 (fillL (keyB l) k) k (by rw [fillL_len _ (by omega)];omega));have gf:=hB4.thaw k;have hset:=fillL_set (keyB l) hkl;have hval:(keyB l)[k]=l[2*k]*16#8+l[2*k+1]:=by
    rw [keyB_get l hkl];simp [List.getD,show 2*k<l.length by omega,show 2*k+1<l.length by omega]
   simp -implicitDefEqProofs [go_sem,q0,q4,q20,q21,hlt,hlt'];refine drawE_tail 15 mixed (by decide +kernel) (by simp only [wt];rfl) (by simp only [wt];rfl) ?_;generalize World.drew w3=w4 at *;simp -implicitDefEqProofs [go_sem,q0,q4,q20,q21,k1,k2,j0,j1,j2,j3,j4,j5,ha,d1,d2,hlt,hlt'];unfold endE;simp -implicitDefEqProofs [go_sem,q0,q4,q20,q21,gx,gf,hw,hlt,hlt',← hval];refine goE_round ⟨k+1,by omega,?_⟩ ?_
   ·simp -implicitDefEqProofs [go_sem,q0,q4,q20,ha];rw [← hset,← cwK_set];exact ⟨hB4.set _ _,b4.setCell (by rw [hg];exact Nat.le_refl _) _⟩
   ·simp -implicitDefEqProofs [go_sem,intOf,q21,hw];omega
  ·have hn:¬ (k:Int)<m:=by omega
   have hk':k=(keyB l).length:=by omega
   rw [hk',fillL_all] at hB;have hcv:=run_convert_bytes_back (P:=Tryz.prog) w3 36 9 5 ⟨g,0,none⟩ m ((keyB l).map UInt8.ofBitVec) Tryz.underlying36 Tryz.underlying5 Tryz.underlying9 (fun j hj=>by
    have hj':j<(keyB l).length:=by simpa using hj
    rw [Addr.add_lit,Nat.zero_add,hB.cell,cwK_get .u8 _ j hj'];simp
    rfl)
   rw [List.length_map,hkm] at hcv;simp -implicitDefEqProofs [go_sem,q0,q4,q20,q21,hn,hcv];refine body_tmp2 2 3 rfl ?_;simp -implicitDefEqProofs [go_sem];rw [hg];exact ⟨rfl,b3⟩
end
end
section
open Go Go.RowKit
open TR
def Pd (w:World)(m:Nat)(V:PV)(b p:Nat)(G:Nat→Prop):Prop:=∃ tb tc hb hc F,PD w b p (shN m) V.T V.H tb tc hb hc F V.D∧G=PdK b tb hb F
section
variable {w w':World} {m b p:Nat} {V:PV} {G G' F:Nat→Prop}
theorem Pd.next (h:Pd w m V b p G)(hb:Below w.heap.size w w'):Pd w' m V b p G:=by
 obtain ⟨tb,tc,hb',hc,F,h1,h2⟩:=h;exact ⟨tb,tc,hb',hc,F,h1.next hb,h2⟩
theorem Pd.lt (h:Pd w m V b p G):∀ k,G k→k<w.heap.size:=by
 obtain ⟨tb,tc,hb',hc,F,h1,rfl⟩:=h;exact h1.lt
theorem Pd.mod (h:Pd w m V b p G)(hm:Mod F w w')(hG:∀ k,G k→¬ F k):Pd w' m V b p G:=by
 obtain ⟨tb,tc,hb',hc,F,h1,rfl⟩:=h;exact ⟨tb,tc,hb',hc,F,h1.mod hm hG,rfl⟩
theorem rest_put (h:Rest m V)(hm:m=6∨m=24){o:Nat}(h8:o%8=0)(ho:o+8≤64*nL m)(ho2:64≤o∧o<128∨dT m≤o)(n:BitVec 64) :
  (runS V.D (putS (o:Int) n)).2=0∧Rest m { V with D:=(runS V.D (putS (o:Int) n)).1 }∧(∀ x,x%8=0→x<64*nL m→(runS V.D (putS (o:Int) n)).1.word x=if x=o then n else V.D.word x)∧(runS V.D (putS (o:Int) n)).1.steps≤V.D.steps+3:=by
 have zf:=sz hm;have hl:=h.well.lines;have hs:V.D.size=64*nL m:=by unfold NM.Dv.size;rw [hl]
 obtain ⟨u1,u2,u3,u4,u5,-⟩:=put_up h.well.ok h.well.up (by rw [hl];omega) h8 (by omega) n;exact ⟨u1,h.dev hm u2 u3 (u4.trans hl) (fun x hx hx2 hx3=>by rw [u5 x hx (by omega),if_neg (by omega)]),fun x hx hx2=>u5 x hx (by omega),runS_steps V.D (putS (o:Int) n)⟩
theorem putAll_up {D:NM.Dv}(hu:D.Up)(hok:D.Ok)(hl:D.ls.length=nL m)(hm:m=6∨m=24){o:Nat}{l:List (BitVec 64)}(h8:o%64=0)(ho:o+8*l.length≤64*nL m)(hl0:l.length≤32) :
  (D.putAll (o:Int) l).2=0∧(D.putAll (o:Int) l).1.Up∧(D.putAll (o:Int) l).1.Ok∧(D.putAll (o:Int) l).1.ls.length=nL m∧(∀ x,x%8=0→x<64*nL m→(D.putAll (o:Int) l).1.word x=if o≤x∧x<o+8*l.length then l.getD ((x-o)/8) 0#64 else D.word x)∧(D.putAll (o:Int) l).1.steps≤D.steps+40:=by
 have zf:=sz hm;have hs:D.size=64*nL m:=by unfold NM.Dv.size;rw [hl]
 have hw:=within_in (D:=D) (by rw [hl];omega) (o:=o) (n:=l.length) (by omega) (by omega);have he:D.putAll (o:Int) l=runS D (putAllS o l):=by unfold NM.Dv.putAll;rw [if_pos hw,Int.toNat_natCast]
 rw [he];obtain ⟨e1,e2⟩:=runS_upUp hu (by rw [hl];omega) (putAllS o l) (putAllS_in (by omega) (by rw [hl];exact ho));refine ⟨e1,e2,runS_okk hok _,(runS_len D _).trans hl,fun x hx hx2=>?_,?_⟩
 ·exact putAll_words hok (by rw [hl];omega) (by omega) (by omega) e1 hx (by omega)
 ·have h1:=runS_steps D (putAllS o l);have h2:(putAllS o l).length≤40:=by
   unfold putAllS;rw [List.length_append,List.length_append,storesS_len,flushesS_len];unfold linesOf;simp only [List.length_singleton];split
   ·omega
   ·omega
  omega
structure NAt (m:Nat) (V:PV) (o:Nat) (n:NdV):Prop where
 right:n.Right
 blk:Bk m V (o:Int)=((8*n.many:Nat):Int)
 words:∀ i,i<n.many→V.D.word (o+8*i)=encW n i
theorem NAt.keep {V':PV}{o:Nat}{n:NdV}(h:NAt m V o n)(hb:Bk m V' (o:Int)=Bk m V (o:Int))(hw:∀ i,i<n.many→V'.D.word (o+8*i)=V.D.word (o+8*i)):NAt m V' o n :=
 ⟨h.right,hb.trans h.blk,fun i hi=>(hw i hi).trans (h.words i hi)⟩
theorem many_eq (n:NdV):n.many=8∧n.cls=1∨n.many=32∧n.cls=2:=by
 unfold NdV.many NdV.cls;split
 ·exact .inl ⟨rfl,rfl⟩
 ·exact .inr ⟨rfl,rfl⟩
theorem NAt.in_ (hm:m=6∨m=24){o:Nat}{n:NdV}(h:NAt m V o n):o%64=0∧dT m≤o∧o+8*n.many≤64*nL m∧wordsAt V.D o n.many=enc n:=by
 have hp:0<Bk m V (o:Int):=by rw [h.blk];rcases many_eq n with ⟨e,_⟩|⟨e,_⟩<;>rw [e]<;>decide
 obtain ⟨k,e,h1,h2,h3,_⟩:=bk_in hm hp;obtain rfl:o=k:=by omega
 refine ⟨h1,h2,by rw [h.blk] at h3;omega,?_⟩;refine List.ext_getElem (by rw [wordsAt_len,enc_len]) fun i i1 i2=>?_
 rw [wordsAt_len] at i1;have e1:(wordsAt V.D o n.many)[i]=V.D.word (o+8*i):=by simp [wordsAt]
 have e2:(enc n)[i]=encW n i:=by simp [enc]
 rw [e1,e2,h.words i i1]
theorem name_int {o:Nat}(ho:o<1000000):IntKind.i64.wrap (uv (nameW o))=(o:Int)∧(nameW o).toNat=o:=by
 have e:(nameW o).toNat=o:=by unfold nameW;rw [BitVec.toNat_ofNat,Nat.mod_eq_of_lt (by omega)]
 refine ⟨?_,e⟩;unfold uv;rw [e];exact IntWalk.i64_in _ (by omega)
theorem name_ne {o:Nat}(ho:o<1000000)(h0:0<o):nameW o≠0#64:=fun e=>by
 have h:=(name_int ho).2;rw [e] at h;have:(0#64:BitVec 64).toNat=0:=rfl;omega
set_option maxHeartbeats 2000000
theorem pdGet_calls (w0:World)(h:Pd w0 m V b p G)(hr:Rest m V)(hm:m=6∨m=24){o n:Nat}(h8:o%8=0)(ho:o+8*n≤64*nL m) :
  Ret Tryz.prog 81 #[.pointer (some ⟨p,0,none⟩),.int .i64 (o:Int),.int .i64 (n:Int)] w0 fun v w'=>∃ a c,v=.tuple #[.slice a n c,.int .i64 0]∧SlIn .u64 w' a (wordsAt V.D o n) c∧(∀ y,a=some y→w0.heap.size≤y.block∧y.block<w'.heap.size)∧Below w0.heap.size w0 w':=by
 have zf:=sz hm;have hs:V.D.size=64*nL m:=by unfold NM.Dv.size;rw [hr.well.lines]
 have hg:=get_in (D:=V.D) (by rw [hr.well.lines];omega) hr.well.up.down h8 (n:=n) (by omega);obtain ⟨tb,tc,hb,hc,F,hP,rfl⟩:=h;refine (get_calls' (o:Int) (n:Int) w0 hP.dev (by unfold I64;omega) (by unfold I64;omega)).mono ?_;rintro v w' ⟨bel,a,c,rfl,h1,h2⟩;rw [hg] at h1 ⊢;exact ⟨a,c,by rw [wordsAt_len],h1,h2,bel⟩
theorem pdClass_calls (w0:World)(h:Pd w0 m V b p G)(hr:Rest m V)(hm:m=6∨m=24){o:Nat}(ho:o<1000000) :
  Ret Tryz.prog 123 #[.pointer (some ⟨b,0,none⟩),.int .i64 (o:Int)] w0 fun v w'=>v=.int .i64 (classV (shN m) V.T V.H (o:Int))∧Below w0.heap.size w0 w':=by
 have zf:=sz hm;obtain ⟨tb,tc,hb,hc,F,hP,rfl⟩:=h;exact poolClass_calls (o:Int) w0 hP.pool (by rw [hr.well.len];omega) (by unfold I64;omega) ⟨show (0:Int)≤((dT m:Nat):Int) by omega,show ((dT m:Nat):Int)≤1000000 by omega⟩
def IxC (p b:Nat):Array Value:=#[.pointer (some ⟨p,0,none⟩),.pointer (some ⟨b,0,none⟩)]
theorem idxAsk_calls (x:Nat)(s:ByteArray)(w0:World)(hx:Blk w0 x (IxC p b) 178)(hs:s.size≤16) :
  Ret Tryz.prog 127 #[.pointer (some ⟨x,0,none⟩),.string s] w0 fun v w'=>v=.int .i64 0∧w'=w0:=by
 have hs':¬ (16:Int)<s.size:=by omega
 have x0:=hx.cell 0;simp [IxC] at x0;refine ret_of (args:=[_,_]) _ Tryz.func127 rfl Tryz.ntmps127 (by simp) ?_;simp -implicitDefEqProofs [go_sem,x0,hs'];refine body_tmp 4 rfl ?_;simp -implicitDefEqProofs [go_sem]
theorem idxRoot_calls (x:Nat)(w0:World)(h:Pd w0 m V b p G)(hr:Rest m V)(hm:m=6∨m=24)(hx:Blk w0 x (IxC p b) 178) :
  Ret Tryz.prog 140 #[.pointer (some ⟨x,0,none⟩)] w0 fun v w'=>v=.tuple #[.int .u64 (uv (V.D.word 72)),.int .i64 0]∧Below w0.heap.size w0 w':=by
 have zf:=sz hm;have x0:=hx.cell 0;simp [IxC] at x0;have hG:=pdGet_calls w0 h hr hm (o:=72) (n:=1) (by decide) (by omega);refine ret_of (args:=[_]) _ Tryz.func140 rfl Tryz.ntmps140 (by simp) ?_;simp -implicitDefEqProofs [go_sem,x0];refine callE_of hG ?_;rintro v w1 ⟨a,c,rfl,h1,-,b1⟩;obtain ⟨g,o,rfl,d1⟩:=h1.at_.cell (i:=0) (by rw [wordsAt_len];decide);simp [wordsAt] at d1;simp -implicitDefEqProofs [go_sem,d1];refine body_tmp2 2 3 rfl ?_;simp -implicitDefEqProofs [go_sem];exact b1
theorem idxRead_calls (x o:Nat)(n:NdV)(w0:World)(h:Pd w0 m V b p G)(hr:Rest m V)(hm:m=6∨m=24)(hx:Blk w0 x (IxC p b) 178)(hn:NAt m V o n) :
  Ret Tryz.prog 162 #[.pointer (some ⟨x,0,none⟩),.int .u64 (uv (nameW o))] w0 fun v w'=>∃ q:NP,v=.tuple #[.agg (q.cs n),.int .i64 0]∧NdIn w' q n∧(∀ k,(BlkOf q.a1 k∨BlkOf q.a2 k∨BlkOf q.a3 k)→w0.heap.size≤k∧k<w'.heap.size)∧Below w0.heap.size w0 w':=by
 have bel0:=Below.refl w0.heap.size w0;have zf:=sz hm;obtain ⟨n1,n2,n3,n4⟩:=hn.in_ hm;obtain ⟨e1,e2⟩:=name_int (o:=o) (by omega);refine ret_of (args:=[_,_]) _ Tryz.func162 rfl Tryz.ntmps162 (by simp) ?_;simp -implicitDefEqProofs [go_sem,e1];generalize hw1:World.alloc w0 _=w1 at *;obtain ⟨hB1,b1,sz1,bel1⟩:=newF hw1 bel0;have hx1:=hx.next b1
 have x0:=hx1.cell 0;have x1:=hx1.cell 1;simp [IxC] at x0 x1;simp -implicitDefEqProofs [go_sem,x1];refine callE_of (pdClass_calls w1 (h.next b1) hr hm (o:=o) (by omega)) ?_;rintro v w2 ⟨rfl,b2⟩;have bel2:=btr bel1 b2;have hcl:8*linesI (classV (shN m) V.T V.H (o:Int))=(n.many:Int):=by
  have h1:=(class_bk hr (o:Int)).1;have h2:=hn.blk;omega
 have hz:((n.many:Int)==0)=false:=by rw [beq_eq_false_iff_ne];rcases many_eq n with ⟨e,_⟩|⟨e,_⟩<;>omega
 simp -implicitDefEqProofs [go_sem];refine callE_of (nodeWords_calls (classV (shN m) V.T V.H (o:Int)) w2) ?_;rintro v w3 ⟨rfl,rfl⟩;rw [hcl];have x0':=(hx1.next b2).cell 0;simp [IxC] at x0';simp -implicitDefEqProofs [go_sem,hz,x0'];refine callE_of (pdGet_calls w3 ((h.next b1).next b2) hr hm (o:=o) (n:=n.many) (by omega) (by omega)) ?_;rintro v w4 ⟨a,c,rfl,h4,-,b4⟩;have bel4:=btr bel2 b4;rw [n4] at h4;simp -implicitDefEqProofs [go_sem];refine callE_of (nodeDecode_calls a n c w4 h4 hn.right) ?_
 rintro v w5 ⟨q,rfl,hq,hqk,b5⟩;have bel5:=btr bel4 b5;have hB5:=((hB1.next b2).next b4).next b5
 have hst:=stNew (P:=Tryz.prog) (t:=234) (cs:=q.cs n) (C0:=#[.slice none 0 0,.int .u64 0,.slice none 0 0,.slice none 0 0]) ndI rfl (q.cs_one n);obtain ⟨r0,hr0⟩:∃ r0,r0=w0.heap.size:=⟨_,rfl⟩;rw [← hr0] at hB5 ⊢;have hB6:=hB5.alloc (.cells (q.cs n) 234);have hN6:=Blk.new w5 (q.cs n) 234;have ldN:=ldAll (P:=Tryz.prog) hN6 Tryz.underlying234 rfl ndI (n:=4) (q.cs_size n);have stR:=stAll (P:=Tryz.prog) (ty:=234) (cs:=q.cs n) hB6 ndI rfl (q.cs_one n);simp -implicitDefEqProofs [go_sem,↓hst,↓ldN,↓stR]
 have hlt5:=hB5.lt;have bel6:Below w0.heap.size w0 (w5.alloc (.cells (q.cs n) 234)):=bel5.alloc bel5.size _;have b6:Below w5.heap.size w5 (w5.alloc (.cells (q.cs n) 234)):=(Below.refl _ _).alloc (Nat.le_refl _) _;have hR:=Blk.row hB6 (q.cs n);have belR:=below_setRow bel6 (show w0.heap.size≤r0 by omega) (q.cs n);have mR:Mod (fun k=>k=r0) w5 ((w5.alloc (.cells (q.cs n) 234)).setRow r0 (q.cs n)):=((Mod.refl (fun k=>k=r0) w5).alloc _).row (.inl rfl) _
 have sR:((w5.alloc (.cells (q.cs n) 234)).setRow r0 (q.cs n)).heap.size=w5.heap.size+1:=by simp
 have s5:=b5.size;have s4:=b4.size;have s2:=b2.size;have hge:∀ k,(BlkOf q.a1 k∨BlkOf q.a2 k∨BlkOf q.a3 k)→w0.heap.size<k∧k<w5.heap.size:=fun k hk=>by have:=hqk k hk;omega
 refine bodyCell 4 5 rfl (by simp -implicitDefEqProofs [go_sem]) hR Tryz.underlying234 rfl ndI ?_;simp -implicitDefEqProofs [go_sem];refine ⟨q,rfl,⟨⟨hq.pre.at_.mod mR (fun k hk e=>by obtain ⟨o,ho⟩:=hk;have:=hge k (.inl ⟨_,ho,rfl⟩);omega),hq.pre.le,hq.pre.max,hq.pre.nil⟩,
  ⟨hq.lab.at_.mod mR (fun k hk e=>by obtain ⟨o,ho⟩:=hk;have:=hge k (.inr (.inl ⟨_,ho,rfl⟩));omega),hq.lab.le,hq.lab.max,hq.lab.nil⟩,
  ⟨hq.kid.at_.mod mR (fun k hk e=>by obtain ⟨o,ho⟩:=hk;have:=hge k (.inr (.inr ⟨_,ho,rfl⟩));omega),hq.kid.le,hq.kid.max,hq.kid.nil⟩⟩,fun k hk=>?_,?_⟩
 ·have:=hge k hk;omega
 ·rw [hr0] at belR ⊢;exact belR
end
end
section
open Go Go.RowKit
def flatR (l:List (Array Value)):List Value:=l.flatMap Array.toList
theorem flatR_nil:flatR []=[]:=rfl
theorem flatR_cons (k:Array Value)(l:List (Array Value)):flatR (k::l)=k.toList++flatR l:=by simp [flatR]
theorem flatR_append (a b:List (Array Value)):flatR (a++b)=flatR a++flatR b:=by simp [flatR]
theorem flatR_one (k:Array Value):flatR [k]=k.toList:=by simp [flatR]
theorem flatR_len {sz:Nat}:∀ {l:List (Array Value)},(∀ x∈l,x.size=sz)→(flatR l).length=l.length*sz
 | [],_=>by simp [flatR]
 | k::l,h=>by rw [flatR_cons,List.length_append,flatR_len fun x hx=>h x (List.mem_cons_of_mem _ hx),Array.length_toList,h k List.mem_cons_self,List.length_cons,Nat.add_mul];omega
theorem flatR_get {sz:Nat}:∀ (l:List (Array Value)) (_:∀ x∈l,x.size=sz) (i:Nat) (h:i<l.length) (j:Nat),j<sz→(flatR l)[i*sz+j]?=l[i][j]?
 | k::l,hs,0,h,j,hj=>by
  rw [flatR_cons,List.getElem?_append_left (by rw [Array.length_toList,hs k List.mem_cons_self];omega)];simp
 | k::l,hs,i+1,h,j,hj=>by
  have e:(i+1)*sz=i*sz+sz:=by rw [Nat.add_mul];omega
  rw [flatR_cons,List.getElem?_append_right (by rw [Array.length_toList,hs k List.mem_cons_self];omega),Array.length_toList,hs k List.mem_cons_self,show (i+1)*sz+j-sz=i*sz+j by omega];exact flatR_get l (fun x hx=>hs x (List.mem_cons_of_mem _ hx)) i (by simpa using h) j hj
structure RIn (w:World) (sz:Nat) (a:Option Addr) (l:List (Array Value)) (cap:Nat):Prop where
 size:∀ x∈l,x.size=sz
 at_:l=[]∨∃ b off,a=some ⟨b,off,none⟩∧∀ i (h:i<l.length),∀ j (hj:j<l[i].size),w.cell? ⟨b,off+i*sz+j,none⟩=some l[i][j]
 le:l.length≤cap
 max:cap≤9223372036854775807
 nil:a=none→cap=0
section
variable {w w':World} {sz:Nat} {a:Option Addr} {l:List (Array Value)} {cap:Nat} {F F':Nat→Prop}
theorem RIn.next (h:RIn w sz a l cap)(hb:Below w.heap.size w w'):RIn w' sz a l cap:=by
 refine ⟨h.size,?_,h.le,h.max,h.nil⟩
 rcases h.at_ with h1|⟨b,off,rfl,hc⟩
 ·exact .inl h1
 ·exact .inr ⟨b,off,rfl,fun i hi j hj=>(hb.cell (p:=⟨_,_,none⟩) (World.block_lt_of_cell? w _ (hc i hi j hj))).trans (hc i hi j hj)⟩
theorem RIn.drew (h:RIn w sz a l cap):RIn w.drew sz a l cap:=h.next (Below.refl _ _).drew
theorem RIn.mod (h:RIn w sz a l cap)(hm:Mod F w w')(hF:∀ k,BlkOf a k→¬ F k):RIn w' sz a l cap:=by
 refine ⟨h.size,?_,h.le,h.max,h.nil⟩
 rcases h.at_ with h1|⟨b,off,rfl,hc⟩
 ·exact .inl h1
 ·refine .inr ⟨b,off,rfl,fun i hi j hj=>?_⟩;have h1:=hc i hi j hj;rw [← h1];exact World.cell?_of_block (w:=w) (hm.block b (World.block_lt_of_cell? w _ h1) (hF _ ⟨_,rfl,rfl⟩))
theorem RIn.turn (h:RIn w sz a l cap)(hs:SepA w F a)(ht:Turn w F w' F'):RIn w' sz a l cap:=h.mod ht.mod fun k ⟨y,e,hk⟩=>by rw [← hk];exact (hs _ e).2
theorem RIn.get (h:RIn w sz a l cap){i:Nat}(hi:i<l.length):∃ b off,a=some ⟨b,off,none⟩∧(∀ j (hj:j<l[i].size),w.cell? ⟨b,off+i*sz+j,none⟩=some l[i][j]):=by
 rcases h.at_ with h1|⟨b,off,ha,hc⟩
 ·subst h1;cases hi
 ·exact ⟨b,off,ha,hc i hi⟩
theorem owns_rin {base m:Nat}{e:TypeId}(hs:∀ x∈l,x.size=sz)(hl:l.length=m)(h:w.ownsRow base e sz (.slice a m cap) m (flatR l)):RIn w sz a l cap:=by
 obtain ⟨_,⟨hv,h0⟩|⟨g,cap2,cur,hv,hg,hblk,hcap,hm,hsz,htake⟩⟩:=h
 ·simp only [Value.slice.injEq] at hv;obtain ⟨rfl,_,rfl⟩:=hv;exact ⟨hs,.inl (List.eq_nil_of_length_eq_zero (by omega)),by omega,by omega,fun _=>rfl⟩
 ·simp only [Value.slice.injEq] at hv;obtain ⟨rfl,_,rfl⟩:=hv;have hblk:Blk w g cur e:=hblk;refine ⟨hs,.inr ⟨_,_,rfl,fun i hi j hj=>?_⟩,by omega,by unfold maxLen at hm;omega,fun h=>by cases h⟩;have hj2:j<sz:=by rw [hs _ (List.getElem_mem hi)] at hj;exact hj
  rw [Nat.zero_add,hblk.cell];have h1:=congrArg (fun z:List Value=>z[i*sz+j]?) htake;have h2:i*sz+j<m*sz:=by
   have:(i+1)*sz≤m*sz:=Nat.mul_le_mul (by omega) (Nat.le_refl _);rw [Nat.add_mul] at this;omega
  simp only [List.getElem?_take,h2,if_true,Array.getElem?_toList] at h1;rw [h1,flatR_get l hs i hi j hj2];simp [hj]
theorem rin_nil (hc:cap≤9223372036854775807)(ha:a=none→cap=0):RIn w sz a [] cap:=⟨(fun _ h=>by cases h),.inl rfl,Nat.zero_le _,hc,ha⟩
theorem RIn.ld {ty:TypeId}{d:TypeDesc}(h:RIn w sz a l cap){i:Nat}(hi:i<l.length)(hu:Tryz.prog.underlying ty=some d)(hd:isAggD d=true)(hn:(Tryz.prog.info? ty).map (·.size)=some sz) :
  ∃ b off,a=some ⟨b,off,none⟩∧∀ (e:Env) (dst:Option Tmp) (x:Operand) (ty':TypeId) (pos:String) (af:Array Edge) (gd:Option (Nat × Bool)),ev e x=.pointer (some ⟨b,off+i*sz,none⟩)→xOp Tryz.prog e ⟨dst,.load ty x,ty',pos,af,gd⟩ w=.ok (.value (.agg l[i])) w:=by
 obtain ⟨b,off,ha,hc⟩:=h.get hi;exact ⟨b,off,ha,ldCells hu hd hn (h.size _ (List.getElem_mem hi)) hc⟩
end
end
end Go.Proofs.YtaaihijkdhmcdaaGreatDoor
