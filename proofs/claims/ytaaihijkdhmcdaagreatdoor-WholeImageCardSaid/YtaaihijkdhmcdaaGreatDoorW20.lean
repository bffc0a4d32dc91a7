/- WholeImage, part 21 of 38: contracts and lemmas of its proof. Conditions: none. -/
import Derived.Test.YtaaihijkdhmcdaaGreatDoorW19
import Derived.Test.YtaaihijkdhmcdaaGreatDoorW17
set_option linter.unusedVariables false
set_option linter.unusedSimpArgs false
set_option maxRecDepth 100000
namespace Go.Proofs.YtaaihijkdhmcdaaGreatDoor
section
open Go Go.RowKit
open TR
theorem SlIn.sub {m:Nat}{k:IntKind}{w:World}{b o c:Nat}{l:List (BitVec m)}(h:SlIn k w (some ⟨b,o,none⟩) l c)(i j:Nat)(hij:i+j≤l.length):SlIn k w (some ⟨b,o+i,none⟩) ((l.drop i).take j) (c-i):=by
 have hle:=h.le;refine ⟨?_,by rw [List.length_take,List.length_drop];omega,by have:=h.max;omega,fun h=>by cases h⟩
 rcases h.at_ with h0|⟨b',o',e,hc⟩
 ·subst h0;left;simp
 ·obtain ⟨rfl,rfl⟩:b=b'∧o=o':=by cases e;exact ⟨rfl,rfl⟩
  refine .inr ⟨_,_,rfl,fun q hq=>?_⟩;rw [List.length_take,List.length_drop] at hq;rw [Nat.add_assoc,hc (i+q) (by omega)];simp
namespace TR
theorem enc_small {n:NdV}(h4:n.kids.length≤4):((enc n).drop 4).take n.kids.length=n.kids∧(enc n).length=8∧(enc n)[3]?=some (pack n.labels):=by
 have he8:(enc n).length=8:=by rw [enc_len];unfold NdV.many;rw [if_pos h4]
 refine ⟨?_,he8,?_⟩
 ·rw [← small_words h4];simp
 ·rw [← small_words h4];rfl
theorem enc_big {n:NdV}(h4:¬ n.kids.length≤4):((enc n).drop 4).take 16=(List.range 16).map (slotN n.labels n.kids)∧(enc n).length=32:=by
 have he:(enc n).length=32:=by rw [enc_len];unfold NdV.many;rw [if_neg h4]
 refine ⟨List.ext_getElem (by simp [he]) fun i h1 h2=>?_,he⟩;have hi:i<16:=by simpa using h2
 rw [List.getElem_take,List.getElem_drop,List.getElem_map,List.getElem_range];have hm:4+i<n.many:=by unfold NdV.many;rw [if_neg h4];omega
 have hg:=enc_get n hm;have e:(enc n)[4+i]=encW n (4+i):=by
  rw [← hg];simp [List.getD,show 4+i<(enc n).length by omega]
 rw [e];unfold encW;rw [if_neg (by omega),if_neg (by omega),if_neg (by omega),if_neg h4,if_neg (by omega),show 4+i-4=i by omega]
theorem enc_12 (n:NdV):(enc n)[1]?=some (pack n.pre)∧(enc n)[2]?=some n.val:=by
 have hm:8≤n.many:=by unfold NdV.many;split<;>omega
 have hl:=enc_len n;constructor
 ·have hg:=enc_get n (show 1<n.many by omega);rw [List.getElem?_eq_getElem (by omega)];rw [List.getD,List.getElem?_eq_getElem (by omega)] at hg;exact congrArg some hg
 ·have hg:=enc_get n (show 2<n.many by omega);rw [List.getElem?_eq_getElem (by omega)];rw [List.getD,List.getElem?_eq_getElem (by omega)] at hg;exact congrArg some hg
end TR
section
set_option maxHeartbeats 2000000
theorem SlIn.word {w:World}{a:Option Addr}{l:List (BitVec 64)}{c:Nat}(h:SlIn .u64 w a l c){i:Nat}{x:BitVec 64}(hx:l[i]?=some x):∃ b o,a=some ⟨b,o,none⟩∧w.cell? ⟨b,o+i,none⟩=some (.int .u64 (uv x))∧i<l.length:=by
 have hi:i<l.length:=by
  rcases Nat.lt_or_ge i l.length with h|h
  ·exact h
  ·rw [List.getElem?_eq_none h] at hx;cases hx
 obtain ⟨b,o,h1,h2⟩:=h.at_.cell hi;rw [List.getElem?_eq_getElem hi] at hx;exact ⟨b,o,h1,by rw [h2];rw [Option.some.inj hx],hi⟩
theorem nodeSmall_calls (a:Option Addr)(n:NdV)(c:Nat)(w0:World)(hin:SlIn .u64 w0 a (enc n) c)(hr:n.Right)(h4:n.kids.length≤4) :
  Ret Tryz.prog 200 #[.slice a 8 c] w0 fun v w'=>∃ a2 c2 a3 c3,v=.tuple #[.slice a2 n.labels.length c2,.slice a3 n.kids.length c3]∧SlIn .u8 w' a2 n.labels c2∧SlIn .u64 w' a3 n.kids c3 ∧
   (∀ y,a2=some y→w0.heap.size≤y.block∧y.block<w'.heap.size)∧(∀ y,a3=some y→w0.heap.size≤y.block∧y.block<w'.heap.size)∧Below w0.heap.size w0 w':=by
 have bel0:=Below.refl w0.heap.size w0;have hl:=hr.len;obtain ⟨e1,e8,e3⟩:=enc_small h4;obtain ⟨b,o,rfl,g,-⟩:=hin.word e3;have hc:=hin.le;refine ret_of (args:=[_]) _ Tryz.func200 rfl Tryz.ntmps200 (by simp) ?_;simp -implicitDefEqProofs [go_sem,g];refine callE_of (nibUnpack_calls n.labels w0 (by omega) hr.l16) ?_;rintro v w1 ⟨a2,c2,rfl,hin2,hn2,b1⟩;have h4':¬ (4:Int)<n.labels.length:=by omega
 have k1:=IntWalk.i64_in (4+(n.labels.length:Int)) (by omega);have hsub:=hin.sub 4 n.kids.length (by omega);rw [e1] at hsub;have hcl:=cloneW_calls (some ⟨b,o+4,none⟩) n.kids (c-4) w1 (by omega) (hsub.next b1);have i1:(4:Int)≤c:=by omega
 have i2:(4:Int)+n.labels.length≤c:=by omega
 have i3:((4:Int)+n.labels.length).toNat=4+n.labels.length:=by omega
 have i4:¬ (c=4):=by omega
 have i5:(4:Int)≤4+n.labels.length:=by omega
 simp -implicitDefEqProofs [go_sem,h4',k1,i1,i2,i3,i4,i5];rw [← hl] at hcl;refine callE_of hcl ?_;rintro v w2 ⟨a3,c3,rfl,hown,b2⟩;have bel2:=btr b1 b2;simp -implicitDefEqProofs [go_sem];refine body_tmp2 2 3 rfl ?_;simp -implicitDefEqProofs [go_sem];rw [hl] at hown ⊢;refine ⟨a2,c2,a3,c3,⟨⟨rfl,rfl⟩,rfl,rfl,rfl⟩,hin2.next b2,owns_slIn rfl hown,fun y hy=>?_,fun y hy=>?_,bel2⟩
 ·have:=hn2 y hy;have:=b2.size;omega
 ·have:=owns_new hown y hy;have:=b1.size;omega
namespace TR
def nB (f:Nat→BitVec 64)(k:Nat):List Nb:=bigNs f (List.range k)
def kB (f:Nat→BitVec 64)(k:Nat):List (BitVec 64):=bigKs f (List.range k)
theorem nB_zero (f:Nat→BitVec 64):nB f 0=[]:=rfl
theorem kB_zero (f:Nat→BitVec 64):kB f 0=[]:=rfl
theorem nB_skip {f:Nat→BitVec 64}{k:Nat}(h:f k=0#64):nB f (k+1)=nB f k∧kB f (k+1)=kB f k:=by
 unfold nB kB bigNs bigKs;rw [List.range_succ,List.filterMap_append,List.filterMap_append];simp [h]
theorem nB_more {f:Nat→BitVec 64}{k:Nat}(h:f k≠0#64):nB f (k+1)=nB f k++[BitVec.ofNat 8 k]∧kB f (k+1)=kB f k++[f k]:=by
 unfold nB kB bigNs bigKs;rw [List.range_succ,List.filterMap_append,List.filterMap_append];simp [h]
theorem nB_len (f:Nat→BitVec 64)(k:Nat):(nB f k).length≤k∧(kB f k).length≤k:=by
 unfold nB kB bigNs bigKs;have h1:=List.length_filterMap_le (fun x=>if f x=0#64 then none else some (BitVec.ofNat 8 x)) (List.range k);have h2:=List.length_filterMap_le (fun x=>if f x=0#64 then none else some (f x)) (List.range k);rw [List.length_range] at h1 h2;exact ⟨h1,h2⟩
end TR
theorem nodeBig_calls (a:Option Addr)(n:NdV)(c:Nat)(w0:World)(hin:SlIn .u64 w0 a (enc n) c)(hr:n.Right)(h4:¬ n.kids.length≤4) :
  Ret Tryz.prog 201 #[.slice a 32 c] w0 fun v w'=>∃ a2 c2 a3 c3,v=.tuple #[.slice a2 n.labels.length c2,.slice a3 n.kids.length c3]∧SlIn .u8 w' a2 n.labels c2∧SlIn .u64 w' a3 n.kids c3 ∧
   (∀ y,a2=some y→w0.heap.size≤y.block∧y.block<w'.heap.size)∧(∀ y,a3=some y→w0.heap.size≤y.block∧y.block<w'.heap.size)∧Below w0.heap.size w0 w':=by
 have bel0:=Below.refl w0.heap.size w0;have hl:=hr.len;obtain ⟨e1,e8⟩:=enc_big h4;obtain ⟨hbn,hbk⟩:=big_all hr;obtain ⟨b,o,rfl,g,-⟩:=hin.word (enc_12 n).1;have hc:=hin.le;rw [e8] at hc;have hsub:=hin.sub 4 16 (by omega);rw [e1] at hsub;obtain ⟨f,hf⟩:∃ f,f=slotN n.labels n.kids:=⟨_,rfl⟩;rw [← hf] at hsub hbn hbk;have hbn:nB f 16=n.labels:=hbn;have hbk:kB f 16=n.kids:=hbk;have i1:(4:Int)≤c:=by omega
 have i2:(20:Int)≤c:=by omega
 have i4:¬ (c=4):=by omega
 have i5:20≤c:=by omega
 have i6:4≤c:=by omega
 refine ret_of (args:=[_]) _ Tryz.func201 rfl Tryz.ntmps201 (by simp) ?_;simp -implicitDefEqProofs [go_sem,i1,i2,i4,i5,i6];refine wpE_loop (fun e' w'=>∃ (k:Nat) (a4:Option Addr) (c4:Nat) (a5:Option Addr) (c5:Nat),k≤16∧e' 4=.slice a4 (nB f k).length c4∧e' 5=.slice a5 (kB f k).length c5∧e' 9=.slice (some ⟨b,o+4,none⟩) 16 (c-4)∧e' 10=.int .i64 16∧e' 11=.int .i64 k ∧
  w'.ownsRow w0.heap.size 5 1 (.slice a4 (nB f k).length c4) (nB f k).length (cellsK .u8 (nB f k))∧w'.ownsRow w0.heap.size 42 1 (.slice a5 (kB f k).length c5) (kB f k).length (cellsK .u64 (kB f k)) ∧
  (∀ q,BlkOf a4 q→¬ BlkOf a5 q)∧Below w0.heap.size w0 w') (fun e' _=>16-(intOf (e' 11)).toNat) ?_ ?_
 ·refine ⟨0,none,0,none,0,by omega,?_⟩;simp -implicitDefEqProofs [go_sem,i1,i2,i4,i5,i6];rw [nB_zero,kB_zero];exact ⟨rfl,rfl,World.ownsRow_nil _ _ _ _,World.ownsRow_nil _ _ _ _,(fun q h=>by obtain ⟨y,h,_⟩:=h;cases h),bel0⟩
 ·rintro e' w1 ⟨k,a4,c4,a5,c5,hk,q4,q5,q9,q10,q11,ho4,ho5,hsep,b1⟩;obtain ⟨hn1,hn2⟩:=nB_len f k;by_cases hlt:k<16
  ·have hlt':(k:Int)<16:=by omega
   have hw:=IntWalk.i64_in ((k:Int)+1) (by omega);have gk:w1.cell? ⟨b,o+4+k,none⟩=some (.int .u64 (uv (f k))):=by
    obtain ⟨b',o',e,g'⟩:=(hsub.next b1).at_.cell (i:=k) (by simpa using hlt);obtain ⟨rfl,rfl⟩:b=b'∧o+4=o':=by cases e;exact ⟨rfl,rfl⟩
    rw [g'];simp
   by_cases hz:f k=0#64
   ·have hz':(f k != 0#64)=false:=by rw [bne_eq_false_iff_eq];exact hz
    obtain ⟨s1,s2⟩:=nB_skip hz;simp -implicitDefEqProofs [go_sem,q4,q5,q9,q10,q11,hlt,hlt',gk,hz',hw];refine goE_round ⟨k+1,a4,c4,a5,c5,by omega,?_⟩ ?_
    ·rw [s1,s2];simp -implicitDefEqProofs [go_sem,q4,q5,q9,q10];exact ⟨ho4,ho5,hsep,b1⟩
    ·simp -implicitDefEqProofs [go_sem,intOf,q11,hw];omega
   ·have hz':(f k != 0#64)=true:=by rw [bne_iff_ne];exact hz
    obtain ⟨s1,s2⟩:=nB_more hz;obtain ⟨g4,c4',w2,hr2,ho4',hg4,hg4',hsz2,t2⟩:=push_own (P:=Tryz.prog) (ty:=36) (cs:=#[.int .u8 (uv (BitVec.ofNat 8 k))]) Tryz.underlying36 eI_u8 (by decide) rfl (by simp [Value.oneCell']) (by decide) (by omega) b1.size ho4;have ho5':=ownsRow_turn ho5 t2.mod (fun q hq hq2=>hsep q hq2 hq);have b2:Below w0.heap.size w0 w2:=b1.trans (t2.mod.below b1.size (fun q hq=>(ownsRow_blk ho4 q hq).1))
    obtain ⟨g5,c5',w3,hr3,ho5'',hg5,hg5',hsz3,t3⟩:=push_own (P:=Tryz.prog) (ty:=100) (cs:=#[.int .u64 (uv (f k))]) Tryz.underlying100 eI_u64 (by decide) rfl (by simp [Value.oneCell']) (by decide) (by omega) b2.size ho5';have hne:¬ BlkOf a5 g4:=fun hq=>by
     rcases t2.new g4 rfl with h|h
     ·exact hsep _ h hq
     ·have:=(ownsRow_blk ho5 _ hq).2;omega
    have ho4'':=ownsRow_turn ho4' t3.mod (fun q hq=>by
     obtain ⟨y,e,rfl⟩:=hq;obtain rfl:=Option.some.inj e;exact hne)
    have b3:Below w0.heap.size w0 w3:=b2.trans (t3.mod.below b2.size (fun q hq=>(ownsRow_blk ho5 q hq).1));have g4ne:g4≠g5:=fun e=>by
     rcases t3.new g5 rfl with h|h
     ·exact hne (e▸h)
     ·omega
    simp -implicitDefEqProofs [go_sem,q4,q5,q9,q10,q11,hlt,hlt',gk,hz',hr2,hr3,hw];refine goE_round ⟨k+1,some ⟨g4,0,none⟩,c4',some ⟨g5,0,none⟩,c5',by omega,?_⟩ ?_
    ·rw [s1,s2];simp -implicitDefEqProofs [go_sem,q9,q10];rw [cellsK_append,cellsK_append];refine ⟨ho4'',ho5'',fun q hq1 hq2=>?_,b3⟩;obtain ⟨y,e,rfl⟩:=hq1;obtain rfl:=Option.some.inj e;obtain ⟨y2,e2,h2⟩:=hq2;obtain rfl:=Option.some.inj e2;exact g4ne h2.symm
    ·simp -implicitDefEqProofs [go_sem,intOf,q11,hw];omega
  ·have hn:¬ (k:Int)<16:=by omega
   have hk':k=16:=by omega
   subst hk';rw [hbn] at q4 ho4;rw [hbk] at q5 ho5;simp -implicitDefEqProofs [go_sem,q4,q5,q9,q10,q11,hn];refine body_tmp2 2 3 rfl ?_;simp -implicitDefEqProofs [go_sem];exact ⟨a4,c4,a5,c5,⟨⟨rfl,rfl⟩,rfl,rfl⟩,owns_slIn rfl ho4,owns_slIn rfl ho5,fun y hy=>ownsRow_blk ho4 _ ⟨y,hy,rfl⟩,fun y hy=>ownsRow_blk ho5 _ ⟨y,hy,rfl⟩,b1⟩
theorem nodeDecode_calls (a:Option Addr)(n:NdV)(c:Nat)(w0:World)(hin:SlIn .u64 w0 a (enc n) c)(hr:n.Right) :
  Ret Tryz.prog 185 #[.slice a n.many c] w0 fun v w'=>∃ q:NP,v=.tuple #[.agg (q.cs n),.bool true]∧NdIn w' q n∧(∀ k,(BlkOf q.a1 k∨BlkOf q.a2 k∨BlkOf q.a3 k)→w0.heap.size≤k∧k<w'.heap.size)∧Below w0.heap.size w0 w':=by
 have bel0:=Below.refl w0.heap.size w0;have hl:=hr.len;have h16:=hr.many16;obtain ⟨e1,e2⟩:=enc_12 n;have hel:=enc_len n;obtain ⟨ba,oa,rfl,ga1,hl1⟩:=hin.word e1;obtain ⟨ba',oa',ea,ga2,hl2⟩:=hin.word e2;obtain ⟨rfl,rfl⟩:ba=ba'∧oa=oa':=by cases ea;exact ⟨rfl,rfl⟩
 have hba:ba<w0.heap.size:=World.block_lt_of_cell? w0 _ ga1;refine ret_of (args:=[_]) _ Tryz.func185 rfl Tryz.ntmps185 (by simp) ?_;simp -implicitDefEqProofs [go_sem];generalize hw1:World.alloc w0 _=w1 at *;obtain ⟨hB1,b1,sz1,bel1⟩:=newF hw1 bel0;generalize hw2:World.alloc w1 _=w2 at *;obtain ⟨hB2,b2,sz2,bel2⟩:=newF hw2 bel1;rw [sz1] at hB2;obtain ⟨r0,hr0⟩:∃ r0,r0=w0.heap.size:=⟨_,rfl⟩;obtain ⟨g,hg⟩:∃ g,g=w0.heap.size+1:=⟨_,rfl⟩;rw [← hr0] at hB1;rw [← hg] at hB2 ⊢;rw [← hr0]
 have hrg:g≠r0:=by omega
 have bel1g:Below g w1 w1:=Below.refl _ _;have l1:linesI 1=1:=rfl;have l2:linesI 2=4:=rfl;refine callE_of (nodeWords_calls 1 w2) ?_;rintro v wx ⟨rfl,rfl⟩;rw [l1];by_cases h4:n.kids.length≤4
 ·have hmany:n.many=8:=by unfold NdV.many;rw [if_pos h4]
  rw [hmany];simp -implicitDefEqProofs [go_sem];refine callE_of (nodeSmall_calls (some ⟨ba,oa,none⟩) n c wx (hin.next bel2) hr h4) ?_;rintro v w3 ⟨a2,c2,a3,c3,rfl,hin2,hin3,hn2,hn3,b3⟩;have bel3:=btr bel2 b3;have hR3:=hB1.next (btr b2 b3)
  have hN3:=hB2.next b3
  have c2':=hN3.cell 2;have f2':=hN3.thaw 2;have c3':=hN3.cell 3;have f3':=hN3.thaw 3;simp at c2' c3';have hbag:ba≠g:=by omega
  have ga13:=(bel3.cell (p:=⟨ba,oa+1,none⟩) hba).trans ga1;simp -implicitDefEqProofs [go_sem,c2',f2',c3',f3',hbag,ga13];obtain ⟨w4,hw4⟩:∃ w4,w4=(w3.setCell ⟨g,2,none⟩ (.slice a2 n.labels.length c2)).setCell ⟨g,3,none⟩ (.slice a3 n.kids.length c3):=⟨_,rfl⟩;rw [← hw4];have hN4:Blk w4 g #[.slice none 0 0,.int .u64 0,.slice a2 n.labels.length c2,.slice a3 n.kids.length c3] 234:=by rw [hw4];exact (hN3.set 2 _).set 3 _
  have hR4:Blk w4 r0 #[.slice none 0 0,.int .u64 0,.slice none 0 0,.slice none 0 0] 234:=by rw [hw4];exact (hR3.setOther hrg _).setOther hrg _
  have bel4:Below w0.heap.size w0 w4:=by rw [hw4];exact (bel3.setCell (by show w0.heap.size≤g;omega) _).setCell (by show w0.heap.size≤g;omega) _
  have m34:Mod (fun k=>k=g) w3 w4:=by rw [hw4];exact ((Mod.refl (fun k=>k=g) w3).setCell (a:=⟨g,2,none⟩) (.inl rfl) _).setCell (a:=⟨g,3,none⟩) (.inl rfl) _
  clear hw4;have hgN:=hB2.lt;have hin2':SlIn .u8 w4 a2 n.labels c2:=⟨hin2.at_.mod m34 (fun k hk e=>by obtain ⟨o,rfl⟩:=hk;have:=hn2 _ rfl;dsimp only at this;omega),hin2.le,hin2.max,hin2.nil⟩;have hin3':SlIn .u64 w4 a3 n.kids c3:=⟨hin3.at_.mod m34 (fun k hk e=>by obtain ⟨o,rfl⟩:=hk;have:=hn3 _ rfl;dsimp only at this;omega),hin3.le,hin3.max,hin3.nil⟩;have h34:=m34.size;refine callE_of (nibUnpack_calls n.pre w4 hr.p15 hr.p16) ?_;rintro v w5 ⟨a1,c1,rfl,hin1,hn1,b5⟩;have bel5:=btr bel4 b5
  have hN5:=hN4.next b5
  have hR5:=hR4.next b5
  have c0':=hN5.cell 0;have f0':=hN5.thaw 0;have c1':=hN5.cell 1;have f1':=hN5.thaw 1;simp at c0' c1';have ga2':=(bel5.cell (p:=⟨ba,oa+2,none⟩) hba).trans ga2;obtain ⟨q,hq⟩:∃ q:NP,q=⟨a1,c1,a2,c2,a3,c3⟩:=⟨_,rfl⟩;have hN6:Blk ((w5.setCell ⟨g,0,none⟩ (.slice a1 n.pre.length c1)).setCell ⟨g,1,none⟩ (.int .u64 (uv n.val))) g (q.cs n) 234:=by rw [hq];exact (hN5.set 0 _).set 1 _
  have hR6:Blk ((w5.setCell ⟨g,0,none⟩ (.slice a1 n.pre.length c1)).setCell ⟨g,1,none⟩ (.int .u64 (uv n.val))) r0 #[.slice none 0 0,.int .u64 0,.slice none 0 0,.slice none 0 0] 234:=(hR5.setOther hrg _).setOther hrg _;have bel6:Below w0.heap.size w0 ((w5.setCell ⟨g,0,none⟩ (.slice a1 n.pre.length c1)).setCell ⟨g,1,none⟩ (.int .u64 (uv n.val))):=(bel5.setCell (by show w0.heap.size≤g;omega) _).setCell (by show w0.heap.size≤g;omega) _
  have m56:Mod (fun k=>k=g) w5 ((w5.setCell ⟨g,0,none⟩ (.slice a1 n.pre.length c1)).setCell ⟨g,1,none⟩ (.int .u64 (uv n.val))):=((Mod.refl (fun k=>k=g) w5).setCell (a:=⟨g,0,none⟩) (.inl rfl) _).setCell (a:=⟨g,1,none⟩) (.inl rfl) _;have ldN6:=ldAll (P:=Tryz.prog) hN6 Tryz.underlying234 rfl ndI (n:=4) (q.cs_size n);simp -implicitDefEqProofs [go_sem,c0',f0',c1',f1',ga2',hbag,↓ldN6];generalize (w5.setCell ⟨g,0,none⟩ (.slice a1 n.pre.length c1)).setCell ⟨g,1,none⟩ (.int .u64 (uv n.val))=w6 at *
  have hg4:=hN4.lt;have hg5:=hN5.lt;have hin6:NdIn w6 q n:=by
   rw [hq];exact ⟨⟨hin1.at_.mod m56 (fun k hk e=>by obtain ⟨o,rfl⟩:=hk;have:=hn1 _ rfl;dsimp only at this;omega),hin1.le,hin1.max,hin1.nil⟩,
    ⟨(hin2'.next b5).at_.mod m56 (fun k hk e=>by obtain ⟨o,rfl⟩:=hk;have:=hn2 _ rfl;dsimp only at this;omega),hin2'.le,hin2'.max,hin2'.nil⟩,
    ⟨(hin3'.next b5).at_.mod m56 (fun k hk e=>by obtain ⟨o,rfl⟩:=hk;have:=hn3 _ rfl;dsimp only at this;omega),hin3'.le,hin3'.max,hin3'.nil⟩⟩
  have h56:=m56.size;have h5:=b5.size;refine callE_of (nodeEncode_calls q n w6 hin6 hr) ?_;rintro v w7 ⟨a7,c7,rfl,hin7,hn7,b7⟩;have bel7:=btr bel6 b7;simp -implicitDefEqProofs [go_sem];have hEq:=equal_calls a7 (some ⟨ba,oa,none⟩) (enc n) (enc n) (enc n).length n.many c7 c w7 rfl hel (by have:=hin7.le;have:=hin7.max;omega) hin7.at_ (hin.next bel7).at_;rw [hmany] at hEq;refine callE_of hEq ?_;rintro v w8 ⟨rfl,b8⟩;have bel8:=btr bel7 b8;have hN8:=(hN6.next b7).next b8
  have hR8:=(hR6.next b7).next b8
  have ldN8:=ldAll (P:=Tryz.prog) hN8 Tryz.underlying234 rfl ndI (n:=4) (q.cs_size n);have stR8:=stAll (P:=Tryz.prog) (ty:=234) (cs:=q.cs n) hR8 ndI rfl (q.cs_one n);simp -implicitDefEqProofs [go_sem,↓ldN8,↓stR8];have hR9:=Blk.row hR8 (q.cs n);have bel9:=below_setRow bel8 (show w0.heap.size≤r0 by omega) (q.cs n);have m9:Mod (fun k=>k=r0) w8 (w8.setRow r0 (q.cs n)):=(Mod.refl (fun k=>k=r0) w8).row (.inl rfl) _;have h78:=b7.size;have h88:=b8.size;have hin8:=(hin6.next b7).next b8
  have hge:∀ k,(BlkOf q.a1 k∨BlkOf q.a2 k∨BlkOf q.a3 k)→w0.heap.size+1<k∧k<w8.heap.size:=fun k hk=>by
   rw [hq] at hk
   rcases hk with ⟨y,hy,rfl⟩|⟨y,hy,rfl⟩|⟨y,hy,rfl⟩
   ·have:=hn1 y hy;omega
   ·have:=hn2 y hy;omega
   ·have:=hn3 y hy;omega
  refine bodyCell 2 3 rfl (by simp -implicitDefEqProofs [go_sem]) hR9 Tryz.underlying234 rfl ndI ?_;simp -implicitDefEqProofs [go_sem];refine ⟨q,rfl,⟨⟨hin8.pre.at_.mod m9 (fun k hk e=>by obtain ⟨o,ho⟩:=hk;have:=hge k (.inl ⟨_,ho,rfl⟩);omega),hin8.pre.le,hin8.pre.max,hin8.pre.nil⟩,
   ⟨hin8.lab.at_.mod m9 (fun k hk e=>by obtain ⟨o,ho⟩:=hk;have:=hge k (.inr (.inl ⟨_,ho,rfl⟩));omega),hin8.lab.le,hin8.lab.max,hin8.lab.nil⟩,
   ⟨hin8.kid.at_.mod m9 (fun k hk e=>by obtain ⟨o,ho⟩:=hk;have:=hge k (.inr (.inr ⟨_,ho,rfl⟩));omega),hin8.kid.le,hin8.kid.max,hin8.kid.nil⟩⟩,fun k hk=>?_,?_⟩
  ·have:=hge k hk;omega
  ·rw [hr0] at bel9 ⊢;exact bel9
 ·have hmany:n.many=32:=by unfold NdV.many;rw [if_neg h4]
  rw [hmany];simp -implicitDefEqProofs [go_sem];refine callE_of (nodeWords_calls 2 wx) ?_;rintro v wy ⟨rfl,rfl⟩;rw [l2];simp -implicitDefEqProofs [go_sem];refine callE_of (nodeBig_calls (some ⟨ba,oa,none⟩) n c wy (hin.next bel2) hr h4) ?_;rintro v w3 ⟨a2,c2,a3,c3,rfl,hin2,hin3,hn2,hn3,b3⟩;have bel3:=btr bel2 b3;have hR3:=hB1.next (btr b2 b3)
  have hN3:=hB2.next b3
  have c2':=hN3.cell 2;have f2':=hN3.thaw 2;have c3':=hN3.cell 3;have f3':=hN3.thaw 3;simp at c2' c3';have hbag:ba≠g:=by omega
  have ga13:=(bel3.cell (p:=⟨ba,oa+1,none⟩) hba).trans ga1;simp -implicitDefEqProofs [go_sem,c2',f2',c3',f3',hbag,ga13];obtain ⟨w4,hw4⟩:∃ w4,w4=(w3.setCell ⟨g,2,none⟩ (.slice a2 n.labels.length c2)).setCell ⟨g,3,none⟩ (.slice a3 n.kids.length c3):=⟨_,rfl⟩;rw [← hw4];have hN4:Blk w4 g #[.slice none 0 0,.int .u64 0,.slice a2 n.labels.length c2,.slice a3 n.kids.length c3] 234:=by rw [hw4];exact (hN3.set 2 _).set 3 _
  have hR4:Blk w4 r0 #[.slice none 0 0,.int .u64 0,.slice none 0 0,.slice none 0 0] 234:=by rw [hw4];exact (hR3.setOther hrg _).setOther hrg _
  have bel4:Below w0.heap.size w0 w4:=by rw [hw4];exact (bel3.setCell (by show w0.heap.size≤g;omega) _).setCell (by show w0.heap.size≤g;omega) _
  have m34:Mod (fun k=>k=g) w3 w4:=by rw [hw4];exact ((Mod.refl (fun k=>k=g) w3).setCell (a:=⟨g,2,none⟩) (.inl rfl) _).setCell (a:=⟨g,3,none⟩) (.inl rfl) _
  clear hw4;have hgN:=hB2.lt;have hin2':SlIn .u8 w4 a2 n.labels c2:=⟨hin2.at_.mod m34 (fun k hk e=>by obtain ⟨o,rfl⟩:=hk;have:=hn2 _ rfl;dsimp only at this;omega),hin2.le,hin2.max,hin2.nil⟩;have hin3':SlIn .u64 w4 a3 n.kids c3:=⟨hin3.at_.mod m34 (fun k hk e=>by obtain ⟨o,rfl⟩:=hk;have:=hn3 _ rfl;dsimp only at this;omega),hin3.le,hin3.max,hin3.nil⟩;have h34:=m34.size;refine callE_of (nibUnpack_calls n.pre w4 hr.p15 hr.p16) ?_;rintro v w5 ⟨a1,c1,rfl,hin1,hn1,b5⟩;have bel5:=btr bel4 b5
  have hN5:=hN4.next b5
  have hR5:=hR4.next b5
  have c0':=hN5.cell 0;have f0':=hN5.thaw 0;have c1':=hN5.cell 1;have f1':=hN5.thaw 1;simp at c0' c1';have ga2':=(bel5.cell (p:=⟨ba,oa+2,none⟩) hba).trans ga2;obtain ⟨q,hq⟩:∃ q:NP,q=⟨a1,c1,a2,c2,a3,c3⟩:=⟨_,rfl⟩;have hN6:Blk ((w5.setCell ⟨g,0,none⟩ (.slice a1 n.pre.length c1)).setCell ⟨g,1,none⟩ (.int .u64 (uv n.val))) g (q.cs n) 234:=by rw [hq];exact (hN5.set 0 _).set 1 _
  have hR6:Blk ((w5.setCell ⟨g,0,none⟩ (.slice a1 n.pre.length c1)).setCell ⟨g,1,none⟩ (.int .u64 (uv n.val))) r0 #[.slice none 0 0,.int .u64 0,.slice none 0 0,.slice none 0 0] 234:=(hR5.setOther hrg _).setOther hrg _;have bel6:Below w0.heap.size w0 ((w5.setCell ⟨g,0,none⟩ (.slice a1 n.pre.length c1)).setCell ⟨g,1,none⟩ (.int .u64 (uv n.val))):=(bel5.setCell (by show w0.heap.size≤g;omega) _).setCell (by show w0.heap.size≤g;omega) _
  have m56:Mod (fun k=>k=g) w5 ((w5.setCell ⟨g,0,none⟩ (.slice a1 n.pre.length c1)).setCell ⟨g,1,none⟩ (.int .u64 (uv n.val))):=((Mod.refl (fun k=>k=g) w5).setCell (a:=⟨g,0,none⟩) (.inl rfl) _).setCell (a:=⟨g,1,none⟩) (.inl rfl) _;have ldN6:=ldAll (P:=Tryz.prog) hN6 Tryz.underlying234 rfl ndI (n:=4) (q.cs_size n);simp -implicitDefEqProofs [go_sem,c0',f0',c1',f1',ga2',hbag,↓ldN6];generalize (w5.setCell ⟨g,0,none⟩ (.slice a1 n.pre.length c1)).setCell ⟨g,1,none⟩ (.int .u64 (uv n.val))=w6 at *
  have hg4:=hN4.lt;have hg5:=hN5.lt;have hin6:NdIn w6 q n:=by
   rw [hq];exact ⟨⟨hin1.at_.mod m56 (fun k hk e=>by obtain ⟨o,rfl⟩:=hk;have:=hn1 _ rfl;dsimp only at this;omega),hin1.le,hin1.max,hin1.nil⟩,
    ⟨(hin2'.next b5).at_.mod m56 (fun k hk e=>by obtain ⟨o,rfl⟩:=hk;have:=hn2 _ rfl;dsimp only at this;omega),hin2'.le,hin2'.max,hin2'.nil⟩,
    ⟨(hin3'.next b5).at_.mod m56 (fun k hk e=>by obtain ⟨o,rfl⟩:=hk;have:=hn3 _ rfl;dsimp only at this;omega),hin3'.le,hin3'.max,hin3'.nil⟩⟩
  have h56:=m56.size;have h5:=b5.size;refine callE_of (nodeEncode_calls q n w6 hin6 hr) ?_;rintro v w7 ⟨a7,c7,rfl,hin7,hn7,b7⟩;have bel7:=btr bel6 b7;simp -implicitDefEqProofs [go_sem];have hEq:=equal_calls a7 (some ⟨ba,oa,none⟩) (enc n) (enc n) (enc n).length n.many c7 c w7 rfl hel (by have:=hin7.le;have:=hin7.max;omega) hin7.at_ (hin.next bel7).at_;rw [hmany] at hEq;refine callE_of hEq ?_;rintro v w8 ⟨rfl,b8⟩;have bel8:=btr bel7 b8;have hN8:=(hN6.next b7).next b8
  have hR8:=(hR6.next b7).next b8
  have ldN8:=ldAll (P:=Tryz.prog) hN8 Tryz.underlying234 rfl ndI (n:=4) (q.cs_size n);have stR8:=stAll (P:=Tryz.prog) (ty:=234) (cs:=q.cs n) hR8 ndI rfl (q.cs_one n);simp -implicitDefEqProofs [go_sem,↓ldN8,↓stR8];have hR9:=Blk.row hR8 (q.cs n);have bel9:=below_setRow bel8 (show w0.heap.size≤r0 by omega) (q.cs n);have m9:Mod (fun k=>k=r0) w8 (w8.setRow r0 (q.cs n)):=(Mod.refl (fun k=>k=r0) w8).row (.inl rfl) _;have h78:=b7.size;have h88:=b8.size;have hin8:=(hin6.next b7).next b8
  have hge:∀ k,(BlkOf q.a1 k∨BlkOf q.a2 k∨BlkOf q.a3 k)→w0.heap.size+1<k∧k<w8.heap.size:=fun k hk=>by
   rw [hq] at hk
   rcases hk with ⟨y,hy,rfl⟩|⟨y,hy,rfl⟩|⟨y,hy,rfl⟩
   ·have:=hn1 y hy;omega
   ·have:=hn2 y hy;omega
   ·have:=hn3 y hy;omega
  refine bodyCell 2 3 rfl (by simp -implicitDefEqProofs [go_sem]) hR9 Tryz.underlying234 rfl ndI ?_;simp -implicitDefEqProofs [go_sem];refine ⟨q,rfl,⟨⟨hin8.pre.at_.mod m9 (fun k hk e=>by obtain ⟨o,ho⟩:=hk;have:=hge k (.inl ⟨_,ho,rfl⟩);omega),hin8.pre.le,hin8.pre.max,hin8.pre.nil⟩,
   ⟨hin8.lab.at_.mod m9 (fun k hk e=>by obtain ⟨o,ho⟩:=hk;have:=hge k (.inr (.inl ⟨_,ho,rfl⟩));omega),hin8.lab.le,hin8.lab.max,hin8.lab.nil⟩,
   ⟨hin8.kid.at_.mod m9 (fun k hk e=>by obtain ⟨o,ho⟩:=hk;have:=hge k (.inr (.inr ⟨_,ho,rfl⟩));omega),hin8.kid.le,hin8.kid.max,hin8.kid.nil⟩⟩,fun k hk=>?_,?_⟩
  ·have:=hge k hk;omega
  ·rw [hr0] at bel9 ⊢;exact bel9
end
end
section
open Go Go.RowKit
open TR
section
set_option maxHeartbeats 2000000
theorem nodeKidNo_calls (p:NP)(n:NdV)(x:BitVec 8)(w0:World)(hin:NdIn w0 p n)(hx:¬ x∈n.labels) :
  Ret Tryz.prog 164 #[.agg (p.cs n),.int .u8 (uv x)] w0 fun v w'=>v=.tuple #[.int .u64 0,.int .i64 0,.bool false]∧Below w0.heap.size w0 w':=by
 have bel0:=Below.refl w0.heap.size w0;refine ret_of (args:=[_,_]) _ Tryz.func164 rfl Tryz.ntmps164 (by simp) ?_;simp -implicitDefEqProofs [go_sem];generalize hw1:World.alloc w0 _=w1 at *;obtain ⟨hB1,b1,sz1,bel1⟩:=newF hw1 bel0;replace hin:=hin.next b1
 simp -implicitDefEqProofs [go_sem,hB1.cell,NP.cs_2];refine callE_of (idxB_calls p.a2 n.labels p.c2 x w1 hin.lab) ?_;rintro v w2 ⟨rfl,rfl⟩;rw [if_neg hx];simp -implicitDefEqProofs [go_sem];refine body_tmp3 4 5 6 rfl ?_;simp -implicitDefEqProofs [go_sem];exact bel1
theorem nodeKid_calls (p:NP)(n:NdV)(x:BitVec 8)(w0:World)(hin:NdIn w0 p n)(hr:n.Right){i:Nat}(hi:i<n.labels.length)(hi2:i<n.kids.length)(hx:n.labels[i]=x) :
  Ret Tryz.prog 164 #[.agg (p.cs n),.int .u8 (uv x)] w0 fun v w'=>v=.tuple #[.int .u64 (uv n.kids[i]),.int .i64 (numW n i:Int),.bool true]∧Below w0.heap.size w0 w':=by
 have bel0:=Below.refl w0.heap.size w0;have h16:=hr.many16;have hl:=hr.len;have hmem:x∈n.labels:=hx▸List.getElem_mem hi;have hnd:n.labels.Nodup:=(hr.rise).imp (fun h e=>by rw [e] at h;omega);have hidx:n.labels.idxOf x=i:=by rw [← hx];exact List.Nodup.idxOf_getElem hnd i hi
 have hx16:=hr.l16 x hmem;have hi':(i:Int)<n.kids.length:=by omega
 have h0i:(0:Int)≤i:=by omega
 have hneg:¬ ((i:Int)<0):=by omega
 have k1:=IntWalk.i64_in (4+(i:Int)) (by omega);have hlab:n.labels.getD i 0#8=x:=by simp [List.getD,hi,hx]
 refine ret_of (args:=[_,_]) _ Tryz.func164 rfl Tryz.ntmps164 (by simp) ?_;simp -implicitDefEqProofs [go_sem];generalize hw1:World.alloc w0 _=w1 at *;obtain ⟨hB1,b1,sz1,bel1⟩:=newF hw1 bel0;replace hin:=hin.next b1
 simp -implicitDefEqProofs [go_sem,hB1.cell,NP.cs_2];refine callE_of (idxB_calls p.a2 n.labels p.c2 x w1 hin.lab) ?_;rintro v w2 ⟨rfl,rfl⟩;rw [if_pos hmem,hidx];have ldN:=ldAll (P:=Tryz.prog) hB1 Tryz.underlying234 rfl ndI (n:=4) (p.cs_size n);simp -implicitDefEqProofs [go_sem,h0i,hneg,↓ldN];refine callE_of (nodeRight_calls p n w2 hin hr) ?_;rintro v w3 ⟨rfl,b3⟩;have bel3:=btr bel1 b3;have hB3:=hB1.next b3
 have hin3:=hin.next b3
 have ldN3:=ldAll (P:=Tryz.prog) hB3 Tryz.underlying234 rfl ndI (n:=4) (p.cs_size n);simp -implicitDefEqProofs [go_sem,h0i,hneg,↓ldN3];refine callE_of (nodeClass_calls p n w3) ?_;rintro v w4 ⟨rfl,b4⟩;have bel4:=btr bel3 b4;have hB4:=hB3.next b4
 have hin4:=hin3.next b4
 obtain ⟨bk,ok,hak,gk⟩:=hin4.kid.at_.cell hi2;by_cases h4:n.kids.length≤4
 ·have hc:(n.cls:Int)=1:=by unfold NdV.cls;rw [if_pos h4];rfl
  have hnum:(numW n i:Int)=4+i:=by unfold numW;rw [if_pos h4];omega
  rw [hc,hnum];simp -implicitDefEqProofs [go_sem,hB4.cell,NP.cs_3,hak,h0i,hi2,hi',gk,k1];refine body_tmp3 4 5 6 rfl ?_;simp -implicitDefEqProofs [go_sem];exact bel4
 ·have hc:(n.cls:Int)=2:=by unfold NdV.cls;rw [if_neg h4];rfl
  obtain ⟨y,hy⟩:∃ y:Nat,y=x.toNat:=⟨_,rfl⟩;have hyu:uv x=(y:Int):=by rw [hy];rfl
  have hwy:=IntWalk.i64_in (y:Int) (by omega);have hw4:=IntWalk.i64_in (4+(y:Int)) (by omega);have hnum:(numW n i:Int)=4+y:=by unfold numW;rw [if_neg h4,hlab];omega
  rw [hc,hnum];simp -implicitDefEqProofs [go_sem,hB4.cell,NP.cs_3,hak,h0i,hi2,hi',gk,hyu,hwy,hw4];refine body_tmp3 4 5 6 rfl ?_;simp -implicitDefEqProofs [go_sem];exact bel4
structure OwnN (w:World) (base:Nat) (q:NP) (n:NdV):Prop where
 pre:w.ownsRow base 5 1 (.slice q.a1 n.pre.length q.c1) n.pre.length (cellsK .u8 n.pre)
 lab:w.ownsRow base 5 1 (.slice q.a2 n.labels.length q.c2) n.labels.length (cellsK .u8 n.labels)
 kid:w.ownsRow base 42 1 (.slice q.a3 n.kids.length q.c3) n.kids.length (cellsK .u64 n.kids)
 s12:∀ k,BlkOf q.a1 k→¬ BlkOf q.a2 k
 s13:∀ k,BlkOf q.a1 k→¬ BlkOf q.a3 k
 s23:∀ k,BlkOf q.a2 k→¬ BlkOf q.a3 k
theorem nodeClone_calls (p:NP)(n:NdV)(w0:World)(hin:NdIn w0 p n)(h15:n.pre.length≤1000)(h16:n.labels.length≤1000)(h17:n.kids.length≤1000) :
  Ret Tryz.prog 189 #[.agg (p.cs n)] w0 fun v w'=>∃ q:NP,v=.agg (q.cs n)∧OwnN w' w0.heap.size q n∧Below w0.heap.size w0 w':=by
 have bel0:=Below.refl w0.heap.size w0;refine ret_of (args:=[_]) _ Tryz.func189 rfl Tryz.ntmps189 (by simp) ?_;simp -implicitDefEqProofs [go_sem];generalize hw1:World.alloc w0 _=w1 at *;obtain ⟨hB1,b1,sz1,bel1⟩:=newF hw1 bel0;generalize hw2:World.alloc w1 _=w2 at *;obtain ⟨hB2,b2,sz2,bel2⟩:=newF hw2 bel1;rw [sz1] at hB2;obtain ⟨r1,hr1⟩:∃ r1,r1=w0.heap.size:=⟨_,rfl⟩;obtain ⟨r2,hr2⟩:∃ r2,r2=w0.heap.size+1:=⟨_,rfl⟩;rw [← hr1] at hB1;rw [← hr2] at hB2;have hB1:=hB1.next b2
 rw [← hr2,← hr1];have h12:r1≠r2:=by omega
 have h21:r2≠r1:=by omega
 have hs2:w0.heap.size+1<w2.heap.size:=by have:=hB2.lt;omega
 simp -implicitDefEqProofs [go_sem,hB1.cell,NP.cs_0,h12,h21];refine callE_of (cloneB_calls p.a1 n.pre p.c1 w2 (by omega) (hin.next bel2).pre) ?_;rintro v w3 ⟨a1,c1,rfl,ho1,b3⟩;have bel3:=btr bel2 b3;have s3:=b3.size;replace hB1:=hB1.next b3
 replace hB2:=hB2.next b3
 have x0:=hB1.cell 0;have y0:=hB1.thaw 0;rw [NP.cs_0] at x0;have k1:∀ k,BlkOf a1 k→w2.heap.size≤k:=fun k hk=>(ownsRow_blk ho1 k hk).1
 have l1:∀ k,BlkOf a1 k→k<w3.heap.size:=fun k hk=>(ownsRow_blk ho1 k hk).2
 replace hB1:Blk (w3.setCell ⟨r1,0,none⟩ (.slice a1 n.pre.length c1)) r1 #[.slice a1 n.pre.length c1,.int .u64 (uv n.val),.slice p.a2 n.labels.length p.c2,.slice p.a3 n.kids.length p.c3] 234:=hB1.set 0 _;replace hB2:=hB2.setOther (a:=⟨r1,0,none⟩) h12 (.slice a1 n.pre.length c1);have m4:Mod (fun k=>k=r1) w3 (w3.setCell ⟨r1,0,none⟩ (.slice a1 n.pre.length c1)):=(Mod.refl (fun k=>k=r1) w3).setCell (a:=⟨r1,0,none⟩) (.inl rfl) _
 have bel4:Below w0.heap.size w0 (w3.setCell ⟨r1,0,none⟩ (.slice a1 n.pre.length c1)):=bel3.setCell (by show w0.heap.size≤r1;omega) _;replace ho1:=ownsRow_turn ho1 m4 (fun k hk e=>by have:=k1 k hk;omega);simp -implicitDefEqProofs [go_sem,x0,y0,hB1.cell,h12,h21];generalize w3.setCell ⟨r1,0,none⟩ (.slice a1 n.pre.length c1)=w4 at *;have s4:=m4.size;refine callE_of (cloneB_calls p.a2 n.labels p.c2 w4 (by omega) (hin.next bel4).lab) ?_;rintro v w5 ⟨a2,c2,rfl,ho2,b5⟩;have bel5:=btr bel4 b5
 have s5:=b5.size;replace hB1:=hB1.next b5
 replace hB2:=hB2.next b5
 replace ho1:=ownsRow_next ho1 b5;have x2:=hB1.cell 2;have y2:=hB1.thaw 2;simp at x2;have k2:∀ k,BlkOf a2 k→w4.heap.size≤k:=fun k hk=>(ownsRow_blk ho2 k hk).1
 have l2:∀ k,BlkOf a2 k→k<w5.heap.size:=fun k hk=>(ownsRow_blk ho2 k hk).2
 replace hB1:Blk (w5.setCell ⟨r1,2,none⟩ (.slice a2 n.labels.length c2)) r1 #[.slice a1 n.pre.length c1,.int .u64 (uv n.val),.slice a2 n.labels.length c2,.slice p.a3 n.kids.length p.c3] 234:=hB1.set 2 _;replace hB2:=hB2.setOther (a:=⟨r1,2,none⟩) h12 (.slice a2 n.labels.length c2);have m6:Mod (fun k=>k=r1) w5 (w5.setCell ⟨r1,2,none⟩ (.slice a2 n.labels.length c2)):=(Mod.refl (fun k=>k=r1) w5).setCell (a:=⟨r1,2,none⟩) (.inl rfl) _
 have bel6:Below w0.heap.size w0 (w5.setCell ⟨r1,2,none⟩ (.slice a2 n.labels.length c2)):=bel5.setCell (by show w0.heap.size≤r1;omega) _;replace ho1:=ownsRow_turn ho1 m6 (fun k hk e=>by have:=k1 k hk;omega);replace ho2:=ownsRow_turn ho2 m6 (fun k hk e=>by have:=k2 k hk;omega);simp -implicitDefEqProofs [go_sem,x2,y2,hB1.cell,h12,h21];generalize w5.setCell ⟨r1,2,none⟩ (.slice a2 n.labels.length c2)=w6 at *;have s6:=m6.size
 refine callE_of (cloneW_calls p.a3 n.kids p.c3 w6 (by omega) (hin.next bel6).kid) ?_;rintro v w7 ⟨a3,c3,rfl,ho3,b7⟩;have bel7:=btr bel6 b7;have s7:=b7.size;replace hB1:=hB1.next b7
 replace hB2:=hB2.next b7
 replace ho1:=ownsRow_next ho1 b7;replace ho2:=ownsRow_next ho2 b7;have x3:=hB1.cell 3;have y3:=hB1.thaw 3;simp at x3;have k3:∀ k,BlkOf a3 k→w6.heap.size≤k:=fun k hk=>(ownsRow_blk ho3 k hk).1
 obtain ⟨q,hq⟩:∃ q:NP,q=⟨a1,c1,a2,c2,a3,c3⟩:=⟨_,rfl⟩;replace hB1:Blk (w7.setCell ⟨r1,3,none⟩ (.slice a3 n.kids.length c3)) r1 (q.cs n) 234:=by rw [hq];exact hB1.set 3 _
 replace hB2:=hB2.setOther (a:=⟨r1,3,none⟩) h12 (.slice a3 n.kids.length c3);have m8:Mod (fun k=>k=r1) w7 (w7.setCell ⟨r1,3,none⟩ (.slice a3 n.kids.length c3)):=(Mod.refl (fun k=>k=r1) w7).setCell (a:=⟨r1,3,none⟩) (.inl rfl) _;have bel8:Below w0.heap.size w0 (w7.setCell ⟨r1,3,none⟩ (.slice a3 n.kids.length c3)):=bel7.setCell (by show w0.heap.size≤r1;omega) _;replace ho1:=ownsRow_turn ho1 m8 (fun k hk e=>by have:=k1 k hk;omega)
 replace ho2:=ownsRow_turn ho2 m8 (fun k hk e=>by have:=k2 k hk;omega);replace ho3:=ownsRow_turn ho3 m8 (fun k hk e=>by have:=k3 k hk;omega);have ldN:=ldAll (P:=Tryz.prog) hB1 Tryz.underlying234 rfl ndI (n:=4) (q.cs_size n);have stR:=stAll (P:=Tryz.prog) (ty:=234) (cs:=q.cs n) hB2 ndI rfl (q.cs_one n);simp -implicitDefEqProofs [go_sem,x3,y3,h12,h21,↓ldN,↓stR];generalize w7.setCell ⟨r1,3,none⟩ (.slice a3 n.kids.length c3)=w8 at *;have s8:=m8.size;have hR9:=Blk.row hB2 (q.cs n)
 have bel9:=below_setRow bel8 (show w0.heap.size≤r2 by omega) (q.cs n);have m9:Mod (fun k=>k=r2) w8 (w8.setRow r2 (q.cs n)):=(Mod.refl (fun k=>k=r2) w8).row (.inl rfl) _;refine bodyOne 2 rfl (by simp -implicitDefEqProofs [go_sem]) hR9 Tryz.underlying234 rfl ndI ?_;have o1:=ownsRow_base (B':=w0.heap.size) (ownsRow_turn ho1 m9 (fun k hk e=>by have:=k1 k hk;omega)) (by omega);have o2:=ownsRow_base (B':=w0.heap.size) (ownsRow_turn ho2 m9 (fun k hk e=>by have:=k2 k hk;omega)) (by omega)
 have o3:=ownsRow_base (B':=w0.heap.size) (ownsRow_turn ho3 m9 (fun k hk e=>by have:=k3 k hk;omega)) (by omega);generalize w8.setRow r2 (q.cs n)=w9 at *;rw [hr1];subst hq;exact ⟨_,rfl,⟨o1,o2,o3,fun k h h'=>by have:=l1 k h;have:=k2 k h';omega,fun k h h'=>by have:=l1 k h;have:=k3 k h';omega,fun k h h'=>by have:=l2 k h;have:=k3 k h';omega⟩,bel9⟩
end
end
end Go.Proofs.YtaaihijkdhmcdaaGreatDoor
