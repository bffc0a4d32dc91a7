/- WholeImage, part 30 of 38: contracts and lemmas of its proof. Conditions: none. -/
import Derived.Test.YtaaihijkdhmcdaaGreatDoorW28
set_option linter.unusedVariables false
set_option linter.unusedSimpArgs false
set_option maxRecDepth 100000
namespace Go.Proofs.YtaaihijkdhmcdaaGreatDoor
section
open Go Go.RowKit
open TR
section
variable {w w':World} {m b p s x mb base n cap top:Nat} {V:PV} {G G' F:Nat→Prop} {o:Option Tr} {X:List Nat} {ch:BitVec 64→List LinkV × List Nat}
set_option maxHeartbeats 4000000
theorem nanI_calls (x:Int)(w:World):Ret Tryz.prog 171 #[.int .i64 x] w fun v w'=>v=.bool false∧w'=w:=by
 refine ret_of (args:=[_]) _ Tryz.func171 rfl Tryz.ntmps171 (by simp) ?_;simp -implicitDefEqProofs [go_sem];refine body_tmp 2 rfl ?_;simp -implicitDefEqProofs [go_sem]
theorem lessI_calls (x y:Int)(w:World):Ret Tryz.prog 135 #[.int .i64 x,.int .i64 y] w fun v w'=>v=.bool (decide (x<y))∧w'=w:=by
 refine ret_of (args:=[_,_]) _ Tryz.func135 rfl Tryz.ntmps135 (by simp) ?_;simp -implicitDefEqProofs [go_sem];refine callE_of (nanI_calls x w) ?_;rintro v w1 ⟨rfl,rfl⟩;simp -implicitDefEqProofs [go_sem];refine body_tmp 4 rfl ?_;simp -implicitDefEqProofs [go_sem]
theorem bsI_calls (a:Option Addr)(l:List Nat)(c:Nat)(x:Nat)(w:World)(hin:VsIn w a (offC l) c)(hl:l.length≤1000)(hr:l.Pairwise (·≤·))(hx:x∈l) :
  Ret Tryz.prog 92 #[.slice a l.length c,.int .i64 (x:Int)] w fun v w'=>∃ i:Nat,v=.tuple #[.int .i64 (i:Int),.bool true]∧Below w.heap.size w w':=by
 have bel0:=Below.refl w.heap.size w;refine ret_of (args:=[_,_]) _ Tryz.func92 rfl Tryz.ntmps92 (by simp) ?_;simp -implicitDefEqProofs [go_sem];refine wpE_loop (fun e' w'=>w'=w∧∃ lo hi:Nat,lo≤hi∧hi≤l.length∧(∀ j (h:j<l.length),j<lo→l[j]<x)∧(∀ j (h:j<l.length),hi≤j→x≤l[j]) ∧
  e' 0=.slice a l.length c∧e' 1=.int .i64 (x:Int)∧e' 6=.int .i64 l.length∧e' 7=.int .i64 lo∧e' 8=.int .i64 hi) (fun e' _=>(intOf (e' 8)).toNat-(intOf (e' 7)).toNat) ?_ ?_
 ·refine ⟨rfl,0,l.length,Nat.zero_le _,Nat.le_refl _,fun j h h2=>absurd h2 (Nat.not_lt_zero _),fun j h h2=>by omega,?_⟩;simp -implicitDefEqProofs [go_sem]
 ·rintro e' w' ⟨rfl,lo,hi,h1,h2,h3,h4,q0,q1,q6,q7,q8⟩;by_cases hlt:lo<hi
  ·have hlt':(lo:Int)<hi:=by omega
   have k1:=IntWalk.i64_in ((lo:Int)+hi) (by omega);obtain ⟨h,hh⟩:∃ h:Nat,h=(lo+hi)/2:=⟨_,rfl⟩;have kh:IntKind.i64.wrap (uv (BitVec.ofInt 64 ((lo:Int)+hi) >>> 1))=(h:Int):=by
    have e:((lo:Int)+hi)=((lo+hi:Nat):Int):=by omega
    rw [e,BitVec.ofInt_natCast];unfold uv;rw [BitVec.toNat_ushiftRight,BitVec.toNat_ofNat,Nat.mod_eq_of_lt (by omega),Nat.shiftRight_eq_div_pow,IntWalk.i64_in _ (by omega),hh]
   have hhl:h<l.length:=by omega
   have hhl':(h:Int)<l.length:=by omega
   obtain ⟨b,o,rfl,g⟩:=hin.at_.cell (i:=h) (by rw [offC_len];exact hhl);rw [offC_get l hhl] at g;have hmono:∀ j (hj:j<l.length),(j<h→l[j]≤l[h])∧(h<j→l[h]≤l[j]):=fun j hj=>⟨fun hjh=>List.pairwise_iff_getElem.1 hr j h hj hhl hjh,fun hjh=>List.pairwise_iff_getElem.1 hr h j hhl hj hjh⟩
   simp -implicitDefEqProofs [go_sem,q0,q1,q6,q7,q8,hlt,hlt',k1,kh,hhl,hhl',g];refine callE_of (lessI_calls (l[h]:Int) (x:Int) w') ?_;rintro v w2 ⟨rfl,rfl⟩;by_cases hc:l[h]<x
   ·have k2:=IntWalk.i64_in ((h:Int)+1) (by omega);have hc':(l[h]:Int)<(x:Int):=by omega
    simp -implicitDefEqProofs [go_sem,q0,q1,q6,q7,q8,hc,hc',k2];refine goE_round ⟨rfl,h+1,hi,by omega,h2,fun j hj hjl=>?_,h4,?_⟩ ?_
    ·by_cases e:j=h
     ·subst e;exact hc
     ·have:=(hmono j hj).1 (by omega);omega
    ·simp -implicitDefEqProofs [go_sem,q0,q1,q6,q8]
    ·simp -implicitDefEqProofs [go_sem,intOf,q7,q8];omega
   ·have hc':¬ (l[h]:Int)<(x:Int):=by omega
    simp -implicitDefEqProofs [go_sem,q0,q1,q6,q7,q8,hc,hc'];refine goE_round ⟨rfl,lo,h,by omega,by omega,h3,fun j hj hjl=>?_,?_⟩ ?_
    ·by_cases e:j=h
     ·subst e;omega
     ·have:=(hmono j hj).2 (by omega);omega
    ·simp -implicitDefEqProofs [go_sem,q0,q1,q6,q7]
    ·simp -implicitDefEqProofs [go_sem,intOf,q7,q8];omega
  ·have hn:¬ (lo:Int)<hi:=by omega
   have heq:hi=lo:=by omega
   subst heq;obtain ⟨j,hj,e⟩:=List.getElem_of_mem hx;have hlo:hi<l.length:=by
    rcases Nat.lt_or_ge hi l.length with h|h
    ·exact h
    ·have:=h3 j hj (by omega);omega
   have hlo':(hi:Int)<l.length:=by omega
   obtain ⟨b,o,rfl,g⟩:=hin.at_.cell (i:=hi) (by rw [offC_len];exact hlo);rw [offC_get l hlo] at g;have hxe:l[hi]=x:=by
    have h5:=h4 hi hlo (Nat.le_refl _)
    rcases Nat.lt_trichotomy j hi with h|h|h
    ·have:=h3 j hj h;omega
    ·subst h;exact e
    ·have:=List.pairwise_iff_getElem.1 hr hi j hlo hj h;omega
   have hx':((l[hi]:Int)==(x:Int))=true:=by rw [beq_iff_eq];omega
   simp -implicitDefEqProofs [go_sem,q0,q1,q6,q7,q8,hn,hlo,hlo',g,hx'];refine body_tmp2 4 5 rfl ?_;simp -implicitDefEqProofs [go_sem];exact ⟨⟨hi,rfl⟩,bel0⟩
theorem free_calls (x:Nat)(w0:World)(h:Pd w0 m V b p G)(hm:m=6∨m=24)(hx:Blk w0 x (IxC p b) 178)(hS:Sto m V o ch [] top) :
  Ret Tryz.prog 54 #[.pointer (some ⟨p,0,none⟩),.pointer (some ⟨b,0,none⟩),.pointer (some ⟨x,0,none⟩)] w0 fun v w'=>v=.int .i64 0∧Below w0.heap.size w0 w':=by
 have bel0:=Below.refl w0.heap.size w0;have hr:=hS.own.rest;have hlen:=hS.len hm;have h0:=h;refine ret_of (args:=[_,_,_]) _ Tryz.func54 rfl Tryz.ntmps54 (by simp) ?_;simp -implicitDefEqProofs [go_sem];refine callE_of (reach_calls x w0 h hm hx hS) ?_;rintro v w1 ⟨a1,ss,c1,rfl,hp1,hso,hrow1,b1⟩;have bel1:=btr bel0 b1;replace h:=h.next b1
 simp -implicitDefEqProofs [go_sem];have hrl:ss.length≤400:=by have:=hp1.length_eq;rw [List.length_append] at this;omega
 obtain ⟨tb,tc,hb,hc',F',hP,hG⟩:=h;have hal:=poolAll_calls w1 hP.pool (by rw [hr.well.len];have:=sz hm;omega) (shN_data hm);rw [hr.well.len] at hal;refine callE_of hal ?_;rintro v w2 ⟨a2,c2,rfl,hv2,b2⟩;have bel2:=btr bel1 b2;obtain ⟨B,hB⟩:∃ B,B=allK (shN m) V.T m:=⟨_,rfl⟩;have hBm:∀ y∈B,y∈ss:=fun y hy=>by
  rw [hB] at hy;have h1:=(all_bk hr hm y).1 hy;have h2:=(hS.own.all y).1 h1;rw [List.append_nil] at h2;exact hp1.mem_iff.2 h2
 rw [← hB] at hv2 ⊢;have hin1:=owns_vsIn (l:=offC ss) (offC_len ss) hrow1;have hv2':VsIn w2 a2 (offC B) c2:=hv2;have hBl:B.length≤9223372036854775807:=by have h1:=hv2'.le;have h2:=hv2'.max;rw [offC_len] at h1;omega
 simp -implicitDefEqProofs [go_sem];refine wpE_loop (fun e' w'=>∃ k:Nat,k≤B.length∧e' 1=.pointer (some ⟨b,0,none⟩)∧e' 7=.slice a1 ss.length c1∧e' 24=.slice a2 B.length c2∧e' 25=.int .i64 (B.length:Int)∧e' 26=.int .i64 (k:Int)∧Below w2.heap.size w2 w') (fun e' _=>B.length-(intOf (e' 26)).toNat) ?_ ?_
 ·refine ⟨0,Nat.zero_le _,?_⟩;simp -implicitDefEqProofs [go_sem];exact Below.refl _ _
 ·rintro e' w3 ⟨k,hk,g1,g7,g24,g25,g26,b3⟩;by_cases hlt:k<B.length
  ·have hlt':(k:Int)<(B.length:Int):=by omega
   have i1:=IntWalk.i64_in ((k:Int)+1) (by omega);obtain ⟨lb,lo,rfl,hc⟩:=(hv2'.next b3).at_.cell (i:=k) (by rw [offC_len];exact hlt);rw [offC_get B hlt] at hc;simp -implicitDefEqProofs [go_sem,g1,g7,g24,g25,g26,hlt,hlt',hc];refine callE_of (bsI_calls a1 ss c1 B[k] w3 ((hin1.next b2).next b3) (by omega) hso (hBm _ (List.getElem_mem hlt))) ?_;rintro v w4 ⟨i,rfl,b4⟩;simp -implicitDefEqProofs [go_sem,g1,g7,g24,g25,g26,i1];refine goE_round ⟨k+1,by omega,?_⟩ ?_
   ·simp -implicitDefEqProofs [go_sem,g1,g7,g24,g25,g26,i1];exact btr b3 b4
   ·simp -implicitDefEqProofs [go_sem,g26,intOf,i1];omega
  ·obtain rfl:k=B.length:=by omega
   simp -implicitDefEqProofs [go_sem,g1,g7,g24,g25,g26];refine body_tmp 6 rfl ?_;simp -implicitDefEqProofs [go_sem];exact btr bel2 b3
theorem back_calls (x:Nat)(slot:BitVec 64)(w0:World)(h:Pd w0 m V b p G)(hm:m=6∨m=24)(hx:Blk w0 x (IxC p b) 178)(hS:Sto m V o ch X top)(ht:top≤slot.toNat) :
  Ret Tryz.prog 53 #[.pointer (some ⟨p,0,none⟩),.pointer (some ⟨b,0,none⟩),.pointer (some ⟨x,0,none⟩),.int .u64 (uv slot)] w0 fun v w'=>v=.int .i64 0∧Below w0.heap.size w0 w':=by
 have bel0:=Below.refl w0.heap.size w0;have hr:=hS.own.rest;have hlen:=hS.len hm;have h0:=h;have hil:=itemsO_le o;refine ret_of (args:=[_,_,_,_]) _ Tryz.func53 rfl Tryz.ntmps53 (by simp) ?_;simp -implicitDefEqProofs [go_sem];refine callE_of (idxAll_calls x w0 h hm hx hS.own) ?_;rintro v w1 ⟨ai,ci,rfl,hI,-,b1⟩;have bel1:=btr bel0 b1;replace h:=h.next b1
 obtain ⟨I,hIe⟩:∃ I,I=itemsO o:=⟨_,rfl⟩;rw [← hIe] at hI hlen hil ⊢;simp -implicitDefEqProofs [go_sem];refine wpE_loop (fun e' w'=>∃ k:Nat,k≤I.length∧e' 0=.pointer (some ⟨p,0,none⟩)∧e' 1=.pointer (some ⟨b,0,none⟩)∧e' 2=.pointer (some ⟨x,0,none⟩)∧e' 3=.int .u64 (uv slot)∧e' 24=.slice ai I.length ci∧e' 25=.int .i64 (I.length:Int)∧e' 26=.int .i64 (k:Int)∧Below w1.heap.size w1 w') (fun e' _=>I.length-(intOf (e' 26)).toNat) ?_ ?_
 ·refine ⟨0,Nat.zero_le _,?_⟩;simp -implicitDefEqProofs [go_sem];exact Below.refl _ _
 ·rintro e' w3 ⟨k,hk,g0,g1,g2,g3,g24,g25,g26,b3⟩;by_cases hlt:k<I.length
  ·have hlt':(k:Int)<(I.length:Int):=by omega
   have i1:=IntWalk.i64_in ((k:Int)+1) (by omega);obtain ⟨ib,io,rfl,hld⟩:=(hI.next b3).ld (i:=k) (by simpa using hlt) Tryz.underlying149 rfl itemI;have hkit:(I.map kit)[k]'(by simpa using hlt)=kit I[k]:=by simp
   rw [hkit] at hld;have hst:=stNew (P:=Tryz.prog) (t:=149) (cs:=kit I[k]) (C0:=#[.string ⟨#[]⟩,.int .u64 0]) itemI rfl (kit_one _);have hmem:I[k]∈itemsO o:=by rw [← hIe];exact List.getElem_mem hlt
   obtain ⟨hc1,hc2,hc3⟩:=hS.chain _ hmem;have hc4:=hS.one_len hm hmem;obtain ⟨l,hl⟩:∃ l,l=(ch I[k].2).1:=⟨_,rfl⟩;obtain ⟨Lk,hLk⟩:∃ Lk,Lk=(ch I[k].2).2:=⟨_,rfl⟩;rw [← hl,← hLk] at hc1;rw [← hl] at hc2 hc3 hc4;have hB6:=Blk.new w3 (kit I[k]) 149;have b6:=(Below.refl w3.heap.size w3).alloc (Nat.le_refl _) (.cells (kit I[k]) 149);have hk1:(kit I[k])[1]?=some (.int .u64 (uv I[k].2)):=rfl;simp -implicitDefEqProofs [go_sem,g0,g1,g2,g3,g24,g25,g26,hlt,hlt',↓hld,↓hst,hB6.cell,hk1]
   generalize World.alloc w3 _=w6 at *;have b16:=btr b3 b6;refine callE_of (sysList_calls I[k].2 l Lk w6 (h.next b16) hr hm hc1 hc2 (by omega)) ?_;rintro v w7 ⟨a7,c7,rfl,hl7,-,b7⟩;have b17:=btr b16 b7;simp -implicitDefEqProofs [go_sem,g0,g1,g2,g3,g24,g25,g26];refine wpE_rounds 1 ?_;by_cases hl0:0<l.length
   ·obtain ⟨lb,lo,rfl,-,hcs,-⟩:=hl7.cells (i:=0) hl0;rw [Nat.zero_mul,Nat.add_zero] at hcs;have hle:¬ slot<l[0].stamp:=by
     have h1:=hc3 _ (List.getElem_mem hl0);rw [BitVec.lt_def];omega
    have hl0':(0:Int)<(l.length:Int):=by omega
    have hz:(0:Int)≠(l.length:Int):=by omega
    simp -implicitDefEqProofs [go_sem,g0,g1,g2,g3,g24,g25,g26,hl0,hl0',hcs,hle,i1];refine goE_round ⟨k+1,by omega,?_⟩ ?_
    ·simp -implicitDefEqProofs [go_sem,g0,g1,g2,g3,g24,g25,g26,i1];exact b17
    ·simp -implicitDefEqProofs [go_sem,g26,intOf,i1];omega
   ·have hl0':¬ (0:Int)<(l.length:Int):=by omega
    simp -implicitDefEqProofs [go_sem,g0,g1,g2,g3,g24,g25,g26,hl0,hl0',i1];refine goE_round ⟨k+1,by omega,?_⟩ ?_
    ·simp -implicitDefEqProofs [go_sem,g0,g1,g2,g3,g24,g25,g26,i1];exact b17
    ·simp -implicitDefEqProofs [go_sem,g26,intOf,i1];omega
  ·obtain rfl:k=I.length:=by omega
   simp -implicitDefEqProofs [go_sem,g0,g1,g24,g25,g26];refine body_tmp 8 rfl ?_;simp -implicitDefEqProofs [go_sem];exact btr bel1 b3
theorem load_up (h:Rest m V)(hm:m=6∨m=24){o:Nat}(h8:o%8=0)(ho:o+8≤64*nL m):V.D.load (o:Int)=(V.D.word o,0):=by
 have zf:=sz hm;rw [load_in (by rw [h.well.lines];omega) h8 (by unfold NM.Dv.size;rw [h.well.lines];omega),h.well.up.down,if_neg (by decide)]
theorem partsI:(Tryz.prog.info? 69).map (·.size)=some 3:=by kernel_rfl
def partsC (b x:Nat)(slot:BitVec 64):Array Value:=#[.pointer (some ⟨b,0,none⟩),.pointer (some ⟨x,0,none⟩),.int .u64 (uv slot)]
theorem partsC_one (b x:Nat)(slot:BitVec 64):∀ v∈(partsC b x slot).toList,v.oneCell'=true:=by
 intro v hv;simp [partsC] at hv
 rcases hv with rfl|rfl|rfl<;>rfl
def MOpenP (m:Nat)(V:PV)(p:Nat)(F:Nat→Prop)(slot:BitVec 64)(w0:World)(v:Value)(w':World):Prop :=
 ∃ b x G,v=.tuple #[.agg (partsC b x slot),.int .i64 0]∧Sys w' m V b p G∧Blk w' x (IxC p b) 178∧¬ G x∧(∀ k,G k→F k∨w0.heap.size≤k)∧(∀ k,F k→G k)∧w0.heap.size≤x∧w0.heap.size≤b∧Below w0.heap.size w0 w'
theorem mendOpen_calls (slot:BitVec 64)(w0:World)(h:DevB w0 p F V.D)(hF:Fours w0)(hT:Tabs w0)(hout:¬ F 1)(hm:m=6∨m=24)(hS:Sto m V o ch [] top)(h64:V.D.word 64=slot)(hsl:slot.toNat≤60000)(ht:top≤slot.toNat) :
  Ret Tryz.prog 25 #[.pointer (some ⟨p,0,none⟩)] w0 fun v w'=>MOpenP m V p F slot w0 v w':=by
 have bel0:=Below.refl w0.heap.size w0;have zf:=sz hm;have hr:=hS.own.rest;have hop:=openH_of hm hr.well.lines hr.well.up hr.hdr;obtain ⟨t1,t2⟩:=well_tab hr.well hm;have hle:¬ (60000#64:BitVec 64)<slot:=by rw [BitVec.lt_def];show ¬ 60000<slot.toNat;omega
 have hst0:=stNew (P:=Tryz.prog) (t:=69) (cs:=#[.pointer none,.pointer none,.int .u64 0]) (C0:=#[.pointer none,.pointer none,.int .u64 0]) partsI rfl (by simp [Value.oneCell']);have h0:=h;have hT0:=hT;refine ret_of (args:=[_]) _ Tryz.func25 rfl Tryz.ntmps25 (by simp) ?_;simp -implicitDefEqProofs [go_sem];generalize hw1:World.alloc w0 _=w1 at *;obtain ⟨hB1,b1,sz1,bel1⟩:=newF hw1 bel0;replace h:=h.next b1
 replace hF:=hF.next b1
 replace hT:=hT.next b1
 have hpo:=poolOpen_calls m w1 h hF (by omega) (fun _=>by rw [hop];exact ⟨rfl,rfl⟩);refine callE_of hpo ?_;rintro v w2 hOp;unfold OpenP at hOp;rw [hop,t1,t2] at hOp
 rcases hOp with ⟨h,_⟩|⟨_,⟨e,h,_⟩|⟨_,b,tb,tc,hb,hc,rfl,hP,b2,hge⟩⟩
 ·exact absurd rfl h
 ·cases h
 ·have bel2:=btr bel1 b2;replace h:=h.next b2
  replace hF:=hF.next b2
  replace hT:=hT.next b2
  replace hB1:=hB1.next b2
  have hPD:PD w2 b p (shN m) V.T V.H tb tc hb hc F V.D:=by
   have e:List.replicate m 0#64=V.H:=hr.held.symm;rw [e] at hP;refine ⟨hP,h,fun k hk hk2=>?_⟩;have:=hge k hk;have:=h0.lt k hk2;omega
  have hPd:Pd w2 m V b p (PdK b tb hb F):=⟨tb,tc,hb,hc,F,hPD,rfl⟩;simp -implicitDefEqProofs [go_sem];refine callE_of (idxOpen_calls w2 hPd hm hS.own) ?_;rintro v w3 ⟨x,rfl,hx,hxg,b3⟩;have bel3:=btr bel2 b3;replace h:=h.next b3
  replace hF:=hF.next b3
  replace hT:=hT.next b3
  replace hB1:=hB1.next b3
  replace hPd:=hPd.next b3
  simp -implicitDefEqProofs [go_sem];refine callE_of (reach_calls x w3 hPd hm hx hS) ?_;rintro v w4 ⟨a4,ss,c4,rfl,-,-,-,b4⟩;have bel4:=btr bel3 b4;replace h:=h.next b4
  replace hF:=hF.next b4
  replace hT:=hT.next b4
  replace hB1:=hB1.next b4
  replace hPd:=hPd.next b4
  replace hx:=hx.next b4
  simp -implicitDefEqProofs [go_sem];refine callE_of (loadB 64 w4 h (by unfold I64;omega)) ?_;rintro v w5 ⟨rfl,rfl⟩;have hl64:V.D.load 64=(V.D.word 64,0):=load_up hr hm (o:=64) (by decide) (by omega);rw [hl64,h64];simp -implicitDefEqProofs [go_sem,hle];refine callE_of (back_calls x slot w5 hPd hm hx hS ht) ?_;rintro v w6 ⟨rfl,b6⟩;have bel6:=btr bel4 b6;replace h:=h.next b6
  replace hF:=hF.next b6
  replace hT:=hT.next b6
  replace hB1:=hB1.next b6
  replace hPd:=hPd.next b6
  replace hx:=hx.next b6
  simp -implicitDefEqProofs [go_sem];refine callE_of (free_calls x w6 hPd hm hx hS) ?_;rintro v w7 ⟨rfl,b7⟩;have bel7:=btr bel6 b7;replace h:=h.next b7
  replace hF:=hF.next b7
  replace hT:=hT.next b7
  replace hB1:=hB1.next b7
  replace hPd:=hPd.next b7
  replace hx:=hx.next b7
  have stP:=stAll (P:=Tryz.prog) (ty:=69) (cs:=partsC b x slot) hB1 partsI rfl (partsC_one _ _ _);unfold partsC at stP;simp -implicitDefEqProofs [go_sem,↓stP];have hR:=hB1.row (partsC b x slot);have belR:=below_setRow bel7 (Nat.le_refl _) (partsC b x slot);have mR:Mod (fun k=>k=w0.heap.size) w7 (w7.setRow w0.heap.size (partsC b x slot)):=(Mod.refl (fun k=>k=w0.heap.size) w7).row (.inl rfl) _;have hgew:∀ k,(k=b∨k=tb∨k=hb)→w0.heap.size<k:=fun k hk=>by have:=hge k hk;omega
  have hGn:∀ k,PdK b tb hb F k→¬ k=w0.heap.size:=fun k hk e=>by
   rcases hk with hk|hk
   ·have:=h0.lt k hk;omega
   ·have:=hgew k hk;omega
  have hxw:w0.heap.size<x:=by have:=b2.size;omega
  have hsys:Sys (w7.setRow w0.heap.size (partsC b x slot)) m V b p (PdK b tb hb F):=⟨hPd.mod mR hGn,(hT.mod mR fun e=>by have:=hT0.lt;omega),fun hk=>by
   rcases hk with hk|hk
   ·exact hout hk
   ·have:=hgew _ hk;have:=hT0.lt;omega⟩
  unfold partsC at hR belR hsys;refine bodyCell 2 3 rfl (by simp -implicitDefEqProofs [go_sem]) hR Tryz.underlying69 rfl partsI ?_;simp -implicitDefEqProofs [go_sem];refine ⟨b,x,PdK b tb hb F,rfl,hsys,hx.mod mR (fun e=>by omega),fun hk=>?_,fun k hk=>?_,fun k hk=>.inl hk,by omega,by have:=hgew b (.inl rfl);omega,belR⟩
  ·rcases hk with hk|hk
   ·have:=h0.lt _ hk;omega
   ·have h1:=hP
    rcases hk with rfl|rfl|rfl
    ·have:=h1.blk.lt;omega
    ·have:=h1.tk.lt;omega
    ·have:=h1.hd.lt;omega
  ·rcases hk with hk|hk
   ·exact .inl hk
   ·exact .inr (by have:=hgew k hk;omega)
end
end
section
open Go Go.RowKit
structure BookC (C:Array Value) (op:Bool) (at0:BitVec 64) (many bnd:Nat) (set0:Value) (nb:Nat):Prop where
 size:C.size=58
 a0:C[0]?=some (.int .u64 (uv at0))
 o0:C[8]?=some (.bool op)
 mks:∀ i,i<many→∃ x:BitVec 64,C[16+2*i]?=some (.int .u64 (uv x))∧x.toNat≤bnd
 mn:C[48]?=some (.int .i64 (many:Int))
 le:many≤16
 s0:C[49]?=some set0
 nt:C[57]?=some (.map (some nb))
section
variable {w w':World} {bk nb many bnd:Nat} {C:Array Value} {op:Bool} {a0:BitVec 64} {s0:Value} {F:Nat→Prop}
theorem mark_pile (n:Nat)(w:World)(o off:Nat){name:String}{f:FuncId}(hm:((Tryz.prog.info? 212).bind fun i=>(i.methods.find? (·.name==name)).map fun m=>(m.path,m.func))=some (#[],some (f,true))) :
  (method (n+1) 212 (.pointer (some ⟨o,off,none⟩)) name).run Tryz.prog w=.ok (f,.pointer (some ⟨o,off,none⟩)) w:=method_ptr n w hm Tryz.underlying212
theorem pile_push (n:Nat)(w:World)(o off:Nat):(method (n+1) 212 (.pointer (some ⟨o,off,none⟩)) "Push").run Tryz.prog w=.ok (262,.pointer (some ⟨o,off,none⟩)) w:=mark_pile n w o off (by kernel_rfl)
theorem pile_len (n:Nat)(w:World)(o off:Nat):(method (n+1) 212 (.pointer (some ⟨o,off,none⟩)) "Len").run Tryz.prog w=.ok (259,.pointer (some ⟨o,off,none⟩)) w:=mark_pile n w o off (by kernel_rfl)
theorem pile_less (n:Nat)(w:World)(o off:Nat):(method (n+1) 212 (.pointer (some ⟨o,off,none⟩)) "Less").run Tryz.prog w=.ok (260,.pointer (some ⟨o,off,none⟩)) w:=mark_pile n w o off (by kernel_rfl)
theorem run_mAssert (v:Value)(w:World):(Instr.typeAssert (.iface 131 v) 20 131 true).run Tryz.prog w=.ok (.tuple #[v,.bool true]) w:=by
 have hu:Tryz.prog.underlying 131=_:=Tryz.underlying131;simp [Instr.typeAssert,run_underlying hu]
theorem markI:(Tryz.prog.info? 131).map (·.size)=some 2:=by kernel_rfl
set_option maxHeartbeats 4000000
theorem indexB_calls (C:Array Value)(h:Blk w bk C 139)(hC:BookC C false a0 many bnd s0 nb) :
  Ret Tryz.prog 111 #[.slice (some ⟨bk,8,none⟩) 8 8,.bool false] w fun v w'=>v=.int .i64 0∧w'=w:=by
 refine ret_of (args:=[_,_]) _ Tryz.func111 rfl Tryz.ntmps111 (by simp) ?_;simp -implicitDefEqProofs [go_sem];refine wpE_rounds 1 ?_;simp -implicitDefEqProofs [go_sem,h.cell,hC.o0];refine body_tmp 4 rfl ?_;simp -implicitDefEqProofs [go_sem]
def pushC (C:Array Value)(many:Nat)(at_:BitVec 64):Array Value:=(segPut C (16+2*many) #[.int .u64 (uv at_),.int .i64 0]).setIfInBounds 48 (.int .i64 ((many:Int)+1))
theorem pushC_get (hs:C.size=58)(hm:many<16)(at_:BitVec 64)(i:Nat):(pushC C many at_)[i]?=if i=48 then some (.int .i64 ((many:Int)+1)) else if i=16+2*many then some (.int .u64 (uv at_)) else if i=17+2*many then some (.int .i64 0) else C[i]?:=by
 unfold pushC;have hsz:(#[Value.int .u64 (uv at_),.int .i64 0]:Array Value).size=2:=rfl;have hg:=segPut_get C (16+2*many) #[.int .u64 (uv at_),.int .i64 0] (by rw [hsz];omega) i;rw [hsz] at hg;by_cases h48:i=48
 ·subst h48;rw [if_pos rfl,Array.getElem?_setIfInBounds_self_of_lt];rw [segPut_size _ _ _ (by rw [hsz];omega)];omega
 ·rw [if_neg h48,Array.getElem?_setIfInBounds_ne (fun e=>h48 e.symm),hg];by_cases h1:i=16+2*many
  ·rw [if_pos h1,if_pos (by omega),h1,Nat.sub_self];rfl
  ·rw [if_neg h1];by_cases h2:i=17+2*many
   ·rw [if_pos h2,if_pos (by omega),h2,show 17+2*many-(16+2*many)=1 by omega];rfl
   ·rw [if_neg h2,if_neg (by omega)]
theorem pilePush_calls (C:Array Value)(h:Blk w bk C 139)(hs:C.size=58)(hmn:C[48]?=some (.int .i64 (many:Int)))(hm:many<16)(at_:BitVec 64) :
  Ret Tryz.prog 262 #[.pointer (some ⟨bk,16,none⟩),.iface 131 (.agg #[.int .u64 (uv at_),.int .i64 0])] w fun v w'=>v=.tuple #[]∧Blk w' bk (pushC C many at_) 139∧Turn w (·=bk) w' (·=bk):=by
 have hlt:=h.lt;have bel0:=Below.refl w.heap.size w;have st:=stNew (P:=Tryz.prog) (t:=131) (cs:=#[.int .u64 (uv at_),.int .i64 0]) (C0:=#[.int .u64 0,.int .i64 0]) markI rfl (by simp [Value.oneCell']);have hm':(many:Int)<16:=by omega
 refine ret_of (args:=[_,_]) _ Tryz.func262 rfl Tryz.ntmps262 (by simp) ?_;obtain ⟨w0,hw0⟩:∃ w0,w0=w:=⟨_,rfl⟩;rw [← hw0] at h hlt bel0 ⊢;have bA:=(Below.refl w0.heap.size w0).alloc (Nat.le_refl _) (.cells #[.int .u64 (uv at_),.int .i64 0] 131);have hBA:=h.next bA
 have hMk:=Blk.new w0 #[.int .u64 (uv at_),.int .i64 0] 131;simp -implicitDefEqProofs [go_sem,run_mAssert,↓st,hBA.cell,hmn,hm'];refine drawE_mix [.pure 0,.pure 1,.pure 2,.pure 3,.pure 6,.pure 7,.take 4,.run 5 [4],.pure 8,.run 9 []] mixed (by decide +kernel) (by simp only [wo];rfl) ?_;have b2:Below w0.heap.size w0 (World.drew (w0.alloc (.cells #[.int .u64 (uv at_),.int .i64 0] 131))):=bA.drew;replace hMk:=hMk.next (Below.refl _ _).drew
 generalize World.drew (w0.alloc _)=w2 at *;have h2:=h.next b2
 have ldM:=ldAll (P:=Tryz.prog) hMk Tryz.underlying131 rfl markI (n:=2) rfl;have stM:=stE (P:=Tryz.prog) (ty:=131) (o:=16+2*many) (cs:=#[.int .u64 (uv at_),.int .i64 0]) h2 markI (by rw [hs];show 16+2*many+2≤58;omega) (by simp [Value.oneCell']);rw [show 16+2*many=16+many*2 by omega] at stM;have h3:=h2.row (segPut C (16+many*2) #[.int .u64 (uv at_),.int .i64 0]);have hc48:(segPut C (16+many*2) #[.int .u64 (uv at_),.int .i64 0])[48]?=some (.int .i64 (many:Int)):=by
  rw [segPut_get C (16+many*2) _ (by rw [hs];show 16+many*2+2≤58;omega),if_neg (by show ¬ (16+many*2≤48∧48<16+many*2+2);omega)];exact hmn
 have i1:=IntWalk.i64_in ((many:Int)+1) (by omega);simp -implicitDefEqProofs [go_sem];refine onTake_of (fun w'=>Blk w' bk C 139) (.int .i64 (many:Int)) h2 (fun w' hw=>by simp -implicitDefEqProofs [go_sem,hw.cell,hmn]) ?_;simp -implicitDefEqProofs [go_sem,hm',hm,↓ldM,↓stM,h3.cell,h3.thaw,hc48,i1];refine body_end (body_none rfl ?_);have h4:=h3.set 48 (.int .i64 ((many:Int)+1))
 have t23:Turn w2 (·=bk) (w2.setRow bk (segPut C (16+many*2) #[.int .u64 (uv at_),.int .i64 0])) (·=bk):=⟨(Mod.refl (fun k=>k=bk) w2).row (.inl rfl) _,fun k hk=>.inl hk⟩;have t34:Turn (w2.setRow bk (segPut C (16+many*2) #[.int .u64 (uv at_),.int .i64 0])) (·=bk) ((w2.setRow bk (segPut C (16+many*2) #[.int .u64 (uv at_),.int .i64 0])).setCell ⟨bk,48,none⟩ (.int .i64 ((many:Int)+1))) (·=bk):=⟨(Mod.refl (fun k=>k=bk) _).setCell (.inl rfl) _,fun k hk=>.inl hk⟩
 refine ⟨rfl,?_,(Turn.of b2).trans (t23.trans t34)⟩;unfold pushC;rw [show 16+2*many=16+many*2 by omega];exact h4
theorem pileLen_calls (C:Array Value)(h:Blk w bk C 139)(hmn:C[48]?=some (.int .i64 (many:Int))) :
  Ret Tryz.prog 259 #[.pointer (some ⟨bk,16,none⟩)] w fun v w'=>v=.int .i64 (many:Int)∧w'=w:=by
 refine ret_of (args:=[_]) _ Tryz.func259 rfl Tryz.ntmps259 (by simp) ?_;simp -implicitDefEqProofs [go_sem,h.cell,hmn];refine body_tmp 2 rfl ?_;simp -implicitDefEqProofs [go_sem]
theorem pileLess_calls (C:Array Value)(h:Blk w bk C 139)(i j:Nat)(x y:BitVec 64)(hi:i<16)(hj:j<16)(hx:C[16+2*i]?=some (.int .u64 (uv x)))(hy:C[16+2*j]?=some (.int .u64 (uv y))) :
  Ret Tryz.prog 260 #[.pointer (some ⟨bk,16,none⟩),.int .i64 (i:Int),.int .i64 (j:Int)] w fun v w'=>v=.bool (decide (x<y))∧Below w.heap.size w w':=by
 have hi':(i:Int)<16:=by omega
 have hj':(j:Int)<16:=by omega
 rw [show 16+2*i=16+i*2 by omega] at hx;rw [show 16+2*j=16+j*2 by omega] at hy;refine ret_of (args:=[_,_,_]) _ Tryz.func260 rfl Tryz.ntmps260 (by simp) ?_;simp -implicitDefEqProofs [go_sem];refine drawE_still mixed (by decide +kernel) ?_;simp -implicitDefEqProofs [go_sem,h.cell,hx,hy,hi,hj,hi',hj'];unfold endE;simp -implicitDefEqProofs [go_sem];refine body_tmp 6 rfl ?_;simp -implicitDefEqProofs [go_sem];exact (Below.refl _ _).drew
theorem pileUp_calls (C:Array Value)(j:Nat)(h:Blk w bk C 139)(hj:j<16)(y:BitVec 64)(hy:C[16+2*j]?=some (.int .u64 (uv y)))(hp:j≠0→∃ x:BitVec 64,C[16+2*((j-1)/2)]?=some (.int .u64 (uv x))∧x.toNat≤y.toNat) :
  Ret Tryz.prog 145 #[.iface 212 (.pointer (some ⟨bk,16,none⟩)),.int .i64 (j:Int)] w fun v w'=>v=.tuple #[]∧Below w.heap.size w w':=by
 refine ret_of (args:=[_,_]) _ Tryz.func145 rfl Tryz.ntmps145 (by simp) ?_;simp -implicitDefEqProofs [go_sem];refine wpE_rounds 1 ?_;have kj:=IntWalk.i64_in ((j:Int)-1) (by omega);by_cases h0:j=0
 ·subst h0;have k1:IntKind.i64.wrap (-1)=-1:=by decide
  have k2:IntKind.i64.wrap ((-1:Int).tdiv 2)=0:=by decide
  have k3:(-1:Int).tdiv 2=0:=by decide
  have k4:IntKind.i64.wrap 0=0:=by decide
  simp -implicitDefEqProofs [go_sem,k1,k2,k3,k4];refine body_end (body_none rfl ?_);exact ⟨rfl,Below.refl _ _⟩
 ·obtain ⟨q,hq⟩:∃ q,q=(j-1)/2:=⟨_,rfl⟩;obtain ⟨x,hx,hle⟩:=hp h0;rw [← hq] at hx;have t1:((j:Int)-1).tdiv 2=(q:Int):=by rw [Int.tdiv_eq_ediv_of_nonneg (by omega)];omega
  have t2:((j:Int)-1)/2=(q:Int):=by omega
  have kq:=IntWalk.i64_in (q:Int) (by omega);have hne:((q:Int)==(j:Int))=false:=by rw [beq_eq_false_iff_ne];omega
  have hne':¬ (q:Int)=(j:Int):=by omega
  have hne2:¬ q=j:=by omega
  simp -implicitDefEqProofs [go_sem,kj,t1,t2,kq,hne,hne',hne2,pile_less];refine callE_of (pileLess_calls C h j q y x hj (by omega) hy hx) ?_;rintro v w1 ⟨rfl,b1⟩;have hls:decide (y<x)=false:=decide_eq_false (by rw [BitVec.lt_def];omega);rw [hls];simp -implicitDefEqProofs [go_sem];refine body_end (body_none rfl ?_);exact ⟨rfl,b1⟩
theorem heapPushM_calls (C:Array Value)(h:Blk w bk C 139)(hC:BookC C op a0 many bnd s0 nb)(hm:many<16)(at_:BitVec 64)(ha:bnd≤at_.toNat) :
  Ret Tryz.prog 113 #[.iface 212 (.pointer (some ⟨bk,16,none⟩)),.iface 131 (.agg #[.int .u64 (uv at_),.int .i64 0])] w fun v w'=>v=.tuple #[]∧Blk w' bk (pushC C many at_) 139∧Turn w (·=bk) w' (·=bk):=by
 have hg:=fun i=>pushC_get (many:=many) hC.size hm at_ i
 have g48:(pushC C many at_)[48]?=some (.int .i64 ((many+1:Nat):Int)):=by rw [hg,if_pos rfl];rfl
 refine ret_of (args:=[_,_]) _ Tryz.func113 rfl Tryz.ntmps113 (by simp) ?_;simp -implicitDefEqProofs [go_sem,pile_push];refine callE_of (pilePush_calls C h hC.size hC.mn hm at_) ?_;rintro v w1 ⟨rfl,h1,t1⟩;simp -implicitDefEqProofs [go_sem,pile_len];refine callE_of (pileLen_calls _ h1 g48) ?_;rintro v w2 ⟨rfl,rfl⟩;have k1:=IntWalk.i64_in (many:Int) (by omega);have e1:((many+1:Nat):Int)-1=(many:Int):=by omega
 simp -implicitDefEqProofs [go_sem,e1,k1];refine callE_of (pileUp_calls _ many h1 hm at_ (by rw [hg,if_neg (by omega),if_pos rfl]) (fun h0=>?_)) ?_
 ·obtain ⟨x,hx,hle⟩:=hC.mks ((many-1)/2) (by omega);exact ⟨x,by rw [hg,if_neg (by omega),if_neg (by omega),if_neg (by omega)];exact hx,by omega⟩
 ·rintro v w3 ⟨rfl,b3⟩;simp -implicitDefEqProofs [go_sem];refine body_end (body_none rfl ?_);exact ⟨rfl,h1.next b3,t1.trans (.of b3)⟩
theorem BookC.push (hC:BookC C op a0 many bnd s0 nb)(hm:many<16)(at_:BitVec 64)(ha:bnd≤at_.toNat):BookC (pushC C many at_) op a0 (many+1) at_.toNat s0 nb:=by
 have hg:=fun i=>pushC_get (many:=many) hC.size hm at_ i
 refine ⟨?_,by rw [hg,if_neg (by omega),if_neg (by omega),if_neg (by omega)];exact hC.a0,by rw [hg,if_neg (by omega),if_neg (by omega),if_neg (by omega)];exact hC.o0,fun i hi=>?_,by rw [hg,if_pos rfl];rfl,by omega,by rw [hg,if_neg (by omega),if_neg (by omega),if_neg (by omega)];exact hC.s0,by rw [hg,if_neg (by omega),if_neg (by omega),if_neg (by omega)];exact hC.nt⟩
 ·unfold pushC;rw [Array.size_setIfInBounds,segPut_size _ _ _ (by rw [hC.size];show 16+2*many+2≤58;omega)];exact hC.size
 ·by_cases e:i=many
  ·subst e;exact ⟨at_,by rw [hg,if_neg (by omega),if_pos rfl],Nat.le_refl _⟩
  ·obtain ⟨x,hx,hle⟩:=hC.mks i (by omega);exact ⟨x,by rw [hg,if_neg (by omega),if_neg (by omega),if_neg (by omega)];exact hx,by omega⟩
theorem BookC.front (hC:BookC C op a0 many bnd s0 nb)(op':Bool)(a':BitVec 64):BookC ((C.setIfInBounds 0 (.int .u64 (uv a'))).setIfInBounds 8 (.bool op')) op' a' many bnd s0 nb:=by
 have hs:=hC.size;have hg:∀ i,i≠0→i≠8→((C.setIfInBounds 0 (.int .u64 (uv a'))).setIfInBounds 8 (.bool op'))[i]?=C[i]?:=fun i h1 h2=>by
  rw [Array.getElem?_setIfInBounds_ne (fun e=>h2 e.symm),Array.getElem?_setIfInBounds_ne (fun e=>h1 e.symm)]
 refine ⟨by rw [Array.size_setIfInBounds,Array.size_setIfInBounds];exact hs,?_,?_,fun i hi=>?_,by rw [hg _ (by omega) (by omega)];exact hC.mn,hC.le,by rw [hg _ (by omega) (by omega)];exact hC.s0,by rw [hg _ (by omega) (by omega)];exact hC.nt⟩
 ·rw [Array.getElem?_setIfInBounds_ne (by decide),Array.getElem?_setIfInBounds_self_of_lt (by omega)]
 ·rw [Array.getElem?_setIfInBounds_self_of_lt (by rw [Array.size_setIfInBounds];omega)]
 ·have hle:=hC.le;obtain ⟨x,hx,h⟩:=hC.mks i hi;exact ⟨x,by rw [hg _ (by omega) (by omega)];exact hx,h⟩
theorem BookC.set_ (hC:BookC C op a0 many bnd s0 nb)(v:Value):BookC (C.setIfInBounds 49 v) op a0 many bnd v nb:=by
 have hs:=hC.size;have hg:∀ i,i≠49→(C.setIfInBounds 49 v)[i]?=C[i]?:=fun i h1=>Array.getElem?_setIfInBounds_ne (fun e=>h1 e.symm)
 refine ⟨by rw [Array.size_setIfInBounds];exact hs,by rw [hg _ (by omega)];exact hC.a0,by rw [hg _ (by omega)];exact hC.o0,fun i hi=>?_,by rw [hg _ (by omega)];exact hC.mn,hC.le,?_,by rw [hg _ (by omega)];exact hC.nt⟩
 ·have hle:=hC.le;obtain ⟨x,hx,h⟩:=hC.mks i hi;exact ⟨x,by rw [hg _ (by omega)];exact hx,h⟩
 ·rw [Array.getElem?_setIfInBounds_self_of_lt (by omega)]
theorem watchOpen_calls (C:Array Value)(h:Blk w bk C 139)(hC:BookC C false a0 many bnd s0 nb)(hm:many<16)(at_:BitVec 64)(ha:bnd≤at_.toNat) :
  Ret Tryz.prog 75 #[.pointer (some ⟨bk,0,none⟩),.int .u64 (uv at_)] w fun v w'=>v=.tuple #[.int .i64 0,.int .i64 0]∧∃ C',Blk w' bk C' 139∧BookC C' true at_ (many+1) at_.toNat s0 nb∧Turn w (·=bk) w' (·=bk):=by
 refine ret_of (args:=[_,_]) _ Tryz.func75 rfl Tryz.ntmps75 (by simp) ?_;simp -implicitDefEqProofs [go_sem];refine callE_of (indexB_calls C h hC) ?_;rintro v w1 ⟨rfl,rfl⟩;simp -implicitDefEqProofs [go_sem];refine drawE_mix [.pure 0,.pure 1,.pure 2,.pure 3,.pure 4,.pure 5,.pure 6,.pure 7,.pure 9,.pure 10,.run 8 [],.pure 11,.run 12 []] mixed (by decide +kernel) (by simp only [wo];rfl) ?_;have hmn:((many:Int)==16)=false:=by rw [beq_eq_false_iff_ne];omega
 have bd:=(Below.refl w1.heap.size w1).drew;generalize World.drew w1=w2 at *;have h2:=h.next bd
 have h3:=h2.set 0 (.int .u64 (uv at_));have h4:=h3.set 8 (.bool true);have hc48:((C.setIfInBounds 0 (.int .u64 (uv at_))).setIfInBounds 8 (.bool true))[48]?=some (.int .i64 (many:Int)):=by
  rw [Array.getElem?_setIfInBounds_ne (by decide),Array.getElem?_setIfInBounds_ne (by decide)];exact hC.mn
 simp -implicitDefEqProofs [go_sem,h2.cell,h2.thaw,hC.a0,hC.o0,hC.mn,h3.cell,h3.thaw,h4.cell,hmn];have hC4:=hC.front true at_;refine callE_of (heapPushM_calls _ h4 hC4 hm at_ ha) ?_;rintro v w5 ⟨rfl,h5,t5⟩;simp -implicitDefEqProofs [go_sem];refine body_tmp2 4 5 rfl ?_;simp -implicitDefEqProofs [go_sem]
 have t24:Turn w2 (·=bk) ((w2.setCell ⟨bk,0,none⟩ (.int .u64 (uv at_))).setCell ⟨bk,8,none⟩ (.bool true)) (·=bk):=⟨((Mod.refl (fun k=>k=bk) w2).setCell (a:=⟨bk,0,none⟩) (.inl rfl) _).setCell (a:=⟨bk,8,none⟩) (.inl rfl) _,fun k hk=>.inl hk⟩;exact ⟨_,h5,hC4.push hm at_ ha,(Turn.of bd).trans (t24.trans t5)⟩
theorem watchHas_calls (C:Array Value)(h:Blk w bk C 139)(hC:BookC C op a0 many bnd s0 nb) :
  Ret Tryz.prog 115 #[.pointer (some ⟨bk,0,none⟩),.int .i64 0] w fun v w'=>v=.bool op∧w'=w:=by
 refine ret_of (args:=[_,_]) _ Tryz.func115 rfl Tryz.ntmps115 (by simp) ?_;simp -implicitDefEqProofs [go_sem,h.cell,hC.o0];refine body_tmp 4 rfl ?_;simp -implicitDefEqProofs [go_sem]
theorem watchAt_calls (C:Array Value)(h:Blk w bk C 139)(hC:BookC C true a0 many bnd s0 nb) :
  Ret Tryz.prog 95 #[.pointer (some ⟨bk,0,none⟩),.int .i64 0] w fun v w'=>v=.tuple #[.int .u64 (uv a0),.bool true]∧w'=w:=by
 refine ret_of (args:=[_,_]) _ Tryz.func95 rfl Tryz.ntmps95 (by simp) ?_;simp -implicitDefEqProofs [go_sem];refine callE_of (watchHas_calls C h hC) ?_;rintro v w1 ⟨rfl,rfl⟩;simp -implicitDefEqProofs [go_sem,h.cell,hC.a0];refine body_tmp2 4 5 rfl ?_;simp -implicitDefEqProofs [go_sem]
theorem watchClose_calls (C:Array Value)(h:Blk w bk C 139)(hC:BookC C true a0 many bnd s0 nb) :
  Ret Tryz.prog 78 #[.pointer (some ⟨bk,0,none⟩),.int .i64 0] w fun v w'=>v=.int .i64 0∧∃ C',Blk w' bk C' 139∧BookC C' false 0#64 many bnd s0 nb∧Turn w (·=bk) w' (·=bk):=by
 refine ret_of (args:=[_,_]) _ Tryz.func78 rfl Tryz.ntmps78 (by simp) ?_;simp -implicitDefEqProofs [go_sem];refine callE_of (watchHas_calls C h hC) ?_;rintro v w1 ⟨rfl,rfl⟩;simp -implicitDefEqProofs [go_sem];refine drawE_mix [.pure 0,.pure 1,.pure 2,.pure 3,.pure 4,.pure 5,.pure 6,.pure 8,.pure 9,.run 7 [],.pure 10,.run 11 []] mixed (by decide +kernel) (by simp only [wo];rfl) ?_;have bd:=(Below.refl w1.heap.size w1).drew;generalize World.drew w1=w2 at *;have h2:=h.next bd
 have h3:=h2.set 0 (.int .u64 0);have h4:=h3.set 8 (.bool false);simp -implicitDefEqProofs [go_sem,h2.cell,h2.thaw,hC.a0,hC.o0,h3.cell,h3.thaw];refine body_tmp 4 rfl ?_;simp -implicitDefEqProofs [go_sem];have t24:Turn w2 (·=bk) ((w2.setCell ⟨bk,0,none⟩ (.int .u64 0)).setCell ⟨bk,8,none⟩ (.bool false)) (·=bk):=⟨((Mod.refl (fun k=>k=bk) w2).setCell (a:=⟨bk,0,none⟩) (.inl rfl) _).setCell (a:=⟨bk,8,none⟩) (.inl rfl) _,fun k hk=>.inl hk⟩;exact ⟨_,h4,hC.front false 0#64,(Turn.of bd).trans t24⟩
end
end
section
open Go Go.RowKit
structure WrV where
 key:ByteArray
 text:ByteArray
 gone:Bool
def WrV.cs (x:WrV):Array Value:=#[.string x.key,.string x.text,.bool x.gone]
theorem WrV.cs_one (x:WrV):∀ v∈x.cs.toList,v.oneCell'=true:=by
 intro v hv;simp [WrV.cs] at hv
 rcases hv with rfl|rfl|rfl<;>rfl
theorem WrV.cs_size (x:WrV):x.cs.size=3:=rfl
theorem wr_size (l:List WrV):∀ x∈l.map WrV.cs,x.size=3:=by
 intro x hx;obtain ⟨e,_,rfl⟩:=List.mem_map.1 hx;rfl
theorem wrI:(Tryz.prog.info? 104).map (·.size)=some 3:=by kernel_rfl
theorem eI_wr:EInfo Tryz.prog 104 3 40:=by unfold EInfo;kernel_rfl
def kless (x y:ByteArray):Bool:=Op.bytesLess x.toList y.toList
def ksame (x y:ByteArray):Bool:=x.toList==y.toList
theorem less_or:∀ x y:List UInt8,Op.bytesLess x y=false→(x==y)=false→Op.bytesLess y x=true
 | [],[],_,h=>by cases h
 | [],_::_,h,_=>by cases h
 | _::_,[],_,_=>rfl
 | a::x,b::y,h,h2=>by
  unfold Op.bytesLess at h ⊢;by_cases e:a=b
  ·subst e;have h3:(x==y)=false:=by
    rw [beq_eq_false_iff_ne] at h2 ⊢;exact fun e=>h2 (by rw [e])
   have h1:Op.bytesLess x y=false:=by simpa using h
   have:=less_or x y h1 h3;simp [this]
  ·have h1:¬ a<b:=by
    intro hl;simp [hl] at h
   have h3:b<a:=by
    rcases Nat.lt_trichotomy a.toNat b.toNat with h|h|h
    ·exact absurd (UInt8.lt_iff_toNat_lt.2 h) h1
    ·exact absurd (UInt8.toNat_inj.1 h) e
    ·exact UInt8.lt_iff_toNat_lt.2 h
   simp [h3]
theorem kless_or {x y:ByteArray}(h:kless x y=false)(h2:ksame x y=false):kless y x=true:=less_or _ _ h h2
def cmpV (x y:ByteArray):Int:=if kless x y=true then -1 else if ksame x y=true then 0 else 1
theorem cmpV_lt {x y:ByteArray}:cmpV x y<0↔kless x y=true:=by
 unfold cmpV;by_cases h:kless x y=true
 ·rw [if_pos h];exact ⟨fun _=>h,fun _=>by decide⟩
 ·rw [if_neg h];by_cases h2:ksame x y=true
  ·rw [if_pos h2];exact ⟨fun h3=>absurd h3 (by decide),fun h3=>absurd h3 h⟩
  ·rw [if_neg h2];exact ⟨fun h3=>absurd h3 (by decide),fun h3=>absurd h3 h⟩
theorem cmpV_zero {x y:ByteArray}(h:cmpV x y=0):ksame x y=true:=by
 unfold cmpV at h;split at h
 ·cases h
 ·split at h
  ·assumption
  ·cases h
theorem cmpV_pos {x y:ByteArray}(h:0≤cmpV x y)(h2:cmpV x y≠0):kless y x=true:=by
 have h1:¬ kless x y=true:=fun h3=>by have:=cmpV_lt.2 h3;omega
 have h3:¬ ksame x y=true:=fun h4=>h2 (by unfold cmpV;rw [if_neg h1,if_pos h4])
 exact kless_or (by simpa using h1) (by simpa using h3)
def WrV.right (x:WrV):Prop:=x.key.size≤16∧x.text.size≤40∧(x.gone=true→x.text.size=0)
structure SetOk (l:List WrV):Prop where
 len:l.length≤16
 right:∀ x∈l,x.right
 rise:∀ i (h:i+1<l.length),kless l[i].key l[i+1].key=true
section
variable {w w':World} {a:Option Addr} {cap:Nat} {l:List WrV} {F:Nat→Prop}
set_option maxHeartbeats 4000000
theorem nanS_calls' (x:ByteArray)(w:World):Ret Tryz.prog 175 #[.string x] w fun v w'=>v=.bool false∧w'=w:=by
 have hx:(x.toList==x.toList)=true:=by simp
 refine ret_of (args:=[_]) _ Tryz.func175 rfl Tryz.ntmps175 (by simp) ?_;simp -implicitDefEqProofs [go_sem];refine body_tmp 2 rfl ?_;simp -implicitDefEqProofs [go_sem]
theorem compare_calls (x y:ByteArray)(w:World):Ret Tryz.prog 142 #[.string x,.string y] w fun v w'=>v=.int .i64 (cmpV x y)∧w'=w:=by
 refine ret_of (args:=[_,_]) _ Tryz.func142 rfl Tryz.ntmps142 (by simp) ?_;simp -implicitDefEqProofs [go_sem];refine callE_of (nanS_calls' x w) ?_;rintro v w1 ⟨rfl,rfl⟩;simp -implicitDefEqProofs [go_sem];refine callE_of (nanS_calls' y w1) ?_;rintro v w2 ⟨rfl,rfl⟩;simp -implicitDefEqProofs [go_sem];have hd:kless x y=Op.bytesLess x.toList y.toList:=rfl;have hs:ksame x y=(x.toList==y.toList):=rfl;by_cases h:kless x y=true
 ·have h1:=h;rw [hd] at h1;simp -implicitDefEqProofs [go_sem,h1];refine body_tmp 4 rfl ?_;simp -implicitDefEqProofs [go_sem,cmpV,h]
 ·have h1:Op.bytesLess x.toList y.toList=false:=by rw [← hd];simpa using h
  by_cases h2:ksame x y=true
  ·have h3:=h2;rw [hs] at h3;simp -implicitDefEqProofs [go_sem,h1,h3];refine body_tmp 4 rfl ?_;simp -implicitDefEqProofs [go_sem,cmpV,h,h2]
  ·have h3:(x.toList==y.toList)=false:=by rw [← hs];simpa using h2
   simp -implicitDefEqProofs [go_sem,h1,h3];refine body_tmp 4 rfl ?_;simp -implicitDefEqProofs [go_sem,cmpV,h,h2]
theorem stands_calls (x:WrV)(key:ByteArray)(w:World):Ret Tryz.prog 97 #[.agg x.cs,.string key] w fun v w'=>v=.int .i64 (cmpV x.key key)∧Below w.heap.size w w':=by
 have bel0:=Below.refl w.heap.size w;refine ret_of (args:=[_,_]) _ Tryz.func97 rfl Tryz.ntmps97 (by simp) ?_;have hB:=Blk.new w x.cs 104;have h0:x.cs[0]?=some (.string x.key):=rfl;simp -implicitDefEqProofs [go_sem,hB.cell,h0];refine callE_of (compare_calls x.key key _) ?_;rintro v w1 ⟨rfl,rfl⟩;simp -implicitDefEqProofs [go_sem];refine body_tmp 4 rfl ?_;simp -implicitDefEqProofs [go_sem];exact bel0.alloc (Nat.le_refl _) _
theorem wright_calls (x:WrV)(w:World):Ret Tryz.prog 116 #[.agg x.cs] w fun v w'=>∃ r,v=.bool r∧(r=true↔x.right)∧Below w.heap.size w w':=by
 have bel0:=Below.refl w.heap.size w;have hb:=bel0.alloc (Nat.le_refl _) (.cells x.cs 104);refine ret_of (args:=[_]) _ Tryz.func116 rfl Tryz.ntmps116 (by simp) ?_;have hB:=Blk.new w x.cs 104;have h0:x.cs[0]?=some (.string x.key):=rfl;have h1:x.cs[1]?=some (.string x.text):=rfl;have h2:x.cs[2]?=some (.bool x.gone):=rfl;by_cases hk:(16:Int)<x.key.size
 ·simp -implicitDefEqProofs [go_sem,hB.cell,h0,h1,h2,hk];refine body_tmp 2 rfl ?_;simp -implicitDefEqProofs [go_sem];refine ⟨fun h=>?_,hb⟩;have:=h.1;omega
 ·by_cases ht:(40:Int)<x.text.size
  ·simp -implicitDefEqProofs [go_sem,hB.cell,h0,h1,h2,hk,ht];refine body_tmp 2 rfl ?_;simp -implicitDefEqProofs [go_sem];refine ⟨fun h=>?_,hb⟩;have:=h.2.1;omega
  ·cases hg:x.gone
   ·rw [hg] at h2;simp -implicitDefEqProofs [go_sem,hB.cell,h0,h1,h2,hk,ht];refine body_tmp 2 rfl ?_;simp -implicitDefEqProofs [go_sem];exact ⟨⟨by omega,by omega,fun h=>by rw [hg] at h;cases h⟩,hb⟩
   ·rw [hg] at h2;simp -implicitDefEqProofs [go_sem,hB.cell,h0,h1,h2,hk,ht];refine body_tmp 2 rfl ?_;simp -implicitDefEqProofs [go_sem];exact ⟨⟨fun h=>⟨by omega,by omega,fun _=>by rw [h];rfl⟩,fun h=>ByteArray.size_eq_zero_iff.1 (h.2.2 hg)⟩,hb⟩
def FindP (l:List WrV)(key:ByteArray)(w0:World)(v:Value)(w':World):Prop :=
 ∃ (i:Nat) (has:Bool),v=.tuple #[.int .i64 (i:Int),.bool has]∧i≤l.length∧(∀ h:0<i∧i-1<l.length,cmpV l[i-1].key key<0)∧(∀ h:i<l.length,0≤cmpV l[i].key key)∧(has=true↔∃ h:i<l.length,cmpV l[i].key key=0)∧Below w0.heap.size w0 w'
theorem bsf_calls (key:ByteArray)(w:World)(h:RIn w 3 a (l.map WrV.cs) cap)(hl:l.length≤1000) :
  Ret Tryz.prog 176 #[.slice a l.length cap,.string key,.func (.func 97) #[] #[]] w fun v w'=>FindP l key w v w':=by
 have bel0:=Below.refl w.heap.size w;refine ret_of (args:=[_,_,_]) _ Tryz.func176 rfl Tryz.ntmps176 (by simp) ?_;simp -implicitDefEqProofs [go_sem];refine wpE_loop (fun e' w'=>Below w.heap.size w w'∧∃ lo hi:Nat,lo≤hi∧hi≤l.length∧(∀ h:0<lo∧lo-1<l.length,cmpV l[lo-1].key key<0)∧(∀ h:hi<l.length,0≤cmpV l[hi].key key) ∧
  e' 0=.slice a l.length cap∧e' 1=.string key∧e' 2=.func (.func 97) #[] #[]∧e' 8=.int .i64 l.length∧e' 9=.int .i64 lo∧e' 10=.int .i64 hi) (fun e' _=>(intOf (e' 10)).toNat-(intOf (e' 9)).toNat) ?_ ?_
 ·refine ⟨bel0,0,l.length,Nat.zero_le _,Nat.le_refl _,fun h=>absurd h.1 (Nat.not_lt_zero _),fun h=>absurd h (Nat.lt_irrefl _),?_⟩;simp -implicitDefEqProofs [go_sem]
 ·rintro e' w1 ⟨b1,lo,hi,h1,h2,h3,h4,q0,q1,q2,q8,q9,q10⟩;have hw:=h.next b1
  by_cases hlt:lo<hi
  ·have hlt':(lo:Int)<hi:=by omega
   have k1:=IntWalk.i64_in ((lo:Int)+hi) (by omega);obtain ⟨j,hj⟩:∃ j:Nat,j=(lo+hi)/2:=⟨_,rfl⟩;have kh:IntKind.i64.wrap (uv (BitVec.ofInt 64 ((lo:Int)+hi) >>> 1))=(j:Int):=by
    have e:((lo:Int)+hi)=((lo+hi:Nat):Int):=by omega
    rw [e,BitVec.ofInt_natCast];unfold uv;rw [BitVec.toNat_ushiftRight,BitVec.toNat_ofNat,Nat.mod_eq_of_lt (by omega),Nat.shiftRight_eq_div_pow,IntWalk.i64_in _ (by omega),hj]
   have hhl:j<l.length:=by omega
   have hhl':(j:Int)<l.length:=by omega
   obtain ⟨b,o,rfl,hld⟩:=hw.ld (i:=j) (by simpa using hhl) Tryz.underlying104 rfl wrI;rw [show (l.map WrV.cs)[j]'(by simpa using hhl)=l[j].cs by simp] at hld;simp -implicitDefEqProofs [go_sem,q0,q1,q2,q8,q9,q10,hlt,hlt',k1,kh,hhl,hhl',↓hld];refine callE_of (stands_calls l[j] key w1) ?_;rintro v w2 ⟨rfl,b2⟩;by_cases hc:cmpV l[j].key key<0
   ·have k2:=IntWalk.i64_in ((j:Int)+1) (by omega);simp -implicitDefEqProofs [go_sem,q0,q1,q2,q8,q9,q10,hc,k2];refine goE_round ⟨btr b1 b2,j+1,hi,by omega,h2,fun h=>by simpa using hc,h4,?_⟩ ?_
    ·simp -implicitDefEqProofs [go_sem,q0,q1,q2,q8,q10]
    ·simp -implicitDefEqProofs [go_sem,intOf,q9,q10];omega
   ·simp -implicitDefEqProofs [go_sem,q0,q1,q2,q8,q9,q10,hc];refine goE_round ⟨btr b1 b2,lo,j,by omega,by omega,h3,fun h=>by omega,?_⟩ ?_
    ·simp -implicitDefEqProofs [go_sem,q0,q1,q2,q8,q9]
    ·simp -implicitDefEqProofs [go_sem,intOf,q9,q10];omega
  ·have hn:¬ (lo:Int)<hi:=by omega
   obtain rfl:hi=lo:=by omega
   by_cases hlo:hi<l.length
   ·have hlo':(hi:Int)<l.length:=by omega
    obtain ⟨b,o,rfl,hld⟩:=hw.ld (i:=hi) (by simpa using hlo) Tryz.underlying104 rfl wrI;rw [show (l.map WrV.cs)[hi]'(by simpa using hlo)=l[hi].cs by simp] at hld;simp -implicitDefEqProofs [go_sem,q0,q1,q2,q8,q9,q10,hn,hlo,hlo',↓hld];refine callE_of (stands_calls l[hi] key w1) ?_;rintro v w2 ⟨rfl,b2⟩;simp -implicitDefEqProofs [go_sem,q0,q1,q2,q8,q9,q10,hn,hlo,hlo'];refine body_tmp2 6 7 rfl ?_;simp -implicitDefEqProofs [go_sem]
    exact ⟨hi,_,rfl,h2,h3,h4,⟨fun h=>⟨hlo,by simpa using h⟩,fun ⟨_,h⟩=>by simpa using h⟩,btr b1 b2⟩
   ·have hlo':¬ (hi:Int)<l.length:=by omega
    simp -implicitDefEqProofs [go_sem,q0,q1,q2,q8,q9,q10,hn,hlo,hlo'];refine body_tmp2 6 7 rfl ?_;simp -implicitDefEqProofs [go_sem];exact ⟨hi,false,rfl,h2,h3,h4,⟨(fun h=>by cases h),fun ⟨h,_⟩=>absurd h hlo⟩,b1⟩
theorem wfind_calls (key:ByteArray)(w:World)(h:RIn w 3 a (l.map WrV.cs) cap)(hl:l.length≤1000) :
  Ret Tryz.prog 146 #[.slice a l.length cap,.string key] w fun v w'=>FindP l key w v w':=by
 refine ret_of (args:=[_,_]) _ Tryz.func146 rfl Tryz.ntmps146 (by simp) ?_;simp -implicitDefEqProofs [go_sem];refine callE_of (bsf_calls key w h hl) ?_;rintro v w1 ⟨i,has,rfl,h1,h2,h3,h4,b1⟩;simp -implicitDefEqProofs [go_sem];refine body_tmp2 4 5 rfl ?_;simp -implicitDefEqProofs [go_sem];exact ⟨i,has,rfl,h1,h2,h3,h4,b1⟩
theorem cloneS_calls (w0:World)(hin:RIn w0 3 a (l.map WrV.cs) cap)(hl:l.length≤1000) :
  Ret Tryz.prog 77 #[.slice a l.length cap] w0 fun v w'=>∃ a' c',v=.slice a' l.length c'∧w'.ownsRow w0.heap.size 104 3 (.slice a' l.length c') l.length (flatR (l.map WrV.cs))∧Below w0.heap.size w0 w':=by
 have nilEq:=fun w a n c=>Lib.run_eql_slice_nil (P:=Tryz.prog) w 77 104 a n c 0 0 Tryz.underlying77
 have bel0:=Below.refl w0.heap.size w0;refine ret_of (args:=[_]) _ Tryz.func77 rfl Tryz.ntmps77 (by simp) ?_;have hfl:(flatR (l.map WrV.cs)).length=l.length*3:=by rw [flatR_len (wr_size l),List.length_map]
 cases a with
 | none =>
  have hc:=hin.nil rfl;have hle:=hin.le;rw [List.length_map] at hle;have hx:l=[]:=List.eq_nil_of_length_eq_zero (by omega);subst hx;subst hc;simp -implicitDefEqProofs [go_sem,nilEq];refine body_tmp 2 rfl ?_;simp -implicitDefEqProofs [go_sem];exact ⟨none,0,⟨rfl,rfl⟩,World.ownsRow_nil _ _ _ _,bel0⟩
 | some x =>
  simp -implicitDefEqProofs [go_sem,nilEq];have hlit:=World.ownsRow_lit (base:=w0.heap.size) (e:=104) (size:=3) w0 #[] 0 (Nat.le_refl _) (by decide) rfl;generalize hw1:World.alloc w0 _=w1 at *;have sz1:w1.heap.size=w0.heap.size+1:=by rw [← hw1];simp
  have b1:Below w0.heap.size w0 w1:=by rw [← hw1];exact bel0.alloc (Nat.le_refl _) _
  obtain ⟨ti,tz,hti,htz,hts,htb,htc⟩:=eI_wr.get;have hin1:=hin.next b1
  have hcells:∀ j u,(flatR (l.map WrV.cs))[j]?=some u→w1.cell? (x.add j)=some u:=fun j u hu=>by
   have hj:j<l.length*3:=by
    have:=(List.getElem?_eq_some_iff.1 hu).1;omega
   have hd:j/3<l.length:=by omega
   have hd2:j/3<(l.map WrV.cs).length:=by simpa using hd
   obtain ⟨bb,oo,ha,hc⟩:=hin1.get hd2;obtain rfl:=Option.some.inj ha;have hsz:((l.map WrV.cs)[j/3]).size=3:=wr_size l _ (List.getElem_mem hd2);have h1:=hc (j%3) (by rw [hsz];omega);have h2:=flatR_get (l.map WrV.cs) (wr_size l) (j/3) hd2 (j%3) (by omega);rw [show j/3*3+j%3=j by omega,hu] at h2;rw [Addr.add_lit,show oo+j=oo+j/3*3+j%3 by omega,h1];rw [Array.getElem?_eq_getElem (by rw [hsz];omega)] at h2;exact h2.symm
  have h1c:∀ u∈flatR (l.map WrV.cs),u.oneCell'=true:=fun u hu=>by
   unfold flatR at hu;obtain ⟨c,hc,hu⟩:=List.mem_flatMap.1 hu;obtain ⟨e,_,rfl⟩:=List.mem_map.1 hc;exact e.cs_one u hu
  obtain ⟨v',w2,hr2,hown,hgr,_⟩:=run_append_own (P:=Tryz.prog) w1 w0.heap.size 77 77 104 ti tz 3 40 Tryz.underlying77 hti htz hts htb htc (by decide) _ _ _ hlit x l.length cap (flatR (l.map WrV.cs)) hfl hcells h1c (by unfold maxLen;omega) (by omega) (by omega);rw [Nat.zero_add] at hown;have b2:Below w0.heap.size w0 w2:=b1.grown hgr (by omega) (fun j hj=>by simp [Value.ownBlock] at hj;omega);obtain ⟨a',c',rfl⟩:∃ a' c',v'=.slice a' l.length c':=by
   rcases hown.2 with ⟨h,h0⟩|⟨g,cap,cur,h,_⟩
   ·exact ⟨none,0,by rw [h,h0]⟩
   ·exact ⟨_,_,h⟩
  have hr3:(appendB #[77,77] 77 #[.slice (some ⟨w0.heap.size,0,none⟩) 0 0,.slice (some x) l.length cap]).run Tryz.prog w1=.ok (.slice a' l.length c') w2:=hr2;simp -implicitDefEqProofs [go_sem,hr3];refine body_tmp 2 rfl ?_;simp -implicitDefEqProofs [go_sem];exact ⟨a',c',⟨rfl,rfl⟩,hown,b2⟩
end
end
end Go.Proofs.YtaaihijkdhmcdaaGreatDoor
