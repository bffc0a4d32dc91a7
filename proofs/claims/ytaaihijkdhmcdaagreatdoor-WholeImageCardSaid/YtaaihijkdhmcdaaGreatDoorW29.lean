/- WholeImage, part 30 of 41: contracts and lemmas of its proof. Conditions: none. -/
import Derived.Test.YtaaihijkdhmcdaaGreatDoorW28
import Derived.Shelf.SlIterI.Nil
import Derived.Shelf.SortM.Plain
import Derived.Shelf.SortM.SortNone
import Derived.Ground.GgzProg
import Derived.Ground.SlgmProg
import Derived.Shelf.SlGeneric
set_option linter.unusedVariables false
set_option linter.unusedSimpArgs false
set_option maxRecDepth 100000
namespace Go.Proofs.YtaaihijkdhmcdaaGreatDoor
section
section
open Go Go.RowKit
open TR
section
variable {w w':World} {m b p s x mb base cap:Nat} {V:PV} {G G' F:Nat→Prop}
theorem ksAt {N:Nat→NdV→Prop}{k:Ks}:∀ {l r:Ks} {x:Nb} {t:Tr},k=l.app (.cons x t r)→k.At N→t.At N:=fun {l r x t} e h=>by
 rw [e,app_at,Ks.At] at h;exact h.2.1
theorem ks_assoc (l:Ks)(y:Nb)(kt:Tr)(r:Ks):(l.app (.cons y kt .nil)).app r=l.app (.cons y kt r):=by
 induction l using Ks.rec (motive_1:=fun _=>True) with
 | nd=>trivial
 | nil=>rfl
 | cons x t l _ ih=>show Ks.cons x t _=Ks.cons x t _;rw [ih]
mutual
theorem titems_le (a:List Nb):∀ t:Tr,(t.items a).length≤t.nodes.length
 | .nd o p v k=>by
  rw [items_nd,nodes_nd,List.length_append,List.length_cons];have h1:(own (a++p) v).length≤1:=by unfold own;split<;>simp
  have:=kitems_le (a++p) k;omega
theorem kitems_le (a:List Nb):∀ k:Ks,(k.items a).length≤k.nodes.length
 | .nil=>by rw [Ks.items];exact Nat.zero_le _
 | .cons x t r=>by
  rw [Ks.items,Ks.nodes,List.length_append,List.length_append];have:=titems_le (a++[x]) t;have:=kitems_le a r;omega
end
set_option maxHeartbeats 4000000
theorem visit_calls (hm:m=6∨m=24):∀ (N:Nat) (t:Tr) (ah:List Nb) (a8:Option Addr) (c8:Nat) (I:List TR.Item) (f:Int→Int) (n:Nat) (a:Option Addr) (cap:Nat) (w0:World),t.nodes.length≤N→Surv w0 b p s x mb base n I f a cap→Pd w0 m V b p G→Rest m V→(∀ k,G k→¬ SurvF s mb a k) →
  t.At (NAt m V)→t.Ok ah→t.nodes.Nodup→(∀ o∈t.nodes,f (o:Int)=0)→SlIn .u8 w0 a8 ah c8→SepA w0 (SurvF s mb a) a8→(a8=none→ah=[])→(∀ y∈ah,y.toNat<16)→I.length+t.nodes.length≤1000→n+t.nodes.length≤100000 →
  Ret Tryz.prog 141 #[.pointer (some ⟨s,0,none⟩),.int .u64 (uv (nameW t.off)),.slice a8 ah.length c8] w0 fun v w'=>v=.int .i64 0∧∃ a' cap',Surv w' b p s x mb base (n+t.nodes.length) (I++t.items ah) (addF t.nodes f) a' cap'∧Turn w0 (SurvF s mb a) w' (SurvF s mb a'):=by
 intro N
 induction N using Nat.strongRecOn with
 | ind N ih =>
 intro t ah a8 c8 I f n a cap w0 hN hS hPd hr hG hA hO hnd hf h8 hs8 h80 h16 hI hn;obtain ⟨o,pr,vl,ks⟩:=t;have bel0:=Below.refl w0.heap.size w0;have zf:=sz hm;have hNd:=(at_nd.1 hA).1;obtain ⟨n1,n2,n3,n4⟩:=hNd.in_ hm;obtain ⟨e1,e2⟩:=name_int (o:=o) (by omega);obtain ⟨nv,hnv⟩:∃ nv:NdV,nv=⟨pr,vl,ks.labels,ks.offs⟩:=⟨_,rfl⟩;rw [← hnv] at hNd n3 n4;have hok:=ok_nd.1 hO;have hnodes:=nodes_nd o pr vl ks;rw [show (Tr.nd o pr vl ks).off=o from rfl];have hs0:=hS.sv.cell 0;have hs1:=hS.sv.cell 1
 have hs2:=hS.sv.cell 2;simp at hs0 hs1 hs2;have hle8:=h8.le;have hmx8:=h8.max;refine ret_of (args:=[_,_,_]) _ Tryz.func141 rfl Tryz.ntmps141 (by simp) ?_;simp -implicitDefEqProofs [go_sem,hs0];refine callE_of (idxRead_calls x o nv w0 hPd hr hm hS.ix hNd) ?_;rintro v w1 ⟨q,rfl,hq,hqn,b1⟩;have bel1:=bel0.trans b1;have hS1:=hS.next b1
 have st1:=stNew (P:=Tryz.prog) (t:=234) (cs:=q.cs nv) (C0:=#[.slice none 0 0,.int .u64 0,.slice none 0 0,.slice none 0 0]) ndI rfl (q.cs_one nv);have hnode:=Blk.new w1 (q.cs nv) 234;have bA:=(Below.refl w1.heap.size w1).alloc (Nat.le_refl _) (.cells (q.cs nv) 234);have hS2:=hS1.next bA
 have sA:(w1.alloc (.cells (q.cs nv) 234)).heap.size=w1.heap.size+1:=by simp
 have b12:=btr b1 bA;have c2:=hS2.sv.cell 2;simp at c2;have ho1:o<1000000:=by omega
 have hoI:I64 (o:Int):=by unfold I64;omega
 have hlk:=hS2.map.look (t:=197) Tryz.underlying197 hoI;have hfo:f (o:Int)=0:=hf o (by rw [hnodes];exact List.mem_cons_self);rw [hfo] at hlk;obtain ⟨w3,hr3,hS3,m3,-⟩:=hS2.met (by unfold maxLen;omega) ho1;have c32:=hS3.sv.cell 2;simp at c32;have hlk3:=hS3.map.look (t:=197) Tryz.underlying197 hoI;have hF1:addF [o] f (o:Int)=1:=by unfold addF;rw [if_pos (by simp)]
 rw [hF1] at hlk3;have i1:=IntWalk.i64_in 1 (by omega);simp -implicitDefEqProofs [go_sem,e1,↓st1,c2,hlk,i1,hr3];have hnode3:=hnode.mod m3 (fun e=>by have:=hS.map.lt;have:=b1.size;omega);have t3:Turn w0 (SurvF s mb a) w3 (SurvF s mb a):=⟨(Mod.of b12).trans m3 (fun k hk _=>.inr (.inl hk)),fun k hk=>.inl hk⟩;have h83:=h8.turn hs8 t3;have hs83:=hs8.turn t3;have hq2:=hq.next bA
 have hqS:NdS w3 (SurvF s mb a) q nv:=by
  have hqs:NdS (w1.alloc (.cells (q.cs nv) 234)) (SurvF s mb a) q nv:=⟨hq2,fun y hy=>⟨by have:=hqn y.block (.inl ⟨y,hy,rfl⟩);omega,fun hf=>by have:=hqn y.block (.inl ⟨y,hy,rfl⟩);have:=hS.lt _ hf;omega⟩,
   fun y hy=>⟨by have:=hqn y.block (.inr (.inl ⟨y,hy,rfl⟩));omega,fun hf=>by have:=hqn y.block (.inr (.inl ⟨y,hy,rfl⟩));have:=hS.lt _ hf;omega⟩,
   fun y hy=>⟨by have:=hqn y.block (.inr (.inr ⟨y,hy,rfl⟩));omega,fun hf=>by have:=hqn y.block (.inr (.inr ⟨y,hy,rfl⟩));have:=hS.lt _ hf;omega⟩⟩
  exact hqs.turn ⟨m3.mono fun k hk _=>.inr (.inl hk),fun k hk=>.inl hk⟩
 have hpre:=hqS.in_.pre;have hpn:nv.pre=pr:=by rw [hnv]
 rw [hpn] at hpre;have hN0:(q.cs nv)[0]?=some (.slice q.a1 pr.length q.c1):=by rw [← hpn];rfl
 have hN1:(q.cs nv)[1]?=some (.int .u64 (uv vl)):=by rw [hnv];rfl
 have hN2:(q.cs nv)[2]?=some (.slice q.a2 nv.labels.length q.c2):=rfl;have hN3:(q.cs nv)[3]?=some (.slice q.a3 nv.kids.length q.c3):=rfl;refine dMix [.pure 0,.pure 1,.pure 2,.pure 3,.pure 4,.pure 6,.take 5,.run 7 [5],.run 8 [],.pure 9] mixed ?_;have bd:=(Below.refl w3.heap.size w3).drew;have t4:Turn w0 (SurvF s mb a) (World.drew w3) (SurvF s mb a):=t3.trans (Turn.of bd);generalize World.drew w3=w4 at *;have hS4:=hS3.next bd
 have hnode4:=hnode3.next bd
 have h84:=h83.next bd
 have hs84:=hs83.next bd
 have hqS4:=hqS.next bd
 have hpre4:=hpre.next bd
 have hlen32:(ah++pr).length≤32:=hok.2.2.1;rw [List.length_append] at hlen32;obtain ⟨a10,c10,w5,hr5,h105,b5,hnew5⟩:=append_full h84 hpre4 (by omega) h80;have hwl:(ah.length:Int)≤c8:=by omega
 have hwl2:ah.length≤c8:=hle8;have hlen':((ah.length:Int)+(pr.length:Int))=((ah.length+pr.length:Nat):Int):=by omega
 have hc1:¬ (32:Int)<((ah.length+pr.length:Nat):Int):=by omega
 have hS5:=hS4.next b5
 have c52:=hS5.sv.cell 2;simp at c52;have hnode5:=hnode4.next b5
 have hlk5:=hS5.map.look (t:=197) Tryz.underlying197 hoI;rw [hF1] at hlk5;have t5:=t4.trans (Turn.of b5);simp -implicitDefEqProofs [go_sem,hwl,hwl2];refine onTake_of (fun _=>True) (.slice a8 ah.length ah.length) trivial (fun w' _=>by
  rcases Option.eq_none_or_eq_some a8 with e|⟨y,e⟩
  ·have e2:=h80 e;have e3:=h8.nil e;subst e;subst e2;subst e3;simp -implicitDefEqProofs [go_sem]
  ·subst e;simp -implicitDefEqProofs [go_sem,hwl,hwl2,addr_zero]) ?_
 have hc2:¬ (32:Int)<(ah.length:Int)+(pr.length:Int):=by omega
 have hall:∀ y∈ah++pr,y.toNat<16:=fun y hy=>by
  rcases List.mem_append.1 hy with hy|hy
  ·exact h16 y hy
  ·exact hok.2.1 y hy
 have hs105:SepA w5 (SurvF s mb a) a10:=fun y hy=>by
  rcases hnew5 y hy with ⟨y0,h1,h2⟩|⟨h1,h2⟩
  ·have h3:=hs84 y0 h1;rw [h2] at h3;exact ⟨by have:=b5.size;omega,h3.2⟩
  ·exact ⟨h2,fun hf=>by have:=hS4.lt _ hf;omega⟩
 have hqS5:=hqS4.next b5
 have hnF:∀ a',(∀ k,BlkOf a' k→BlkOf a k∨w0.heap.size≤k∧k≠w1.heap.size)→¬ SurvF s mb a' w1.heap.size:=fun a' ha' hf=>by
  have s1:=b1.size
  rcases hf with hf|hf|hf
  ·have:=hS.sv.lt;omega
  ·have:=hS.map.lt;omega
  ·rcases ha' _ hf with h|h
   ·have:=(ownsRow_blk hS.own _ h).2;omega
   ·exact h.2 rfl
 have hnF1:¬ SurvF s mb a w1.heap.size:=hnF a fun k hk=>.inl hk
 by_cases hv:vl=0#64
 ·have hv':(vl != 0#64)=false:=by simp [hv]
  simp -implicitDefEqProofs [go_sem,hnode4.cell,hN0,hr5,c52,hlk5,hc1,hc2,hnode5.cell,hN1,hv',hN3];have hown:own (ah++pr) vl=[]:=by rw [hv,own_zero]
  have hSL:Surv w5 b p s x mb base (n+1) (I++own (ah++pr) vl) (addF [o] f) a cap:=by rw [hown,List.append_nil];exact hS5
  have tL:=t5;have hnodeL:=hnode5;have hqL:=hqS5;have h10L:=h105;have hs10L:=hs105;have hnFL:=hnF1;obtain ⟨wL,hwL⟩:∃ wL,wL=w5:=⟨_,rfl⟩;obtain ⟨aL,haL⟩:∃ aL,aL=a:=⟨_,rfl⟩;obtain ⟨capL,hcapL⟩:∃ capL,capL=cap:=⟨_,rfl⟩;have tL:Turn w0 (SurvF s mb a) wL (SurvF s mb aL):=by rw [hwL,haL];exact tL
  rw [← hwL] at hSL hnodeL hqL h10L hs10L ⊢;rw [← haL] at hSL hqL hs10L hnFL;rw [← hcapL] at hSL;refine wpE_loop (fun e' w'=>∃ (l r:Ks) (a':Option Addr) (cap':Nat),ks=l.app r∧e' 0=.pointer (some ⟨s,0,none⟩)∧e' 7=.pointer (some ⟨w1.heap.size,0,none⟩)∧e' 10=.slice a10 (ah.length+pr.length) c10∧e' 82=.slice q.a3 nv.kids.length q.c3∧e' 83=.int .i64 (nv.kids.length:Int)∧e' 84=.int .i64 (l.len:Int) ∧
   Surv w' b p s x mb base (n+1+l.nodes.length) (I++own (ah++pr) vl++l.items (ah++pr)) (addF l.nodes (addF [o] f)) a' cap'∧Turn wL (SurvF s mb aL) w' (SurvF s mb a')) (fun e' _=>nv.kids.length-(intOf (e' 84)).toNat) ?_ ?_
  ·refine ⟨.nil,ks,aL,capL,rfl,?_⟩;simp -implicitDefEqProofs [go_sem,Ks.len,Ks.nodes,Ks.items,addF_nil];exact ⟨hSL,Turn.of (Below.refl _ _)⟩
  ·rintro e' w9 ⟨l,r,a',cap',hlr,g0,g7,g10,g82,g83,g84,hS9,t9⟩;have hnode9:=hnodeL.mod t9.mod hnFL;have hq9:=hqL.turn t9;have h109:=h10L.turn hs10L t9;have hs109:=hs10L.turn t9;have hkl:nv.kids.length=ks.len:=by rw [hnv];exact offs_len ks
   have hll:nv.labels.length=ks.len:=by rw [hnv];exact labels_len ks
   have hk16:ks.len≤16:=by rw [← hkl];exact hNd.right.many16
   cases r with
   | nil =>
    rw [app_nil] at hlr;subst hlr;rw [hkl] at g82 g83;simp -implicitDefEqProofs [go_sem,g0,g7,g10,g82,g83,g84];refine body_tmp 6 rfl ?_;simp -implicitDefEqProofs [go_sem];have e1:n+1+ks.nodes.length=n+(Tr.nd o pr vl ks).nodes.length:=by rw [hnodes,List.length_cons];omega
    have e2:I++own (ah++pr) vl++ks.items (ah++pr)=I++(Tr.nd o pr vl ks).items ah:=by rw [items_nd,List.append_assoc]
    have e3:addF ks.nodes (addF [o] f)=addF (Tr.nd o pr vl ks).nodes f:=by rw [addF_app,hnodes];rfl
    rw [e1,e2,e3] at hS9;exact ⟨a',⟨cap',hS9⟩,tL.trans t9⟩
   | cons y kt r' =>
    have hlen:ks.len=l.len+(r'.len+1):=by rw [hlr,app_len];rfl
    have hlt:l.len<nv.kids.length:=by omega
    have hlt':(l.len:Int)<(nv.kids.length:Int):=by omega
    have hltl:l.len<nv.labels.length:=by omega
    have hky:nv.kids[l.len]=nameW kt.off:=by
     have h1:nv.kids=l.offs++nameW kt.off::r'.offs:=by rw [hnv];show ks.offs=_;rw [hlr,app_offs];rfl
     have h2:=offs_len l;simp only [h1];rw [List.getElem_append_right (by omega)];simp [h2]
    have hly:nv.labels[l.len]=y:=by
     have h1:nv.labels=l.labels++y::r'.labels:=by rw [hnv];show ks.labels=_;rw [hlr,app_labels];rfl
     have h2:=labels_len l;simp only [h1];rw [List.getElem_append_right (by omega)];simp [h2]
    obtain ⟨kb,ko,hka,hkc⟩:=hq9.in_.kid.at_.cell hlt;obtain ⟨lb,lo,hla,hlc⟩:=hq9.in_.lab.at_.cell hltl;rw [hky] at hkc;rw [hly] at hlc;rw [hka] at g82;simp -implicitDefEqProofs [go_sem,g0,g7,g10,g82,g83,g84,hlt,hlt',hkc];refine dMix [.pure 0,.pure 1,.pure 2,.pure 3,.pure 4,.pure 5,.pure 6,.pure 8,.pure 10,.take 7,.run 9 [7],.pure 11,.run 12 [7],.run 13 [7],.run 14 [],.run 15 [],.pure 16] mixed ?_;have bd9:=(Below.refl w9.heap.size w9).drew;generalize World.drew w9=w10 at *
    have hS10:=hS9.next bd9
    have hnode10:=hnode9.next bd9
    have h1010:=h109.next bd9
    have hs1010:=hs109.next bd9
    have hlc10:=hlc;obtain ⟨lb',lo',hla',hlc'⟩:=(hq9.next bd9).in_.lab.at_.cell hltl;rw [hla] at hla';obtain ⟨rfl,rfl⟩:lb=lb'∧lo=lo':=by simpa using hla'
    rw [hly] at hlc';have hN2':(q.cs nv)[2]?=some (.slice (some ⟨lb,lo,none⟩) nv.labels.length q.c2):=by rw [hN2,hla]
    have hltl':(l.len:Int)<(nv.labels.length:Int):=by omega
    have hl10:(ah.length:Int)+(pr.length:Int)≤c10:=by have:=h1010.le;rw [List.length_append] at this;omega
    have hl10':ah.length+pr.length≤c10:=by have:=h1010.le;rw [List.length_append] at this;omega
    have bA10:=(Below.refl w10.heap.size w10).alloc (Nat.le_refl _) (.cells #[.int .u8 (uv y)] 5);have hB10:=Blk.new w10 #[.int .u8 (uv y)] 5;have hin1:SlIn .u8 (w10.alloc (.cells #[.int .u8 (uv y)] 5)) (some ⟨w10.heap.size,0,none⟩) [y] 1:=⟨slAt_blk hB10 (fun i hi=>by
     have:i=0:=by simpa using hi
     subst this;rfl),by simp,by decide,fun h=>by cases h⟩
    obtain ⟨a11,c11,w11,hr11,h11,b11,hnew11⟩:=append_full (h1010.next bA10) hin1 (by rw [List.length_append,List.length_singleton];omega) (fun e=>List.eq_nil_of_length_eq_zero (by have:=h109.nil e;have:=h109.le;omega));rw [List.length_append,List.length_singleton] at hr11;have hp0:(0:Int)≤(ah.length:Int)+(pr.length:Int):=by omega
    have htn:((ah.length:Int)+(pr.length:Int)).toNat=ah.length+pr.length:=by omega
    have hmx:max ((ah.length:Int)+(pr.length:Int)) 0=(ah.length:Int)+(pr.length:Int):=by omega
    simp -implicitDefEqProofs [go_sem,g0,g7,g10,hl10,hl10'];refine onTake_of (fun _=>True) (.slice a10 (ah.length+pr.length) (ah.length+pr.length)) trivial (fun w' _=>by
     rcases Option.eq_none_or_eq_some a10 with e|⟨z,e⟩
     ·have e3:=h109.nil e;subst e3;have e4:ah.length=0∧pr.length=0:=by omega
      simp -implicitDefEqProofs [go_sem,e,e4.1,e4.2]
     ·subst e;simp -implicitDefEqProofs [go_sem,hl10,hl10',addr_zero,hp0,htn,hmx]) ?_
    simp -implicitDefEqProofs [go_sem,g0,g7,g10,hnode10.cell,hN2',hltl,hltl',hlc',hr11];have b911:Below w9.heap.size w9 w11:=(btr bd9 bA10).trans (b11.mono (by have:=bd9.size;have:=bA10.size;omega));have b1011:=btr bA10 b11;have hS11:=hS10.next b1011
    have t11:=(tL.trans t9).trans (Turn.of b911);have hPd11:=hPd.mod t11.mod hG;have hG11:∀ k,G k→¬ SurvF s mb a' k:=fun k hk=>out_turn (hG k hk) (hPd.lt k hk) t11
    have hkn:ks.nodes=l.nodes++(kt.nodes++r'.nodes):=by rw [hlr,app_nodes,Ks.nodes]
    rw [hnodes,hkn] at hnd;have hd1:=List.nodup_cons.1 hnd;have hd2:=List.nodup_append.1 hd1.2;have hd3:=List.nodup_append.1 hd2.2.1;have hks:=(at_nd.1 hA).2;have hkA:=ksAt hlr hks;have hkO:y.toNat<16∧kt.Ok (ah++pr++[y]):=by
     have h1:=hok.2.2.2.2.2;rw [hlr,app_ok,Ks.Ok] at h1;exact ⟨h1.2.1,h1.2.2.1⟩
    rw [hnodes,hkn,List.length_cons,List.length_append,List.length_append] at hI hn hN;have hIl:(I++own (ah++pr) vl++l.items (ah++pr)).length+kt.nodes.length≤1000:=by
     have h1:(own (ah++pr) vl).length≤1:=by unfold own;split<;>simp
     have h2:=kitems_le (ah++pr) l;rw [List.length_append,List.length_append];omega
    have hs11:SepA w11 (SurvF s mb a') a11:=fun z hz=>by
     rcases hnew11 z hz with ⟨z0,h1,h2⟩|⟨h1,h2⟩
     ·have h3:=hs1010 z0 h1;rw [h2] at h3;exact ⟨by have:=b1011.size;omega,h3.2⟩
     ·exact ⟨h2,fun hf=>by have:=hS10.lt _ hf;have:=bA10.size;omega⟩
    have hih:=ih kt.nodes.length (by omega) kt (ah++pr++[y]) a11 c11 (I++own (ah++pr) vl++l.items (ah++pr)) (addF l.nodes (addF [o] f)) (n+1+l.nodes.length) a' cap' w11 (Nat.le_refl _) hS11 hPd11 hr hG11 hkA hkO.2 hd3.1
     (fun z hz=>by
      rw [addF_not (fun h=>hd2.2.2 z h z (List.mem_append_left _ hz) rfl),addF_not (fun h=>by
       rw [List.mem_singleton] at h;exact hd1.1 (h▸List.mem_append_right _ (List.mem_append_left _ hz)))]
      exact hf z (by rw [hnodes,hkn];exact List.mem_cons_of_mem _ (List.mem_append_right _ (List.mem_append_left _ hz))))
     h11 hs11 (fun e=>List.eq_nil_of_length_eq_zero (by have:=h11.nil e;have:=h11.le;omega)) (fun z hz=>by
      rcases List.mem_append.1 hz with hz|hz
      ·exact hall z hz
      ·rw [List.mem_singleton] at hz;rw [hz];exact hkO.1) hIl (by omega)
    rw [List.length_append,List.length_append,List.length_singleton] at hih;refine callE_of hih ?_;rintro v w12 ⟨rfl,a12,cap12,hS12,t12⟩;simp -implicitDefEqProofs [go_sem,g0,g7,g10,g82,g83,g84];have i2:=IntWalk.i64_in ((l.len:Int)+1) (by omega);refine goE_round ⟨l.app (.cons y kt .nil),r',a12,cap12,?_,?_⟩ ?_
    ·rw [hlr];exact (ks_assoc l y kt r').symm
    ·rw [app_len,app_nodes,app_items,Ks.len,Ks.len,Ks.nodes,Ks.nodes,Ks.items,Ks.items,List.append_nil,List.append_nil];simp -implicitDefEqProofs [go_sem,g0,g7,g10,g82,g83,g84,i2];refine ⟨hka.symm▸rfl,?_,?_⟩
     ·simp only [List.append_assoc] at hS12;rw [addF_app,Nat.add_assoc (n+1)] at hS12;exact hS12
     ·exact t9.trans ((Turn.of b911).trans t12)
    ·simp -implicitDefEqProofs [go_sem,g84,intOf,i2];omega
 ·have hv':(vl != 0#64)=true:=by simpa using hv
  have hev:=hok.2.2.2.1 hv;simp -implicitDefEqProofs [go_sem,hnode4.cell,hN0,hr5,c52,hlk5,hc1,hc2,hnode5.cell,hN1,hv',hN3];have hkc:=nibKey_calls a10 (ah++pr) c10 w5 h105 (by rw [List.length_append];omega) hev hall;rw [List.length_append] at hkc;refine callE_of hkc ?_;rintro v w6 ⟨rfl,b6⟩;simp -implicitDefEqProofs [go_sem];refine dMix [.pure 0,.pure 1,.pure 2,.pure 3,.pure 5,.pure 6,.take 4,.run 7 [4],.run 8 [4],.run 9 [4],.run 10 [],.pure 11,.pure 12,.run 13 []] mixed ?_
  have b57:Below w5.heap.size w5 (World.drew w6):=b6.drew;generalize World.drew w6=w7 at *;have hS7:=hS5.next b57
  have hnode7:=hnode5.next b57
  obtain ⟨g,c2',w8,hr8,hsv8,hS8,t8⟩:=hS7.push (by omega) (ah++pr,vl);have bA7:=(Below.refl w7.heap.size w7).alloc (Nat.le_refl _) (.cells (kit (ah++pr,vl)) 149);have hSA:=hS7.next bA7
  obtain ⟨S,hSd⟩:∃ S:World→Prop,S=fun w'=>Blk w' s #[.pointer (some ⟨x,0,none⟩),.slice a I.length cap,.map (some mb)] 199:=⟨_,rfl⟩
  have hS7':S w7:=by rw [hSd];exact hS7.sv
  have hSA':S (w7.alloc (.cells (kit (ah++pr,vl)) 149)):=by rw [hSd];exact hSA.sv
  have hSc:∀ w',S w'→w'.cell? ⟨s,1,none⟩=some (.slice a I.length cap):=fun w' h=>by rw [hSd] at h;exact h.cell 1
  have hkit:kit (ah++pr,vl)=#[.string (keyS (ah++pr)),.int .u64 (uv vl)]:=rfl;rw [hkit] at hr8 hSA';simp -implicitDefEqProofs [go_sem];refine onTake_of S (.slice a I.length cap) hS7' (fun w' hw=>by simp -implicitDefEqProofs [go_sem,hSc w' hw]) ?_;have hown:own (ah++pr) vl=[(ah++pr,vl)]:=own_pos _ hv;have hSL:=hS8;rw [← hown] at hSL;have s15:w1.heap.size<w5.heap.size:=hnode5.lt;have t57:Turn w5 (SurvF s mb a) w7 (SurvF s mb a):=Turn.of b57;have t58:=t57.trans t8;have tL:=t5.trans t58
  have hgF:¬ BlkOf (some ⟨g,0,none⟩) w1.heap.size:=fun ⟨y,hy,hk⟩=>by
   obtain rfl:=Option.some.inj hy;have hk:g=w1.heap.size:=hk
   rcases t58.new g (.inr (.inr ⟨_,rfl,rfl⟩)) with h|h
   ·exact hnF1 (hk▸h)
   ·omega
  have hnFL:¬ SurvF s mb (some ⟨g,0,none⟩) w1.heap.size:=fun hf=>by
   rcases hf with hf|hf|hf
   ·exact hnF1 (.inl hf)
   ·exact hnF1 (.inr (.inl hf))
   ·exact hgF hf
  have hnodeL:=hnode5.mod t58.mod hnF1;have hqL:=hqS5.turn t58;have h10L:=h105.turn hs105 t58;have hs10L:=hs105.turn t58;simp -implicitDefEqProofs [go_sem,hnode7.cell,hN1,hr8,hsv8.cell,hsv8.thaw,hnodeL.cell,hN3];refine ⟨.inr hSA',?_⟩;generalize World.setCell w8 _ _=wL at *;obtain ⟨aL,haL⟩:∃ aL:Option Addr,aL=some ⟨g,0,none⟩:=⟨_,rfl⟩;obtain ⟨capL,hcapL⟩:∃ capL,capL=c2':=⟨_,rfl⟩;rw [← haL] at hSL hqL hs10L hnFL tL;rw [← hcapL] at hSL
  refine wpE_loop (fun e' w'=>∃ (l r:Ks) (a':Option Addr) (cap':Nat),ks=l.app r∧e' 0=.pointer (some ⟨s,0,none⟩)∧e' 7=.pointer (some ⟨w1.heap.size,0,none⟩)∧e' 10=.slice a10 (ah.length+pr.length) c10∧e' 82=.slice q.a3 nv.kids.length q.c3∧e' 83=.int .i64 (nv.kids.length:Int)∧e' 84=.int .i64 (l.len:Int) ∧
   Surv w' b p s x mb base (n+1+l.nodes.length) (I++own (ah++pr) vl++l.items (ah++pr)) (addF l.nodes (addF [o] f)) a' cap'∧Turn wL (SurvF s mb aL) w' (SurvF s mb a')) (fun e' _=>nv.kids.length-(intOf (e' 84)).toNat) ?_ ?_
  ·refine ⟨.nil,ks,aL,capL,rfl,?_⟩;simp -implicitDefEqProofs [go_sem,Ks.len,Ks.nodes,Ks.items,addF_nil];exact ⟨hSL,Turn.of (Below.refl _ _)⟩
  ·rintro e' w9 ⟨l,r,a',cap',hlr,g0,g7,g10,g82,g83,g84,hS9,t9⟩;have hnode9:=hnodeL.mod t9.mod hnFL;have hq9:=hqL.turn t9;have h109:=h10L.turn hs10L t9;have hs109:=hs10L.turn t9;have hkl:nv.kids.length=ks.len:=by rw [hnv];exact offs_len ks
   have hll:nv.labels.length=ks.len:=by rw [hnv];exact labels_len ks
   have hk16:ks.len≤16:=by rw [← hkl];exact hNd.right.many16
   cases r with
   | nil =>
    rw [app_nil] at hlr;subst hlr;rw [hkl] at g82 g83;simp -implicitDefEqProofs [go_sem,g0,g7,g10,g82,g83,g84];refine body_tmp 6 rfl ?_;simp -implicitDefEqProofs [go_sem];have e1:n+1+ks.nodes.length=n+(Tr.nd o pr vl ks).nodes.length:=by rw [hnodes,List.length_cons];omega
    have e2:I++own (ah++pr) vl++ks.items (ah++pr)=I++(Tr.nd o pr vl ks).items ah:=by rw [items_nd,List.append_assoc]
    have e3:addF ks.nodes (addF [o] f)=addF (Tr.nd o pr vl ks).nodes f:=by rw [addF_app,hnodes];rfl
    rw [e1,e2,e3] at hS9;exact ⟨a',⟨cap',hS9⟩,tL.trans t9⟩
   | cons y kt r' =>
    have hlen:ks.len=l.len+(r'.len+1):=by rw [hlr,app_len];rfl
    have hlt:l.len<nv.kids.length:=by omega
    have hlt':(l.len:Int)<(nv.kids.length:Int):=by omega
    have hltl:l.len<nv.labels.length:=by omega
    have hky:nv.kids[l.len]=nameW kt.off:=by
     have h1:nv.kids=l.offs++nameW kt.off::r'.offs:=by rw [hnv];show ks.offs=_;rw [hlr,app_offs];rfl
     have h2:=offs_len l;simp only [h1];rw [List.getElem_append_right (by omega)];simp [h2]
    have hly:nv.labels[l.len]=y:=by
     have h1:nv.labels=l.labels++y::r'.labels:=by rw [hnv];show ks.labels=_;rw [hlr,app_labels];rfl
     have h2:=labels_len l;simp only [h1];rw [List.getElem_append_right (by omega)];simp [h2]
    obtain ⟨kb,ko,hka,hkc⟩:=hq9.in_.kid.at_.cell hlt;obtain ⟨lb,lo,hla,hlc⟩:=hq9.in_.lab.at_.cell hltl;rw [hky] at hkc;rw [hly] at hlc;rw [hka] at g82;simp -implicitDefEqProofs [go_sem,g0,g7,g10,g82,g83,g84,hlt,hlt',hkc];refine dMix [.pure 0,.pure 1,.pure 2,.pure 3,.pure 4,.pure 5,.pure 6,.pure 8,.pure 10,.take 7,.run 9 [7],.pure 11,.run 12 [7],.run 13 [7],.run 14 [],.run 15 [],.pure 16] mixed ?_;have bd9:=(Below.refl w9.heap.size w9).drew;generalize World.drew w9=w10 at *
    have hS10:=hS9.next bd9
    have hnode10:=hnode9.next bd9
    have h1010:=h109.next bd9
    have hs1010:=hs109.next bd9
    have hlc10:=hlc;obtain ⟨lb',lo',hla',hlc'⟩:=(hq9.next bd9).in_.lab.at_.cell hltl;rw [hla] at hla';obtain ⟨rfl,rfl⟩:lb=lb'∧lo=lo':=by simpa using hla'
    rw [hly] at hlc';have hN2':(q.cs nv)[2]?=some (.slice (some ⟨lb,lo,none⟩) nv.labels.length q.c2):=by rw [hN2,hla]
    have hltl':(l.len:Int)<(nv.labels.length:Int):=by omega
    have hl10:(ah.length:Int)+(pr.length:Int)≤c10:=by have:=h1010.le;rw [List.length_append] at this;omega
    have hl10':ah.length+pr.length≤c10:=by have:=h1010.le;rw [List.length_append] at this;omega
    have bA10:=(Below.refl w10.heap.size w10).alloc (Nat.le_refl _) (.cells #[.int .u8 (uv y)] 5);have hB10:=Blk.new w10 #[.int .u8 (uv y)] 5;have hin1:SlIn .u8 (w10.alloc (.cells #[.int .u8 (uv y)] 5)) (some ⟨w10.heap.size,0,none⟩) [y] 1:=⟨slAt_blk hB10 (fun i hi=>by
     have:i=0:=by simpa using hi
     subst this;rfl),by simp,by decide,fun h=>by cases h⟩
    obtain ⟨a11,c11,w11,hr11,h11,b11,hnew11⟩:=append_full (h1010.next bA10) hin1 (by rw [List.length_append,List.length_singleton];omega) (fun e=>List.eq_nil_of_length_eq_zero (by have:=h109.nil e;have:=h109.le;omega));rw [List.length_append,List.length_singleton] at hr11;have hp0:(0:Int)≤(ah.length:Int)+(pr.length:Int):=by omega
    have htn:((ah.length:Int)+(pr.length:Int)).toNat=ah.length+pr.length:=by omega
    have hmx:max ((ah.length:Int)+(pr.length:Int)) 0=(ah.length:Int)+(pr.length:Int):=by omega
    simp -implicitDefEqProofs [go_sem,g0,g7,g10,hl10,hl10'];refine onTake_of (fun _=>True) (.slice a10 (ah.length+pr.length) (ah.length+pr.length)) trivial (fun w' _=>by
     rcases Option.eq_none_or_eq_some a10 with e|⟨z,e⟩
     ·have e3:=h109.nil e;subst e3;have e4:ah.length=0∧pr.length=0:=by omega
      simp -implicitDefEqProofs [go_sem,e,e4.1,e4.2]
     ·subst e;simp -implicitDefEqProofs [go_sem,hl10,hl10',addr_zero,hp0,htn,hmx]) ?_
    simp -implicitDefEqProofs [go_sem,g0,g7,g10,hnode10.cell,hN2',hltl,hltl',hlc',hr11];have b911:Below w9.heap.size w9 w11:=(btr bd9 bA10).trans (b11.mono (by have:=bd9.size;have:=bA10.size;omega));have b1011:=btr bA10 b11;have hS11:=hS10.next b1011
    have t11:=(tL.trans t9).trans (Turn.of b911);have hPd11:=hPd.mod t11.mod hG;have hG11:∀ k,G k→¬ SurvF s mb a' k:=fun k hk=>out_turn (hG k hk) (hPd.lt k hk) t11
    have hkn:ks.nodes=l.nodes++(kt.nodes++r'.nodes):=by rw [hlr,app_nodes,Ks.nodes]
    rw [hnodes,hkn] at hnd;have hd1:=List.nodup_cons.1 hnd;have hd2:=List.nodup_append.1 hd1.2;have hd3:=List.nodup_append.1 hd2.2.1;have hks:=(at_nd.1 hA).2;have hkA:=ksAt hlr hks;have hkO:y.toNat<16∧kt.Ok (ah++pr++[y]):=by
     have h1:=hok.2.2.2.2.2;rw [hlr,app_ok,Ks.Ok] at h1;exact ⟨h1.2.1,h1.2.2.1⟩
    rw [hnodes,hkn,List.length_cons,List.length_append,List.length_append] at hI hn hN;have hIl:(I++own (ah++pr) vl++l.items (ah++pr)).length+kt.nodes.length≤1000:=by
     have h1:(own (ah++pr) vl).length≤1:=by unfold own;split<;>simp
     have h2:=kitems_le (ah++pr) l;rw [List.length_append,List.length_append];omega
    have hs11:SepA w11 (SurvF s mb a') a11:=fun z hz=>by
     rcases hnew11 z hz with ⟨z0,h1,h2⟩|⟨h1,h2⟩
     ·have h3:=hs1010 z0 h1;rw [h2] at h3;exact ⟨by have:=b1011.size;omega,h3.2⟩
     ·exact ⟨h2,fun hf=>by have:=hS10.lt _ hf;have:=bA10.size;omega⟩
    have hih:=ih kt.nodes.length (by omega) kt (ah++pr++[y]) a11 c11 (I++own (ah++pr) vl++l.items (ah++pr)) (addF l.nodes (addF [o] f)) (n+1+l.nodes.length) a' cap' w11 (Nat.le_refl _) hS11 hPd11 hr hG11 hkA hkO.2 hd3.1
     (fun z hz=>by
      rw [addF_not (fun h=>hd2.2.2 z h z (List.mem_append_left _ hz) rfl),addF_not (fun h=>by
       rw [List.mem_singleton] at h;exact hd1.1 (h▸List.mem_append_right _ (List.mem_append_left _ hz)))]
      exact hf z (by rw [hnodes,hkn];exact List.mem_cons_of_mem _ (List.mem_append_right _ (List.mem_append_left _ hz))))
     h11 hs11 (fun e=>List.eq_nil_of_length_eq_zero (by have:=h11.nil e;have:=h11.le;omega)) (fun z hz=>by
      rcases List.mem_append.1 hz with hz|hz
      ·exact hall z hz
      ·rw [List.mem_singleton] at hz;rw [hz];exact hkO.1) hIl (by omega)
    rw [List.length_append,List.length_append,List.length_singleton] at hih;refine callE_of hih ?_;rintro v w12 ⟨rfl,a12,cap12,hS12,t12⟩;simp -implicitDefEqProofs [go_sem,g0,g7,g10,g82,g83,g84];have i2:=IntWalk.i64_in ((l.len:Int)+1) (by omega);refine goE_round ⟨l.app (.cons y kt .nil),r',a12,cap12,?_,?_⟩ ?_
    ·rw [hlr];exact (ks_assoc l y kt r').symm
    ·rw [app_len,app_nodes,app_items,Ks.len,Ks.len,Ks.nodes,Ks.nodes,Ks.items,Ks.items,List.append_nil,List.append_nil];simp -implicitDefEqProofs [go_sem,g0,g7,g10,g82,g83,g84,i2];refine ⟨hka.symm▸rfl,?_,?_⟩
     ·simp only [List.append_assoc] at hS12;rw [addF_app,Nat.add_assoc (n+1)] at hS12;exact hS12
     ·exact t9.trans ((Turn.of b911).trans t12)
    ·simp -implicitDefEqProofs [go_sem,g84,intOf,i2];omega
end
end
end
section
open Go Go.RowKit
open TR
theorem nodup_lt:∀ (n:Nat) (l:List Nat),l.Nodup→(∀ y∈l,y<n)→l.length≤n
 | 0,l,_,h=>by
  cases l with
  | nil=>simp
  | cons y l=>have:=h y List.mem_cons_self;omega
 | n+1,l,hn,h=>by
  have ih:=nodup_lt n (l.erase n) (hn.sublist List.erase_sublist) fun y hy=>by
   have h1:=h y (List.mem_of_mem_erase hy);have h2:y≠n:=fun e=>by
    subst e;exact (List.Nodup.not_mem_erase hn) hy
   omega
  by_cases hm:n∈l
  ·rw [List.length_erase_of_mem hm] at ih;omega
  ·rw [List.erase_of_not_mem hm] at ih;omega
section
variable {w w':World} {m b p s x mb base cap:Nat} {V:PV} {G G' F:Nat→Prop} {o:Option Tr} {X:List Nat}
theorem blocks_len {L:List Nat}(hm:m=6∨m=24)(hn:L.Nodup)(h:∀ y∈L,0<Bk m V ((y:Nat):Int)):L.length≤400:=by
 have zf:=sz hm;have key:∀ y∈L,y%64=0∧y/64<nL m:=fun y hy=>by
  obtain ⟨n,e,h1,h2,h3,_⟩:=bk_in hm (h y hy);have:=h y hy;omega
 have h2:=nodup_lt (nL m) (L.map (· / 64)) (by
  refine List.pairwise_map.2 (hn.imp_of_mem fun {a b} ha hb hab e=>?_);have:=(key a ha).1;have:=(key b hb).1
  omega) fun y hy=>by
   obtain ⟨z,hz,rfl⟩:=List.mem_map.1 hy;exact (key z hz).2
 rw [List.length_map] at h2;omega
theorem Own.len (h:Own m V o X)(hm:m=6∨m=24):(nodesO o).length+X.length≤400:=by
 rw [← List.length_append];exact blocks_len hm h.nd fun y hy=>(h.all y).2 hy
def SurvP (b p x:Nat)(o:Option Tr)(w0:World)(v:Value)(w':World):Prop :=
 ∃ s mb n a cap,v=.tuple #[.pointer (some ⟨s,0,none⟩),.int .i64 0]∧Surv w' b p s x mb w0.heap.size n (itemsO o) (addF (nodesO o) fun _=>0) a cap∧w0.heap.size≤s∧w0.heap.size≤mb∧n≤400∧Below w0.heap.size w0 w'
theorem itemsO_le (o:Option Tr):(itemsO o).length≤(nodesO o).length:=by
 cases o with
 | none=>exact Nat.le_refl _
 | some T=>exact titems_le [] T
set_option maxHeartbeats 4000000
theorem survey_calls (x:Nat)(w0:World)(h:Pd w0 m V b p G)(hm:m=6∨m=24)(hx:Blk w0 x (IxC p b) 178)(hO:Own m V o X) :
  Ret Tryz.prog 94 #[.pointer (some ⟨x,0,none⟩)] w0 fun v w'=>SurvP b p x o w0 v w':=by
 have bel0:=Below.refl w0.heap.size w0;have zf:=sz hm;have hr:=hO.rest;have hT:=hO.tree;have hx0:=hx;have h0:=h;refine ret_of (args:=[_]) _ Tryz.func94 rfl Tryz.ntmps94 (by simp) ?_;simp -implicitDefEqProofs [go_sem];refine callE_of (idxAsk_calls x ⟨#[]⟩ w0 hx (by decide)) ?_;rintro v w1 ⟨rfl,rfl⟩;simp -implicitDefEqProofs [go_sem,run_makeMap];have hM2:=mapI_made w1;have bA:=(Below.refl w1.heap.size w1).alloc (Nat.le_refl _) (.map #[] 0)
 have sA:(w1.alloc (.map #[] 0)).heap.size=w1.heap.size+1:=by simp
 generalize w1.alloc (.map #[] 0)=w2 at *;replace h:=h.next bA
 replace hx:=hx.next bA
 have bel2:=bel0.trans bA;generalize hw3:World.alloc w2 _=w3 at *;obtain ⟨hB3,b3,sz3,bel3⟩:=newF hw3 bel2;replace h:=h.next b3
 replace hx:=hx.next b3
 replace hM2:=hM2.next b3
 rw [sA] at hB3;have hxlt:=hx0.lt;have hS3:Surv w3 b p (w1.heap.size+1) x w1.heap.size w1.heap.size 0 [] (fun _=>0) none 0:=⟨hB3,hx,World.ownsRow_nil _ _ _ _,hM2,bel3.size,by omega,by omega,by omega,fun ⟨y,hy,_⟩=>(by cases hy),fun ⟨y,hy,_⟩=>(by cases hy),fun ⟨y,hy,_⟩=>(by cases hy)⟩;have hG3:∀ k,G k→¬ SurvF (w1.heap.size+1) w1.heap.size none k:=fun k hk hf=>by
  have:=h0.lt k hk
  rcases hf with hf|hf|⟨y,hy,_⟩
  ·omega
  ·omega
  ·cases hy
 refine callE_of (idxRoot_calls x w3 h hr hm hx) ?_;rintro v w4 ⟨rfl,b4⟩;have bel4:=btr bel3 b4;replace h:=h.next b4
 replace hx:=hx.next b4
 replace hS3:=hS3.next b4
 cases o with
 | none =>
  rw [show V.D.word 72=0#64 from hT.root];simp -implicitDefEqProofs [go_sem];refine body_tmp2 2 3 rfl ?_;simp -implicitDefEqProofs [go_sem];exact ⟨_,_,0,none,0,rfl,by rw [show addF (nodesO none) (fun _=>0)=fun _=>0 from addF_nil _];exact hS3,by omega,Nat.le_refl _,by omega,bel4⟩
 | some T =>
  obtain ⟨To,Tp,Tv,Tk⟩:=T;have hA:=hT.at_ _ rfl;have hok:=hT.ok _ rfl;obtain ⟨n1,n2,n3,n4⟩:=(at_nd.1 hA).1.in_ hm;have hne:(nameW To != 0#64)=true:=by simpa using name_ne (o:=To) (by omega) (by omega)
  have hnl:=hO.len hm;have hnd:=(List.nodup_append.1 hO.nd).1;have hnl:(Tr.nd To Tp Tv Tk).nodes.length+X.length≤400:=hnl;rw [show V.D.word 72=nameW To from hT.root];simp -implicitDefEqProofs [go_sem,hne];have hv:=visit_calls (m:=m) (V:=V) (b:=b) (p:=p) (s:=w1.heap.size+1) (x:=x) (mb:=w1.heap.size) (base:=w1.heap.size) hm (Tr.nd To Tp Tv Tk).nodes.length (.nd To Tp Tv Tk) [] none 0 [] (fun _=>0) 0 none 0 w4 (Nat.le_refl _) hS3 h hr hG3 hA hok hnd (fun _ _=>rfl)
   ⟨.inl rfl,Nat.le_refl _,Nat.zero_le _,fun _=>rfl⟩ (fun y hy=>by cases hy) (fun _=>rfl) (fun y hy=>by cases hy) (by simp;omega) (by omega)
  refine callE_of hv ?_;rintro v w5 ⟨rfl,a5,cap5,hS5,t5⟩;simp -implicitDefEqProofs [go_sem];refine body_tmp2 2 3 rfl ?_;simp -implicitDefEqProofs [go_sem];have hb5:Below w1.heap.size w1 w5:=bel4.trans (t5.mod.below bel4.size fun k hk=>by
   rcases hk with hk|hk|⟨y,hy,_⟩
   ·omega
   ·omega
   ·cases hy)
  rw [List.nil_append,Nat.zero_add] at hS5;exact ⟨_,_,_,a5,cap5,rfl,hS5,by omega,Nat.le_refl _,by omega,hb5⟩
theorem idxAll_calls (x:Nat)(w0:World)(h:Pd w0 m V b p G)(hm:m=6∨m=24)(hx:Blk w0 x (IxC p b) 178)(hO:Own m V o X) :
  Ret Tryz.prog 55 #[.pointer (some ⟨x,0,none⟩)] w0 fun v w'=>∃ a cap,v=.tuple #[.slice a (itemsO o).length cap,.int .i64 0]∧RIn w' 2 a ((itemsO o).map kit) cap∧(∀ y,a=some y→w0.heap.size≤y.block∧y.block<w'.heap.size)∧Below w0.heap.size w0 w':=by
 have bel0:=Below.refl w0.heap.size w0;refine ret_of (args:=[_]) _ Tryz.func55 rfl Tryz.ntmps55 (by simp) ?_;simp -implicitDefEqProofs [go_sem];refine callE_of (survey_calls x w0 h hm hx hO) ?_;rintro v w1 ⟨s,mb,n,a,cap,rfl,hS,hs,hmb,hn,b1⟩;have c1:=hS.sv.cell 1;simp at c1;simp -implicitDefEqProofs [go_sem,c1];refine body_tmp2 2 3 rfl ?_;simp -implicitDefEqProofs [go_sem];exact ⟨a,cap,⟨rfl,rfl⟩,owns_rin (kit_size _) (by simp) hS.own,fun y hy=>ownsRow_blk hS.own _ ⟨y,hy,rfl⟩,b1⟩
end
end
section
open Go Go.Shelf
def keysA_ren:Go.Shelf.Ren:=⟨fun|7=>121|10=>149|n=>n,fun|23=>197|26=>3|3=>3|28=>221|0=>0|27=>220|33=>110|4=>4|n=>n,fun|n=>n⟩
theorem keysA:Go.Proofs.SlLaysZI.n7 Tryz.prog keysA_ren:={
 mixed:=by kernel_rfl
 f7:=⟨Tryz.f121.name,by decide,Tryz.func121.trans (congrArg some (by kernel_rfl))⟩
 f10:=⟨Tryz.f149.name,by decide,Tryz.func149.trans (congrArg some (by kernel_rfl))⟩
 t0:=Tryz.underlying0
 a0:=Tryz.isAgg0
 z0:=Tryz.sizeOf0
 v0:=Tryz.zeroValue0
 t4:=Tryz.underlying4
 a4:=Tryz.isAgg4
 z4:=Tryz.sizeOf4
 v4:=Tryz.zeroValue4
 t23:=Tryz.underlying197
 a23:=Tryz.isAgg197
 z23:=Tryz.sizeOf197
 v23:=Tryz.zeroValue197
 t26:=Tryz.underlying3
 a26:=Tryz.isAgg3
 z26:=Tryz.sizeOf3
 v26:=Tryz.zeroValue3
 t27:=Tryz.underlying220
 a27:=Tryz.isAgg220
 z27:=Tryz.sizeOf220
 v27:=Tryz.zeroValue220
 t28:=Tryz.underlying221
 a28:=Tryz.isAgg221
 z28:=Tryz.sizeOf221
 v28:=Tryz.zeroValue221
 t33:=Tryz.underlying110
 a33:=Tryz.isAgg110
 z33:=Tryz.sizeOf110
 v33:=Tryz.zeroValue110 }
def sortedA_ren:Go.Shelf.Ren:=⟨fun|6=>120|8=>148|9=>87|11=>177|13=>126|12=>125|23=>159|24=>160|14=>151|15=>152|16=>153|17=>154|18=>155|19=>156|20=>135|21=>157|22=>158|25=>179|26=>180|27=>181|28=>182|29=>183|30=>171|31=>199|n=>n,fun|26=>3|28=>221|24=>45|0=>0|3=>3|37=>228|48=>167|50=>42|4=>4|40=>271|39=>270|45=>192|5=>5|9=>9|51=>299|55=>302|57=>317|58=>318|33=>110|n=>n,fun|n=>n⟩
theorem sortedA:Go.Proofs.SlLaysZI.n6 Tryz.prog sortedA_ren:={
 mixed:=by kernel_rfl
 f6:=⟨Tryz.f120.name,by decide,Tryz.func120.trans (congrArg some (by kernel_rfl))⟩
 f8:=⟨Tryz.f148.name,by decide,Tryz.func148.trans (congrArg some (by kernel_rfl))⟩
 f11:=⟨Tryz.f177.name,by decide,Tryz.func177.trans (congrArg some (by kernel_rfl))⟩
 t0:=Tryz.underlying0
 a0:=Tryz.isAgg0
 z0:=Tryz.sizeOf0
 v0:=Tryz.zeroValue0
 t24:=Tryz.underlying45
 a24:=Tryz.isAgg45
 z24:=Tryz.sizeOf45
 v24:=Tryz.zeroValue45
 t26:=Tryz.underlying3
 a26:=Tryz.isAgg3
 z26:=Tryz.sizeOf3
 v26:=Tryz.zeroValue3
 t28:=Tryz.underlying221
 a28:=Tryz.isAgg221
 z28:=Tryz.sizeOf221
 v28:=Tryz.zeroValue221
 i26:=by kernel_rfl }
def sortA_ren:Go.Shelf.Ren:=⟨fun|5=>87|8=>126|7=>125|19=>159|20=>160|10=>151|11=>152|12=>153|13=>154|14=>155|15=>156|16=>135|17=>157|18=>158|30=>179|31=>180|32=>181|33=>182|34=>183|35=>171|40=>199|n=>n,fun|23=>45|25=>3|3=>3|32=>228|22=>45|0=>0|44=>167|46=>42|4=>4|36=>271|35=>270|41=>192|5=>5|9=>9|53=>299|57=>302|63=>317|64=>318|n=>n,fun|n=>n⟩
theorem sortA:Go.Proofs.SlLaysM.n5 Tryz.prog sortA_ren:={
 mixed:=by kernel_rfl
 f5:=⟨Tryz.f87.name,by decide,Tryz.func87.trans (congrArg some (by kernel_rfl))⟩
 f7:=⟨Tryz.f125.name,by decide,Tryz.func125.trans (congrArg some (by kernel_rfl))⟩
 f8:=Tryz.func126.trans (congrArg some (by kernel_rfl))
 f10:=⟨Tryz.f151.name,by decide,Tryz.func151.trans (congrArg some (by kernel_rfl))⟩
 f11:=⟨Tryz.f152.name,by decide,Tryz.func152.trans (congrArg some (by kernel_rfl))⟩
 f12:=⟨Tryz.f153.name,by decide,Tryz.func153.trans (congrArg some (by kernel_rfl))⟩
 f13:=⟨Tryz.f154.name,by decide,Tryz.func154.trans (congrArg some (by kernel_rfl))⟩
 f14:=⟨Tryz.f155.name,by decide,Tryz.func155.trans (congrArg some (by kernel_rfl))⟩
 f15:=⟨Tryz.f156.name,by decide,Tryz.func156.trans (congrArg some (by kernel_rfl))⟩
 f16:=⟨Tryz.f135.name,by decide,Tryz.func135.trans (congrArg some (by kernel_rfl))⟩
 f17:=⟨Tryz.f157.name,by decide,Tryz.func157.trans (congrArg some (by kernel_rfl))⟩
 f18:=⟨Tryz.f158.name,by decide,Tryz.func158.trans (congrArg some (by kernel_rfl))⟩
 f19:=Tryz.func159.trans (congrArg some (by kernel_rfl))
 f20:=Tryz.func160.trans (congrArg some (by kernel_rfl))
 f30:=⟨Tryz.f179.name,by decide,Tryz.func179.trans (congrArg some (by kernel_rfl))⟩
 f31:=Tryz.func180.trans (congrArg some (by kernel_rfl))
 f32:=Tryz.func181.trans (congrArg some (by kernel_rfl))
 f33:=⟨Tryz.f182.name,by decide,Tryz.func182.trans (congrArg some (by kernel_rfl))⟩
 f34:=⟨Tryz.f183.name,by decide,Tryz.func183.trans (congrArg some (by kernel_rfl))⟩
 f35:=⟨Tryz.f171.name,by decide,Tryz.func171.trans (congrArg some (by kernel_rfl))⟩
 f40:=⟨Tryz.f199.name,by decide,Tryz.func199.trans (congrArg some (by kernel_rfl))⟩
 t0:=Tryz.underlying0
 a0:=Tryz.isAgg0
 z0:=Tryz.sizeOf0
 v0:=Tryz.zeroValue0
 t3:=Tryz.underlying3
 a3:=Tryz.isAgg3
 z3:=Tryz.sizeOf3
 v3:=Tryz.zeroValue3
 t4:=Tryz.underlying4
 a4:=Tryz.isAgg4
 z4:=Tryz.sizeOf4
 v4:=Tryz.zeroValue4
 t5:=Tryz.underlying5
 a5:=Tryz.isAgg5
 z5:=Tryz.sizeOf5
 v5:=Tryz.zeroValue5
 t9:=Tryz.underlying9
 a9:=Tryz.isAgg9
 z9:=Tryz.sizeOf9
 v9:=Tryz.zeroValue9
 t22:=Tryz.underlying45
 a22:=Tryz.isAgg45
 z22:=Tryz.sizeOf45
 v22:=Tryz.zeroValue45
 t23:=Tryz.underlying45
 a23:=Tryz.isAgg45
 z23:=Tryz.sizeOf45
 v23:=Tryz.zeroValue45
 t25:=Tryz.underlying3
 a25:=Tryz.isAgg3
 z25:=Tryz.sizeOf3
 v25:=Tryz.zeroValue3
 t32:=Tryz.underlying228
 a32:=Tryz.isAgg228
 z32:=Tryz.sizeOf228
 v32:=Tryz.zeroValue228
 t35:=Tryz.underlying270
 a35:=Tryz.isAgg270
 z35:=Tryz.sizeOf270
 v35:=Tryz.zeroValue270
 t36:=Tryz.underlying271
 a36:=Tryz.isAgg271
 z36:=Tryz.sizeOf271
 v36:=Tryz.zeroValue271
 t41:=Tryz.underlying192
 a41:=Tryz.isAgg192
 z41:=Tryz.sizeOf192
 v41:=Tryz.zeroValue192
 t44:=Tryz.underlying167
 a44:=Tryz.isAgg167
 z44:=Tryz.sizeOf167
 v44:=Tryz.zeroValue167
 t46:=Tryz.underlying42
 a46:=Tryz.isAgg42
 z46:=Tryz.sizeOf42
 v46:=Tryz.zeroValue42
 t53:=Tryz.underlying299
 a53:=Tryz.isAgg299
 z53:=Tryz.sizeOf299
 v53:=Tryz.zeroValue299
 t57:=Tryz.underlying302
 a57:=Tryz.isAgg302
 z57:=Tryz.sizeOf302
 v57:=Tryz.zeroValue302
 t63:=Tryz.underlying317
 a63:=Tryz.isAgg317
 z63:=Tryz.sizeOf317
 v63:=Tryz.zeroValue317
 t64:=Tryz.underlying318
 a64:=Tryz.isAgg318
 z64:=Tryz.sizeOf318
 v64:=Tryz.zeroValue318 }
end
end Go.Proofs.YtaaihijkdhmcdaaGreatDoor
