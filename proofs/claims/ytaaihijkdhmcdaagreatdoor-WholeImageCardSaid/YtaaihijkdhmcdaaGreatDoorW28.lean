/- WholeImage, part 29 of 38: contracts and lemmas of its proof. Conditions: none. -/
import Derived.Test.YtaaihijkdhmcdaaGreatDoorW27
import Derived.Shelf.SlIterI.Nil
import Derived.Shelf.SortM.Plain
import Derived.Shelf.SortM.SortNone
import Derived.Ground.GgzProg
import Derived.Ground.SlgmProg
import Derived.Shelf.SlGeneric
import Derived.Test.YtaaihijkdhmcdaaGreatDoorW25
set_option linter.unusedVariables false
set_option linter.unusedSimpArgs false
set_option maxRecDepth 100000
namespace Go.Proofs.YtaaihijkdhmcdaaGreatDoor
section
open Go Go.RowKit
open TR
theorem nodup_lt:∀ (n:Nat) (l:List Nat),l.Nodup→(∀ y∈l,y<n)→l.length≤n
 | 0,l,_,h=>by
  cases l with
  | nil=>simp
  | cons y l=>have:=h y List.mem_cons_self;omega
 | n+1,l,hn,h=>by
  have ih:=nodup_lt n (l.erase n) (hn.sublist List.erase_sublist) fun y hy=>by
   have h1:=h y (List.mem_of_mem_erase hy);have h2:y≠n:=fun e=>by
    subst e;exact (List.Nodup.not_mem_erase hn) hy
   omega
  by_cases hm:n∈l
  ·rw [List.length_erase_of_mem hm] at ih;omega
  ·rw [List.erase_of_not_mem hm] at ih;omega
section
variable {w w':World} {m b p s x mb base cap:Nat} {V:PV} {G G' F:Nat→Prop} {o:Option Tr} {X:List Nat}
theorem blocks_len {L:List Nat}(hm:m=6∨m=24)(hn:L.Nodup)(h:∀ y∈L,0<Bk m V ((y:Nat):Int)):L.length≤400:=by
 have zf:=sz hm;have key:∀ y∈L,y%64=0∧y/64<nL m:=fun y hy=>by
  obtain ⟨n,e,h1,h2,h3,_⟩:=bk_in hm (h y hy);have:=h y hy;omega
 have h2:=nodup_lt (nL m) (L.map (· / 64)) (by
  refine List.pairwise_map.2 (hn.imp_of_mem fun {a b} ha hb hab e=>?_);have:=(key a ha).1;have:=(key b hb).1
  omega) fun y hy=>by
   obtain ⟨z,hz,rfl⟩:=List.mem_map.1 hy;exact (key z hz).2
 rw [List.length_map] at h2;omega
theorem Own.len (h:Own m V o X)(hm:m=6∨m=24):(nodesO o).length+X.length≤400:=by
 rw [← List.length_append];exact blocks_len hm h.nd fun y hy=>(h.all y).2 hy
def SurvP (b p x:Nat)(o:Option Tr)(w0:World)(v:Value)(w':World):Prop :=
 ∃ s mb n a cap,v=.tuple #[.pointer (some ⟨s,0,none⟩),.int .i64 0]∧Surv w' b p s x mb w0.heap.size n (itemsO o) (addF (nodesO o) fun _=>0) a cap∧w0.heap.size≤s∧w0.heap.size≤mb∧n≤400∧Below w0.heap.size w0 w'
theorem itemsO_le (o:Option Tr):(itemsO o).length≤(nodesO o).length:=by
 cases o with
 | none=>exact Nat.le_refl _
 | some T=>exact titems_le [] T
set_option maxHeartbeats 4000000
theorem survey_calls (x:Nat)(w0:World)(h:Pd w0 m V b p G)(hm:m=6∨m=24)(hx:Blk w0 x (IxC p b) 178)(hO:Own m V o X) :
  Ret Tryz.prog 94 #[.pointer (some ⟨x,0,none⟩)] w0 fun v w'=>SurvP b p x o w0 v w':=by
 have bel0:=Below.refl w0.heap.size w0;have zf:=sz hm;have hr:=hO.rest;have hT:=hO.tree;have hx0:=hx;have h0:=h;refine ret_of (args:=[_]) _ Tryz.func94 rfl Tryz.ntmps94 (by simp) ?_;simp -implicitDefEqProofs [go_sem];refine callE_of (idxAsk_calls x ⟨#[]⟩ w0 hx (by decide)) ?_;rintro v w1 ⟨rfl,rfl⟩;simp -implicitDefEqProofs [go_sem,run_makeMap];have hM2:=mapI_made w1;have bA:=(Below.refl w1.heap.size w1).alloc (Nat.le_refl _) (.map #[] 0)
 have sA:(w1.alloc (.map #[] 0)).heap.size=w1.heap.size+1:=by simp
 generalize w1.alloc (.map #[] 0)=w2 at *;replace h:=h.next bA
 replace hx:=hx.next bA
 have bel2:=bel0.trans bA;generalize hw3:World.alloc w2 _=w3 at *;obtain ⟨hB3,b3,sz3,bel3⟩:=newF hw3 bel2;replace h:=h.next b3
 replace hx:=hx.next b3
 replace hM2:=hM2.next b3
 rw [sA] at hB3;have hxlt:=hx0.lt;have hS3:Surv w3 b p (w1.heap.size+1) x w1.heap.size w1.heap.size 0 [] (fun _=>0) none 0:=⟨hB3,hx,World.ownsRow_nil _ _ _ _,hM2,bel3.size,by omega,by omega,by omega,fun ⟨y,hy,_⟩=>(by cases hy),fun ⟨y,hy,_⟩=>(by cases hy),fun ⟨y,hy,_⟩=>(by cases hy)⟩;have hG3:∀ k,G k→¬ SurvF (w1.heap.size+1) w1.heap.size none k:=fun k hk hf=>by
  have:=h0.lt k hk
  rcases hf with hf|hf|⟨y,hy,_⟩
  ·omega
  ·omega
  ·cases hy
 refine callE_of (idxRoot_calls x w3 h hr hm hx) ?_;rintro v w4 ⟨rfl,b4⟩;have bel4:=btr bel3 b4;replace h:=h.next b4
 replace hx:=hx.next b4
 replace hS3:=hS3.next b4
 cases o with
 | none =>
  rw [show V.D.word 72=0#64 from hT.root];simp -implicitDefEqProofs [go_sem];refine body_tmp2 2 3 rfl ?_;simp -implicitDefEqProofs [go_sem];exact ⟨_,_,0,none,0,rfl,by rw [show addF (nodesO none) (fun _=>0)=fun _=>0 from addF_nil _];exact hS3,by omega,Nat.le_refl _,by omega,bel4⟩
 | some T =>
  obtain ⟨To,Tp,Tv,Tk⟩:=T;have hA:=hT.at_ _ rfl;have hok:=hT.ok _ rfl;obtain ⟨n1,n2,n3,n4⟩:=(at_nd.1 hA).1.in_ hm;have hne:(nameW To != 0#64)=true:=by simpa using name_ne (o:=To) (by omega) (by omega)
  have hnl:=hO.len hm;have hnd:=(List.nodup_append.1 hO.nd).1;have hnl:(Tr.nd To Tp Tv Tk).nodes.length+X.length≤400:=hnl;rw [show V.D.word 72=nameW To from hT.root];simp -implicitDefEqProofs [go_sem,hne];have hv:=visit_calls (m:=m) (V:=V) (b:=b) (p:=p) (s:=w1.heap.size+1) (x:=x) (mb:=w1.heap.size) (base:=w1.heap.size) hm (Tr.nd To Tp Tv Tk).nodes.length (.nd To Tp Tv Tk) [] none 0 [] (fun _=>0) 0 none 0 w4 (Nat.le_refl _) hS3 h hr hG3 hA hok hnd (fun _ _=>rfl)
   ⟨.inl rfl,Nat.le_refl _,Nat.zero_le _,fun _=>rfl⟩ (fun y hy=>by cases hy) (fun _=>rfl) (fun y hy=>by cases hy) (by simp;omega) (by omega)
  refine callE_of hv ?_;rintro v w5 ⟨rfl,a5,cap5,hS5,t5⟩;simp -implicitDefEqProofs [go_sem];refine body_tmp2 2 3 rfl ?_;simp -implicitDefEqProofs [go_sem];have hb5:Below w1.heap.size w1 w5:=bel4.trans (t5.mod.below bel4.size fun k hk=>by
   rcases hk with hk|hk|⟨y,hy,_⟩
   ·omega
   ·omega
   ·cases hy)
  rw [List.nil_append,Nat.zero_add] at hS5;exact ⟨_,_,_,a5,cap5,rfl,hS5,by omega,Nat.le_refl _,by omega,hb5⟩
theorem idxAll_calls (x:Nat)(w0:World)(h:Pd w0 m V b p G)(hm:m=6∨m=24)(hx:Blk w0 x (IxC p b) 178)(hO:Own m V o X) :
  Ret Tryz.prog 55 #[.pointer (some ⟨x,0,none⟩)] w0 fun v w'=>∃ a cap,v=.tuple #[.slice a (itemsO o).length cap,.int .i64 0]∧RIn w' 2 a ((itemsO o).map kit) cap∧(∀ y,a=some y→w0.heap.size≤y.block∧y.block<w'.heap.size)∧Below w0.heap.size w0 w':=by
 have bel0:=Below.refl w0.heap.size w0;refine ret_of (args:=[_]) _ Tryz.func55 rfl Tryz.ntmps55 (by simp) ?_;simp -implicitDefEqProofs [go_sem];refine callE_of (survey_calls x w0 h hm hx hO) ?_;rintro v w1 ⟨s,mb,n,a,cap,rfl,hS,hs,hmb,hn,b1⟩;have c1:=hS.sv.cell 1;simp at c1;simp -implicitDefEqProofs [go_sem,c1];refine body_tmp2 2 3 rfl ?_;simp -implicitDefEqProofs [go_sem];exact ⟨a,cap,⟨rfl,rfl⟩,owns_rin (kit_size _) (by simp) hS.own,fun y hy=>ownsRow_blk hS.own _ ⟨y,hy,rfl⟩,b1⟩
end
end
section
open Go Go.Shelf
def keysA_ren:Go.Shelf.Ren:=⟨fun|7=>121|10=>149|n=>n,fun|23=>197|26=>3|3=>3|28=>221|0=>0|27=>220|33=>110|4=>4|n=>n,fun|n=>n⟩
theorem keysA:Go.Proofs.SlLaysZI.n7 Tryz.prog keysA_ren:={
 mixed:=by kernel_rfl
 f7:=⟨Tryz.f121.name,by decide,Tryz.func121.trans (congrArg some (by kernel_rfl))⟩
 f10:=⟨Tryz.f149.name,by decide,Tryz.func149.trans (congrArg some (by kernel_rfl))⟩
 t0:=Tryz.underlying0
 a0:=Tryz.isAgg0
 z0:=Tryz.sizeOf0
 v0:=Tryz.zeroValue0
 t4:=Tryz.underlying4
 a4:=Tryz.isAgg4
 z4:=Tryz.sizeOf4
 v4:=Tryz.zeroValue4
 t23:=Tryz.underlying197
 a23:=Tryz.isAgg197
 z23:=Tryz.sizeOf197
 v23:=Tryz.zeroValue197
 t26:=Tryz.underlying3
 a26:=Tryz.isAgg3
 z26:=Tryz.sizeOf3
 v26:=Tryz.zeroValue3
 t27:=Tryz.underlying220
 a27:=Tryz.isAgg220
 z27:=Tryz.sizeOf220
 v27:=Tryz.zeroValue220
 t28:=Tryz.underlying221
 a28:=Tryz.isAgg221
 z28:=Tryz.sizeOf221
 v28:=Tryz.zeroValue221
 t33:=Tryz.underlying110
 a33:=Tryz.isAgg110
 z33:=Tryz.sizeOf110
 v33:=Tryz.zeroValue110 }
def sortedA_ren:Go.Shelf.Ren:=⟨fun|6=>120|8=>148|9=>87|11=>177|13=>126|12=>125|23=>159|24=>160|14=>151|15=>152|16=>153|17=>154|18=>155|19=>156|20=>135|21=>157|22=>158|25=>179|26=>180|27=>181|28=>182|29=>183|30=>171|31=>199|n=>n,fun|26=>3|28=>221|24=>45|0=>0|3=>3|37=>228|48=>167|50=>42|4=>4|40=>271|39=>270|45=>192|5=>5|9=>9|51=>299|55=>302|57=>317|58=>318|33=>110|n=>n,fun|n=>n⟩
theorem sortedA:Go.Proofs.SlLaysZI.n6 Tryz.prog sortedA_ren:={
 mixed:=by kernel_rfl
 f6:=⟨Tryz.f120.name,by decide,Tryz.func120.trans (congrArg some (by kernel_rfl))⟩
 f8:=⟨Tryz.f148.name,by decide,Tryz.func148.trans (congrArg some (by kernel_rfl))⟩
 f11:=⟨Tryz.f177.name,by decide,Tryz.func177.trans (congrArg some (by kernel_rfl))⟩
 t0:=Tryz.underlying0
 a0:=Tryz.isAgg0
 z0:=Tryz.sizeOf0
 v0:=Tryz.zeroValue0
 t24:=Tryz.underlying45
 a24:=Tryz.isAgg45
 z24:=Tryz.sizeOf45
 v24:=Tryz.zeroValue45
 t26:=Tryz.underlying3
 a26:=Tryz.isAgg3
 z26:=Tryz.sizeOf3
 v26:=Tryz.zeroValue3
 t28:=Tryz.underlying221
 a28:=Tryz.isAgg221
 z28:=Tryz.sizeOf221
 v28:=Tryz.zeroValue221
 i26:=by kernel_rfl }
def sortA_ren:Go.Shelf.Ren:=⟨fun|5=>87|8=>126|7=>125|19=>159|20=>160|10=>151|11=>152|12=>153|13=>154|14=>155|15=>156|16=>135|17=>157|18=>158|30=>179|31=>180|32=>181|33=>182|34=>183|35=>171|40=>199|n=>n,fun|23=>45|25=>3|3=>3|32=>228|22=>45|0=>0|44=>167|46=>42|4=>4|36=>271|35=>270|41=>192|5=>5|9=>9|53=>299|57=>302|63=>317|64=>318|n=>n,fun|n=>n⟩
theorem sortA:Go.Proofs.SlLaysM.n5 Tryz.prog sortA_ren:={
 mixed:=by kernel_rfl
 f5:=⟨Tryz.f87.name,by decide,Tryz.func87.trans (congrArg some (by kernel_rfl))⟩
 f7:=⟨Tryz.f125.name,by decide,Tryz.func125.trans (congrArg some (by kernel_rfl))⟩
 f8:=Tryz.func126.trans (congrArg some (by kernel_rfl))
 f10:=⟨Tryz.f151.name,by decide,Tryz.func151.trans (congrArg some (by kernel_rfl))⟩
 f11:=⟨Tryz.f152.name,by decide,Tryz.func152.trans (congrArg some (by kernel_rfl))⟩
 f12:=⟨Tryz.f153.name,by decide,Tryz.func153.trans (congrArg some (by kernel_rfl))⟩
 f13:=⟨Tryz.f154.name,by decide,Tryz.func154.trans (congrArg some (by kernel_rfl))⟩
 f14:=⟨Tryz.f155.name,by decide,Tryz.func155.trans (congrArg some (by kernel_rfl))⟩
 f15:=⟨Tryz.f156.name,by decide,Tryz.func156.trans (congrArg some (by kernel_rfl))⟩
 f16:=⟨Tryz.f135.name,by decide,Tryz.func135.trans (congrArg some (by kernel_rfl))⟩
 f17:=⟨Tryz.f157.name,by decide,Tryz.func157.trans (congrArg some (by kernel_rfl))⟩
 f18:=⟨Tryz.f158.name,by decide,Tryz.func158.trans (congrArg some (by kernel_rfl))⟩
 f19:=Tryz.func159.trans (congrArg some (by kernel_rfl))
 f20:=Tryz.func160.trans (congrArg some (by kernel_rfl))
 f30:=⟨Tryz.f179.name,by decide,Tryz.func179.trans (congrArg some (by kernel_rfl))⟩
 f31:=Tryz.func180.trans (congrArg some (by kernel_rfl))
 f32:=Tryz.func181.trans (congrArg some (by kernel_rfl))
 f33:=⟨Tryz.f182.name,by decide,Tryz.func182.trans (congrArg some (by kernel_rfl))⟩
 f34:=⟨Tryz.f183.name,by decide,Tryz.func183.trans (congrArg some (by kernel_rfl))⟩
 f35:=⟨Tryz.f171.name,by decide,Tryz.func171.trans (congrArg some (by kernel_rfl))⟩
 f40:=⟨Tryz.f199.name,by decide,Tryz.func199.trans (congrArg some (by kernel_rfl))⟩
 t0:=Tryz.underlying0
 a0:=Tryz.isAgg0
 z0:=Tryz.sizeOf0
 v0:=Tryz.zeroValue0
 t3:=Tryz.underlying3
 a3:=Tryz.isAgg3
 z3:=Tryz.sizeOf3
 v3:=Tryz.zeroValue3
 t4:=Tryz.underlying4
 a4:=Tryz.isAgg4
 z4:=Tryz.sizeOf4
 v4:=Tryz.zeroValue4
 t5:=Tryz.underlying5
 a5:=Tryz.isAgg5
 z5:=Tryz.sizeOf5
 v5:=Tryz.zeroValue5
 t9:=Tryz.underlying9
 a9:=Tryz.isAgg9
 z9:=Tryz.sizeOf9
 v9:=Tryz.zeroValue9
 t22:=Tryz.underlying45
 a22:=Tryz.isAgg45
 z22:=Tryz.sizeOf45
 v22:=Tryz.zeroValue45
 t23:=Tryz.underlying45
 a23:=Tryz.isAgg45
 z23:=Tryz.sizeOf45
 v23:=Tryz.zeroValue45
 t25:=Tryz.underlying3
 a25:=Tryz.isAgg3
 z25:=Tryz.sizeOf3
 v25:=Tryz.zeroValue3
 t32:=Tryz.underlying228
 a32:=Tryz.isAgg228
 z32:=Tryz.sizeOf228
 v32:=Tryz.zeroValue228
 t35:=Tryz.underlying270
 a35:=Tryz.isAgg270
 z35:=Tryz.sizeOf270
 v35:=Tryz.zeroValue270
 t36:=Tryz.underlying271
 a36:=Tryz.isAgg271
 z36:=Tryz.sizeOf271
 v36:=Tryz.zeroValue271
 t41:=Tryz.underlying192
 a41:=Tryz.isAgg192
 z41:=Tryz.sizeOf192
 v41:=Tryz.zeroValue192
 t44:=Tryz.underlying167
 a44:=Tryz.isAgg167
 z44:=Tryz.sizeOf167
 v44:=Tryz.zeroValue167
 t46:=Tryz.underlying42
 a46:=Tryz.isAgg42
 z46:=Tryz.sizeOf42
 v46:=Tryz.zeroValue42
 t53:=Tryz.underlying299
 a53:=Tryz.isAgg299
 z53:=Tryz.sizeOf299
 v53:=Tryz.zeroValue299
 t57:=Tryz.underlying302
 a57:=Tryz.isAgg302
 z57:=Tryz.sizeOf302
 v57:=Tryz.zeroValue302
 t63:=Tryz.underlying317
 a63:=Tryz.isAgg317
 z63:=Tryz.sizeOf317
 v63:=Tryz.zeroValue317
 t64:=Tryz.underlying318
 a64:=Tryz.isAgg318
 z64:=Tryz.sizeOf318
 v64:=Tryz.zeroValue318 }
end
section
open Go Go.RowKit Go.Maps Go.Sort Go.Shelf
open TR
section
variable {w w':World} {m b p s x mb base n cap:Nat} {V:PV} {G G' F:Nat→Prop} {o:Option Tr} {X:List Nat}
theorem keys_perm {L:List Nat}(h:MapI w mb n (addF L fun _=>0))(hL:L.Nodup)(hs:∀ y∈L,y<1000000) :
  ∃ D:DataW Unit,w.ownsMap Tryz.prog 3 (plainElem Tryz.prog 3) mb n D∧(L.map fun o:Nat=>(o:Int)).Perm (intKeys D)∧Maps.size D≤n:=by
 obtain ⟨D,h1,h2⟩:=h;refine ⟨D,h1,?_,h1.size_le⟩;have hmem:∀ z:Int,z∈L.map (fun o:Nat=>(o:Int))→I64 z:=fun z hz=>by
  obtain ⟨y,hy,rfl⟩:=List.mem_map.1 hz;have:=hs y hy;unfold I64;omega
 refine CollectedI.perm (left:=fun _=>false) ⟨?_,fun z=>⟨fun hz=>⟨?_,rfl⟩,fun hz=>?_⟩⟩ h1 (Maps.int_keyed Tryz.underlying3) Tryz.underlying3 (fun _=>rfl)
 ·exact List.pairwise_map.2 (hL.imp fun {a b} hab e=>hab (by omega))
 ·rcases h2 z (hmem z hz) with ⟨h3,_⟩|⟨_,h3⟩
  ·unfold addF at h3;rw [if_pos hz] at h3;cases h3
  ·exact has_true_of_atKey h3
 ·have hk:z∈intKeys D:=by
   obtain ⟨es,rfl,hko⟩:=h1.keysOf;have h3:=hz.1;rw [has_eq,List.any_eq_true] at h3;obtain ⟨q,hq,hs⟩:=h3;obtain ⟨v,hv⟩:=hko q hq;obtain ⟨y,_,hy,hl⟩:=Maps.keyOf_i64 Tryz.underlying3 hv;rw [hy] at hs;have:y=z:=by simpa [Lit.sameKey] using hs
   exact List.mem_map.2 ⟨q,hq,by rw [hy];exact this⟩
  have hzI:I64 z:=wf_i64' (intKeys_wf h1 Tryz.underlying3 z hk)
  rcases h2 z hzI with ⟨_,h3⟩|⟨h3,_⟩
  ·have:=has_false_of_atKey h3;rw [hz.1] at this;cases this
  ·unfold addF at h3;split at h3
   ·assumption
   ·exact absurd rfl h3
theorem sortsA (k:Nat):AnyZI.SortsIn Tryz.prog sortedA_ren Fence.wide k :=
 ⟨fun blk off cap ss W hH hblk hsz=>callsIn_wide.2 (AnyM.slices_Sort_int sortA blk off cap ss W hH hblk hsz),
  fun p cap W=>callsIn_wide.2 (AnyM.slices_Sort_int_none sortA p cap W)⟩
set_option maxHeartbeats 4000000
theorem mapsKeys_calls (mb:Nat)(w0:World) :
  Ret Tryz.prog 121 #[.map (some mb)] w0 fun v w'=>v=.func (.func 149) #[] #[.pointer (some ⟨w0.heap.size,0,none⟩)]∧w'=w0.alloc (.cells #[.map (some mb)] 197):=by
 have cK:CallsIn Fence.wide 5 Tryz.prog 121 #[.map (some mb)] w0 fun e w'=>e=.returned (.func (.func 149) #[] #[.pointer (some ⟨w0.heap.size,0,none⟩)])∧w'=w0.alloc (.cells #[.map (some mb)] 197):=AnyZI.keys_in keysA Fence.wide 5 trivial rfl (some mb) w0
 exact ((callsIn_wide (n:=5)).1 cK).mono fun e w' ⟨h1,h2⟩=>⟨_,h1,rfl,h2⟩
theorem sortedKeys_calls {L:List Nat}(mb n:Nat)(w0:World)(h:MapI w0 mb n (addF L fun _=>0))(hL:L.Nodup)(hs:∀ y∈L,y<1000000)(hn:n≤100000) :
  Ret Tryz.prog 120 #[.func (.func 149) #[] #[.pointer (some ⟨w0.heap.size,0,none⟩)]] (w0.alloc (.cells #[.map (some mb)] 197)) fun v w'=>∃ a ss cap,v=.slice a ss.length cap∧List.Perm ss L∧ss.Pairwise (·≤·)∧w'.ownsRow (w0.heap.size+1) 3 1 (.slice a ss.length cap) ss.length (offC ss)∧Below w0.heap.size w0 w':=by
 obtain ⟨D,hown,hperm,hsize⟩:=keys_perm h hL hs;have hbl:=hown.lt;have hseq:SeqGives Fence.wide 2 Tryz.prog 149 #[.pointer (some ⟨w0.heap.size,0,none⟩)] encZ (fun ss=>ss.Perm (intKeys D)) (Maps.size D) (w0.alloc (.cells #[.map (some mb)] 197)) :=
  AnyZI.keys_gives (ρ:=keysA_ren) { keysA with } Fence.wide _ trivial rfl (by omega) w0.heap.size mb n D _ (by simp) (by simp) (by
   obtain ⟨es,clock,hb,Ft,hs,hD⟩:=hown;exact ⟨es,clock,(Below.heap_alloc _ _ mb hbl).trans hb,Ft,hs,hD⟩)
 have cS:=AnyZI.sorted_in sortedA Fence.wide 5 trivial trivial trivial trivial rfl (by omega) (sortsA _) (enters_of Tryz.func87 (by kernel_rfl) rfl) 149 #[.pointer (some ⟨w0.heap.size,0,none⟩)] trivial (enters_of Tryz.func149 (by kernel_rfl) rfl) _ _ (by unfold maxLen;omega) (by omega) _ hseq;change CallsIn _ _ Tryz.prog 120 _ _ _ at cS;refine ((callsIn_wide (n:=5)).1 cS).mono ?_;rintro e w' ⟨v,ss,rfl,hS,hrow,hnil,hb⟩;have hP:ss.Perm (L.map fun o:Nat=>(o:Int)):=hS.trans hperm.symm
 have hP2:(ss.mergeSort leI).Perm (L.map fun o:Nat=>(o:Int)):=(List.mergeSort_perm ss leI).trans hP;have tr:∀ a b c:Int,leI a b=true→leI b c=true→leI a c=true:=fun a b c h1 h2=>by simp only [leI,decide_eq_true_eq] at *;exact Int.le_trans h1 h2
 have to:∀ a b:Int,(leI a b || leI b a)=true:=fun a b=>by simp only [leI,Bool.or_eq_true,decide_eq_true_eq];exact Int.le_total a b
 have hsorted:=List.pairwise_mergeSort tr to ss;obtain ⟨ns,hns⟩:∃ ns:List Nat,ss.mergeSort leI=ns.map fun o:Nat=>(o:Int):=by
  refine ⟨(ss.mergeSort leI).map Int.toNat,?_⟩;rw [List.map_map];refine (List.map_id _).symm.trans (List.map_congr_left fun z hz=>?_);obtain ⟨y,_,rfl⟩:=List.mem_map.1 (hP2.mem_iff.1 hz);simp
 have hlen:ss.length=ns.length:=by
  have h1:=congrArg List.length hns;rw [List.length_mergeSort,List.length_map] at h1;exact h1
 have hrow':w'.ownsRow (w0.heap.size+1) 3 1 v ns.length (offC ns):=by
  have e:(ss.mergeSort leI).map encZ=offC ns:=by rw [hns];simp [offC,encZ]
  have hrow:w'.ownsRow _ 3 1 v ss.length ((ss.mergeSort leI).map encZ):=hrow;rw [e,hlen] at hrow;have e2:(w0.alloc (.cells #[.map (some mb)] 197)).heap.size=w0.heap.size+1:=by simp
  rw [e2] at hrow;exact hrow
 have hv:∃ a cap,v=.slice a ns.length cap:=by
  obtain ⟨_,⟨h1,h2⟩|⟨g,c2,cur,h1,_⟩⟩:=hrow'
  ·exact ⟨none,0,by rw [h2];exact h1⟩
  ·exact ⟨_,_,h1⟩
 obtain ⟨a,c2,rfl⟩:=hv;refine ⟨_,rfl,a,ns,c2,rfl,?_,?_,hrow',((Below.refl _ w0).alloc (Nat.le_refl _) _).trans (hb.mono (by simp))⟩
 ·rw [hns] at hP2;have h1:=hP2.map Int.toNat;have e:∀ l:List Nat,(l.map fun o:Nat=>(o:Int)).map Int.toNat=l:=fun l=>by
   rw [List.map_map];exact (List.map_congr_left fun z _=>by simp).trans (List.map_id l)
  rw [e,e] at h1;exact h1
 ·rw [hns] at hsorted;have h1:=List.pairwise_map.1 hsorted;exact h1.imp fun {a b} hab=>by simp only [leI,decide_eq_true_eq] at hab;omega
theorem idxNodes_calls (x:Nat)(w0:World)(h:Pd w0 m V b p G)(hm:m=6∨m=24)(hx:Blk w0 x (IxC p b) 178)(hO:Own m V o X) :
  Ret Tryz.prog 84 #[.pointer (some ⟨x,0,none⟩)] w0 fun v w'=>∃ a ss cap,v=.tuple #[.slice a ss.length cap,.int .i64 0]∧List.Perm ss (nodesO o)∧ss.Pairwise (·≤·)∧w'.ownsRow w0.heap.size 3 1 (.slice a ss.length cap) ss.length (offC ss)∧Below w0.heap.size w0 w':=by
 have bel0:=Below.refl w0.heap.size w0;refine ret_of (args:=[_]) _ Tryz.func84 rfl Tryz.ntmps84 (by simp) ?_;simp -implicitDefEqProofs [go_sem];refine callE_of (survey_calls x w0 h hm hx hO) ?_;rintro v w1 ⟨s,mb,n,a,cap,rfl,hS,hs,hmb,hn,b1⟩;have bel1:=bel0.trans b1;have c1:=hS.sv.cell 2;simp at c1;simp -implicitDefEqProofs [go_sem,c1];refine callE_of (mapsKeys_calls mb w1) ?_;rintro v w2 ⟨rfl,rfl⟩;simp -implicitDefEqProofs [go_sem]
 refine callE_of (sortedKeys_calls mb n w1 hS.map (List.nodup_append.1 hO.nd).1 (fun y hy=>bk_small hm ((hO.all y).2 (List.mem_append_left _ hy))) (by omega)) ?_;rintro v w3 ⟨a3,ss,c3,rfl,hP,hsort,hrow,b3⟩;have bel3:=btr bel1 b3;simp -implicitDefEqProofs [go_sem];refine body_tmp2 2 3 rfl ?_;simp -implicitDefEqProofs [go_sem];exact ⟨a3,ss,c3,⟨rfl,rfl,rfl⟩,hP,hsort,ownsRow_base hrow (by have:=bel1.size;omega),bel3⟩
theorem pdSize_calls (w0:World)(h:Pd w0 m V b p G)(hr:Rest m V)(hm:m=6∨m=24) :
  Ret Tryz.prog 27 #[.pointer (some ⟨p,0,none⟩)] w0 fun v w'=>v=.int .i64 ((64*nL m:Nat):Int)∧w'=w0:=by
 obtain ⟨tb,tc,hb,hc,F,hP,hG⟩:=h;refine (sizeB w0 hP.dev).mono ?_;rintro v w' ⟨rfl,rfl⟩;refine ⟨?_,rfl⟩;unfold NM.Dv.size;rw [hr.well.lines]
theorem idxOpen_calls (w0:World)(h:Pd w0 m V b p G)(hm:m=6∨m=24)(hO:Own m V o X) :
  Ret Tryz.prog 50 #[.pointer (some ⟨p,0,none⟩),.pointer (some ⟨b,0,none⟩)] w0 fun v w'=>∃ x,v=.tuple #[.pointer (some ⟨x,0,none⟩),.int .i64 0]∧Blk w' x (IxC p b) 178∧w0.heap.size≤x∧Below w0.heap.size w0 w':=by
 have bel0:=Below.refl w0.heap.size w0;have zf:=sz hm;have hne:(64*(nL m:Int)==0)=false:=by rw [beq_eq_false_iff_ne];omega
 refine ret_of (args:=[_,_]) _ Tryz.func50 rfl Tryz.ntmps50 (by simp) ?_;simp -implicitDefEqProofs [go_sem];refine callE_of (pdSize_calls w0 h hO.rest hm) ?_;rintro v w1 ⟨rfl,rfl⟩;have bel1:=bel0;simp -implicitDefEqProofs [go_sem,hne];generalize hw2:World.alloc w1 _=w2 at *;obtain ⟨hB2,b2,sz2,bel2⟩:=newF hw2 bel1;replace h:=h.next b2
 refine callE_of (idxNodes_calls w1.heap.size w2 h hm hB2 hO) ?_;rintro v w3 ⟨a3,ss,c3,rfl,-,-,-,b3⟩;have bel3:=btr bel2 b3;replace hB2:=hB2.next b3
 simp -implicitDefEqProofs [go_sem];refine body_tmp2 4 5 rfl ?_;simp -implicitDefEqProofs [go_sem];exact ⟨hB2,bel3⟩
end
end
section
open Go Go.RowKit Go.Maps Go.Sort Go.Shelf
open TR
set_option maxHeartbeats 4000000
theorem infoI:(Tryz.prog.info? 3).map (fun i=>(i.zero,i.size,i.bytes))=some (some (.int .i64 0),1,8):=by kernel_rfl
theorem offC_one (l:List Nat):∀ u∈offC l,u.oneCell'=true:=fun u hu=>by
 simp [offC] at hu;obtain ⟨x,_,rfl⟩:=hu;rfl
theorem cloneI_calls (a:Option Addr)(l:List Nat)(c:Nat)(w0:World)(hl:l.length≤1000000)(hin:VsIn w0 a (offC l) c)(hn:a=none→l=[]) :
  Ret Tryz.prog 85 #[.slice a l.length c] w0 fun v w'=>∃ a' c',v=.slice a' l.length c'∧w'.ownsRow w0.heap.size 3 1 (.slice a' l.length c') l.length (offC l)∧Below w0.heap.size w0 w':=by
 have nilEq:=fun w a n c=>Lib.run_eql_slice_nil (P:=Tryz.prog) w 45 3 a n c 0 0 Tryz.underlying45
 have bel0:=Below.refl w0.heap.size w0;refine ret_of (args:=[_]) _ Tryz.func85 rfl Tryz.ntmps85 (by simp) ?_;cases a with
 | none =>
  have h0:=hn rfl;subst h0;have hc:=hin.nil rfl;subst hc;simp -implicitDefEqProofs [go_sem,nilEq];refine body_tmp 2 rfl ?_;simp -implicitDefEqProofs [go_sem];exact ⟨none,0,⟨rfl,rfl⟩,World.ownsRow_nil _ _ _ _,bel0⟩
 | some x =>
  have hlit:=World.ownsRow_lit (base:=w0.heap.size) (e:=3) (size:=1) w0 #[] 0 (Nat.le_refl _) (by decide) rfl;have b1:Below w0.heap.size w0 (w0.alloc (.cells #[] 3)):=bel0.alloc (Nat.le_refl _) _;obtain ⟨a2,c2,w2,hr,hown,hgr⟩:=run_append1 (P:=Tryz.prog) w0.heap.size (t:=45) (bytes:=8) (z:=.int .i64 0) 45 Tryz.underlying45 infoI rfl hlit (a2:=some x) (c2:=c) (m:=l.length) (news:=offC l) (offC_len l)
   ((hin.at_.next b1).src) (fun h=>by cases h) (offC_one l) (by omega) (by omega) (by simp)
  rw [Nat.zero_add,List.nil_append] at hown;rw [Nat.zero_add] at hr;simp -implicitDefEqProofs [go_sem,nilEq,hr];refine body_tmp 2 rfl ?_;simp -implicitDefEqProofs [go_sem];exact ⟨a2,c2,⟨rfl,rfl⟩,hown,b1.grown hgr (by simp) (fun j hj=>by simp [Value.ownBlock] at hj;omega)⟩
theorem sorted_list {ss:List Int}{L:List Nat}(hP:ss.Perm (L.map fun o:Nat=>(o:Int))):∃ ns:List Nat,ss.mergeSort leI=ns.map (fun o:Nat=>(o:Int))∧ns.Perm L∧ns.Pairwise (·≤·):=by
 have hP2:(ss.mergeSort leI).Perm (L.map fun o:Nat=>(o:Int)):=(List.mergeSort_perm ss leI).trans hP;have tr:∀ a b c:Int,leI a b=true→leI b c=true→leI a c=true:=fun a b c h1 h2=>by simp only [leI,decide_eq_true_eq] at *;exact Int.le_trans h1 h2
 have to:∀ a b:Int,(leI a b || leI b a)=true:=fun a b=>by simp only [leI,Bool.or_eq_true,decide_eq_true_eq];exact Int.le_total a b
 have hsorted:=List.pairwise_mergeSort tr to ss;have hns:ss.mergeSort leI=((ss.mergeSort leI).map Int.toNat).map fun o:Nat=>(o:Int):=by
  rw [List.map_map];refine (List.map_id _).symm.trans (List.map_congr_left fun z hz=>?_);obtain ⟨y,_,rfl⟩:=List.mem_map.1 (hP2.mem_iff.1 hz);simp
 refine ⟨(ss.mergeSort leI).map Int.toNat,hns,?_,?_⟩
 ·have h1:=hP2.map Int.toNat;rw [List.map_map,show (Int.toNat ∘ fun o:Nat=>(o:Int))=id from by funext z;simp,List.map_id] at h1;exact h1
 ·rw [hns] at hsorted;have h1:=List.pairwise_map.1 hsorted;exact h1.imp fun {a b} hab=>by simp only [leI,decide_eq_true_eq] at hab;omega
theorem sortI_calls (a:Option Addr)(L:List Nat)(c base:Nat)(w0:World)(hl:L.length≤100000)(hown:w0.ownsRow base 3 1 (.slice a L.length c) L.length (offC L)) :
  Ret Tryz.prog 87 #[.slice a L.length c] w0 fun v w'=>∃ L',v=.tuple #[]∧L'.Perm L∧L'.Pairwise (·≤·)∧L'.length=L.length∧w'.ownsRow base 3 1 (.slice a L.length c) L.length (offC L')∧Turn w0 (BlkOf a) w' (BlkOf a):=by
 rcases hown.2 with ⟨h1,h0⟩|⟨g,cap,cur,h1,hg,hb,hc1,hc2,hc3,ht⟩
 ·simp only [Value.slice.injEq] at h1;obtain ⟨rfl,_,rfl⟩:=h1;have hL:L=[]:=List.eq_nil_of_length_eq_zero h0;subst hL;refine (AnyM.slices_Sort_int_none sortA none 0 w0).mono ?_;rintro e w' ⟨rfl,rfl⟩;exact ⟨_,rfl,[],rfl,List.Perm.refl _,List.Pairwise.nil,rfl,hown,Turn.of (Below.refl _ _)⟩
 ·simp only [Value.slice.injEq] at h1;obtain ⟨rfl,_,rfl⟩:=h1;have hz:(L.map fun o:Nat=>(o:Int)).length=L.length:=List.length_map _;have hm:(L.map fun o:Nat=>(o:Int)).map encZ=offC L:=by simp [offC,encZ]
  have hH:Holds encZ w0 g 0 (L.map fun o:Nat=>(o:Int)).toArray:=holds_of_block_i hb (by rw [hz,hm,← ht,Nat.mul_one]);have hS:=AnyM.slices_Sort_int sortA g 0 c (L.map fun o:Nat=>(o:Int)) w0 hH (Array.getElem?_eq_some_iff.1 hb).1 (by rw [hz];omega);rw [hz] at hS;refine hS.mono ?_;rintro e w' ⟨rfl,n,os,rfl⟩;obtain ⟨ns,hns,hp,hso⟩:=sorted_list (L:=L) (List.Perm.refl _);have hlen:ns.length=L.length:=hp.length_eq;have e1:(ns.map fun o:Nat=>(o:Int)).map encZ=offC ns:=by simp [offC,encZ]
  have hrow:=ownsRow_sorted_i (w:=w0) (base:=base) (g:=g) (cap:=c) (n:=n) (os:=os) (ss:=L.map fun o:Nat=>(o:Int)) (ts:=ns.map fun o:Nat=>(o:Int)) (by rw [List.length_map,List.length_map,hlen]) hg hb (by rw [hz];exact hc1) hc2 hc3;rw [e1,hz] at hrow;have e2:((L.map fun o:Nat=>(o:Int)).mergeSort fun x y=>decide (x≤y))=ns.map fun o:Nat=>(o:Int):=hns
  rw [e2];refine ⟨_,rfl,ns,rfl,hp,hso,hlen,hrow,(mod_of_grown (grownBy_sorted_i _)).mono fun k hk _=>⟨_,rfl,Option.some.inj hk⟩,fun k hk=>.inl hk⟩
end
section
open Go Go.RowKit
open TR
def chL (ch:BitVec 64→List LinkV × List Nat)(I:List TR.Item):List Nat:=I.flatMap fun e=>(ch e.2).2
structure Sto (m:Nat) (V:PV) (o:Option Tr) (ch:BitVec 64→List LinkV × List Nat) (X:List Nat) (top:Nat):Prop where
 own:Own m V o (chL ch (itemsO o)++X)
 chain:∀ e∈itemsO o,ChAt m V e.2 (ch e.2).1 (ch e.2).2∧FallL (ch e.2).1∧∀ k∈(ch e.2).1,k.stamp.toNat≤top
theorem chL_nil (ch:BitVec 64→List LinkV × List Nat):chL ch []=[]:=rfl
theorem chL_app (ch:BitVec 64→List LinkV × List Nat)(I J:List TR.Item):chL ch (I++J)=chL ch I++chL ch J:=by simp [chL]
theorem chL_one (ch:BitVec 64→List LinkV × List Nat)(e:TR.Item):chL ch [e]=(ch e.2).2:=by simp [chL]
section
variable {w w':World} {m b p s x mb base n cap top:Nat} {V:PV} {G G' F:Nat→Prop} {o:Option Tr} {X:List Nat} {ch:BitVec 64→List LinkV × List Nat}
theorem Sto.len (h:Sto m V o ch X top)(hm:m=6∨m=24):(nodesO o).length+(chL ch (itemsO o)).length+X.length≤400:=by
 have:=h.own.len hm;rw [List.length_append] at this;omega
theorem Sto.one_len (h:Sto m V o ch X top)(hm:m=6∨m=24){e:TR.Item}(he:e∈itemsO o):(ch e.2).1.length≤400:=by
 have h1:=h.len hm;obtain ⟨I,J,hI⟩:=List.append_of_mem he;rw [hI,chL_app,show e::J=[e]++J from rfl,chL_app,chL_one] at h1;simp only [List.length_append] at h1;have:=(h.chain e he).1.len;omega
theorem offC_app (a b:List Nat):offC (a++b)=offC a++offC b:=by simp [offC]
set_option maxHeartbeats 4000000
theorem itemI:(Tryz.prog.info? 149).map (·.size)=some 2:=by kernel_rfl
theorem reach_calls (x:Nat)(w0:World)(h:Pd w0 m V b p G)(hm:m=6∨m=24)(hx:Blk w0 x (IxC p b) 178)(hS:Sto m V o ch X top) :
  Ret Tryz.prog 51 #[.pointer (some ⟨p,0,none⟩),.pointer (some ⟨b,0,none⟩),.pointer (some ⟨x,0,none⟩)] w0 fun v w'=>∃ a ss cap,v=.tuple #[.slice a ss.length cap,.int .i64 0]∧List.Perm ss (nodesO o++chL ch (itemsO o))∧ss.Pairwise (·≤·)∧w'.ownsRow w0.heap.size 3 1 (.slice a ss.length cap) ss.length (offC ss)∧Below w0.heap.size w0 w':=by
 have bel0:=Below.refl w0.heap.size w0;have zf:=sz hm;have hr:=hS.own.rest;have hO:=hS.own;have hlen:=hS.len hm;have hne:(64*(nL m:Int)==0)=false:=by rw [beq_eq_false_iff_ne];omega
 have hp0:=h;have hx0:=hx;refine ret_of (args:=[_,_,_]) _ Tryz.func51 rfl Tryz.ntmps51 (by simp) ?_;simp -implicitDefEqProofs [go_sem];refine callE_of (pdSize_calls w0 h hr hm) ?_;rintro v w1 ⟨rfl,rfl⟩;have bel1:=bel0;simp -implicitDefEqProofs [go_sem,hne];refine callE_of (idxNodes_calls x w1 h hm hx hO) ?_;rintro v w2 ⟨an,ns,cn,rfl,hnp,-,hnrow,b2⟩;have bel2:=btr bel1 b2;replace h:=h.next b2
 replace hx:=hx.next b2
 simp -implicitDefEqProofs [go_sem];refine callE_of (idxAll_calls x w2 h hm hx hO) ?_;rintro v w3 ⟨ai,ci,rfl,hI,-,b3⟩;have bel3:=btr bel2 b3;replace h:=h.next b3
 replace hx:=hx.next b3
 have hnrow3:=ownsRow_next hnrow b3;simp -implicitDefEqProofs [go_sem];have hns:=owns_vsIn (l:=offC ns) (offC_len ns) hnrow3;have hnl:ns.length=(nodesO o).length:=hnp.length_eq;refine callE_of (cloneI_calls an ns cn w3 (by omega) hns (fun e=>List.eq_nil_of_length_eq_zero (by have h1:=hns.nil e;have h2:=hns.le;rw [offC_len] at h2;omega))) ?_;rintro v w4 ⟨al,cl,rfl,hrow4,b4⟩;have bel4:=btr bel3 b4;replace h:=h.next b4
 replace hx:=hx.next b4
 have hI4:=hI.next b4
 simp -implicitDefEqProofs [go_sem];obtain ⟨I,hIe⟩:∃ I,I=itemsO o:=⟨_,rfl⟩;have hil:=itemsO_le o;rw [← hIe] at hI hI4 hlen hil ⊢;refine wpE_loop (fun e' w'=>∃ (k:Nat) (L:List Nat) (a':Option Addr) (c':Nat),k≤I.length∧List.Perm L (nodesO o++chL ch (I.take k))∧e' 0=.pointer (some ⟨p,0,none⟩)∧e' 1=.pointer (some ⟨b,0,none⟩)∧e' 11=.slice a' L.length c'∧e' 48=.slice ai I.length ci∧e' 49=.int .i64 (I.length:Int)∧e' 50=.int .i64 (k:Int) ∧
   w'.ownsRow w3.heap.size 3 1 (.slice a' L.length c') L.length (offC L)∧Below w3.heap.size w3 w') (fun e' _=>I.length-(intOf (e' 50)).toNat) ?_ ?_
 ·refine ⟨0,ns,al,cl,Nat.zero_le _,by rw [List.take_zero,chL_nil,List.append_nil];exact hnp,?_⟩;simp -implicitDefEqProofs [go_sem];exact ⟨hrow4,b4⟩
 ·rintro e' w5 ⟨k,L,a',c',hk,hLp,g0,g1,g11,g48,g49,g50,hrow5,b5⟩;have bel5:=btr bel3 b5;have hI5:=hI.next b5
  have hp5:=hp0.next bel5
  by_cases hlt:k<I.length
  ·have hlt':(k:Int)<(I.length:Int):=by omega
   obtain ⟨ib,io,rfl,hld⟩:=hI5.ld (i:=k) (by simpa using hlt) Tryz.underlying149 rfl itemI;have hkit:(I.map kit)[k]'(by simpa using hlt)=kit I[k]:=by simp
   rw [hkit] at hld;have hst:=stNew (P:=Tryz.prog) (t:=149) (cs:=kit I[k]) (C0:=#[.string ⟨#[]⟩,.int .u64 0]) itemI rfl (kit_one _);have hmem:I[k]∈itemsO o:=by rw [← hIe];exact List.getElem_mem hlt
   obtain ⟨hc1,hc2,hc3⟩:=hS.chain _ hmem;have hc4:=hS.one_len hm hmem;obtain ⟨l,hl⟩:∃ l,l=(ch I[k].2).1:=⟨_,rfl⟩;obtain ⟨Lk,hLk⟩:∃ Lk,Lk=(ch I[k].2).2:=⟨_,rfl⟩;rw [← hl,← hLk] at hc1;rw [← hl] at hc2 hc4;simp -implicitDefEqProofs [go_sem,g0,g1,g11,g48,g49,g50,hlt,hlt',↓hld,↓hst];have hB6:=Blk.new w5 (kit I[k]) 149;have b6:=(Below.refl w5.heap.size w5).alloc (Nat.le_refl _) (.cells (kit I[k]) 149);have hk1:(kit I[k])[1]?=some (.int .u64 (uv I[k].2)):=rfl
   simp -implicitDefEqProofs [go_sem,g0,g1,g11,g48,g49,g50,hB6.cell,hk1];generalize World.alloc w5 _=w6 at *;have hp6:=hp5.next b6
   have hrow6:=ownsRow_next hrow5 b6;refine callE_of (sysList_calls I[k].2 l Lk w6 hp6 hr hm hc1 hc2 (by omega)) ?_;rintro v w7 ⟨a7,c7,rfl,hl7,hnew7,b7⟩;have hrow7:=ownsRow_next hrow6 b7;have b57:=btr b6 b7;have b37:=btr b5 b57;have hsep7:Sep w7 (BlkOf a') a7:=fun y hy=>by
    have h1:=hnew7 y hy;exact ⟨h1.2,fun hf=>by have:=(ownsRow_blk hrow6 _ hf).2;omega⟩
   have hLl:L.length≤400:=by
    have h1:=hLp.length_eq;have h2:(chL ch (I.take k)).length≤(chL ch I).length:=by
     have h3:=congrArg List.length (chL_app ch (I.take k) (I.drop k));rw [List.take_append_drop,List.length_append] at h3;omega
    rw [List.length_append] at h1;omega
   have hlk:Lk.length=l.length:=hc1.len;have hoffs:=hc1.offs;simp -implicitDefEqProofs [go_sem,g0,g1,g11,g48,g49,g50];refine wpE_loop (fun e2 w'=>∃ (q:Nat) (a2:Option Addr) (c2:Nat),q≤l.length∧e2 0=.pointer (some ⟨p,0,none⟩)∧e2 1=.pointer (some ⟨b,0,none⟩)∧e2 11=.slice a2 (L.length+q) c2∧e2 48=.slice (some ⟨ib,io,none⟩) I.length ci∧e2 49=.int .i64 (I.length:Int)∧e2 50=.int .i64 (k:Int)∧e2 65=.slice a7 l.length c7∧e2 66=.int .i64 (l.length:Int)∧e2 67=.int .i64 (q:Int) ∧
    w'.ownsRow w3.heap.size 3 1 (.slice a2 (L.length+q) c2) (L.length+q) (offC (L++Lk.take q))∧Below w3.heap.size w3 w'∧LksIn w' a7 l c7∧Sep w' (BlkOf a2) a7) (fun e2 _=>l.length-(intOf (e2 67)).toNat) ?_ ?_
   ·refine ⟨0,a',c',Nat.zero_le _,?_⟩;simp -implicitDefEqProofs [go_sem,g0,g1,g11,g48,g49,g50];exact ⟨hrow7,b37,hl7,hsep7⟩
   ·rintro e2 w8 ⟨q,a2,c2,hq,q0,q1,q11,q48,q49,q50,q65,q66,q67,hrow8,b8,hl8,hsep8⟩;have bel8:=btr bel3 b8;by_cases hqt:q<l.length
    ·have hqt':(q:Int)<(l.length:Int):=by omega
     have i2:=IntWalk.i64_in ((q:Int)+1) (by omega);obtain ⟨lb,lo,rfl,hcell⟩:=hl8.get hqt;have hld2:=ldCells (P:=Tryz.prog) (w:=w8) (g:=lb) (o:=lo+q*5) (cs:=l[q].cs) Tryz.underlying186 rfl lkI_ours.five rfl hcell;have hst2:=stNew (P:=Tryz.prog) (t:=186) (cs:=l[q].cs) (C0:=#[.int .i64 0,.int .u64 0,.int .u64 0,.bool false,.string ⟨#[]⟩]) lkI_ours.five rfl (l[q].cs_one);have hoq:l[q].off=((Lk[q]:Nat):Int):=by
      have h1:(l.map LinkV.off)[q]'(by simpa using hqt)=(Lk.map fun o:Nat=>(o:Int))[q]'(by simpa [hlk] using hqt):=by simp only [hoffs]
      simpa using h1
     simp -implicitDefEqProofs [go_sem,q0,q1,q11,q48,q49,q50,q65,q66,q67,hqt,hqt',↓hld2,↓hst2];have hB9:=Blk.new w8 l[q].cs 186;have b9:=(Below.refl w8.heap.size w8).alloc (Nat.le_refl _) (.cells l[q].cs 186);have hc0:l[q].cs[0]?=some (.int .i64 ((Lk[q]:Nat):Int)):=by rw [← hoq];rfl
     have hrow9:=ownsRow_next hrow8 b9;have hsep9:Sep (w8.alloc (.cells l[q].cs 186)) (BlkOf a2) (some ⟨lb,lo,none⟩):=hsep8.turn (Turn.of b9);obtain ⟨g,c10,w10,hr10,hrow10,hg1,hg2,hsz10,t10⟩:=push_own (P:=Tryz.prog) (t:=45) (ty:=45) (cs:=#[.int .i64 ((Lk[q]:Nat):Int)]) Tryz.underlying45 eI_int (by decide) rfl (by simp [Value.oneCell']) (by decide) (by omega) (by have:=b8.size;have:=b9.size;omega) hrow9;rw [show (w8.alloc (.cells l[q].cs 186)).heap.size=w8.heap.size+1 by simp] at hr10
     simp -implicitDefEqProofs [go_sem,q0,q1,q11,q48,q49,q50,q65,q66,q67,hB9.cell,hc0,hr10];have t810:Turn w8 (BlkOf a2) w10 (fun k=>k=g):=(Turn.of b9).trans t10;have hb10:Below w3.heap.size w3 w10:=b8.trans (t810.mod.below b8.size fun k hk=>(ownsRow_blk hrow8 k hk).1);have e3:offC (L++Lk.take q)++(#[.int .i64 ((Lk[q]:Nat):Int)]:Array Value).toList=offC (L++Lk.take (q+1)):=by
      rw [List.take_succ_eq_append_getElem (show q<Lk.length by omega),← List.append_assoc,offC_app (L++Lk.take q) [Lk[q]]];rfl
     rw [e3] at hrow10;refine goE_round ⟨q+1,some ⟨g,0,none⟩,c10,by omega,?_⟩ ?_
     ·simp -implicitDefEqProofs [go_sem,q0,q1,q11,q48,q49,q50,q65,q66,q67,i2];rw [show L.length+q+1=L.length+(q+1) by omega] at *;refine ⟨rfl,hrow10,hb10,hl8.turn hsep8 t810,fun y hy=>?_⟩;have h1:=hsep8.turn t810 y hy;exact ⟨h1.1,fun ⟨z,hz,hk⟩=>h1.2 (by obtain rfl:=Option.some.inj hz;exact hk.symm)⟩
     ·simp -implicitDefEqProofs [go_sem,q67,intOf,i2];omega
    ·obtain rfl:q=l.length:=by omega
     have i3:=IntWalk.i64_in ((k:Int)+1) (by omega);simp -implicitDefEqProofs [go_sem,q0,q1,q11,q48,q49,q50,q65,q66,q67,i3];have hLkt:Lk.take l.length=Lk:=by rw [← hlk,List.take_length]
     rw [hLkt] at hrow8;refine goE_round ⟨k+1,L++Lk,a2,c2,by omega,?_,?_⟩ ?_
     ·rw [List.take_succ_eq_append_getElem hlt,chL_app,chL_one,← hLk,← List.append_assoc];exact hLp.append (List.Perm.refl _)
     ·rw [List.length_append,hlk];simp -implicitDefEqProofs [go_sem,q0,q1,q11,q48,q49,q50,i3];exact ⟨hrow8,b8⟩
     ·simp -implicitDefEqProofs [go_sem,g50,intOf,i3];omega
  ·obtain rfl:k=I.length:=by omega
   rw [List.take_length] at hLp;have hLl:L.length≤400:=by
    have h1:=hLp.length_eq;rw [List.length_append] at h1;omega
   simp -implicitDefEqProofs [go_sem,g0,g1,g11,g48,g49,g50];refine callE_of (sortI_calls a' L c' w3.heap.size w5 (by omega) hrow5) ?_;rintro v w6 ⟨L',rfl,hp',hso,hl',hrow6,t6⟩;have b36:Below w3.heap.size w3 w6:=b5.trans (t6.mod.below b5.size fun k hk=>(ownsRow_blk hrow5 k hk).1);have bel6:=btr bel3 b36;have hLnd:L'.Nodup:=by
    refine hp'.nodup_iff.2 (hLp.nodup_iff.2 ?_);have h1:=hO.nd;rw [← hIe,← List.append_assoc] at h1;exact (List.nodup_append.1 h1).1
   simp -implicitDefEqProofs [go_sem,g0,g1,g11,g48,g49,g50];refine wpE_loop (fun e2 w'=>∃ i:Nat,1≤i∧e2 0=.pointer (some ⟨p,0,none⟩)∧e2 11=.slice a' L.length c'∧e2 18=.int .i64 (i:Int)∧w'.ownsRow w3.heap.size 3 1 (.slice a' L.length c') L.length (offC L')∧Below w3.heap.size w3 w') (fun e2 _=>L.length-(intOf (e2 18)).toNat) ?_ ?_
   ·refine ⟨1,Nat.le_refl _,?_⟩;simp -implicitDefEqProofs [go_sem,g0,g1,g11,g48,g49,g50];exact ⟨hrow6,b36⟩
   ·rintro e2 w7 ⟨i,hi,q0,q11,q18,hrow7,b7⟩;by_cases hit:i<L.length
    ·have hit':(i:Int)<(L.length:Int):=by omega
     have i1:=IntWalk.i64_in ((i:Int)+1) (by omega);obtain ⟨j,rfl⟩:∃ j,i=j+1:=⟨i-1,by omega⟩;have i2:=IntWalk.i64_in (j:Int) (by omega);have i3:(j:Int)<(L.length:Int):=by omega
     have i4:j<L.length:=by omega
     have i5:(0:Int)≤(j:Int)+1:=by omega
     have hV:=owns_vsIn (l:=offC L') (by rw [offC_len,hl']) hrow7;obtain ⟨lb,lo,ha,hc⟩:=hV.at_.cell (i:=j+1) (by rw [offC_len];omega);obtain ⟨lb',lo',ha',hc'⟩:=hV.at_.cell (i:=j) (by rw [offC_len];omega);subst ha;obtain ⟨rfl,rfl⟩:lb=lb'∧lo=lo':=by simpa using ha'
     rw [offC_get L' (show j+1<L'.length by omega)] at hc;rw [offC_get L' (show j<L'.length by omega)] at hc';have hneq:(((L'[j+1]'(by omega):Nat):Int)==((L'[j]'(by omega):Nat):Int))=false:=by
      rw [beq_eq_false_iff_ne];intro e;have h1:L'[j+1]'(by omega)=L'[j]'(by omega):=by omega
      exact List.pairwise_iff_getElem.1 hLnd j (j+1) (by omega) (by omega) (by omega) h1.symm
     have hit2:(j:Int)+1<(L.length:Int):=by omega
     simp -implicitDefEqProofs [go_sem,q0,q11,q18,hit,hit2];refine drawE_still mixed (by decide +kernel) ?_;simp -implicitDefEqProofs [go_sem,q0,q11,q18,hit,hit2,i2,i3,i4,i5,hc,hc',hneq];unfold endE;simp -implicitDefEqProofs [go_sem,q0,q11,q18,i1];refine goE_round ⟨j+1+1,by omega,?_⟩ ?_
     ·have i6:=IntWalk.i64_in ((j:Int)+1+1) (by omega);simp -implicitDefEqProofs [go_sem,q0,q11,q18,i6];exact ⟨ownsRow_next hrow7 (Below.refl _ _).drew,b7.drew⟩
     ·have i6:=IntWalk.i64_in ((j:Int)+1+1) (by omega);simp -implicitDefEqProofs [go_sem,q18,intOf,i6];omega
    ·have hit':¬ (i:Int)<(L.length:Int):=by omega
     simp -implicitDefEqProofs [go_sem,q0,q11,q18,hit,hit'];refine body_tmp2 6 7 rfl ?_;simp -implicitDefEqProofs [go_sem];have hbel:=btr bel3 b7;rw [← hl'] at hrow7 ⊢;exact ⟨a',L',c',⟨rfl,rfl,rfl⟩,hp'.trans hLp,hso,ownsRow_base hrow7 bel3.size,hbel⟩
end
end
end Go.Proofs.YtaaihijkdhmcdaaGreatDoor
