/- WholeImage, part 31 of 41: contracts and lemmas of its proof. Conditions: none. -/
import Derived.Test.YtaaihijkdhmcdaaGreatDoorW29
import Derived.Test.YtaaihijkdhmcdaaGreatDoorW26
set_option linter.unusedVariables false
set_option linter.unusedSimpArgs false
set_option maxRecDepth 100000
namespace Go.Proofs.YtaaihijkdhmcdaaGreatDoor
section
open Go Go.RowKit Go.Maps Go.Sort Go.Shelf
open TR
section
variable {w w':World} {m b p s x mb base n cap:Nat} {V:PV} {G G' F:Nat→Prop} {o:Option Tr} {X:List Nat}
theorem keys_perm {L:List Nat}(h:MapI w mb n (addF L fun _=>0))(hL:L.Nodup)(hs:∀ y∈L,y<1000000) :
  ∃ D:DataW Unit,w.ownsMap Tryz.prog 3 (plainElem Tryz.prog 3) mb n D∧(L.map fun o:Nat=>(o:Int)).Perm (intKeys D)∧Maps.size D≤n:=by
 obtain ⟨D,h1,h2⟩:=h;refine ⟨D,h1,?_,h1.size_le⟩;have hmem:∀ z:Int,z∈L.map (fun o:Nat=>(o:Int))→I64 z:=fun z hz=>by
  obtain ⟨y,hy,rfl⟩:=List.mem_map.1 hz;have:=hs y hy;unfold I64;omega
 refine CollectedI.perm (left:=fun _=>false) ⟨?_,fun z=>⟨fun hz=>⟨?_,rfl⟩,fun hz=>?_⟩⟩ h1 (Maps.int_keyed Tryz.underlying3) Tryz.underlying3 (fun _=>rfl)
 ·exact List.pairwise_map.2 (hL.imp fun {a b} hab e=>hab (by omega))
 ·rcases h2 z (hmem z hz) with ⟨h3,_⟩|⟨_,h3⟩
  ·unfold addF at h3;rw [if_pos hz] at h3;cases h3
  ·exact has_true_of_atKey h3
 ·have hk:z∈intKeys D:=by
   obtain ⟨es,rfl,hko⟩:=h1.keysOf;have h3:=hz.1;rw [has_eq,List.any_eq_true] at h3;obtain ⟨q,hq,hs⟩:=h3;obtain ⟨v,hv⟩:=hko q hq;obtain ⟨y,_,hy,hl⟩:=Maps.keyOf_i64 Tryz.underlying3 hv;rw [hy] at hs;have:y=z:=by simpa [Lit.sameKey] using hs
   exact List.mem_map.2 ⟨q,hq,by rw [hy];exact this⟩
  have hzI:I64 z:=wf_i64' (intKeys_wf h1 Tryz.underlying3 z hk)
  rcases h2 z hzI with ⟨_,h3⟩|⟨h3,_⟩
  ·have:=has_false_of_atKey h3;rw [hz.1] at this;cases this
  ·unfold addF at h3;split at h3
   ·assumption
   ·exact absurd rfl h3
theorem sortsA (k:Nat):AnyZI.SortsIn Tryz.prog sortedA_ren Fence.wide k :=
 ⟨fun blk off cap ss W hH hblk hsz=>callsIn_wide.2 (AnyM.slices_Sort_int sortA blk off cap ss W hH hblk hsz),
  fun p cap W=>callsIn_wide.2 (AnyM.slices_Sort_int_none sortA p cap W)⟩
set_option maxHeartbeats 4000000
theorem mapsKeys_calls (mb:Nat)(w0:World) :
  Ret Tryz.prog 121 #[.map (some mb)] w0 fun v w'=>v=.func (.func 149) #[] #[.pointer (some ⟨w0.heap.size,0,none⟩)]∧w'=w0.alloc (.cells #[.map (some mb)] 197):=by
 have cK:CallsIn Fence.wide 5 Tryz.prog 121 #[.map (some mb)] w0 fun e w'=>e=.returned (.func (.func 149) #[] #[.pointer (some ⟨w0.heap.size,0,none⟩)])∧w'=w0.alloc (.cells #[.map (some mb)] 197):=AnyZI.keys_in keysA Fence.wide 5 trivial rfl (some mb) w0
 exact ((callsIn_wide (n:=5)).1 cK).mono fun e w' ⟨h1,h2⟩=>⟨_,h1,rfl,h2⟩
theorem sortedKeys_calls {L:List Nat}(mb n:Nat)(w0:World)(h:MapI w0 mb n (addF L fun _=>0))(hL:L.Nodup)(hs:∀ y∈L,y<1000000)(hn:n≤100000) :
  Ret Tryz.prog 120 #[.func (.func 149) #[] #[.pointer (some ⟨w0.heap.size,0,none⟩)]] (w0.alloc (.cells #[.map (some mb)] 197)) fun v w'=>∃ a ss cap,v=.slice a ss.length cap∧List.Perm ss L∧ss.Pairwise (·≤·)∧w'.ownsRow (w0.heap.size+1) 3 1 (.slice a ss.length cap) ss.length (offC ss)∧Below w0.heap.size w0 w':=by
 obtain ⟨D,hown,hperm,hsize⟩:=keys_perm h hL hs;have hbl:=hown.lt;have hseq:SeqGives Fence.wide 2 Tryz.prog 149 #[.pointer (some ⟨w0.heap.size,0,none⟩)] encZ (fun ss=>ss.Perm (intKeys D)) (Maps.size D) (w0.alloc (.cells #[.map (some mb)] 197)) :=
  AnyZI.keys_gives (ρ:=keysA_ren) { keysA with } Fence.wide _ trivial rfl (by omega) w0.heap.size mb n D _ (by simp) (by simp) (by
   obtain ⟨es,clock,hb,Ft,hs,hD⟩:=hown;exact ⟨es,clock,(Below.heap_alloc _ _ mb hbl).trans hb,Ft,hs,hD⟩)
 have cS:=AnyZI.sorted_in sortedA Fence.wide 5 trivial trivial trivial trivial rfl (by omega) (sortsA _) (enters_of Tryz.func87 (by kernel_rfl) rfl) 149 #[.pointer (some ⟨w0.heap.size,0,none⟩)] trivial (enters_of Tryz.func149 (by kernel_rfl) rfl) _ _ (by unfold maxLen;omega) (by omega) _ hseq;change CallsIn _ _ Tryz.prog 120 _ _ _ at cS;refine ((callsIn_wide (n:=5)).1 cS).mono ?_;rintro e w' ⟨v,ss,rfl,hS,hrow,hnil,hb⟩;have hP:ss.Perm (L.map fun o:Nat=>(o:Int)):=hS.trans hperm.symm
 have hP2:(ss.mergeSort leI).Perm (L.map fun o:Nat=>(o:Int)):=(List.mergeSort_perm ss leI).trans hP;have tr:∀ a b c:Int,leI a b=true→leI b c=true→leI a c=true:=fun a b c h1 h2=>by simp only [leI,decide_eq_true_eq] at *;exact Int.le_trans h1 h2
 have to:∀ a b:Int,(leI a b || leI b a)=true:=fun a b=>by simp only [leI,Bool.or_eq_true,decide_eq_true_eq];exact Int.le_total a b
 have hsorted:=List.pairwise_mergeSort tr to ss;obtain ⟨ns,hns⟩:∃ ns:List Nat,ss.mergeSort leI=ns.map fun o:Nat=>(o:Int):=by
  refine ⟨(ss.mergeSort leI).map Int.toNat,?_⟩;rw [List.map_map];refine (List.map_id _).symm.trans (List.map_congr_left fun z hz=>?_);obtain ⟨y,_,rfl⟩:=List.mem_map.1 (hP2.mem_iff.1 hz);simp
 have hlen:ss.length=ns.length:=by
  have h1:=congrArg List.length hns;rw [List.length_mergeSort,List.length_map] at h1;exact h1
 have hrow':w'.ownsRow (w0.heap.size+1) 3 1 v ns.length (offC ns):=by
  have e:(ss.mergeSort leI).map encZ=offC ns:=by rw [hns];simp [offC,encZ]
  have hrow:w'.ownsRow _ 3 1 v ss.length ((ss.mergeSort leI).map encZ):=hrow;rw [e,hlen] at hrow;have e2:(w0.alloc (.cells #[.map (some mb)] 197)).heap.size=w0.heap.size+1:=by simp
  rw [e2] at hrow;exact hrow
 have hv:∃ a cap,v=.slice a ns.length cap:=by
  obtain ⟨_,⟨h1,h2⟩|⟨g,c2,cur,h1,_⟩⟩:=hrow'
  ·exact ⟨none,0,by rw [h2];exact h1⟩
  ·exact ⟨_,_,h1⟩
 obtain ⟨a,c2,rfl⟩:=hv;refine ⟨_,rfl,a,ns,c2,rfl,?_,?_,hrow',((Below.refl _ w0).alloc (Nat.le_refl _) _).trans (hb.mono (by simp))⟩
 ·rw [hns] at hP2;have h1:=hP2.map Int.toNat;have e:∀ l:List Nat,(l.map fun o:Nat=>(o:Int)).map Int.toNat=l:=fun l=>by
   rw [List.map_map];exact (List.map_congr_left fun z _=>by simp).trans (List.map_id l)
  rw [e,e] at h1;exact h1
 ·rw [hns] at hsorted;have h1:=List.pairwise_map.1 hsorted;exact h1.imp fun {a b} hab=>by simp only [leI,decide_eq_true_eq] at hab;omega
theorem idxNodes_calls (x:Nat)(w0:World)(h:Pd w0 m V b p G)(hm:m=6∨m=24)(hx:Blk w0 x (IxC p b) 178)(hO:Own m V o X) :
  Ret Tryz.prog 84 #[.pointer (some ⟨x,0,none⟩)] w0 fun v w'=>∃ a ss cap,v=.tuple #[.slice a ss.length cap,.int .i64 0]∧List.Perm ss (nodesO o)∧ss.Pairwise (·≤·)∧w'.ownsRow w0.heap.size 3 1 (.slice a ss.length cap) ss.length (offC ss)∧Below w0.heap.size w0 w':=by
 have bel0:=Below.refl w0.heap.size w0;refine ret_of (args:=[_]) _ Tryz.func84 rfl Tryz.ntmps84 (by simp) ?_;simp -implicitDefEqProofs [go_sem];refine callE_of (survey_calls x w0 h hm hx hO) ?_;rintro v w1 ⟨s,mb,n,a,cap,rfl,hS,hs,hmb,hn,b1⟩;have bel1:=bel0.trans b1;have c1:=hS.sv.cell 2;simp at c1;simp -implicitDefEqProofs [go_sem,c1];refine callE_of (mapsKeys_calls mb w1) ?_;rintro v w2 ⟨rfl,rfl⟩;simp -implicitDefEqProofs [go_sem]
 refine callE_of (sortedKeys_calls mb n w1 hS.map (List.nodup_append.1 hO.nd).1 (fun y hy=>bk_small hm ((hO.all y).2 (List.mem_append_left _ hy))) (by omega)) ?_;rintro v w3 ⟨a3,ss,c3,rfl,hP,hsort,hrow,b3⟩;have bel3:=btr bel1 b3;simp -implicitDefEqProofs [go_sem];refine body_tmp2 2 3 rfl ?_;simp -implicitDefEqProofs [go_sem];exact ⟨a3,ss,c3,⟨rfl,rfl,rfl⟩,hP,hsort,ownsRow_base hrow (by have:=bel1.size;omega),bel3⟩
theorem pdSize_calls (w0:World)(h:Pd w0 m V b p G)(hr:Rest m V)(hm:m=6∨m=24) :
  Ret Tryz.prog 27 #[.pointer (some ⟨p,0,none⟩)] w0 fun v w'=>v=.int .i64 ((64*nL m:Nat):Int)∧w'=w0:=by
 obtain ⟨tb,tc,hb,hc,F,hP,hG⟩:=h;refine (sizeB w0 hP.dev).mono ?_;rintro v w' ⟨rfl,rfl⟩;refine ⟨?_,rfl⟩;unfold NM.Dv.size;rw [hr.well.lines]
theorem idxOpen_calls (w0:World)(h:Pd w0 m V b p G)(hm:m=6∨m=24)(hO:Own m V o X) :
  Ret Tryz.prog 50 #[.pointer (some ⟨p,0,none⟩),.pointer (some ⟨b,0,none⟩)] w0 fun v w'=>∃ x,v=.tuple #[.pointer (some ⟨x,0,none⟩),.int .i64 0]∧Blk w' x (IxC p b) 178∧w0.heap.size≤x∧Below w0.heap.size w0 w':=by
 have bel0:=Below.refl w0.heap.size w0;have zf:=sz hm;have hne:(64*(nL m:Int)==0)=false:=by rw [beq_eq_false_iff_ne];omega
 refine ret_of (args:=[_,_]) _ Tryz.func50 rfl Tryz.ntmps50 (by simp) ?_;simp -implicitDefEqProofs [go_sem];refine callE_of (pdSize_calls w0 h hO.rest hm) ?_;rintro v w1 ⟨rfl,rfl⟩;have bel1:=bel0;simp -implicitDefEqProofs [go_sem,hne];generalize hw2:World.alloc w1 _=w2 at *;obtain ⟨hB2,b2,sz2,bel2⟩:=newF hw2 bel1;replace h:=h.next b2
 refine callE_of (idxNodes_calls w1.heap.size w2 h hm hB2 hO) ?_;rintro v w3 ⟨a3,ss,c3,rfl,-,-,-,b3⟩;have bel3:=btr bel2 b3;replace hB2:=hB2.next b3
 simp -implicitDefEqProofs [go_sem];refine body_tmp2 4 5 rfl ?_;simp -implicitDefEqProofs [go_sem];exact ⟨hB2,bel3⟩
end
end
section
open Go Go.RowKit Go.Maps Go.Sort Go.Shelf
open TR
set_option maxHeartbeats 4000000
theorem infoI:(Tryz.prog.info? 3).map (fun i=>(i.zero,i.size,i.bytes))=some (some (.int .i64 0),1,8):=by kernel_rfl
theorem offC_one (l:List Nat):∀ u∈offC l,u.oneCell'=true:=fun u hu=>by
 simp [offC] at hu;obtain ⟨x,_,rfl⟩:=hu;rfl
theorem cloneI_calls (a:Option Addr)(l:List Nat)(c:Nat)(w0:World)(hl:l.length≤1000000)(hin:VsIn w0 a (offC l) c)(hn:a=none→l=[]) :
  Ret Tryz.prog 85 #[.slice a l.length c] w0 fun v w'=>∃ a' c',v=.slice a' l.length c'∧w'.ownsRow w0.heap.size 3 1 (.slice a' l.length c') l.length (offC l)∧Below w0.heap.size w0 w':=by
 have nilEq:=fun w a n c=>Lib.run_eql_slice_nil (P:=Tryz.prog) w 45 3 a n c 0 0 Tryz.underlying45
 have bel0:=Below.refl w0.heap.size w0;refine ret_of (args:=[_]) _ Tryz.func85 rfl Tryz.ntmps85 (by simp) ?_;cases a with
 | none =>
  have h0:=hn rfl;subst h0;have hc:=hin.nil rfl;subst hc;simp -implicitDefEqProofs [go_sem,nilEq];refine body_tmp 2 rfl ?_;simp -implicitDefEqProofs [go_sem];exact ⟨none,0,⟨rfl,rfl⟩,World.ownsRow_nil _ _ _ _,bel0⟩
 | some x =>
  have hlit:=World.ownsRow_lit (base:=w0.heap.size) (e:=3) (size:=1) w0 #[] 0 (Nat.le_refl _) (by decide) rfl;have b1:Below w0.heap.size w0 (w0.alloc (.cells #[] 3)):=bel0.alloc (Nat.le_refl _) _;obtain ⟨a2,c2,w2,hr,hown,hgr⟩:=run_append1 (P:=Tryz.prog) w0.heap.size (t:=45) (bytes:=8) (z:=.int .i64 0) 45 Tryz.underlying45 infoI rfl hlit (a2:=some x) (c2:=c) (m:=l.length) (news:=offC l) (offC_len l)
   ((hin.at_.next b1).src) (fun h=>by cases h) (offC_one l) (by omega) (by omega) (by simp)
  rw [Nat.zero_add,List.nil_append] at hown;rw [Nat.zero_add] at hr;simp -implicitDefEqProofs [go_sem,nilEq,hr];refine body_tmp 2 rfl ?_;simp -implicitDefEqProofs [go_sem];exact ⟨a2,c2,⟨rfl,rfl⟩,hown,b1.grown hgr (by simp) (fun j hj=>by simp [Value.ownBlock] at hj;omega)⟩
theorem sorted_list {ss:List Int}{L:List Nat}(hP:ss.Perm (L.map fun o:Nat=>(o:Int))):∃ ns:List Nat,ss.mergeSort leI=ns.map (fun o:Nat=>(o:Int))∧ns.Perm L∧ns.Pairwise (·≤·):=by
 have hP2:(ss.mergeSort leI).Perm (L.map fun o:Nat=>(o:Int)):=(List.mergeSort_perm ss leI).trans hP;have tr:∀ a b c:Int,leI a b=true→leI b c=true→leI a c=true:=fun a b c h1 h2=>by simp only [leI,decide_eq_true_eq] at *;exact Int.le_trans h1 h2
 have to:∀ a b:Int,(leI a b || leI b a)=true:=fun a b=>by simp only [leI,Bool.or_eq_true,decide_eq_true_eq];exact Int.le_total a b
 have hsorted:=List.pairwise_mergeSort tr to ss;have hns:ss.mergeSort leI=((ss.mergeSort leI).map Int.toNat).map fun o:Nat=>(o:Int):=by
  rw [List.map_map];refine (List.map_id _).symm.trans (List.map_congr_left fun z hz=>?_);obtain ⟨y,_,rfl⟩:=List.mem_map.1 (hP2.mem_iff.1 hz);simp
 refine ⟨(ss.mergeSort leI).map Int.toNat,hns,?_,?_⟩
 ·have h1:=hP2.map Int.toNat;rw [List.map_map,show (Int.toNat ∘ fun o:Nat=>(o:Int))=id from by funext z;simp,List.map_id] at h1;exact h1
 ·rw [hns] at hsorted;have h1:=List.pairwise_map.1 hsorted;exact h1.imp fun {a b} hab=>by simp only [leI,decide_eq_true_eq] at hab;omega
theorem sortI_calls (a:Option Addr)(L:List Nat)(c base:Nat)(w0:World)(hl:L.length≤100000)(hown:w0.ownsRow base 3 1 (.slice a L.length c) L.length (offC L)) :
  Ret Tryz.prog 87 #[.slice a L.length c] w0 fun v w'=>∃ L',v=.tuple #[]∧L'.Perm L∧L'.Pairwise (·≤·)∧L'.length=L.length∧w'.ownsRow base 3 1 (.slice a L.length c) L.length (offC L')∧Turn w0 (BlkOf a) w' (BlkOf a):=by
 rcases hown.2 with ⟨h1,h0⟩|⟨g,cap,cur,h1,hg,hb,hc1,hc2,hc3,ht⟩
 ·simp only [Value.slice.injEq] at h1;obtain ⟨rfl,_,rfl⟩:=h1;have hL:L=[]:=List.eq_nil_of_length_eq_zero h0;subst hL;refine (AnyM.slices_Sort_int_none sortA none 0 w0).mono ?_;rintro e w' ⟨rfl,rfl⟩;exact ⟨_,rfl,[],rfl,List.Perm.refl _,List.Pairwise.nil,rfl,hown,Turn.of (Below.refl _ _)⟩
 ·simp only [Value.slice.injEq] at h1;obtain ⟨rfl,_,rfl⟩:=h1;have hz:(L.map fun o:Nat=>(o:Int)).length=L.length:=List.length_map _;have hm:(L.map fun o:Nat=>(o:Int)).map encZ=offC L:=by simp [offC,encZ]
  have hH:Holds encZ w0 g 0 (L.map fun o:Nat=>(o:Int)).toArray:=holds_of_block_i hb (by rw [hz,hm,← ht,Nat.mul_one]);have hS:=AnyM.slices_Sort_int sortA g 0 c (L.map fun o:Nat=>(o:Int)) w0 hH (Array.getElem?_eq_some_iff.1 hb).1 (by rw [hz];omega);rw [hz] at hS;refine hS.mono ?_;rintro e w' ⟨rfl,n,os,rfl⟩;obtain ⟨ns,hns,hp,hso⟩:=sorted_list (L:=L) (List.Perm.refl _);have hlen:ns.length=L.length:=hp.length_eq;have e1:(ns.map fun o:Nat=>(o:Int)).map encZ=offC ns:=by simp [offC,encZ]
  have hrow:=ownsRow_sorted_i (w:=w0) (base:=base) (g:=g) (cap:=c) (n:=n) (os:=os) (ss:=L.map fun o:Nat=>(o:Int)) (ts:=ns.map fun o:Nat=>(o:Int)) (by rw [List.length_map,List.length_map,hlen]) hg hb (by rw [hz];exact hc1) hc2 hc3;rw [e1,hz] at hrow;have e2:((L.map fun o:Nat=>(o:Int)).mergeSort fun x y=>decide (x≤y))=ns.map fun o:Nat=>(o:Int):=hns
  rw [e2];refine ⟨_,rfl,ns,rfl,hp,hso,hlen,hrow,(mod_of_grown (grownBy_sorted_i _)).mono fun k hk _=>⟨_,rfl,Option.some.inj hk⟩,fun k hk=>.inl hk⟩
end
section
open Go Go.RowKit
open TR
def chL (ch:BitVec 64→List LinkV × List Nat)(I:List TR.Item):List Nat:=I.flatMap fun e=>(ch e.2).2
structure Sto (m:Nat) (V:PV) (o:Option Tr) (ch:BitVec 64→List LinkV × List Nat) (X:List Nat) (top:Nat):Prop where
 own:Own m V o (chL ch (itemsO o)++X)
 chain:∀ e∈itemsO o,ChAt m V e.2 (ch e.2).1 (ch e.2).2∧FallL (ch e.2).1∧∀ k∈(ch e.2).1,k.stamp.toNat≤top
theorem chL_nil (ch:BitVec 64→List LinkV × List Nat):chL ch []=[]:=rfl
theorem chL_app (ch:BitVec 64→List LinkV × List Nat)(I J:List TR.Item):chL ch (I++J)=chL ch I++chL ch J:=by simp [chL]
theorem chL_one (ch:BitVec 64→List LinkV × List Nat)(e:TR.Item):chL ch [e]=(ch e.2).2:=by simp [chL]
section
variable {w w':World} {m b p s x mb base n cap top:Nat} {V:PV} {G G' F:Nat→Prop} {o:Option Tr} {X:List Nat} {ch:BitVec 64→List LinkV × List Nat}
theorem Sto.len (h:Sto m V o ch X top)(hm:m=6∨m=24):(nodesO o).length+(chL ch (itemsO o)).length+X.length≤400:=by
 have:=h.own.len hm;rw [List.length_append] at this;omega
theorem Sto.one_len (h:Sto m V o ch X top)(hm:m=6∨m=24){e:TR.Item}(he:e∈itemsO o):(ch e.2).1.length≤400:=by
 have h1:=h.len hm;obtain ⟨I,J,hI⟩:=List.append_of_mem he;rw [hI,chL_app,show e::J=[e]++J from rfl,chL_app,chL_one] at h1;simp only [List.length_append] at h1;have:=(h.chain e he).1.len;omega
theorem offC_app (a b:List Nat):offC (a++b)=offC a++offC b:=by simp [offC]
set_option maxHeartbeats 4000000
theorem itemI:(Tryz.prog.info? 149).map (·.size)=some 2:=by kernel_rfl
theorem reach_calls (x:Nat)(w0:World)(h:Pd w0 m V b p G)(hm:m=6∨m=24)(hx:Blk w0 x (IxC p b) 178)(hS:Sto m V o ch X top) :
  Ret Tryz.prog 51 #[.pointer (some ⟨p,0,none⟩),.pointer (some ⟨b,0,none⟩),.pointer (some ⟨x,0,none⟩)] w0 fun v w'=>∃ a ss cap,v=.tuple #[.slice a ss.length cap,.int .i64 0]∧List.Perm ss (nodesO o++chL ch (itemsO o))∧ss.Pairwise (·≤·)∧w'.ownsRow w0.heap.size 3 1 (.slice a ss.length cap) ss.length (offC ss)∧Below w0.heap.size w0 w':=by
 have bel0:=Below.refl w0.heap.size w0;have zf:=sz hm;have hr:=hS.own.rest;have hO:=hS.own;have hlen:=hS.len hm;have hne:(64*(nL m:Int)==0)=false:=by rw [beq_eq_false_iff_ne];omega
 have hp0:=h;have hx0:=hx;refine ret_of (args:=[_,_,_]) _ Tryz.func51 rfl Tryz.ntmps51 (by simp) ?_;simp -implicitDefEqProofs [go_sem];refine callE_of (pdSize_calls w0 h hr hm) ?_;rintro v w1 ⟨rfl,rfl⟩;have bel1:=bel0;simp -implicitDefEqProofs [go_sem,hne];refine callE_of (idxNodes_calls x w1 h hm hx hO) ?_;rintro v w2 ⟨an,ns,cn,rfl,hnp,-,hnrow,b2⟩;have bel2:=btr bel1 b2;replace h:=h.next b2
 replace hx:=hx.next b2
 simp -implicitDefEqProofs [go_sem];refine callE_of (idxAll_calls x w2 h hm hx hO) ?_;rintro v w3 ⟨ai,ci,rfl,hI,-,b3⟩;have bel3:=btr bel2 b3;replace h:=h.next b3
 replace hx:=hx.next b3
 have hnrow3:=ownsRow_next hnrow b3;simp -implicitDefEqProofs [go_sem];have hns:=owns_vsIn (l:=offC ns) (offC_len ns) hnrow3;have hnl:ns.length=(nodesO o).length:=hnp.length_eq;refine callE_of (cloneI_calls an ns cn w3 (by omega) hns (fun e=>List.eq_nil_of_length_eq_zero (by have h1:=hns.nil e;have h2:=hns.le;rw [offC_len] at h2;omega))) ?_;rintro v w4 ⟨al,cl,rfl,hrow4,b4⟩;have bel4:=btr bel3 b4;replace h:=h.next b4
 replace hx:=hx.next b4
 have hI4:=hI.next b4
 simp -implicitDefEqProofs [go_sem];obtain ⟨I,hIe⟩:∃ I,I=itemsO o:=⟨_,rfl⟩;have hil:=itemsO_le o;rw [← hIe] at hI hI4 hlen hil ⊢;refine wpE_loop (fun e' w'=>∃ (k:Nat) (L:List Nat) (a':Option Addr) (c':Nat),k≤I.length∧List.Perm L (nodesO o++chL ch (I.take k))∧e' 0=.pointer (some ⟨p,0,none⟩)∧e' 1=.pointer (some ⟨b,0,none⟩)∧e' 11=.slice a' L.length c'∧e' 48=.slice ai I.length ci∧e' 49=.int .i64 (I.length:Int)∧e' 50=.int .i64 (k:Int) ∧
   w'.ownsRow w3.heap.size 3 1 (.slice a' L.length c') L.length (offC L)∧Below w3.heap.size w3 w') (fun e' _=>I.length-(intOf (e' 50)).toNat) ?_ ?_
 ·refine ⟨0,ns,al,cl,Nat.zero_le _,by rw [List.take_zero,chL_nil,List.append_nil];exact hnp,?_⟩;simp -implicitDefEqProofs [go_sem];exact ⟨hrow4,b4⟩
 ·rintro e' w5 ⟨k,L,a',c',hk,hLp,g0,g1,g11,g48,g49,g50,hrow5,b5⟩;have bel5:=btr bel3 b5;have hI5:=hI.next b5
  have hp5:=hp0.next bel5
  by_cases hlt:k<I.length
  ·have hlt':(k:Int)<(I.length:Int):=by omega
   obtain ⟨ib,io,rfl,hld⟩:=hI5.ld (i:=k) (by simpa using hlt) Tryz.underlying149 rfl itemI;have hkit:(I.map kit)[k]'(by simpa using hlt)=kit I[k]:=by simp
   rw [hkit] at hld;have hst:=stNew (P:=Tryz.prog) (t:=149) (cs:=kit I[k]) (C0:=#[.string ⟨#[]⟩,.int .u64 0]) itemI rfl (kit_one _);have hmem:I[k]∈itemsO o:=by rw [← hIe];exact List.getElem_mem hlt
   obtain ⟨hc1,hc2,hc3⟩:=hS.chain _ hmem;have hc4:=hS.one_len hm hmem;obtain ⟨l,hl⟩:∃ l,l=(ch I[k].2).1:=⟨_,rfl⟩;obtain ⟨Lk,hLk⟩:∃ Lk,Lk=(ch I[k].2).2:=⟨_,rfl⟩;rw [← hl,← hLk] at hc1;rw [← hl] at hc2 hc4;simp -implicitDefEqProofs [go_sem,g0,g1,g11,g48,g49,g50,hlt,hlt',↓hld,↓hst];have hB6:=Blk.new w5 (kit I[k]) 149;have b6:=(Below.refl w5.heap.size w5).alloc (Nat.le_refl _) (.cells (kit I[k]) 149);have hk1:(kit I[k])[1]?=some (.int .u64 (uv I[k].2)):=rfl
   simp -implicitDefEqProofs [go_sem,g0,g1,g11,g48,g49,g50,hB6.cell,hk1];generalize World.alloc w5 _=w6 at *;have hp6:=hp5.next b6
   have hrow6:=ownsRow_next hrow5 b6;refine callE_of (sysList_calls I[k].2 l Lk w6 hp6 hr hm hc1 hc2 (by omega)) ?_;rintro v w7 ⟨a7,c7,rfl,hl7,hnew7,b7⟩;have hrow7:=ownsRow_next hrow6 b7;have b57:=btr b6 b7;have b37:=btr b5 b57;have hsep7:Sep w7 (BlkOf a') a7:=fun y hy=>by
    have h1:=hnew7 y hy;exact ⟨h1.2,fun hf=>by have:=(ownsRow_blk hrow6 _ hf).2;omega⟩
   have hLl:L.length≤400:=by
    have h1:=hLp.length_eq;have h2:(chL ch (I.take k)).length≤(chL ch I).length:=by
     have h3:=congrArg List.length (chL_app ch (I.take k) (I.drop k));rw [List.take_append_drop,List.length_append] at h3;omega
    rw [List.length_append] at h1;omega
   have hlk:Lk.length=l.length:=hc1.len;have hoffs:=hc1.offs;simp -implicitDefEqProofs [go_sem,g0,g1,g11,g48,g49,g50];refine wpE_loop (fun e2 w'=>∃ (q:Nat) (a2:Option Addr) (c2:Nat),q≤l.length∧e2 0=.pointer (some ⟨p,0,none⟩)∧e2 1=.pointer (some ⟨b,0,none⟩)∧e2 11=.slice a2 (L.length+q) c2∧e2 48=.slice (some ⟨ib,io,none⟩) I.length ci∧e2 49=.int .i64 (I.length:Int)∧e2 50=.int .i64 (k:Int)∧e2 65=.slice a7 l.length c7∧e2 66=.int .i64 (l.length:Int)∧e2 67=.int .i64 (q:Int) ∧
    w'.ownsRow w3.heap.size 3 1 (.slice a2 (L.length+q) c2) (L.length+q) (offC (L++Lk.take q))∧Below w3.heap.size w3 w'∧LksIn w' a7 l c7∧Sep w' (BlkOf a2) a7) (fun e2 _=>l.length-(intOf (e2 67)).toNat) ?_ ?_
   ·refine ⟨0,a',c',Nat.zero_le _,?_⟩;simp -implicitDefEqProofs [go_sem,g0,g1,g11,g48,g49,g50];exact ⟨hrow7,b37,hl7,hsep7⟩
   ·rintro e2 w8 ⟨q,a2,c2,hq,q0,q1,q11,q48,q49,q50,q65,q66,q67,hrow8,b8,hl8,hsep8⟩;have bel8:=btr bel3 b8;by_cases hqt:q<l.length
    ·have hqt':(q:Int)<(l.length:Int):=by omega
     have i2:=IntWalk.i64_in ((q:Int)+1) (by omega);obtain ⟨lb,lo,rfl,hcell⟩:=hl8.get hqt;have hld2:=ldCells (P:=Tryz.prog) (w:=w8) (g:=lb) (o:=lo+q*5) (cs:=l[q].cs) Tryz.underlying186 rfl lkI_ours.five rfl hcell;have hst2:=stNew (P:=Tryz.prog) (t:=186) (cs:=l[q].cs) (C0:=#[.int .i64 0,.int .u64 0,.int .u64 0,.bool false,.string ⟨#[]⟩]) lkI_ours.five rfl (l[q].cs_one);have hoq:l[q].off=((Lk[q]:Nat):Int):=by
      have h1:(l.map LinkV.off)[q]'(by simpa using hqt)=(Lk.map fun o:Nat=>(o:Int))[q]'(by simpa [hlk] using hqt):=by simp only [hoffs]
      simpa using h1
     simp -implicitDefEqProofs [go_sem,q0,q1,q11,q48,q49,q50,q65,q66,q67,hqt,hqt',↓hld2,↓hst2];have hB9:=Blk.new w8 l[q].cs 186;have b9:=(Below.refl w8.heap.size w8).alloc (Nat.le_refl _) (.cells l[q].cs 186);have hc0:l[q].cs[0]?=some (.int .i64 ((Lk[q]:Nat):Int)):=by rw [← hoq];rfl
     have hrow9:=ownsRow_next hrow8 b9;have hsep9:Sep (w8.alloc (.cells l[q].cs 186)) (BlkOf a2) (some ⟨lb,lo,none⟩):=hsep8.turn (Turn.of b9);obtain ⟨g,c10,w10,hr10,hrow10,hg1,hg2,hsz10,t10⟩:=push_own (P:=Tryz.prog) (t:=45) (ty:=45) (cs:=#[.int .i64 ((Lk[q]:Nat):Int)]) Tryz.underlying45 eI_int (by decide) rfl (by simp [Value.oneCell']) (by decide) (by omega) (by have:=b8.size;have:=b9.size;omega) hrow9;rw [show (w8.alloc (.cells l[q].cs 186)).heap.size=w8.heap.size+1 by simp] at hr10
     simp -implicitDefEqProofs [go_sem,q0,q1,q11,q48,q49,q50,q65,q66,q67,hB9.cell,hc0,hr10];have t810:Turn w8 (BlkOf a2) w10 (fun k=>k=g):=(Turn.of b9).trans t10;have hb10:Below w3.heap.size w3 w10:=b8.trans (t810.mod.below b8.size fun k hk=>(ownsRow_blk hrow8 k hk).1);have e3:offC (L++Lk.take q)++(#[.int .i64 ((Lk[q]:Nat):Int)]:Array Value).toList=offC (L++Lk.take (q+1)):=by
      rw [List.take_succ_eq_append_getElem (show q<Lk.length by omega),← List.append_assoc,offC_app (L++Lk.take q) [Lk[q]]];rfl
     rw [e3] at hrow10;refine goE_round ⟨q+1,some ⟨g,0,none⟩,c10,by omega,?_⟩ ?_
     ·simp -implicitDefEqProofs [go_sem,q0,q1,q11,q48,q49,q50,q65,q66,q67,i2];rw [show L.length+q+1=L.length+(q+1) by omega] at *;refine ⟨rfl,hrow10,hb10,hl8.turn hsep8 t810,fun y hy=>?_⟩;have h1:=hsep8.turn t810 y hy;exact ⟨h1.1,fun ⟨z,hz,hk⟩=>h1.2 (by obtain rfl:=Option.some.inj hz;exact hk.symm)⟩
     ·simp -implicitDefEqProofs [go_sem,q67,intOf,i2];omega
    ·obtain rfl:q=l.length:=by omega
     have i3:=IntWalk.i64_in ((k:Int)+1) (by omega);simp -implicitDefEqProofs [go_sem,q0,q1,q11,q48,q49,q50,q65,q66,q67,i3];have hLkt:Lk.take l.length=Lk:=by rw [← hlk,List.take_length]
     rw [hLkt] at hrow8;refine goE_round ⟨k+1,L++Lk,a2,c2,by omega,?_,?_⟩ ?_
     ·rw [List.take_succ_eq_append_getElem hlt,chL_app,chL_one,← hLk,← List.append_assoc];exact hLp.append (List.Perm.refl _)
     ·rw [List.length_append,hlk];simp -implicitDefEqProofs [go_sem,q0,q1,q11,q48,q49,q50,i3];exact ⟨hrow8,b8⟩
     ·simp -implicitDefEqProofs [go_sem,g50,intOf,i3];omega
  ·obtain rfl:k=I.length:=by omega
   rw [List.take_length] at hLp;have hLl:L.length≤400:=by
    have h1:=hLp.length_eq;rw [List.length_append] at h1;omega
   simp -implicitDefEqProofs [go_sem,g0,g1,g11,g48,g49,g50];refine callE_of (sortI_calls a' L c' w3.heap.size w5 (by omega) hrow5) ?_;rintro v w6 ⟨L',rfl,hp',hso,hl',hrow6,t6⟩;have b36:Below w3.heap.size w3 w6:=b5.trans (t6.mod.below b5.size fun k hk=>(ownsRow_blk hrow5 k hk).1);have bel6:=btr bel3 b36;have hLnd:L'.Nodup:=by
    refine hp'.nodup_iff.2 (hLp.nodup_iff.2 ?_);have h1:=hO.nd;rw [← hIe,← List.append_assoc] at h1;exact (List.nodup_append.1 h1).1
   simp -implicitDefEqProofs [go_sem,g0,g1,g11,g48,g49,g50];refine wpE_loop (fun e2 w'=>∃ i:Nat,1≤i∧e2 0=.pointer (some ⟨p,0,none⟩)∧e2 11=.slice a' L.length c'∧e2 18=.int .i64 (i:Int)∧w'.ownsRow w3.heap.size 3 1 (.slice a' L.length c') L.length (offC L')∧Below w3.heap.size w3 w') (fun e2 _=>L.length-(intOf (e2 18)).toNat) ?_ ?_
   ·refine ⟨1,Nat.le_refl _,?_⟩;simp -implicitDefEqProofs [go_sem,g0,g1,g11,g48,g49,g50];exact ⟨hrow6,b36⟩
   ·rintro e2 w7 ⟨i,hi,q0,q11,q18,hrow7,b7⟩;by_cases hit:i<L.length
    ·have hit':(i:Int)<(L.length:Int):=by omega
     have i1:=IntWalk.i64_in ((i:Int)+1) (by omega);obtain ⟨j,rfl⟩:∃ j,i=j+1:=⟨i-1,by omega⟩;have i2:=IntWalk.i64_in (j:Int) (by omega);have i3:(j:Int)<(L.length:Int):=by omega
     have i4:j<L.length:=by omega
     have i5:(0:Int)≤(j:Int)+1:=by omega
     have hV:=owns_vsIn (l:=offC L') (by rw [offC_len,hl']) hrow7;obtain ⟨lb,lo,ha,hc⟩:=hV.at_.cell (i:=j+1) (by rw [offC_len];omega);obtain ⟨lb',lo',ha',hc'⟩:=hV.at_.cell (i:=j) (by rw [offC_len];omega);subst ha;obtain ⟨rfl,rfl⟩:lb=lb'∧lo=lo':=by simpa using ha'
     rw [offC_get L' (show j+1<L'.length by omega)] at hc;rw [offC_get L' (show j<L'.length by omega)] at hc';have hneq:(((L'[j+1]'(by omega):Nat):Int)==((L'[j]'(by omega):Nat):Int))=false:=by
      rw [beq_eq_false_iff_ne];intro e;have h1:L'[j+1]'(by omega)=L'[j]'(by omega):=by omega
      exact List.pairwise_iff_getElem.1 hLnd j (j+1) (by omega) (by omega) (by omega) h1.symm
     have hit2:(j:Int)+1<(L.length:Int):=by omega
     simp -implicitDefEqProofs [go_sem,q0,q11,q18,hit,hit2];refine drawE_still mixed (by decide +kernel) ?_;simp -implicitDefEqProofs [go_sem,q0,q11,q18,hit,hit2,i2,i3,i4,i5,hc,hc',hneq];unfold endE;simp -implicitDefEqProofs [go_sem,q0,q11,q18,i1];refine goE_round ⟨j+1+1,by omega,?_⟩ ?_
     ·have i6:=IntWalk.i64_in ((j:Int)+1+1) (by omega);simp -implicitDefEqProofs [go_sem,q0,q11,q18,i6];exact ⟨ownsRow_next hrow7 (Below.refl _ _).drew,b7.drew⟩
     ·have i6:=IntWalk.i64_in ((j:Int)+1+1) (by omega);simp -implicitDefEqProofs [go_sem,q18,intOf,i6];omega
    ·have hit':¬ (i:Int)<(L.length:Int):=by omega
     simp -implicitDefEqProofs [go_sem,q0,q11,q18,hit,hit'];refine body_tmp2 6 7 rfl ?_;simp -implicitDefEqProofs [go_sem];have hbel:=btr bel3 b7;rw [← hl'] at hrow7 ⊢;exact ⟨a',L',c',⟨rfl,rfl,rfl⟩,hp'.trans hLp,hso,ownsRow_base hrow7 bel3.size,hbel⟩
end
end
section
open Go Go.RowKit
open TR
section
variable {w w':World} {m b p s x mb base n cap top:Nat} {V:PV} {G G' F:Nat→Prop} {o:Option Tr} {X:List Nat} {ch:BitVec 64→List LinkV × List Nat}
set_option maxHeartbeats 4000000
theorem nanI_calls (x:Int)(w:World):Ret Tryz.prog 171 #[.int .i64 x] w fun v w'=>v=.bool false∧w'=w:=by
 refine ret_of (args:=[_]) _ Tryz.func171 rfl Tryz.ntmps171 (by simp) ?_;simp -implicitDefEqProofs [go_sem];refine body_tmp 2 rfl ?_;simp -implicitDefEqProofs [go_sem]
theorem lessI_calls (x y:Int)(w:World):Ret Tryz.prog 135 #[.int .i64 x,.int .i64 y] w fun v w'=>v=.bool (decide (x<y))∧w'=w:=by
 refine ret_of (args:=[_,_]) _ Tryz.func135 rfl Tryz.ntmps135 (by simp) ?_;simp -implicitDefEqProofs [go_sem];refine callE_of (nanI_calls x w) ?_;rintro v w1 ⟨rfl,rfl⟩;simp -implicitDefEqProofs [go_sem];refine body_tmp 4 rfl ?_;simp -implicitDefEqProofs [go_sem]
theorem bsI_calls (a:Option Addr)(l:List Nat)(c:Nat)(x:Nat)(w:World)(hin:VsIn w a (offC l) c)(hl:l.length≤1000)(hr:l.Pairwise (·≤·))(hx:x∈l) :
  Ret Tryz.prog 92 #[.slice a l.length c,.int .i64 (x:Int)] w fun v w'=>∃ i:Nat,v=.tuple #[.int .i64 (i:Int),.bool true]∧Below w.heap.size w w':=by
 have bel0:=Below.refl w.heap.size w;refine ret_of (args:=[_,_]) _ Tryz.func92 rfl Tryz.ntmps92 (by simp) ?_;simp -implicitDefEqProofs [go_sem];refine wpE_loop (fun e' w'=>w'=w∧∃ lo hi:Nat,lo≤hi∧hi≤l.length∧(∀ j (h:j<l.length),j<lo→l[j]<x)∧(∀ j (h:j<l.length),hi≤j→x≤l[j]) ∧
  e' 0=.slice a l.length c∧e' 1=.int .i64 (x:Int)∧e' 6=.int .i64 l.length∧e' 7=.int .i64 lo∧e' 8=.int .i64 hi) (fun e' _=>(intOf (e' 8)).toNat-(intOf (e' 7)).toNat) ?_ ?_
 ·refine ⟨rfl,0,l.length,Nat.zero_le _,Nat.le_refl _,fun j h h2=>absurd h2 (Nat.not_lt_zero _),fun j h h2=>by omega,?_⟩;simp -implicitDefEqProofs [go_sem]
 ·rintro e' w' ⟨rfl,lo,hi,h1,h2,h3,h4,q0,q1,q6,q7,q8⟩;by_cases hlt:lo<hi
  ·have hlt':(lo:Int)<hi:=by omega
   have k1:=IntWalk.i64_in ((lo:Int)+hi) (by omega);obtain ⟨h,hh⟩:∃ h:Nat,h=(lo+hi)/2:=⟨_,rfl⟩;have kh:IntKind.i64.wrap (uv (BitVec.ofInt 64 ((lo:Int)+hi) >>> 1))=(h:Int):=by
    have e:((lo:Int)+hi)=((lo+hi:Nat):Int):=by omega
    rw [e,BitVec.ofInt_natCast];unfold uv;rw [BitVec.toNat_ushiftRight,BitVec.toNat_ofNat,Nat.mod_eq_of_lt (by omega),Nat.shiftRight_eq_div_pow,IntWalk.i64_in _ (by omega),hh]
   have hhl:h<l.length:=by omega
   have hhl':(h:Int)<l.length:=by omega
   obtain ⟨b,o,rfl,g⟩:=hin.at_.cell (i:=h) (by rw [offC_len];exact hhl);rw [offC_get l hhl] at g;have hmono:∀ j (hj:j<l.length),(j<h→l[j]≤l[h])∧(h<j→l[h]≤l[j]):=fun j hj=>⟨fun hjh=>List.pairwise_iff_getElem.1 hr j h hj hhl hjh,fun hjh=>List.pairwise_iff_getElem.1 hr h j hhl hj hjh⟩
   simp -implicitDefEqProofs [go_sem,q0,q1,q6,q7,q8,hlt,hlt',k1,kh,hhl,hhl',g];refine callE_of (lessI_calls (l[h]:Int) (x:Int) w') ?_;rintro v w2 ⟨rfl,rfl⟩;by_cases hc:l[h]<x
   ·have k2:=IntWalk.i64_in ((h:Int)+1) (by omega);have hc':(l[h]:Int)<(x:Int):=by omega
    simp -implicitDefEqProofs [go_sem,q0,q1,q6,q7,q8,hc,hc',k2];refine goE_round ⟨rfl,h+1,hi,by omega,h2,fun j hj hjl=>?_,h4,?_⟩ ?_
    ·by_cases e:j=h
     ·subst e;exact hc
     ·have:=(hmono j hj).1 (by omega);omega
    ·simp -implicitDefEqProofs [go_sem,q0,q1,q6,q8]
    ·simp -implicitDefEqProofs [go_sem,intOf,q7,q8];omega
   ·have hc':¬ (l[h]:Int)<(x:Int):=by omega
    simp -implicitDefEqProofs [go_sem,q0,q1,q6,q7,q8,hc,hc'];refine goE_round ⟨rfl,lo,h,by omega,by omega,h3,fun j hj hjl=>?_,?_⟩ ?_
    ·by_cases e:j=h
     ·subst e;omega
     ·have:=(hmono j hj).2 (by omega);omega
    ·simp -implicitDefEqProofs [go_sem,q0,q1,q6,q7]
    ·simp -implicitDefEqProofs [go_sem,intOf,q7,q8];omega
  ·have hn:¬ (lo:Int)<hi:=by omega
   have heq:hi=lo:=by omega
   subst heq;obtain ⟨j,hj,e⟩:=List.getElem_of_mem hx;have hlo:hi<l.length:=by
    rcases Nat.lt_or_ge hi l.length with h|h
    ·exact h
    ·have:=h3 j hj (by omega);omega
   have hlo':(hi:Int)<l.length:=by omega
   obtain ⟨b,o,rfl,g⟩:=hin.at_.cell (i:=hi) (by rw [offC_len];exact hlo);rw [offC_get l hlo] at g;have hxe:l[hi]=x:=by
    have h5:=h4 hi hlo (Nat.le_refl _)
    rcases Nat.lt_trichotomy j hi with h|h|h
    ·have:=h3 j hj h;omega
    ·subst h;exact e
    ·have:=List.pairwise_iff_getElem.1 hr hi j hlo hj h;omega
   have hx':((l[hi]:Int)==(x:Int))=true:=by rw [beq_iff_eq];omega
   simp -implicitDefEqProofs [go_sem,q0,q1,q6,q7,q8,hn,hlo,hlo',g,hx'];refine body_tmp2 4 5 rfl ?_;simp -implicitDefEqProofs [go_sem];exact ⟨⟨hi,rfl⟩,bel0⟩
theorem free_calls (x:Nat)(w0:World)(h:Pd w0 m V b p G)(hm:m=6∨m=24)(hx:Blk w0 x (IxC p b) 178)(hS:Sto m V o ch [] top) :
  Ret Tryz.prog 54 #[.pointer (some ⟨p,0,none⟩),.pointer (some ⟨b,0,none⟩),.pointer (some ⟨x,0,none⟩)] w0 fun v w'=>v=.int .i64 0∧Below w0.heap.size w0 w':=by
 have bel0:=Below.refl w0.heap.size w0;have hr:=hS.own.rest;have hlen:=hS.len hm;have h0:=h;refine ret_of (args:=[_,_,_]) _ Tryz.func54 rfl Tryz.ntmps54 (by simp) ?_;simp -implicitDefEqProofs [go_sem];refine callE_of (reach_calls x w0 h hm hx hS) ?_;rintro v w1 ⟨a1,ss,c1,rfl,hp1,hso,hrow1,b1⟩;have bel1:=btr bel0 b1;replace h:=h.next b1
 simp -implicitDefEqProofs [go_sem];have hrl:ss.length≤400:=by have:=hp1.length_eq;rw [List.length_append] at this;omega
 obtain ⟨tb,tc,hb,hc',F',hP,hG⟩:=h;have hal:=poolAll_calls w1 hP.pool (by rw [hr.well.len];have:=sz hm;omega) (shN_data hm);rw [hr.well.len] at hal;refine callE_of hal ?_;rintro v w2 ⟨a2,c2,rfl,hv2,b2⟩;have bel2:=btr bel1 b2;obtain ⟨B,hB⟩:∃ B,B=allK (shN m) V.T m:=⟨_,rfl⟩;have hBm:∀ y∈B,y∈ss:=fun y hy=>by
  rw [hB] at hy;have h1:=(all_bk hr hm y).1 hy;have h2:=(hS.own.all y).1 h1;rw [List.append_nil] at h2;exact hp1.mem_iff.2 h2
 rw [← hB] at hv2 ⊢;have hin1:=owns_vsIn (l:=offC ss) (offC_len ss) hrow1;have hv2':VsIn w2 a2 (offC B) c2:=hv2;have hBl:B.length≤9223372036854775807:=by have h1:=hv2'.le;have h2:=hv2'.max;rw [offC_len] at h1;omega
 simp -implicitDefEqProofs [go_sem];refine wpE_loop (fun e' w'=>∃ k:Nat,k≤B.length∧e' 1=.pointer (some ⟨b,0,none⟩)∧e' 7=.slice a1 ss.length c1∧e' 24=.slice a2 B.length c2∧e' 25=.int .i64 (B.length:Int)∧e' 26=.int .i64 (k:Int)∧Below w2.heap.size w2 w') (fun e' _=>B.length-(intOf (e' 26)).toNat) ?_ ?_
 ·refine ⟨0,Nat.zero_le _,?_⟩;simp -implicitDefEqProofs [go_sem];exact Below.refl _ _
 ·rintro e' w3 ⟨k,hk,g1,g7,g24,g25,g26,b3⟩;by_cases hlt:k<B.length
  ·have hlt':(k:Int)<(B.length:Int):=by omega
   have i1:=IntWalk.i64_in ((k:Int)+1) (by omega);obtain ⟨lb,lo,rfl,hc⟩:=(hv2'.next b3).at_.cell (i:=k) (by rw [offC_len];exact hlt);rw [offC_get B hlt] at hc;simp -implicitDefEqProofs [go_sem,g1,g7,g24,g25,g26,hlt,hlt',hc];refine callE_of (bsI_calls a1 ss c1 B[k] w3 ((hin1.next b2).next b3) (by omega) hso (hBm _ (List.getElem_mem hlt))) ?_;rintro v w4 ⟨i,rfl,b4⟩;simp -implicitDefEqProofs [go_sem,g1,g7,g24,g25,g26,i1];refine goE_round ⟨k+1,by omega,?_⟩ ?_
   ·simp -implicitDefEqProofs [go_sem,g1,g7,g24,g25,g26,i1];exact btr b3 b4
   ·simp -implicitDefEqProofs [go_sem,g26,intOf,i1];omega
  ·obtain rfl:k=B.length:=by omega
   simp -implicitDefEqProofs [go_sem,g1,g7,g24,g25,g26];refine body_tmp 6 rfl ?_;simp -implicitDefEqProofs [go_sem];exact btr bel2 b3
theorem back_calls (x:Nat)(slot:BitVec 64)(w0:World)(h:Pd w0 m V b p G)(hm:m=6∨m=24)(hx:Blk w0 x (IxC p b) 178)(hS:Sto m V o ch X top)(ht:top≤slot.toNat) :
  Ret Tryz.prog 53 #[.pointer (some ⟨p,0,none⟩),.pointer (some ⟨b,0,none⟩),.pointer (some ⟨x,0,none⟩),.int .u64 (uv slot)] w0 fun v w'=>v=.int .i64 0∧Below w0.heap.size w0 w':=by
 have bel0:=Below.refl w0.heap.size w0;have hr:=hS.own.rest;have hlen:=hS.len hm;have h0:=h;have hil:=itemsO_le o;refine ret_of (args:=[_,_,_,_]) _ Tryz.func53 rfl Tryz.ntmps53 (by simp) ?_;simp -implicitDefEqProofs [go_sem];refine callE_of (idxAll_calls x w0 h hm hx hS.own) ?_;rintro v w1 ⟨ai,ci,rfl,hI,-,b1⟩;have bel1:=btr bel0 b1;replace h:=h.next b1
 obtain ⟨I,hIe⟩:∃ I,I=itemsO o:=⟨_,rfl⟩;rw [← hIe] at hI hlen hil ⊢;simp -implicitDefEqProofs [go_sem];refine wpE_loop (fun e' w'=>∃ k:Nat,k≤I.length∧e' 0=.pointer (some ⟨p,0,none⟩)∧e' 1=.pointer (some ⟨b,0,none⟩)∧e' 2=.pointer (some ⟨x,0,none⟩)∧e' 3=.int .u64 (uv slot)∧e' 24=.slice ai I.length ci∧e' 25=.int .i64 (I.length:Int)∧e' 26=.int .i64 (k:Int)∧Below w1.heap.size w1 w') (fun e' _=>I.length-(intOf (e' 26)).toNat) ?_ ?_
 ·refine ⟨0,Nat.zero_le _,?_⟩;simp -implicitDefEqProofs [go_sem];exact Below.refl _ _
 ·rintro e' w3 ⟨k,hk,g0,g1,g2,g3,g24,g25,g26,b3⟩;by_cases hlt:k<I.length
  ·have hlt':(k:Int)<(I.length:Int):=by omega
   have i1:=IntWalk.i64_in ((k:Int)+1) (by omega);obtain ⟨ib,io,rfl,hld⟩:=(hI.next b3).ld (i:=k) (by simpa using hlt) Tryz.underlying149 rfl itemI;have hkit:(I.map kit)[k]'(by simpa using hlt)=kit I[k]:=by simp
   rw [hkit] at hld;have hst:=stNew (P:=Tryz.prog) (t:=149) (cs:=kit I[k]) (C0:=#[.string ⟨#[]⟩,.int .u64 0]) itemI rfl (kit_one _);have hmem:I[k]∈itemsO o:=by rw [← hIe];exact List.getElem_mem hlt
   obtain ⟨hc1,hc2,hc3⟩:=hS.chain _ hmem;have hc4:=hS.one_len hm hmem;obtain ⟨l,hl⟩:∃ l,l=(ch I[k].2).1:=⟨_,rfl⟩;obtain ⟨Lk,hLk⟩:∃ Lk,Lk=(ch I[k].2).2:=⟨_,rfl⟩;rw [← hl,← hLk] at hc1;rw [← hl] at hc2 hc3 hc4;have hB6:=Blk.new w3 (kit I[k]) 149;have b6:=(Below.refl w3.heap.size w3).alloc (Nat.le_refl _) (.cells (kit I[k]) 149);have hk1:(kit I[k])[1]?=some (.int .u64 (uv I[k].2)):=rfl;simp -implicitDefEqProofs [go_sem,g0,g1,g2,g3,g24,g25,g26,hlt,hlt',↓hld,↓hst,hB6.cell,hk1]
   generalize World.alloc w3 _=w6 at *;have b16:=btr b3 b6;refine callE_of (sysList_calls I[k].2 l Lk w6 (h.next b16) hr hm hc1 hc2 (by omega)) ?_;rintro v w7 ⟨a7,c7,rfl,hl7,-,b7⟩;have b17:=btr b16 b7;simp -implicitDefEqProofs [go_sem,g0,g1,g2,g3,g24,g25,g26];refine wpE_rounds 1 ?_;by_cases hl0:0<l.length
   ·obtain ⟨lb,lo,rfl,-,hcs,-⟩:=hl7.cells (i:=0) hl0;rw [Nat.zero_mul,Nat.add_zero] at hcs;have hle:¬ slot<l[0].stamp:=by
     have h1:=hc3 _ (List.getElem_mem hl0);rw [BitVec.lt_def];omega
    have hl0':(0:Int)<(l.length:Int):=by omega
    have hz:(0:Int)≠(l.length:Int):=by omega
    simp -implicitDefEqProofs [go_sem,g0,g1,g2,g3,g24,g25,g26,hl0,hl0',hcs,hle,i1];refine goE_round ⟨k+1,by omega,?_⟩ ?_
    ·simp -implicitDefEqProofs [go_sem,g0,g1,g2,g3,g24,g25,g26,i1];exact b17
    ·simp -implicitDefEqProofs [go_sem,g26,intOf,i1];omega
   ·have hl0':¬ (0:Int)<(l.length:Int):=by omega
    simp -implicitDefEqProofs [go_sem,g0,g1,g2,g3,g24,g25,g26,hl0,hl0',i1];refine goE_round ⟨k+1,by omega,?_⟩ ?_
    ·simp -implicitDefEqProofs [go_sem,g0,g1,g2,g3,g24,g25,g26,i1];exact b17
    ·simp -implicitDefEqProofs [go_sem,g26,intOf,i1];omega
  ·obtain rfl:k=I.length:=by omega
   simp -implicitDefEqProofs [go_sem,g0,g1,g24,g25,g26];refine body_tmp 8 rfl ?_;simp -implicitDefEqProofs [go_sem];exact btr bel1 b3
theorem load_up (h:Rest m V)(hm:m=6∨m=24){o:Nat}(h8:o%8=0)(ho:o+8≤64*nL m):V.D.load (o:Int)=(V.D.word o,0):=by
 have zf:=sz hm;rw [load_in (by rw [h.well.lines];omega) h8 (by unfold NM.Dv.size;rw [h.well.lines];omega),h.well.up.down,if_neg (by decide)]
theorem partsI:(Tryz.prog.info? 69).map (·.size)=some 3:=by kernel_rfl
def partsC (b x:Nat)(slot:BitVec 64):Array Value:=#[.pointer (some ⟨b,0,none⟩),.pointer (some ⟨x,0,none⟩),.int .u64 (uv slot)]
theorem partsC_one (b x:Nat)(slot:BitVec 64):∀ v∈(partsC b x slot).toList,v.oneCell'=true:=by
 intro v hv;simp [partsC] at hv
 rcases hv with rfl|rfl|rfl<;>rfl
def MOpenP (m:Nat)(V:PV)(p:Nat)(F:Nat→Prop)(slot:BitVec 64)(w0:World)(v:Value)(w':World):Prop :=
 ∃ b x G,v=.tuple #[.agg (partsC b x slot),.int .i64 0]∧Sys w' m V b p G∧Blk w' x (IxC p b) 178∧¬ G x∧(∀ k,G k→F k∨w0.heap.size≤k)∧(∀ k,F k→G k)∧w0.heap.size≤x∧w0.heap.size≤b∧Below w0.heap.size w0 w'
theorem mendOpen_calls (slot:BitVec 64)(w0:World)(h:DevB w0 p F V.D)(hF:Fours w0)(hT:Tabs w0)(hout:¬ F 1)(hm:m=6∨m=24)(hS:Sto m V o ch [] top)(h64:V.D.word 64=slot)(hsl:slot.toNat≤60000)(ht:top≤slot.toNat) :
  Ret Tryz.prog 25 #[.pointer (some ⟨p,0,none⟩)] w0 fun v w'=>MOpenP m V p F slot w0 v w':=by
 have bel0:=Below.refl w0.heap.size w0;have zf:=sz hm;have hr:=hS.own.rest;have hop:=openH_of hm hr.well.lines hr.well.up hr.hdr;obtain ⟨t1,t2⟩:=well_tab hr.well hm;have hle:¬ (60000#64:BitVec 64)<slot:=by rw [BitVec.lt_def];show ¬ 60000<slot.toNat;omega
 have hst0:=stNew (P:=Tryz.prog) (t:=69) (cs:=#[.pointer none,.pointer none,.int .u64 0]) (C0:=#[.pointer none,.pointer none,.int .u64 0]) partsI rfl (by simp [Value.oneCell']);have h0:=h;have hT0:=hT;refine ret_of (args:=[_]) _ Tryz.func25 rfl Tryz.ntmps25 (by simp) ?_;simp -implicitDefEqProofs [go_sem];generalize hw1:World.alloc w0 _=w1 at *;obtain ⟨hB1,b1,sz1,bel1⟩:=newF hw1 bel0;replace h:=h.next b1
 replace hF:=hF.next b1
 replace hT:=hT.next b1
 have hpo:=poolOpen_calls m w1 h hF (by omega) (fun _=>by rw [hop];exact ⟨rfl,rfl⟩);refine callE_of hpo ?_;rintro v w2 hOp;unfold OpenP at hOp;rw [hop,t1,t2] at hOp
 rcases hOp with ⟨h,_⟩|⟨_,⟨e,h,_⟩|⟨_,b,tb,tc,hb,hc,rfl,hP,b2,hge⟩⟩
 ·exact absurd rfl h
 ·cases h
 ·have bel2:=btr bel1 b2;replace h:=h.next b2
  replace hF:=hF.next b2
  replace hT:=hT.next b2
  replace hB1:=hB1.next b2
  have hPD:PD w2 b p (shN m) V.T V.H tb tc hb hc F V.D:=by
   have e:List.replicate m 0#64=V.H:=hr.held.symm;rw [e] at hP;refine ⟨hP,h,fun k hk hk2=>?_⟩;have:=hge k hk;have:=h0.lt k hk2;omega
  have hPd:Pd w2 m V b p (PdK b tb hb F):=⟨tb,tc,hb,hc,F,hPD,rfl⟩;simp -implicitDefEqProofs [go_sem];refine callE_of (idxOpen_calls w2 hPd hm hS.own) ?_;rintro v w3 ⟨x,rfl,hx,hxg,b3⟩;have bel3:=btr bel2 b3;replace h:=h.next b3
  replace hF:=hF.next b3
  replace hT:=hT.next b3
  replace hB1:=hB1.next b3
  replace hPd:=hPd.next b3
  simp -implicitDefEqProofs [go_sem];refine callE_of (reach_calls x w3 hPd hm hx hS) ?_;rintro v w4 ⟨a4,ss,c4,rfl,-,-,-,b4⟩;have bel4:=btr bel3 b4;replace h:=h.next b4
  replace hF:=hF.next b4
  replace hT:=hT.next b4
  replace hB1:=hB1.next b4
  replace hPd:=hPd.next b4
  replace hx:=hx.next b4
  simp -implicitDefEqProofs [go_sem];refine callE_of (loadB 64 w4 h (by unfold I64;omega)) ?_;rintro v w5 ⟨rfl,rfl⟩;have hl64:V.D.load 64=(V.D.word 64,0):=load_up hr hm (o:=64) (by decide) (by omega);rw [hl64,h64];simp -implicitDefEqProofs [go_sem,hle];refine callE_of (back_calls x slot w5 hPd hm hx hS ht) ?_;rintro v w6 ⟨rfl,b6⟩;have bel6:=btr bel4 b6;replace h:=h.next b6
  replace hF:=hF.next b6
  replace hT:=hT.next b6
  replace hB1:=hB1.next b6
  replace hPd:=hPd.next b6
  replace hx:=hx.next b6
  simp -implicitDefEqProofs [go_sem];refine callE_of (free_calls x w6 hPd hm hx hS) ?_;rintro v w7 ⟨rfl,b7⟩;have bel7:=btr bel6 b7;replace h:=h.next b7
  replace hF:=hF.next b7
  replace hT:=hT.next b7
  replace hB1:=hB1.next b7
  replace hPd:=hPd.next b7
  replace hx:=hx.next b7
  have stP:=stAll (P:=Tryz.prog) (ty:=69) (cs:=partsC b x slot) hB1 partsI rfl (partsC_one _ _ _);unfold partsC at stP;simp -implicitDefEqProofs [go_sem,↓stP];have hR:=hB1.row (partsC b x slot);have belR:=below_setRow bel7 (Nat.le_refl _) (partsC b x slot);have mR:Mod (fun k=>k=w0.heap.size) w7 (w7.setRow w0.heap.size (partsC b x slot)):=(Mod.refl (fun k=>k=w0.heap.size) w7).row (.inl rfl) _;have hgew:∀ k,(k=b∨k=tb∨k=hb)→w0.heap.size<k:=fun k hk=>by have:=hge k hk;omega
  have hGn:∀ k,PdK b tb hb F k→¬ k=w0.heap.size:=fun k hk e=>by
   rcases hk with hk|hk
   ·have:=h0.lt k hk;omega
   ·have:=hgew k hk;omega
  have hxw:w0.heap.size<x:=by have:=b2.size;omega
  have hsys:Sys (w7.setRow w0.heap.size (partsC b x slot)) m V b p (PdK b tb hb F):=⟨hPd.mod mR hGn,(hT.mod mR fun e=>by have:=hT0.lt;omega),fun hk=>by
   rcases hk with hk|hk
   ·exact hout hk
   ·have:=hgew _ hk;have:=hT0.lt;omega⟩
  unfold partsC at hR belR hsys;refine bodyCell 2 3 rfl (by simp -implicitDefEqProofs [go_sem]) hR Tryz.underlying69 rfl partsI ?_;simp -implicitDefEqProofs [go_sem];refine ⟨b,x,PdK b tb hb F,rfl,hsys,hx.mod mR (fun e=>by omega),fun hk=>?_,fun k hk=>?_,fun k hk=>.inl hk,by omega,by have:=hgew b (.inl rfl);omega,belR⟩
  ·rcases hk with hk|hk
   ·have:=h0.lt _ hk;omega
   ·have h1:=hP
    rcases hk with rfl|rfl|rfl
    ·have:=h1.blk.lt;omega
    ·have:=h1.tk.lt;omega
    ·have:=h1.hd.lt;omega
  ·rcases hk with hk|hk
   ·exact .inl hk
   ·exact .inr (by have:=hgew k hk;omega)
end
end
end Go.Proofs.YtaaihijkdhmcdaaGreatDoor
