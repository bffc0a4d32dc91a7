/- WholeImage, part 24 of 38: contracts and lemmas of its proof. Conditions: none. -/
import Derived.Test.YtaaihijkdhmcdaaGreatDoorW22
set_option linter.unusedVariables false
set_option linter.unusedSimpArgs false
set_option maxRecDepth 100000
namespace Go.Proofs.YtaaihijkdhmcdaaGreatDoor
section
open Go Go.RowKit
open TR
def offC (l:List Nat):List Value:=l.map fun (o:Nat)=>Value.int .i64 (o:Int)
structure JobS (w:World) (m:Nat) (V:PV) (b p j x base:Nat) (made:List Nat) (G:Nat→Prop) (a:Option Addr) (cap:Nat):Prop where
 sys:Sys w m V b p G
 ix:Blk w x (IxC p b) 178
 job:Blk w j #[.pointer (some ⟨x,0,none⟩),.slice a made.length cap] 241
 own:w.ownsRow base 3 1 (.slice a made.length cap) made.length (offC made)
 gx:¬ G x
 gj:¬ G j
 ga:∀ k,BlkOf a k→¬ G k
 xj:x≠j
 ax:¬ BlkOf a x
 aj:¬ BlkOf a j
 tj:1≠j
 ta:¬ BlkOf a 1
 base:base≤w.heap.size
def JobF (G:Nat→Prop)(j:Nat)(a:Option Addr)(k:Nat):Prop:=G k∨k=j∨BlkOf a k
def JS (w:World)(m:Nat)(V:PV)(b p j x base:Nat)(made:List Nat)(F:Nat→Prop):Prop:=∃ G a cap,JobS w m V b p j x base made G a cap∧F=JobF G j a
section
variable {w w':World} {m b p j x base cap:Nat} {V V':PV} {G G' F F':Nat→Prop} {made:List Nat} {a:Option Addr}
theorem JobS.next (h:JobS w m V b p j x base made G a cap)(hb:Below w.heap.size w w'):JobS w' m V b p j x base made G a cap :=
 ⟨h.sys.next hb,h.ix.next hb,h.job.next hb,ownsRow_turn h.own (Mod.of hb (F:=fun _=>False)) (fun _ _ h=>h),h.gx,h.gj,h.ga,h.xj,h.ax,h.aj,h.tj,h.ta,Nat.le_trans h.base hb.size⟩
theorem JobS.to (h:JobS w m V b p j x base made G a cap)(hs:Sys w' m V' b p G')(ht:Turn w G w' G'):JobS w' m V' b p j x base made G' a cap∧Turn w (JobF G j a) w' (JobF G' j a):=by
 have hx:=h.ix.lt;have hj:=h.job.lt;refine ⟨⟨hs,h.ix.mod ht.mod h.gx,h.job.mod ht.mod h.gj,ownsRow_turn h.own ht.mod h.ga,out_turn h.gx hx ht,out_turn h.gj hj ht,fun k hk=>out_turn (h.ga k hk) (ownsRow_blk h.own k hk).2 ht,h.xj,h.ax,h.aj,h.tj,h.ta,Nat.le_trans h.base ht.size⟩,ht.mod.mono fun k hk _=>.inl hk,fun k hk=>?_⟩
 rcases hk with hk|hk
 ·rcases ht.new k hk with h1|h1
  ·exact .inl (.inl h1)
  ·exact .inr h1
 ·exact .inl (.inr hk)
theorem JS.next (h:JS w m V b p j x base made F)(hb:Below w.heap.size w w'):JS w' m V b p j x base made F:=by
 obtain ⟨G,a,cap,h1,h2⟩:=h;exact ⟨G,a,cap,h1.next hb,h2⟩
theorem JobS.push (h:JobS w m V b p j x base made G a cap)(hmd:made.length≤1000)(off:Nat) :
  ∃ g c2 w2,(appendB #[45,45] 45 #[.slice a made.length cap,.slice (some ⟨w.heap.size,0,none⟩) 1 1]).run Tryz.prog (w.alloc (.cells #[.int .i64 (off:Int)] 3))=.ok (.slice (some ⟨g,0,none⟩) (made.length+1) c2) w2 ∧
   Blk w2 j #[.pointer (some ⟨x,0,none⟩),.slice a made.length cap] 241∧Blk w2 x (IxC p b) 178 ∧
   JobS (w2.setCell ⟨j,1,none⟩ (.slice (some ⟨g,0,none⟩) (made.length+1) c2)) m V b p j x base (made++[off]) G (some ⟨g,0,none⟩) c2∧Turn w (JobF G j a) (w2.setCell ⟨j,1,none⟩ (.slice (some ⟨g,0,none⟩) (made.length+1) c2)) (JobF G j (some ⟨g,0,none⟩)):=by
 obtain ⟨g,c2,w2,hr,ho,hg1,hg2,hsz,ht⟩:=push_own (P:=Tryz.prog) (t:=45) (ty:=45) (cs:=#[.int .i64 (off:Int)]) Tryz.underlying45 eI_int (by decide) rfl (by simp [Value.oneCell']) (by decide) (by omega) h.base h.own;have hx:=h.ix.lt;have hj:=h.job.lt;have htl:=h.sys.tabs.lt;have hga:∀ k,G k→¬ BlkOf a k:=fun k h1 h2=>h.ga k h2 h1
 have hj2:Blk w2 j _ _:=h.job.mod ht.mod h.aj;have hgn:∀ k,k<w.heap.size→¬ BlkOf a k→g≠k:=fun k h1 h2 e=>by
  rcases ht.new g rfl with h3|h3
  ·rw [e] at h3;exact h2 h3
  ·omega
 have hgb:∀ k,BlkOf (some ⟨g,0,none⟩) k→g=k:=fun k ⟨y,hy,hk⟩=>by obtain rfl:=Option.some.inj hy;exact hk
 have mj:Mod (fun k=>k=j) w2 (w2.setCell ⟨j,1,none⟩ (.slice (some ⟨g,0,none⟩) (made.length+1) c2)):=(Mod.refl (fun k=>k=j) w2).setCell (.inl rfl) _;have hjG:∀ k,G k→¬ k=j:=fun k h1 e=>h.gj (e▸h1)
 refine ⟨g,c2,w2,hr,hj2,h.ix.mod ht.mod h.ax,⟨(h.sys.mod ht.mod hga h.ta).mod mj hjG h.tj,(h.ix.mod ht.mod h.ax).mod mj h.xj,?_,?_,h.gx,h.gj,fun k hk=>?_,h.xj,fun hk=>?_,fun hk=>?_,h.tj,fun hk=>?_,?_⟩,?_⟩
 ·have:=hj2.set 1 (.slice (some ⟨g,0,none⟩) (made.length+1) c2);rw [List.length_append,List.length_singleton];exact this
 ·rw [List.length_append,List.length_singleton];have e:offC (made++[off])=offC made++(#[.int .i64 (off:Int)]:Array Value).toList:=by simp [offC]
  rw [e];exact ownsRow_turn ho mj fun k hk e=>hgn j hj h.aj ((hgb k hk).trans e)
 ·intro hk2;obtain rfl:=hgb k hk
  rcases ht.new g rfl with h3|h3
  ·exact h.ga g h3 hk2
  ·have:=h.sys.lt g hk2;omega
 ·exact hgn x hx h.ax (hgb x hk)
 ·exact hgn j hj h.aj (hgb j hk)
 ·exact hgn _ htl h.ta (hgb _ hk)
 ·have:=mj.size;have:=h.base;omega
 ·refine ⟨(ht.mod.mono (G:=JobF G j a) fun k hk _=>.inr (.inr hk)).trans mj fun k hk _=>.inr (.inl hk),fun k hk=>?_⟩
  rcases hk with hk|hk|hk
  ·exact .inl (.inl hk)
  ·exact .inl (.inr (.inl hk))
  ·obtain rfl:=hgb k hk
   rcases ht.new g rfl with h3|h3
   ·exact .inl (.inr (.inr h3))
   ·exact .inr h3
set_option maxHeartbeats 4000000
theorem jobBuild_calls (q:NP)(n:NdV)(w0:World)(h:JS w0 m V b p j x base made F)(hr:Rest m V)(hm:m=6∨m=24)(hst:V.D.steps+3000100<1099511627776)(hin:NdIn w0 q n)(hn:n.Right)(hmd:made.length≤1000) :
  Ret Tryz.prog 167 #[.pointer (some ⟨j,0,none⟩),.agg (q.cs n)] w0 fun v w'=>∃ F',Turn w0 F w' F' ∧
   ((∃ off V',v=.tuple #[.int .u64 (uv (nameW off)),.int .i64 0]∧Grew m V V' [off]∧NAt m V' off n∧JS w' m V' b p j x base (made++[off]) F')∨(v=.tuple #[.int .u64 0,.int .i64 6]∧Many m V m∧JS w' m V b p j x base made F')):=by
 obtain ⟨G,a,cap,hJ,rfl⟩:=h;have hJ0:=hJ;have bel0:=Below.refl w0.heap.size w0;have zf:=sz hm;refine ret_of (args:=[_,_]) _ Tryz.func167 rfl Tryz.ntmps167 (by simp) ?_;have ld1:=ldAll (P:=Tryz.prog) (Blk.new w0 (q.cs n) 234) Tryz.underlying234 rfl ndI (n:=4) (q.cs_size n);simp -implicitDefEqProofs [go_sem,↓ld1];generalize hw1:World.alloc w0 _=w1 at *;obtain ⟨hB1,b1,sz1,bel1⟩:=newF hw1 bel0;replace hin:=hin.next b1
 replace hJ:=hJ.next b1
 refine callE_of (nodeEncode_calls q n w1 hin hn) ?_;rintro v w2 ⟨ea,ec,rfl,hE,hEn,b2⟩;have bel2:=btr bel1 b2;replace hin:=hin.next b2
 replace hJ:=hJ.next b2
 replace hB1:=hB1.next b2
 simp -implicitDefEqProofs [go_sem];refine drawE_mix [.pure 0,.pure 1,.pure 2,.take 3,.pure 4,.pure 5,.take 6,.run 7 [3,6],.run 8 [3,6],.run 9 [],.pure 10,.pure 11,.pure 12,.pure 13,.pure 14] mixed (by decide +kernel) (by simp only [wo];rfl) ?_;have bd:=(Below.refl w2.heap.size w2).drew;have bel3:Below w0.heap.size w0 (World.drew w2):=bel2.drew;generalize World.drew w2=w3 at *;replace hJ:=hJ.next bd
 replace hB1:=hB1.next bd
 replace hin:=hin.next bd
 have hE3:=hE.next bd
 have j0:=hJ.job.cell 0;have x1:=hJ.ix.cell 1;simp [IxC] at j0 x1;have ld3:=ldAll (P:=Tryz.prog) hB1 Tryz.underlying234 rfl ndI (n:=4) (q.cs_size n);simp -implicitDefEqProofs [go_sem];refine onTake_of (fun w'=>w'.cell? ⟨j,0,none⟩=some (.pointer (some ⟨x,0,none⟩))) (.pointer (some ⟨x,0,none⟩)) j0 (fun w' hw=>by simp -implicitDefEqProofs [go_sem,hw]) ?_;simp -implicitDefEqProofs [go_sem]
 refine onTake_of (fun w'=>w'.cell? ⟨x,1,none⟩=some (.pointer (some ⟨b,0,none⟩))) (.pointer (some ⟨b,0,none⟩)) x1 (fun w' hw=>by simp -implicitDefEqProofs [go_sem,hw]) ?_;simp -implicitDefEqProofs [go_sem,↓ld3];refine callE_of (nodeClass_calls q n w3) ?_;rintro v w4 ⟨rfl,b4⟩;have bel4:=btr bel3 b4;replace hJ:=hJ.next b4
 replace hB1:=hB1.next b4
 replace hE3:=hE3.next b4
 have j0':=hJ.job.cell 0;have x1':=hJ.ix.cell 1;simp [IxC] at j0' x1';refine ⟨.inr ⟨fun _=>x1',fun _=>j0',trivial⟩,?_⟩;have hcl:n.cls=1∨n.cls=2:=by rcases many_eq n with ⟨_,e⟩|⟨_,e⟩<;>omega
 simp -implicitDefEqProofs [go_sem];refine callE_of (sysReserve_calls n.cls w4 hJ.sys hr.well hm hcl) ?_;rintro v w5 ⟨rfl,G5,hS5,t5⟩;obtain ⟨hJ5,tF5⟩:=hJ.to hS5 t5;have hnn:∀ k,¬ JobF G j a k→k<w4.heap.size→¬ JobF G5 j a k:=fun k h1 h2=>out_turn h1 h2 tF5
 rcases rest_reserve hr hm hcl with e|⟨off,V1,e,hh,z0,z1,z2⟩
 ·rw [e] at hJ5 ⊢;simp -implicitDefEqProofs [go_sem];refine body_tmp2 4 5 rfl ?_;simp -implicitDefEqProofs [go_sem];exact ⟨_,(Turn.of bel4).trans tF5,fun L hL=>full_many hr hm hcl e hL,⟨G5,a,cap,hJ5,rfl⟩⟩
 ·rw [e] at hJ5 ⊢;obtain ⟨u1,hW,hsp,V2,u2,hG2,hN2,o1,o2,o3⟩:=built hr hm hn hh z0 z1 z2;obtain ⟨g,c2,w6,hr6,hj6,hx6,hJ7,t7⟩:=hJ5.push hmd off;have x0:=hx6.cell 0;simp [IxC] at x0;simp -implicitDefEqProofs [go_sem,hJ5.job.cell,hr6,hj6.cell,hj6.thaw,x0];generalize World.setCell w6 _ _=w7 at *;have sep4:SepA w4 (JobF G j a) ea:=fun y hy=>by
   obtain ⟨k1,k2⟩:=hEn y hy;have s1:=b1.size;refine ⟨by have:=bd.size;have:=b4.size;omega,?_⟩;rintro (hk|hk|hk)
   ·have:=hJ0.sys.lt _ hk;omega
   ·have:=hJ0.job.lt;omega
   ·have:=(ownsRow_blk hJ0.own _ hk).2;omega
  have hE5:=hE3.turn sep4 tF5;have sep5:=sep4.turn tF5;have hE7:=hE5.turn sep5 t7;have hVs:V1.D.steps=V.D.steps:=by rw [hh.d]
  refine callE_of (sysPutAll_calls ea (enc n) ec w7 hJ7.sys hE7 (show V1.D.steps+3000000<1099511627776 by omega) (o:=off) (by omega)) ?_;rintro v w8 ⟨rfl,G8,hS8,t8⟩;obtain ⟨hJ8,tF8⟩:=hJ7.to hS8 t8;have j0:=hJ8.job.cell 0;have x1:=hJ8.ix.cell 1;simp [IxC] at j0 x1;simp -implicitDefEqProofs [go_sem,u1,j0,x1];refine callE_of (sysTake_calls off w8 hS8 hW hm (show (V1.D.putAll (off:Int) (enc n)).1.steps+3000000<1099511627776 by omega) (by omega)) ?_;rintro v w9 ⟨rfl,G9,hS9,t9⟩
  obtain ⟨hJ9,tF9⟩:=hJ8.to hS9 t9;rw [u2] at hJ9 ⊢;have hw:IntKind.u64.wrap (off:Int)=uv (nameW off):=by
   rw [show uv (nameW off)=(off:Int) by unfold uv;rw [(name_int (o:=off) (by omega)).2]];exact IntWalk.u64_in _ (by omega)
  simp -implicitDefEqProofs [go_sem,hw];refine body_tmp2 4 5 rfl ?_;simp -implicitDefEqProofs [go_sem];exact ⟨_,((Turn.of bel4).trans tF5).trans (t7.trans (tF8.trans tF9)),off,rfl,V2,hG2,hN2,⟨G9,_,_,hJ9,rfl⟩⟩
end
end
section
open Go Go.RowKit
open TR
theorem withN_right {n:NdV}{i:Nat}{x:Nb}{kid:BitVec 64}(h:n.Right)(hx:x.toNat<16)(hk:kid≠0#64)(h1:∀ j (h:j<n.labels.length),j<i→n.labels[j].toNat<x.toNat)(h2:∀ j (h:j<n.labels.length),i≤j→x.toNat<n.labels[j].toNat)(hi:i≤n.labels.length):(withN n i x kid).Right:=by
 have hlen:=h.len;refine ⟨h.p15,h.p16,fun y hy=>?_,?_,?_,fun y hy=>?_⟩
 ·rcases List.mem_append.1 hy with hy|hy
  ·exact h.l16 y (List.mem_of_mem_take hy)
  ·rcases List.mem_cons.1 hy with rfl|hy
   ·exact hx
   ·exact h.l16 y (List.mem_of_mem_drop hy)
 ·have hr:List.Pairwise (fun x y:Nb=>x.toNat<y.toNat) (n.labels.take i++n.labels.drop i):=by rw [List.take_append_drop];exact h.rise
  obtain ⟨r1,r2,r3⟩:=List.pairwise_append.1 hr;have hd:∀ y∈n.labels.drop i,x.toNat<y.toNat:=fun y hy=>by
   obtain ⟨j,hj,rfl⟩:=List.getElem_of_mem hy;rw [List.length_drop] at hj;rw [List.getElem_drop];exact h2 _ (by omega) (by omega)
  refine List.pairwise_append.2 ⟨r1,List.pairwise_cons.2 ⟨hd,r2⟩,fun y hy z hz=>?_⟩;have hyx:y.toNat<x.toNat:=by
   obtain ⟨j,hj,rfl⟩:=List.getElem_of_mem hy;rw [List.length_take] at hj;rw [List.getElem_take];exact h1 _ (by omega) (by omega)
  rcases List.mem_cons.1 hz with rfl|hz
  ·exact hyx
  ·exact r3 y hy z hz
 ·show (n.labels.take i++x::n.labels.drop i).length=(n.kids.take i++kid::n.kids.drop i).length
  simp;omega
 ·rcases List.mem_append.1 hy with hy|hy
  ·exact h.nz y (List.mem_of_mem_take hy)
  ·rcases List.mem_cons.1 hy with rfl|hy
   ·exact hk
   ·exact h.nz y (List.mem_of_mem_drop hy)
section
variable {w w':World} {m b p j x base cap:Nat} {V V':PV} {G G' F F':Nat→Prop} {made:List Nat} {a:Option Addr}
set_option maxHeartbeats 4000000
theorem jobAboveNo_calls (q:NP)(n:NdV)(y k:Value)(w0:World) :
  Ret Tryz.prog 169 #[.pointer (some ⟨j,0,none⟩),.agg (q.cs n),y,k,.int .i64 6] w0 fun v w'=>v=.tuple #[.int .u64 0,.int .i64 6]∧Below w0.heap.size w0 w':=by
 have bel0:=Below.refl w0.heap.size w0;refine ret_of (args:=[_,_,_,_,_]) _ Tryz.func169 rfl Tryz.ntmps169 (by simp) ?_;simp -implicitDefEqProofs [go_sem];generalize hw1:World.alloc w0 _=w1 at *;obtain ⟨hB1,b1,sz1,bel1⟩:=newF hw1 bel0;refine body_tmp2 10 11 rfl ?_;simp -implicitDefEqProofs [go_sem];exact bel1
theorem jobAbove_calls (q:NP)(n:NdV)(y:Nb)(kid:BitVec 64)(w0:World)(h:JS w0 m V b p j x base made F)(hr:Rest m V)(hm:m=6∨m=24)(hst:V.D.steps+3000100<1099511627776)(hin:NdIn w0 q n)(hn:n.Right)(hmd:made.length≤1000)(hy:¬ y∈n.labels)(hy16:y.toNat<16)(hk:kid≠0#64) :
  Ret Tryz.prog 169 #[.pointer (some ⟨j,0,none⟩),.agg (q.cs n),.int .u8 (uv y),.int .u64 (uv kid),.int .i64 0] w0 fun v w'=>∃ F' i,i≤n.labels.length∧(∀ j (h:j<n.labels.length),j<i→n.labels[j].toNat<y.toNat)∧(∀ j (h:j<n.labels.length),i≤j→y.toNat<n.labels[j].toNat)∧Turn w0 F w' F' ∧
   ((∃ off V',v=.tuple #[.int .u64 (uv (nameW off)),.int .i64 0]∧Grew m V V' [off]∧NAt m V' off (withN n i y kid)∧JS w' m V' b p j x base (made++[off]) F')∨(v=.tuple #[.int .u64 0,.int .i64 6]∧Many m V m∧JS w' m V b p j x base made F')):=by
 have bel0:=Below.refl w0.heap.size w0;have h0:=h;have ld1:=ldAll (P:=Tryz.prog) (Blk.new w0 (q.cs n) 234) Tryz.underlying234 rfl ndI (n:=4) (q.cs_size n);refine ret_of (args:=[_,_,_,_,_]) _ Tryz.func169 rfl Tryz.ntmps169 (by simp) ?_;simp -implicitDefEqProofs [go_sem,↓ld1];generalize hw1:World.alloc w0 _=w1 at *;obtain ⟨hB1,b1,sz1,bel1⟩:=newF hw1 bel0;replace h:=h.next b1
 replace hin:=hin.next b1
 refine callE_of (nodeWith_calls q n y kid w1 hin hn hy hy16 hk) ?_;rintro v w2 ⟨q2,i,rfl,hi,hi1,hi2,hin2,hq2,b2⟩;have bel2:=btr bel1 b2;replace h:=h.next b2
 replace hB1:=hB1.next b2
 have st2:=stAll (P:=Tryz.prog) (ty:=234) (cs:=q2.cs (withN n i y kid)) hB1 ndI rfl (q2.cs_one _);have hB3:=hB1.row (q2.cs (withN n i y kid));have m3:Mod (fun k=>k=w0.heap.size) w2 (w2.setRow w0.heap.size (q2.cs (withN n i y kid))):=(Mod.refl (fun k=>k=w0.heap.size) w2).row (.inl rfl) _;obtain ⟨w3,hw3⟩:∃ w3,w3=w2.setRow w0.heap.size (q2.cs (withN n i y kid)):=⟨_,rfl⟩;have bel3:Below w0.heap.size w0 w3:=by rw [hw3];exact below_setRow bel2 (Nat.le_refl _) _
 rw [← hw3] at st2 hB3 m3;have ld3:=ldAll (P:=Tryz.prog) hB3 Tryz.underlying234 rfl ndI (n:=4) (q2.cs_size _);simp -implicitDefEqProofs [go_sem,↓st2,↓ld3];have hge:∀ k,(BlkOf q2.a1 k∨BlkOf q2.a2 k∨BlkOf q2.a3 k)→w0.heap.size<k:=fun k hk=>by have:=(hq2 k hk).1;have:=hB1.lt;have:=sz1;omega
 have hin3:NdIn w3 q2 (withN n i y kid):=⟨⟨hin2.pre.at_.mod m3 (fun k ⟨o,ho⟩ e=>by have:=hge k (.inl ⟨_,ho,rfl⟩);omega),hin2.pre.le,hin2.pre.max,hin2.pre.nil⟩,
  ⟨hin2.lab.at_.mod m3 (fun k ⟨o,ho⟩ e=>by have:=hge k (.inr (.inl ⟨_,ho,rfl⟩));omega),hin2.lab.le,hin2.lab.max,hin2.lab.nil⟩,
  ⟨hin2.kid.at_.mod m3 (fun k ⟨o,ho⟩ e=>by have:=hge k (.inr (.inr ⟨_,ho,rfl⟩));omega),hin2.kid.le,hin2.kid.max,hin2.kid.nil⟩⟩
 refine callE_of (jobBuild_calls q2 _ w3 (h0.next bel3) hr hm hst hin3 (withN_right hn hy16 hk hi1 hi2 hi) hmd) ?_;rintro v w4 ⟨F',t4,⟨off,V',rfl,hG,hN,hJ⟩|⟨rfl,hM,hJ⟩⟩
 ·simp -implicitDefEqProofs [go_sem];refine body_tmp2 10 11 rfl ?_;simp -implicitDefEqProofs [go_sem];exact ⟨F',i,hi,hi1,hi2,(Turn.of bel3).trans t4,off,rfl,V',hG,hN,hJ⟩
 ·simp -implicitDefEqProofs [go_sem];refine body_tmp2 10 11 rfl ?_;simp -implicitDefEqProofs [go_sem];exact ⟨F',i,hi,hi1,hi2,(Turn.of bel3).trans t4,hM,hJ⟩
def LeafT (m:Nat)(V:PV)(T:Tr)(l:List Nb)(u:BitVec 64)(L:List Nat):Prop :=
 T.At (NAt m V)∧T.nodes.Perm L∧(∀ a,T.items a=[(a++l,u)])∧∀ a,(a++l).length≤32→(a++l).length%2=0→T.Ok a
theorem leaf_one {off:Nat}{l:List Nb}{u:BitVec 64}(hl:l.length≤15)(h16:∀ x∈l,x.toNat<16)(hu:u≠0#64)(hN:NAt m V off ⟨l,u,[],[]⟩):LeafT m V (.nd off l u .nil) l u [off]:=by
 refine ⟨at_nd.2 ⟨hN,by unfold Ks.At;trivial⟩,by rw [nodes_nd];exact List.Perm.refl _,fun a=>?_,fun a h1 h2=>ok_nd.2 ⟨hl,h16,h1,fun _=>h2,List.Pairwise.nil,by unfold Ks.Ok;trivial⟩⟩;rw [items_nd,own_pos _ hu,Ks.items,List.append_nil]
theorem leaf_more {off:Nat}{l:List Nb}{u:BitVec 64}{T:Tr}{L:List Nat}(hl:15<l.length)(h16:∀ x∈l,x.toNat<16)(hT:LeafT m V T (l.drop 16) u L)(hG:Grew m V V' [off])(hN:NAt m V' off ⟨l.take 15,0#64,[l[15]],[nameW T.off]⟩):LeafT m V' (.nd off (l.take 15) 0#64 (.cons l[15] T .nil)) l u (L++[off]):=by
 obtain ⟨t1,t2,t3,t4⟩:=hT;have e:∀ a:List Nb,a++l.take 15++[l[15]]++l.drop 16=a++l:=fun a=>by
  rw [List.append_assoc,List.append_assoc,List.singleton_append,← List.drop_eq_getElem_cons hl,List.take_append_drop]
 refine ⟨at_nd.2 ⟨hN,?_⟩,?_,fun a=>?_,fun a h1 h2=>?_⟩
 ·rw [Ks.At,Ks.At];exact ⟨hG.tree t1,trivial⟩
 ·rw [nodes_nd,Ks.nodes,Ks.nodes,List.append_nil];exact (List.perm_append_comm (l₁:=[off]) (l₂:=T.nodes)).trans (t2.append (List.Perm.refl _))
 ·rw [items_nd,own_zero,Ks.items,Ks.items,List.append_nil,List.nil_append,t3,e]
 ·refine ok_nd.2 ⟨by rw [List.length_take];omega,fun x hx=>h16 x (List.mem_of_mem_take hx),?_,fun h=>absurd rfl h,?_,?_⟩
  ·rw [List.length_append] at h1 ⊢;rw [List.length_take];omega
  ·exact List.pairwise_singleton _ _
  ·rw [Ks.Ok,Ks.Ok];exact ⟨h16 _ (List.getElem_mem _),t4 _ (by rw [e];exact h1) (by rw [e];exact h2),trivial⟩
theorem leaf_off {T:Tr}{l:List Nb}{u:BitVec 64}{L:List Nat}(hm:m=6∨m=24)(h:LeafT m V T l u L):nameW T.off≠0#64∧T.off<1000000:=by
 have zf:=sz hm;obtain ⟨o,p',v,ks⟩:=T;obtain ⟨h1,h2,h3,_⟩:=(at_nd.1 h.1).1.in_ hm;have hb:o<1000000:=by omega
 exact ⟨name_ne (o:=o) hb (by omega),hb⟩
theorem jobLeaf_calls (hm:m=6∨m=24)(u:BitVec 64)(hu:u≠0#64):∀ (N:Nat) (l:List Nb) (a:Option Addr) (c:Nat) (V:PV) (made:List Nat) (F:Nat→Prop) (w0:World),l.length≤N→JS w0 m V b p j x base made F→Rest m V→V.D.steps+3000100+100*l.length<1099511627776 →
  SlIn .u8 w0 a l c→SepA w0 F a→(∀ x∈l,x.toNat<16)→l.length≤32→made.length+l.length≤1000 →
  Ret Tryz.prog 132 #[.pointer (some ⟨j,0,none⟩),.slice a l.length c,.int .u64 (uv u)] w0 fun v w'=>∃ F' L V',Turn w0 F w' F'∧Grew m V V' L∧JS w' m V' b p j x base (made++L) F'∧L.length≤l.length/16+1 ∧
   ((∃ T:Tr,v=.tuple #[.int .u64 (uv (nameW T.off)),.int .i64 0]∧LeafT m V' T l u L)∨(v=.tuple #[.int .u64 0,.int .i64 6]∧L.length≤l.length/16∧Many m V' m)):=by
 intro N
 induction N using Nat.strongRecOn with
 | ind N ih =>
 intro l a c V made F w0 hN h hr hst hin hsep h16 h32 hmd;have bel0:=Below.refl w0.heap.size w0;have hle:=hin.le;have hmx:=hin.max;by_cases h15:l.length≤15
 ·have h15':(l.length:Int)≤15:=by omega
  refine ret_of (args:=[_,_,_]) _ Tryz.func132 rfl Tryz.ntmps132 (by simp) ?_;simp -implicitDefEqProofs [go_sem,h15,h15'];have hb:=jobBuild_calls ⟨a,c,none,0,none,0⟩ ⟨l,u,[],[]⟩ w0 h hr hm (by omega) ⟨hin,⟨.inl rfl,Nat.le_refl _,Nat.zero_le _,fun _=>rfl⟩,⟨.inl rfl,Nat.le_refl _,Nat.zero_le _,fun _=>rfl⟩⟩ ⟨h15,h16,(fun _ h=>by cases h),List.Pairwise.nil,rfl,(fun _ h=>by cases h)⟩ (by omega);refine callE_of hb ?_;rintro v w1 ⟨F',t1,⟨off,V',rfl,hG,hN,hJ⟩|⟨rfl,hM,hJ⟩⟩
  ·simp -implicitDefEqProofs [go_sem];refine body_tmp2 6 7 rfl ?_;simp -implicitDefEqProofs [go_sem];exact ⟨F',t1,[off],V',hG,hJ,by simp,_,rfl,leaf_one h15 h16 hu hN⟩
  ·simp -implicitDefEqProofs [go_sem];refine body_tmp2 6 7 rfl ?_;simp -implicitDefEqProofs [go_sem];exact ⟨F',t1,[],V,Grew.refl hr,by rw [List.append_nil];exact hJ,by simp,by simp,hM⟩
 ·have h15':¬ (l.length:Int)≤15:=by omega
  have h15n:¬ l.length≤15:=by omega
  have s1:(16:Int)≤l.length:=by omega
  have s2:16≤l.length:=by omega
  obtain ⟨rb,ro,ha,-⟩:=hin.at_.cell (i:=15) (by omega);subst ha;refine ret_of (args:=[_,_,_]) _ Tryz.func132 rfl Tryz.ntmps132 (by simp) ?_;simp -implicitDefEqProofs [go_sem,h15',h15n,s1,s2];have hd:=hin.drop s2;have hsd:SepA w0 F (if c=16 then some ⟨rb,ro,none⟩ else some ⟨rb,ro+16,none⟩):=fun y hy=>by
   have hy2:y.block=rb:=by split at hy<;>(obtain rfl:=Option.some.inj hy;rfl)
   have h3:=hsep _ rfl;rw [hy2];exact h3
  have hl:=ih (l.drop 16).length (by rw [List.length_drop];omega) (l.drop 16) _ (c-16) V made F w0 (Nat.le_refl _) h hr (by rw [List.length_drop];omega) hd hsd (fun x hx=>h16 x (List.mem_of_mem_drop hx)) (by rw [List.length_drop];omega) (by rw [List.length_drop];omega);rw [List.length_drop] at hl;refine callE_of hl ?_;rintro v w1 ⟨F1,L1,V1,t1,hG1,hJ1,hL1,⟨T,rfl,hT⟩|⟨rfl,hL1',hM1⟩⟩
  all_goals
   have hin1:=hin.turn hsep t1;have c15:=hin1.at_.cell (i:=15) (by omega);obtain ⟨rb',ro',hra',hrc'⟩:=c15;obtain ⟨rfl,rfl⟩:rb=rb'∧ro=ro':=by simpa using hra'
   have v1:(15:Int)≤c:=by omega
   have v2:15≤c:=by omega
   have v3:(15:Int)<l.length:=by omega
   have v4:15<l.length:=by omega
  all_goals
   have bd:=(Below.refl w1.heap.size w1).drew;have hl15:(l.take 15).length=15:=by rw [List.length_take];omega
   have hin2:NdIn (World.drew w1) ⟨some ⟨rb,ro,none⟩,15,none,0,none,0⟩ ⟨l.take 15,0#64,[],[]⟩:=⟨⟨(hin1.next bd).at_.take 15,show (l.take 15).length≤15 by omega,show (15:Nat)≤9223372036854775807 by decide,fun h=>by cases h⟩,⟨.inl rfl,Nat.le_refl _,Nat.zero_le _,fun _=>rfl⟩,⟨.inl rfl,Nat.le_refl _,Nat.zero_le _,fun _=>rfl⟩⟩;have hcs:NP.cs ⟨some ⟨rb,ro,none⟩,15,none,0,none,0⟩ ⟨l.take 15,0#64,[],[]⟩=#[.slice (some ⟨rb,ro,none⟩) 15 15,.int .u64 0,.slice none 0 0,.slice none 0 0]:=by
    show #[Value.slice _ (l.take 15).length 15,_,_,_]=_;rw [hl15];rfl
   have hc2:(World.drew w1).cell? ⟨rb,ro+15,none⟩=some (.int .u8 (uv l[15])):=hrc';simp -implicitDefEqProofs [go_sem,v1,v2,v3,v4];refine drawE_mix [.pure 0,.pure 1,.pure 4,.pure 5,.pure 7,.pure 8,.take 2,.take 6,.run 3 [6],.run 9 [],.pure 10,.pure 11,.pure 12,.pure 13] mixed (by decide +kernel) (by simp only [wo];rfl) ?_;have hJ2:=hJ1.next bd
   generalize World.drew w1=w2 at *;simp -implicitDefEqProofs [go_sem,v1,v2,v3,v4];refine onTake_of (fun _=>True) (.slice (some ⟨rb,ro,none⟩) 15 15) trivial (fun w' _=>by simp -implicitDefEqProofs [go_sem,v1,v2]) ?_;simp -implicitDefEqProofs [go_sem];refine onTake_of (fun w'=>w'.cell? ⟨rb,ro+15,none⟩=some (.int .u8 (uv l[15]))) (.int .u8 (uv l[15])) hc2 (fun w' hw=>by simp -implicitDefEqProofs [go_sem,hw]) ?_;simp -implicitDefEqProofs [go_sem]
  ·have hA:=jobAbove_calls _ _ l[15] (nameW T.off) w2 hJ2 hG1.rest hm (by have:=hG1.steps;omega) hin2 ⟨by rw [hl15];decide,fun x hx=>h16 x (List.mem_of_mem_take hx),(fun _ h=>by cases h),List.Pairwise.nil,rfl,(fun _ h=>by cases h)⟩ (by rw [List.length_append];omega) (fun h=>by cases h) (h16 _ (List.getElem_mem _)) (leaf_off hm hT).1;rw [hcs] at hA;refine callE_of hA ?_;rintro v w3 ⟨F3,i,hi,-,-,t3,⟨off,V3,rfl,hG3,hN3,hJ3⟩|⟨rfl,hM3,hJ3⟩⟩
   ·simp -implicitDefEqProofs [go_sem];refine body_tmp2 6 7 rfl ?_;simp -implicitDefEqProofs [go_sem];have hi0:i=0:=by simpa using hi
    subst hi0;exact ⟨F3,(t1.trans (Turn.of bd)).trans t3,L1++[off],V3,hG1.trans hG3,by rw [← List.append_assoc];exact hJ3,by rw [List.length_append,List.length_singleton];omega,_,rfl,leaf_more v4 h16 hT hG3 hN3⟩
   ·simp -implicitDefEqProofs [go_sem];refine body_tmp2 6 7 rfl ?_;simp -implicitDefEqProofs [go_sem];exact ⟨F3,(t1.trans (Turn.of bd)).trans t3,L1,V1,hG1,hJ3,by omega,by omega,hM3⟩
  ·have hA:=jobAboveNo_calls (j:=j) ⟨some ⟨rb,ro,none⟩,15,none,0,none,0⟩ ⟨l.take 15,0#64,[],[]⟩ (.int .u8 (uv l[15])) (.int .u64 0) w2;rw [hcs] at hA;refine callE_of hA ?_;rintro v w3 ⟨rfl,b3⟩;simp -implicitDefEqProofs [go_sem];refine body_tmp2 6 7 rfl ?_;simp -implicitDefEqProofs [go_sem];exact ⟨F1,(t1.trans (Turn.of bd)).trans (Turn.of b3),L1,V1,hG1,hJ2.next b3,by omega,by omega,hM1⟩
end
end
section
open Go Go.RowKit
open TR
structure GrownT (m:Nat) (V':PV) (a:List Nb) (k:List Nb) (u:BitVec 64) (t T':Tr) (L:List Nat):Prop where
 at_:T'.At (NAt m V')
 chg:TR.Chg k 0#64 u (t.items a) (T'.items a)
 ok:T'.Ok a
 nodes:(t.off::T'.nodes).Perm (t.nodes++L)
section
variable {m:Nat} {V V1 V2 V3:PV}
theorem nv_with (o o2:Nat)(p:List Nb)(v:BitVec 64)(kl kr:Ks)(x:Nb)(T1:Tr):(Tr.nd o2 p v (kl.app (.cons x T1 kr))).nv=withN (Tr.nd o p v (kl.app kr)).nv kl.len x (nameW T1.off):=by
 have h1:=labels_len kl;have h2:=offs_len kl;show NdV.mk _ _ _ _=NdV.mk _ _ _ _;simp only [Tr.nv,app_labels,app_offs,Ks.labels,Ks.offs];rw [← h1,List.take_left',List.drop_left',h1,← h2,List.take_left',List.drop_left']<;>rfl
theorem grown_kid {o off2:Nat}{p r2:List Nb}{v u:BitVec 64}{ks:Ks}{a:List Nb}{x:Nb}{T1:Tr}{i:Nat}{L1:List Nat}(hO:(Tr.nd o p v ks).Ok a)(hA:(Tr.nd o p v ks).At (NAt m V))(hk:(a++(p++x::r2)).length≤32∧(a++(p++x::r2)).length%2=0)(hx:x.toNat<16)
  (hi:i≤ks.labels.length) (h1:∀ j (h:j<ks.labels.length),j<i→ks.labels[j].toNat<x.toNat) (h2:∀ j (h:j<ks.labels.length),i≤j→x.toNat<ks.labels[j].toNat)
  (hG1:Grew m V V1 L1) (hT:LeafT m V1 T1 r2 u L1) (hG2:Grew m V1 V2 [off2]) (hN:NAt m V2 off2 (withN (Tr.nd o p v ks).nv i x (nameW T1.off))):∃ T',T'.off=off2∧GrownT m V2 a (a++(p++x::r2)) u (.nd o p v ks) T' (L1++[off2]):=by
 rw [labels_len] at hi;obtain ⟨kl,kr,rfl,rfl⟩:=ks_split ks i hi;obtain ⟨t1,t2,t3,t4⟩:=hT;have e:a++p++[x]++r2=a++(p++x::r2):=by simp
 have hks:=(at_nd.1 hA).2;rw [app_at] at hks;have hl:=labels_len kl;refine ⟨.nd off2 p v (kl.app (.cons x T1 kr)),rfl,⟨at_nd.2 ⟨?_,?_⟩,?_,?_,?_⟩⟩
 ·have:=nv_with o off2 p v kl kr x T1;rw [← this] at hN;exact hN
 ·rw [app_at,Ks.At];exact ⟨hG2.kids (hG1.kids hks.1),hG2.tree t1,hG2.kids (hG1.kids hks.2)⟩
 ·refine chg_kid o off2 p v kl kr x T1 a _ u ?_;rw [t3,e,own_pos];have:=(items_len (a++p++[x]) T1 (t4 _ (by rw [e];exact hk.1) (by rw [e];exact hk.2)) _ (by rw [t3];exact List.mem_singleton_self _)).2.2.1;exact this
 ·refine ok_kid hO (t4 _ (by rw [e];exact hk.1) (by rw [e];exact hk.2)) hx (fun y hy=>?_) (fun y hy=>?_)
  ·obtain ⟨j,hj,rfl⟩:=List.getElem_of_mem hy;have:=h1 j (by rw [app_labels,List.length_append];omega) (by omega);simpa [app_labels,List.getElem_append_left hj] using this
  ·obtain ⟨j,hj,rfl⟩:=List.getElem_of_mem hy;have:=h2 (kl.len+j) (by rw [app_labels,List.length_append];omega) (by omega);simp only [app_labels] at this;rw [List.getElem_append_right (by omega)] at this;simpa [hl] using this
 ·show (o::(Tr.nd off2 p v _).nodes).Perm ((Tr.nd o p v _).nodes++_);rw [nodes_nd,nodes_nd,app_nodes,app_nodes,Ks.nodes,List.cons_append];refine List.Perm.cons _ ?_;have h3:(off2::(kl.nodes++(T1.nodes++kr.nodes))).Perm ((kl.nodes++(T1.nodes++kr.nodes))++[off2]):=(List.perm_append_comm (l₁:=[off2]));refine h3.trans ?_;rw [← List.append_assoc (kl.nodes++kr.nodes)];refine List.Perm.append ?_ (List.Perm.refl _);rw [List.append_assoc]
  exact List.Perm.append (List.Perm.refl _) ((List.perm_append_comm (l₁:=T1.nodes)).trans (List.Perm.append (List.Perm.refl _) t2))
theorem low_at {o o1:Nat}{p p2:List Nb}{v:BitVec 64}{ks:Ks}(hA:(Tr.nd o p v ks).At (NAt m V))(hG:Grew m V V1 [o1])(hN:NAt m V1 o1 ⟨p2,v,ks.labels,ks.offs⟩):(Tr.nd o1 p2 v ks).At (NAt m V1):=at_nd.2 ⟨hN,hG.kids (at_nd.1 hA).2⟩
theorem grown_top {o o1 o2:Nat}{pc p2:List Nb}{y:Nb}{v u:BitVec 64}{ks:Ks}{a:List Nb}(hO:(Tr.nd o (pc++y::p2) v ks).Ok a)(hA:(Tr.nd o (pc++y::p2) v ks).At (NAt m V))(hk:(a++pc).length%2=0)
  (hG1:Grew m V V1 [o1]) (hN1:NAt m V1 o1 ⟨p2,v,ks.labels,ks.offs⟩) (hG2:Grew m V1 V2 [o2]) (hN2:NAt m V2 o2 ⟨pc,u,[y],[nameW o1]⟩):∃ T',T'.off=o2∧GrownT m V2 a (a++pc) u (.nd o (pc++y::p2) v ks) T' ([o1]++[o2]):=by
 refine ⟨.nd o2 pc u (.cons y (.nd o1 p2 v ks) .nil),rfl,⟨at_nd.2 ⟨hN2,?_⟩,chg_top o o1 o2 pc p2 y v u ks a,ok_top hO hk,?_⟩⟩
 ·rw [Ks.At,Ks.At];exact ⟨hG2.tree (low_at hA hG1 hN1),trivial⟩
 ·show (o::(Tr.nd o2 pc u _).nodes).Perm ((Tr.nd o _ v ks).nodes++_);rw [nodes_nd,nodes_nd,Ks.nodes,Ks.nodes,nodes_nd,List.append_nil,List.cons_append];refine List.Perm.cons _ ?_;have h3:(o2::o1::ks.nodes).Perm ((o1::ks.nodes)++[o2]):=List.perm_append_comm (l₁:=[o2]);refine h3.trans ?_;rw [← List.append_assoc];exact List.Perm.append (List.perm_append_comm (l₁:=[o1])) (List.Perm.refl _)
theorem grown_two {o o1 o3:Nat}{pc p2 r2:List Nb}{y z:Nb}{v u:BitVec 64}{ks:Ks}{a:List Nb}{T1:Tr}{L1:List Nat}(hO:(Tr.nd o (pc++y::p2) v ks).Ok a)(hA:(Tr.nd o (pc++y::p2) v ks).At (NAt m V))(hk:(a++(pc++z::r2)).length≤32∧(a++(pc++z::r2)).length%2=0)(hz:z.toNat<16)
  (hG1:Grew m V V1 [o1]) (hN1:NAt m V1 o1 ⟨p2,v,ks.labels,ks.offs⟩) (hG2:Grew m V1 V2 L1) (hT:LeafT m V2 T1 r2 u L1) (hG3:Grew m V2 V3 [o3])
  (hN3:(y.toNat<z.toNat∧NAt m V3 o3 ⟨pc,0#64,[y,z],[nameW o1,nameW T1.off]⟩)∨(z.toNat<y.toNat∧NAt m V3 o3 ⟨pc,0#64,[z,y],[nameW T1.off,nameW o1]⟩)):∃ T',T'.off=o3∧GrownT m V3 a (a++(pc++z::r2)) u (.nd o (pc++y::p2) v ks) T' ([o1]++L1++[o3]):=by
 obtain ⟨t1,t2,t3,t4⟩:=hT;have e:a++pc++[z]++r2=a++(pc++z::r2):=by simp
 have hTO:=t4 (a++pc++[z]) (by rw [e];exact hk.1) (by rw [e];exact hk.2);have hu:=(items_len (a++pc++[z]) T1 hTO _ (by rw [t3];exact List.mem_singleton_self _)).2.2.1;have hti:T1.items (a++pc++[z])=own (a++(pc++z::r2)) u:=by rw [t3,e,own_pos _ hu]
 have hlow:(Tr.nd o1 p2 v ks).At (NAt m V3):=hG3.tree (hG2.tree (low_at hA hG1 hN1));obtain ⟨c1,c2⟩:=chg_two o o1 o3 pc p2 y z v u ks a _ T1 hti;obtain ⟨k1,k2⟩:=ok_two (o1:=o1) (o3:=o3) hO hTO hz;have hp:∀ M:List Nat,M.Perm (T1.nodes++(o1::ks.nodes))→(o::o3::M).Perm ((o::ks.nodes)++([o1]++L1++[o3])):=fun M hM=>by
  rw [List.cons_append];refine List.Perm.cons _ ?_;have h3:(o3::M).Perm (M++[o3]):=List.perm_append_comm (l₁:=[o3]);refine h3.trans ?_;rw [← List.append_assoc];refine List.Perm.append (hM.trans ?_) (List.Perm.refl _);refine (List.perm_append_comm (l₁:=T1.nodes)).trans ?_;rw [← List.append_assoc];exact List.Perm.append (List.perm_append_comm (l₁:=[o1])) t2
 rcases hN3 with ⟨hlt,hN⟩|⟨hlt,hN⟩
 ·refine ⟨.nd o3 pc 0#64 (.cons y (.nd o1 p2 v ks) (.cons z T1 .nil)),rfl,⟨at_nd.2 ⟨hN,?_⟩,c1,k1 hlt,?_⟩⟩
  ·rw [Ks.At,Ks.At,Ks.At];exact ⟨hlow,hG3.tree t1,trivial⟩
  ·show (o::(Tr.nd o3 pc _ _).nodes).Perm ((Tr.nd o _ v ks).nodes++_);rw [nodes_nd,nodes_nd,Ks.nodes,Ks.nodes,Ks.nodes,nodes_nd,List.append_nil];exact hp _ (List.perm_append_comm)
 ·refine ⟨.nd o3 pc 0#64 (.cons z T1 (.cons y (.nd o1 p2 v ks) .nil)),rfl,⟨at_nd.2 ⟨hN,?_⟩,c2,k2 hlt,?_⟩⟩
  ·rw [Ks.At,Ks.At,Ks.At];exact ⟨hG3.tree t1,hlow,trivial⟩
  ·show (o::(Tr.nd o3 pc _ _).nodes).Perm ((Tr.nd o _ v ks).nodes++_);rw [nodes_nd,nodes_nd,Ks.nodes,Ks.nodes,Ks.nodes,nodes_nd,List.append_nil];exact hp _ (List.Perm.refl _)
end
end
section
open Go Go.RowKit
open TR
section
variable {w w':World} {m b p j x base cap:Nat} {V V':PV} {G G' F F':Nat→Prop} {made:List Nat} {a:Option Addr}
theorem JS.lt (h:JS w m V b p j x base made F):∀ k,F k→k<w.heap.size:=by
 obtain ⟨G,a,cap,hJ,rfl⟩:=h;rintro k (hk|hk|hk)
 ·exact hJ.sys.lt k hk
 ·rw [hk];exact hJ.job.lt
 ·exact (ownsRow_blk hJ.own k hk).2
theorem Blk.keepT {B:Nat}{C:Array Value}{e:TypeId}(h:Blk w B C e)(hF:¬ F B)(ht:Turn w F w' F'):Blk w' B C e∧¬ F' B:=⟨h.mod ht.mod hF,out_turn hF h.lt ht⟩
def GrowP (m:Nat)(V:PV)(b p j x base:Nat)(made:List Nat)(F:Nat→Prop)(t:Tr)(key r:List Nb)(u:BitVec 64)(w0:World)(v:Value)(w':World):Prop :=
 ∃ F' L V',Turn w0 F w' F'∧Grew m V V' L∧JS w' m V' b p j x base (made++L) F'∧L.length≤5 ∧
  ((∃ T':Tr,v=.tuple #[.int .u64 (uv (nameW T'.off)),.int .i64 0]∧GrownT m V' key (key++r) u t T' L)∨(v=.tuple #[.int .u64 0,.int .i64 6]∧L.length≤4∧Many m V' m))
set_option maxHeartbeats 4000000
theorem cmn_take {l r:List Nb}:∀ {k:Nat},k≤cmn l r→l.take k=r.take k:=by
 intro k hk;refine List.ext_getElem? fun i=>?_
 rw [List.getElem?_take,List.getElem?_take];by_cases h:i<k
 ·rw [if_pos h,if_pos h];exact (cmn_lt (show i<cmn l r by omega)).1
 ·rw [if_neg h,if_neg h]
theorem jobGrowA_calls (hm:m=6∨m=24)(q:NP)(o wd:Nat)(lab:Nb)(pr:List Nb)(vl:BitVec 64)(ks:Ks)(key r:List Nb)(a7:Option Addr)(c7:Nat)(u:BitVec 64)(w0:World)(h:JS w0 m V b p j x base made F)(hr:Rest m V)(hst:V.D.steps+3010000<1099511627776)
  (hq:NdS w0 F q (Tr.nd o pr vl ks).nv) (h7:SlIn .u8 w0 a7 r c7) (hs7:SepA w0 F a7) (hA:(Tr.nd o pr vl ks).At (NAt m V)) (hO:(Tr.nd o pr vl ks).Ok key) (hmd:made.length≤900) (hk:(key++r).length≤32∧(key++r).length%2=0) (h16:∀ y∈r,y.toNat<16) (hu:u≠0#64)
  (hsm:cmn pr r=pr.length) (hlt:pr.length<r.length) (hx:r[pr.length]∉ks.labels) :
  Ret Tryz.prog 134 #[.pointer (some ⟨j,0,none⟩),.agg (plC q (Tr.nd o pr vl ks).nv o lab wd),.slice a7 r.length c7,.int .u64 (uv u)] w0 fun v w'=>GrowP m V b p j x base made F (.nd o pr vl ks) key r u w0 v w':=by
 have bel0:=Below.refl w0.heap.size w0;have zf:=sz hm;have hmx:=h7.max;have hle:=h7.le;have hr32:r.length≤32:=by have:=hk.1;rw [List.length_append] at this;omega
 obtain ⟨n,hn⟩:∃ n:NdV,n=⟨pr,vl,ks.labels,ks.offs⟩:=⟨_,rfl⟩;have hnn:(Tr.nd o pr vl ks).nv=n:=hn.symm;have hN:=(at_nd.1 hA).1;rw [← hn] at hN;rw [hnn] at hq ⊢;have hpn:n.pre=pr:=by rw [hn]
 have hB:=Blk.new w0 (plC q n o lab wd) 236;obtain ⟨C,hC⟩:∃ C,C=plC q n o lab wd:=⟨_,rfl⟩;have hC0:C[0]?=some (.slice q.a1 pr.length q.c1):=by rw [hC,hn];rfl
 have hC1:C[1]?=some (.int .u64 (uv n.val)):=by rw [hC];rfl
 have hC2:C[2]?=some (.slice q.a2 n.labels.length q.c2):=by rw [hC];rfl
 have hC3:C[3]?=some (.slice q.a3 n.kids.length q.c3):=by rw [hC];rfl
 have hqc:q.cs n=#[.slice q.a1 pr.length q.c1,.int .u64 (uv n.val),.slice q.a2 n.labels.length q.c2,.slice q.a3 n.kids.length q.c3]:=by rw [hn];rfl
 obtain ⟨rb,ro,ha,-⟩:=h7.at_.cell hlt;subst ha;have e1:=IntWalk.i64_in ((pr.length:Int)+1) (by omega);have v1:(pr.length:Int)+1≤r.length:=by omega
 have v2:pr.length+1≤r.length:=by omega
 have v3:(0:Int)≤(pr.length:Int)+1:=by omega
 have v4:¬ (pr.length:Int)<0:=by omega
 have v5:(pr.length:Int)<r.length:=by omega
 rw [← hC] at hB ⊢;have hCs:C.size=7:=by rw [hC];rfl
 refine ret_of (args:=[_,_,_,_]) _ Tryz.func134 rfl Tryz.ntmps134 (by simp) ?_;simp -implicitDefEqProofs [go_sem,hC0];have hBF:¬ F w0.heap.size:=fun hf=>by have:=h.lt _ hf;omega
 have hw0:=h;generalize hw1:World.alloc w0 _=w1 at *;obtain ⟨hB1,b1,sz1,bel1⟩:=newF hw1 bel0;replace h:=h.next b1
 replace hq:=hq.next b1
 replace h7:=h7.next b1
 have hs7':=hs7.next b1
 refine callE_of (nibCommon_calls q.a1 (some ⟨rb,ro,none⟩) pr r q.c1 c7 w1 (by have:=hq.in_.pre;rw [hpn] at this;exact this) h7) ?_;rintro v w2 ⟨rfl,b2⟩;rw [hsm];have bel2:=btr bel1 b2;replace h:=h.next b2
 replace hq:=hq.next b2
 replace h7:=h7.next b2
 replace hB1:=hB1.next b2
 replace hs7':=hs7'.next b2
 simp -implicitDefEqProofs [go_sem,hB1.cell,hC0,e1,v1,v2,v3];have hd:=h7.drop v2;have hsd:SepA w2 F (if c7=pr.length+1 then some ⟨rb,ro,none⟩ else some ⟨rb,ro+(pr.length+1),none⟩):=fun y hy=>by
  have hy2:y.block=rb:=by split at hy<;>(obtain rfl:=Option.some.inj hy;rfl)
  have h3:=hs7' _ rfl;rw [hy2];exact h3
 have hl:=jobLeaf_calls hm u hu (r.drop (pr.length+1)).length (r.drop (pr.length+1)) _ (c7-(pr.length+1)) V made F w2 (Nat.le_refl _) h hr (by rw [List.length_drop];omega) hd hsd (fun x hx=>h16 x (List.mem_of_mem_drop hx)) (by rw [List.length_drop];omega) (by rw [List.length_drop];omega);rw [List.length_drop] at hl;refine callE_of hl ?_;rintro v w3 ⟨F1,L1,V1,t1,hG1,hJ1,hL1,hres⟩;obtain ⟨hB3,hBF3⟩:=hB1.keepT hBF t1;have hq3:=hq.turn t1;have h73:=h7.turn hs7' t1;have hL3:L1.length≤3:=by omega
 obtain ⟨rb',ro',hra',hrc'⟩:=h73.at_.cell hlt;obtain ⟨rfl,rfl⟩:rb=rb'∧ro=ro':=by simpa using hra'
 rcases hres with ⟨T,rfl,hT⟩|⟨rfl,hL1',hM1⟩
 all_goals
  simp -implicitDefEqProofs [go_sem,v4,v5,hlt];refine drawE_mix [.pure 0,.pure 1,.pure 3,.pure 4,.pure 5,.pure 7,.pure 8,.take 2,.run 6 [2],.run 9 [],.pure 10,.pure 11,.pure 12,.pure 13] mixed (by decide +kernel) (by simp only [wo];rfl) ?_;have bd:=(Below.refl w3.heap.size w3).drew;have hrc4:(World.drew w3).cell? ⟨rb,ro+pr.length,none⟩=some (.int .u8 (uv r[pr.length])):=hrc';generalize World.drew w3=w4 at *;have hB4:=hB3.next bd
  have hJ4:=hJ1.next bd
  have hq4:=hq3.next bd
  simp -implicitDefEqProofs [go_sem,v4,v5,hlt];refine onTake_of (fun w'=>Blk w' w0.heap.size C 236) (.agg (q.cs n)) hB4 (fun w' hw=>by simp -implicitDefEqProofs [go_sem,hw.cell,hC0,hC1,hC2,hC3,hqc]) ?_;simp -implicitDefEqProofs [go_sem,hrc4]
 ·have hA2:=jobAbove_calls q n r[pr.length] (nameW T.off) w4 hJ4 hG1.rest hm (by have:=hG1.steps;omega) hq4.in_ hN.right (by rw [List.length_append];omega) (by rw [hn];exact hx) (h16 _ (List.getElem_mem _)) (leaf_off hm hT).1;refine callE_of hA2 ?_;rintro v w5 ⟨F5,i,hi,hi1,hi2,t5,⟨off,V5,rfl,hG5,hN5,hJ5⟩|⟨rfl,hM5,hJ5⟩⟩
  ·simp -implicitDefEqProofs [go_sem];refine body_tmp2 8 9 rfl ?_;simp -implicitDefEqProofs [go_sem];have hrs:pr++r[pr.length]::r.drop (pr.length+1)=r:=by
    rw [← List.drop_eq_getElem_cons hlt];have:=cmn_full (a:=pr) (b:=r) hsm;have h3:=List.take_append_drop pr.length r;rw [this] at h3;exact h3
   have hni:(Tr.nd o pr vl ks).nv=n:=hnn;obtain ⟨T',hTo,hT'⟩:=grown_kid (r2:=r.drop (pr.length+1)) (x:=r[pr.length]) (i:=i) (off2:=off) hO hA (by rw [hrs];exact hk) (h16 _ (List.getElem_mem _)) (by rw [hn] at hi;exact hi) (by rw [hn] at hi1;exact hi1) (by rw [hn] at hi2;exact hi2) hG1 hT hG5 (by rw [hni];exact hN5);rw [hrs] at hT'
   exact ⟨F5,L1++[off],V5,(Turn.of bel2).trans (t1.trans ((Turn.of bd).trans t5)),hG1.trans hG5,by rw [← List.append_assoc];exact hJ5,by rw [List.length_append,List.length_singleton];omega,.inl ⟨T',by rw [hTo],hT'⟩⟩
  ·simp -implicitDefEqProofs [go_sem];refine body_tmp2 8 9 rfl ?_;simp -implicitDefEqProofs [go_sem];exact ⟨F5,L1,V1,(Turn.of bel2).trans (t1.trans ((Turn.of bd).trans t5)),hG1,hJ5,by omega,.inr ⟨rfl,by omega,hM5⟩⟩
 ·refine callE_of (jobAboveNo_calls (j:=j) q n (.int .u8 (uv r[pr.length])) (.int .u64 0) w4) ?_;rintro v w5 ⟨rfl,b5⟩;simp -implicitDefEqProofs [go_sem];refine body_tmp2 8 9 rfl ?_;simp -implicitDefEqProofs [go_sem];exact ⟨F1,L1,V1,(Turn.of bel2).trans (t1.trans ((Turn.of bd).trans (Turn.of b5))),hG1,hJ4.next b5,by omega,.inr ⟨rfl,by omega,hM1⟩⟩
end
end
end Go.Proofs.YtaaihijkdhmcdaaGreatDoor
