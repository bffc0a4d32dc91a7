/- WholeImage, part 26 of 38: contracts and lemmas of its proof. Conditions: none. -/
import Derived.Test.YtaaihijkdhmcdaaGreatDoorW24
import Derived.Test.YtaaihijkdhmcdaaGreatDoorW15
set_option linter.unusedVariables false
set_option linter.unusedSimpArgs false
set_option maxRecDepth 100000
namespace Go.Proofs.YtaaihijkdhmcdaaGreatDoor
section
open Go Go.RowKit
open TR
theorem offC_len (l:List Nat):(offC l).length=l.length:=by simp [offC]
theorem offC_get (l:List Nat){i:Nat}(h:i<l.length):(offC l)[i]'(by rw [offC_len];exact h)=.int .i64 ((l[i]:Nat):Int):=by simp [offC]
theorem VsIn.turn {w w':World}{F F':Nat→Prop}{a:Option Addr}{l:List Value}{c:Nat}(h:VsIn w a l c)(hs:SepA w F a)(ht:Turn w F w' F'):VsIn w' a l c :=
 ⟨h.at_.mod ht.mod fun b ⟨o,ho⟩=>(hs _ ho).2,h.le,h.max,h.nil⟩
section
variable {w w':World} {m b p j x base cap:Nat} {V V':PV} {G G' F F':Nat→Prop} {made:List Nat} {a:Option Addr}
set_option maxHeartbeats 4000000
theorem bk_small (hm:m=6∨m=24){y:Nat}(h:0<Bk m V (y:Int)):y<1000000:=by
 have zf:=sz hm;obtain ⟨n,e,h1,h2,h3,h4⟩:=bk_in hm h;omega
theorem jobFinish_calls (wd:Nat)(name:BitVec 64)(ol:Option Addr)(D:List Nat)(oc:Nat)(w0:World)(h:JS w0 m V b p j x base made F)(hr:Rest m V)(hm:m=6∨m=24)(hst:V.D.steps+3100000<1099511627776)
  (h8:wd%8=0) (ho:wd+8≤64*nL m) (ho2:64≤wd∧wd<128∨dT m≤wd) (hD:VsIn w0 ol (offC D) oc) (hsep:SepA w0 F ol) (hnd:D.Nodup) (hpos:∀ y∈D,0<Bk m V ((y:Nat):Int)) (hDl:D.length≤1000) :
  Ret Tryz.prog 133 #[.pointer (some ⟨j,0,none⟩),.int .i64 0,.int .i64 (wd:Int),.int .u64 (uv name),.slice ol D.length oc] w0 fun v w'=>v=.int .i64 0∧∃ V3 F',Gone m (pokeV V wd name) V3 D∧JS w' m V3 b p j x base made F'∧Turn w0 F w' F':=by
 obtain ⟨G,a,cap,hJ,rfl⟩:=h;have zf:=sz hm;have bel0:=Below.refl w0.heap.size w0;obtain ⟨p1,hP⟩:=poke hr hm h8 ho ho2 name;have j0:=hJ.job.cell 0;have x0:=hJ.ix.cell 0;simp [IxC] at j0 x0;refine ret_of (args:=[_,_,_,_,_]) _ Tryz.func133 rfl Tryz.ntmps133 (by simp) ?_;simp -implicitDefEqProofs [go_sem,j0,x0];refine callE_of (sysPut_calls name w0 hJ.sys (by omega) (o:=wd) (by omega)) ?_;rintro v w1 ⟨rfl,G1,hS1,t1⟩;obtain ⟨hJ1,tF1⟩:=hJ.to hS1 t1;rw [p1]
 obtain ⟨V1,hV1⟩:∃ V1,V1=pokeV V wd name:=⟨_,rfl⟩;have hJ1':JobS w1 m V1 b p j x base made G1 a cap:=by rw [hV1];exact hJ1
 rw [← hV1] at hP ⊢;have hD1:=hD.turn hsep tF1;have hsep1:=hsep.turn tF1;simp -implicitDefEqProofs [go_sem];refine wpE_loop (fun e' w'=>∃ (k:Nat) (V2:PV) (G2:Nat→Prop),k≤D.length∧Gone m V1 V2 (D.take k)∧e' 0=.pointer (some ⟨j,0,none⟩)∧e' 1=.int .i64 0∧e' 50=.slice ol D.length oc∧e' 51=.int .i64 (D.length:Int)∧e' 52=.int .i64 (k:Int) ∧
   JobS w' m V2 b p j x base made G2 a cap∧Turn w0 (JobF G j a) w' (JobF G2 j a)∧VsIn w' ol (offC D) oc∧SepA w' (JobF G2 j a) ol) (fun e' _=>D.length-(intOf (e' 52)).toNat) ?_ ?_
 ·refine ⟨0,V1,G1,Nat.zero_le _,Gone.refl hP.rest,?_⟩;simp -implicitDefEqProofs [go_sem];exact ⟨hJ1',tF1,hD1,hsep1⟩
 ·rintro e' w2 ⟨k,V2,G2,hk,hg,g0,g1,g50,g51,g52,hJ2,t2,hD2,hsep2⟩;by_cases hlt:k<D.length
  ·have hlt':(k:Int)<(D.length:Int):=by omega
   have hwk:=IntWalk.i64_in ((k:Int)+1) (by omega);obtain ⟨ob,oo,rfl,hc⟩:=hD2.at_.cell (i:=k) (by rw [offC_len];exact hlt);rw [offC_get D hlt] at hc;have hyD:D[k]∈D:=List.getElem_mem hlt;have hp0:=hpos _ hyD;have hnt:D[k]∉D.take k:=fun hm2=>by
    have h3:(D.take k++D.drop k).Nodup:=by rw [List.take_append_drop];exact hnd
    have h4:D[k]∈D.drop k:=by rw [List.drop_eq_getElem_cons hlt];exact List.mem_cons_self
    exact (List.nodup_append.1 h3).2.2 _ hm2 _ h4 rfl
   have hp2:0<Bk m V2 ((D[k]:Nat):Int):=by rw [hg.old _ hnt,hP.bk];exact hp0
   obtain ⟨V3,e3,hg3⟩:=gone_one hg.rest hm hp2;have j2:=hJ2.job.cell 0;have x2:=hJ2.ix.cell 1;simp [IxC] at j2 x2;simp -implicitDefEqProofs [go_sem,g0,g1,g50,g51,g52,hlt',hlt,hc,j2,x2];have hs2:=hg.steps;have hs1:=hP.steps;rw [List.length_take] at hs2;refine callE_of (sysDrop_calls D[k] w2 hJ2.sys hg.rest.well hm (by omega) (bk_small hm hp2)) ?_;rintro v w3 ⟨rfl,G3,hS3,t3⟩;obtain ⟨hJ3,tF3⟩:=hJ2.to hS3 t3;rw [e3] at hJ3 ⊢;simp -implicitDefEqProofs [go_sem,g0,g1,g50,g51,g52,hwk]
   have hgk:Gone m V1 V3 (D.take (k+1)):=by
    have:=hg.trans hg3;rw [← List.take_succ_eq_append_getElem hlt] at this;exact this
   refine goE_round ⟨k+1,V3,G3,by omega,hgk,?_⟩ ?_
   ·simp -implicitDefEqProofs [go_sem,g0,g1,g50,g51];exact ⟨hJ3,t2.trans tF3,hD2.turn hsep2 tF3,hsep2.turn tF3⟩
   ·simp -implicitDefEqProofs [go_sem,g52,intOf];omega
  ·obtain rfl:k=D.length:=by omega
   simp -implicitDefEqProofs [go_sem,g0,g1,g50,g51,g52];refine body_tmp 10 rfl ?_;simp -implicitDefEqProofs [go_sem];rw [List.take_length] at hg;exact ⟨V2,hg,_,⟨G2,a,cap,hJ2,rfl⟩,t2⟩
theorem jobFail_calls (y1 y2 y3:Value)(w0:World)(h:JS w0 m V b p j x base made F)(hr:Rest m V)(hm:m=6∨m=24)(hst:V.D.steps+3100000<1099511627776)
  (hnd:made.Nodup) (hpos:∀ y∈made,0<Bk m V ((y:Nat):Int)) (hDl:made.length≤1000) :
  Ret Tryz.prog 133 #[.pointer (some ⟨j,0,none⟩),.int .i64 6,y1,y2,y3] w0 fun v w'=>v=.int .i64 6∧∃ V3 F',Gone m V V3 made∧JS w' m V3 b p j x base made F'∧Turn w0 F w' F':=by
 obtain ⟨G,a,cap,hJ,rfl⟩:=h;have zf:=sz hm;have bel0:=Below.refl w0.heap.size w0;have j1:=hJ.job.cell 1;simp at j1;refine ret_of (args:=[_,_,_,_,_]) _ Tryz.func133 rfl Tryz.ntmps133 (by simp) ?_;simp -implicitDefEqProofs [go_sem,j1];refine wpE_loop (fun e' w'=>∃ (k:Nat) (V2:PV) (G2:Nat→Prop),k≤made.length∧Gone m V V2 (made.take k)∧e' 0=.pointer (some ⟨j,0,none⟩)∧e' 1=.int .i64 6∧e' 33=.slice a made.length cap∧e' 34=.int .i64 (made.length:Int)∧e' 35=.int .i64 (k:Int) ∧
   JobS w' m V2 b p j x base made G2 a cap∧Turn w0 (JobF G j a) w' (JobF G2 j a)) (fun e' _=>made.length-(intOf (e' 35)).toNat) ?_ ?_
 ·refine ⟨0,V,G,Nat.zero_le _,Gone.refl hr,?_⟩;simp -implicitDefEqProofs [go_sem];exact ⟨hJ,Turn.of bel0⟩
 ·rintro e' w2 ⟨k,V2,G2,hk,hg,g0,g1,g50,g51,g52,hJ2,t2⟩;by_cases hlt:k<made.length
  ·have hlt':(k:Int)<(made.length:Int):=by omega
   have hwk:=IntWalk.i64_in ((k:Int)+1) (by omega);have hV2:=owns_vsIn (l:=offC made) (offC_len made) hJ2.own;obtain ⟨ob,oo,ha,hc⟩:=hV2.at_.cell (i:=k) (by rw [offC_len];exact hlt);subst ha;rw [offC_get made hlt] at hc;have hyD:made[k]∈made:=List.getElem_mem hlt;have hp0:=hpos _ hyD;have hnt:made[k]∉made.take k:=fun hm2=>by
    have h3:(made.take k++made.drop k).Nodup:=by rw [List.take_append_drop];exact hnd
    have h4:made[k]∈made.drop k:=by rw [List.drop_eq_getElem_cons hlt];exact List.mem_cons_self
    exact (List.nodup_append.1 h3).2.2 _ hm2 _ h4 rfl
   have hp2:0<Bk m V2 ((made[k]:Nat):Int):=by rw [hg.old _ hnt];exact hp0
   obtain ⟨V3,e3,hg3⟩:=gone_one hg.rest hm hp2;have j2:=hJ2.job.cell 0;have x2:=hJ2.ix.cell 1;simp [IxC] at j2 x2;simp -implicitDefEqProofs [go_sem,g0,g1,g50,g51,g52,hlt',hlt,hc,j2,x2];have hs2:=hg.steps;rw [List.length_take] at hs2;refine callE_of (sysDrop_calls made[k] w2 hJ2.sys hg.rest.well hm (by omega) (bk_small hm hp2)) ?_;rintro v w3 ⟨rfl,G3,hS3,t3⟩;obtain ⟨hJ3,tF3⟩:=hJ2.to hS3 t3;rw [e3] at hJ3 ⊢;simp -implicitDefEqProofs [go_sem,g0,g1,g50,g51,g52,hwk]
   have hgk:Gone m V V3 (made.take (k+1)):=by
    have:=hg.trans hg3;rw [← List.take_succ_eq_append_getElem hlt] at this;exact this
   refine goE_round ⟨k+1,V3,G3,by omega,hgk,?_⟩ ?_
   ·simp -implicitDefEqProofs [go_sem,g0,g1,g50,g51];exact ⟨hJ3,t2.trans tF3⟩
   ·simp -implicitDefEqProofs [go_sem,g52,intOf];omega
  ·obtain rfl:k=made.length:=by omega
   simp -implicitDefEqProofs [go_sem,g0,g1,g50,g51,g52];refine body_tmp 10 rfl ?_;simp -implicitDefEqProofs [go_sem];rw [List.take_length] at hg;exact ⟨V2,hg,_,⟨G2,a,cap,hJ2,rfl⟩,t2⟩
end
end
section
open Go Go.RowKit
open TR
section
variable {w w':World} {m b p j x base cap:Nat} {V V':PV} {G G' F F':Nat→Prop} {made:List Nat} {a:Option Addr}
set_option maxHeartbeats 4000000
theorem js_start {w1:World}(h:Sys w1 m V b p G)(hx:Blk w1 x (IxC p b) 178)(hxG:¬ G x)(hj:Blk w1 j #[.pointer (some ⟨x,0,none⟩),.slice none 0 0] 241)(hjG:¬ G j)(hxj:x≠j)(htj:1≠j) :
  JS w1 m V b p j x w1.heap.size [] (JobF G j none):=by
 have hn:∀ k,¬ BlkOf none k:=fun k ⟨y,hy,_⟩=>by cases hy
 exact ⟨G,none,0,⟨h,hx,hj,World.ownsRow_nil _ _ _ _,hxG,hjG,fun k hk=>absurd hk (hn k),hxj,hn _,hn _,htj,hn _,Nat.le_refl _⟩,rfl⟩
theorem js_end {w0 w1:World}(h:JS w' m V b p j x base made F')(hl:Sys w0 m V' b p G)(hb:Below w0.heap.size w0 w1)(ht:Turn w1 (JobF G j none) w' F')(hj:w0.heap.size≤j):∃ G',Sys w' m V b p G'∧Turn w0 G w' G':=by
 obtain ⟨G1,a1,c1,hJ,rfl⟩:=h;refine ⟨G1,hJ.sys,(Mod.of hb).trans ht.mod fun k hk hlt=>?_,fun k hk=>?_⟩
 ·rcases hk with hk|hk|⟨y,hy,_⟩
  ·exact hk
  ·omega
  ·cases hy
 ·have:=hb.size
  rcases ht.new k (.inl hk) with (h1|h1|⟨y,hy,_⟩)|h1
  ·exact .inl h1
  ·right;omega
  ·cases hy
  ·right;omega
theorem jobGrow_calls (hm:m=6∨m=24)(q:NP)(o wd:Nat)(lab:Nb)(pr:List Nb)(vl:BitVec 64)(ks:Ks)(key r:List Nb)(a7:Option Addr)(c7:Nat)(u:BitVec 64)(w0:World)(h:JS w0 m V b p j x base made F)(hr:Rest m V)(hst:V.D.steps+3010000<1099511627776)
  (hq:NdS w0 F q (Tr.nd o pr vl ks).nv) (h7:SlIn .u8 w0 a7 r c7) (hs7:SepA w0 F a7) (hA:(Tr.nd o pr vl ks).At (NAt m V)) (hO:(Tr.nd o pr vl ks).Ok key) (hmd:made.length≤900) (hk:(key++r).length≤32∧(key++r).length%2=0) (h16:∀ y∈r,y.toNat<16) (hu:u≠0#64)
  (hE:EndW (Tr.nd o pr vl ks) r) (hne:pr≠r) :
  Ret Tryz.prog 134 #[.pointer (some ⟨j,0,none⟩),.agg (plC q (Tr.nd o pr vl ks).nv o lab wd),.slice a7 r.length c7,.int .u64 (uv u)] w0 fun v w'=>GrowP m V b p j x base made F (.nd o pr vl ks) key r u w0 v w':=by
 have hle:=cmn_le pr r;have hsame:cmn pr r=pr.length→cmn pr r=r.length→False:=fun h1 h2=>by
  have h3:=cmn_full h1;rw [show pr.length=r.length by omega,List.take_length] at h3;exact hne h3.symm
 by_cases hlt:cmn pr r<pr.length
 ·exact jobGrowB_calls hm q o wd lab pr vl ks key r a7 c7 u w0 h hr hst hq h7 hs7 hA hO hmd hk h16 hu _ rfl hlt
 ·have he:cmn pr r=pr.length:=by omega
  rcases hE with h1|h1|⟨y,hy,h1,h2⟩
  ·exact absurd h1 hlt
  ·exact (hsame he h1).elim
  ·have hy:r[pr.length]?=some y:=hy;obtain ⟨h3,h4⟩:=List.getElem?_eq_some_iff.1 hy;exact jobGrowA_calls hm q o wd lab pr vl ks key r a7 c7 u w0 h hr hst hq h7 hs7 hA hO hmd hk h16 hu he h3 (by rw [h4];exact h2)
theorem own_leaf {V1:PV}{T:Tr}{l:List Nb}{u:BitVec 64}{L X:List Nat}(hm:m=6∨m=24)(h:Own m V none X)(hG:Grew m V V1 L)(hT:LeafT m V1 T l u L)(hl:l.length≤32∧l.length%2=0)(hu:u≠0#64) :
  TR.Chg l 0#64 u [] (T.items [])∧∀ V3,Gone m (pokeV V1 72 (nameW T.off)) V3 []→Own m V3 (some T) X∧Side m V V3 X:=by
 have zf:=sz hm;obtain ⟨t1,t2,t3,t4⟩:=hT;obtain ⟨p1,hP⟩:=poke hG.rest hm (z:=72) (by omega) (by omega) (.inl (by omega)) (nameW T.off);have hnd:=h.nd;rw [show nodesO none++X=X from rfl] at hnd;have hall:=h.all;refine ⟨⟨[],[],by rw [own_zero];rfl,by rw [t3,own_pos _ hu];rfl⟩,fun V3 hD=>⟨⟨hD.rest,⟨?_,fun T' hT'=>?_,fun T' hT'=>?_⟩,?_,fun y=>?_⟩,?_⟩⟩
 ·rw [hD.words 72 (by decide) (by omega) (.inl (by decide)),hP.words 72 (by decide) (by omega),if_pos rfl]
 ·obtain rfl:=Option.some.inj (show some T=some T' from hT');exact hD.tree hm (at_mono t1 fun o _ n hn=>hP.nodeL hm (by omega) hn) (fun y _ hy=>by cases hy)
 ·obtain rfl:=Option.some.inj (show some T=some T' from hT');exact t4 [] (by rw [List.nil_append];exact hl.1) (by rw [List.nil_append];exact hl.2)
 ·show (T.nodes++X).Nodup;refine List.nodup_append.2 ⟨t2.nodup_iff.2 hG.nd,hnd,fun y hy z hz e=>?_⟩;subst e;have h1:=(hG.new y (t2.mem_iff.1 hy)).1;have h2:=(hall y).2 hz;omega
 ·show _↔y∈T.nodes++X;rw [hD.old y (by simp),poke_bk,List.mem_append,t2.mem_iff];by_cases hy:y∈L
  ·exact ⟨fun _=>.inl hy,fun _=>(hG.new y hy).2⟩
  ·rw [hG.old y hy,hall y];exact ⟨fun h=>.inr h,fun h=>h.elim (fun h=>absurd h hy) id⟩
 ·refine (hG.side fun y hy=>(hall y).2 hy).trans (Side.trans (V1:=pokeV V1 72 (nameW T.off)) ⟨fun y _=>rfl,fun y _ i hi=>hP.low hm (by omega) hi,fun x x1 x2 x3=>?_⟩ (hD.side hm fun y _ hy=>by cases hy));rw [hP.words x x1 (by omega),if_neg x3]
def PutP (m:Nat)(V:PV)(b p:Nat)(G:Nat→Prop)(o:Option Tr)(X:List Nat)(k:List Nb)(u:BitVec 64)(w0:World)(v:Value)(w':World):Prop :=
 ∃ V' G',Sys w' m V' b p G'∧Turn w0 G w' G'∧Side m V V' X∧V'.D.steps≤V.D.steps+1000 ∧
  ((v=.int .i64 0∧∃ T',Own m V' (some T') X∧TR.Chg k (valI (itemsO o) k) u (itemsO o) (T'.items [])) ∨
   (v=.int .i64 6∧Own m V' o X∧valI (itemsO o) k=0#64∧∃ V1 L,Grew m V V1 L∧L.length≤4∧Many m V1 m))
theorem idxPut_calls (x:Nat)(key:ByteArray)(o:Option Tr)(X:List Nat)(u:BitVec 64)(w0:World)(h:Sys w0 m V b p G)(hm:m=6∨m=24)(hst:V.D.steps+3200000<1099511627776)(hx:Blk w0 x (IxC p b) 178)(hxG:¬ G x)(hk:key.size≤16)(hO:Own m V o X)(hu:u≠0#64) :
  Ret Tryz.prog 91 #[.pointer (some ⟨x,0,none⟩),.string key,.int .u64 (uv u)] w0 fun v w'=>PutP m V b p G o X (nibs key) u w0 v w':=by
 have bel0:=Below.refl w0.heap.size w0;have zf:=sz hm;have hr:=hO.rest;have hT:=hO.tree;have hnl:=nibs_len key;have hn16:=nibs_lt key;have hu':(u==0#64)=false:=by simpa using hu
 have h0:=h;have hx0:=hx;have htl:=h.tabs.lt;refine ret_of (args:=[_,_,_]) _ Tryz.func91 rfl Tryz.ntmps91 (by simp) ?_;simp -implicitDefEqProofs [go_sem];refine callE_of (idxAsk_calls x key w0 hx hk) ?_;rintro v w1 ⟨rfl,rfl⟩;simp -implicitDefEqProofs [go_sem,hu'];cases o with
 | none =>
  refine callE_of (idxPathNo_calls x key w1 h.pd hr hm hx hk hT.root) ?_;rintro v w2 ⟨a7,c7,rfl,h7,hs7,b2⟩;have bel2:=btr bel0 b2;replace h:=h.next b2
  replace hx:=hx.next b2
  simp -implicitDefEqProofs [go_sem];refine callE_of (idxStandsNo_calls _ w2) ?_;rintro v w3 ⟨b3,rfl⟩;have bel3:=btr bel2 b3;replace h:=h.next b3
  replace hx:=hx.next b3
  replace h7:=h7.next b3
  replace hs7:=hs7.next b3
  have st:=stNew (P:=Tryz.prog) (t:=236) (cs:=#[.slice none 0 0,.int .u64 0,.slice none 0 0,.slice none 0 0,.int .i64 0,.int .u8 0,.int .i64 0]) (C0:=#[.slice none 0 0,.int .u64 0,.slice none 0 0,.slice none 0 0,.int .i64 0,.int .u8 0,.int .i64 0]) plI rfl (by simp [Value.oneCell']);simp -implicitDefEqProofs [go_sem,↓st];have hs7a:=hs7;generalize hw4:World.alloc w3 _=w4 at *;obtain ⟨hB4,b4,sz4,bel4⟩:=newF hw4 bel3;replace h:=h.next b4
  replace hx:=hx.next b4
  replace h7:=h7.next b4
  replace hs7:=hs7.next b4
  generalize hw5:World.alloc w4 _=w5 at *;obtain ⟨hB5,b5,sz5,bel5⟩:=newF hw5 bel4;replace h:=h.next b5
  replace hx:=hx.next b5
  replace h7:=h7.next b5
  replace hs7:=hs7.next b5
  have hj0:w1.heap.size≤w4.heap.size:=bel4.size;have hGlt:=h0.lt;have hxlt:=hx0.lt;have hjG:¬ G w4.heap.size:=fun hg=>by have:=hGlt _ hg;omega
  have hJS:=js_start h hx hxG hB5 hjG (by omega) (by omega);have hFlt:∀ k,JobF G w4.heap.size none k→k<w1.heap.size∨k=w4.heap.size:=fun k hk=>by
   rcases hk with hk|hk|⟨y,hy,_⟩
   ·exact .inl (hGlt k hk)
   ·exact .inr hk
   ·cases hy
  rw [← sz4];have hsF:SepA w5 (JobF G w4.heap.size none) a7:=fun y hy=>by
   have h1:=hs7 y hy;refine ⟨h1.1,fun hf=>?_⟩
   rcases hFlt _ hf with h2|h2
   ·exact h1.2 h2
   ·have h3:=(hs7a y hy).1;omega
  have hl:=jobLeaf_calls (b:=b) (p:=p) (j:=w4.heap.size) (x:=x) (base:=w5.heap.size) hm u hu (nibs key).length (nibs key) a7 c7 V [] (JobF G w4.heap.size none) w5 (Nat.le_refl _) hJS hr (by omega) h7 hsF hn16 (by omega) (by simp only [List.length_nil];omega);refine callE_of hl ?_;rintro v w6 ⟨F6,L,V6,t6,hG6,hJ6,hL6,hres⟩;have hT6:=hG6.steps;have hrG:=hG6.rest
  rcases hres with ⟨T,rfl,hTl⟩|⟨rfl,hL6',hM6⟩
  ·simp -implicitDefEqProofs [go_sem];obtain ⟨c1,c2⟩:=own_leaf hm hO hG6 hTl ⟨by omega,by omega⟩ hu;refine callE_of (jobFinish_calls 72 (nameW T.off) none [] 0 w6 hJ6 hrG hm (by omega) (by omega) (by omega) (.inl (by omega)) ⟨.inl rfl,Nat.le_refl _,Nat.zero_le _,fun _=>rfl⟩ (fun y hy=>by cases hy) List.nodup_nil (fun y hy=>by cases hy) (by simp)) ?_;rintro v w7 ⟨rfl,V3,F7,hg7,hJ7,t7⟩;simp -implicitDefEqProofs [go_sem];refine body_tmp 6 rfl ?_;simp -implicitDefEqProofs [go_sem]
   obtain ⟨G7,hS7,tG7⟩:=js_end hJ7 h0 bel5 (t6.trans t7) hj0;obtain ⟨d1,d2⟩:=c2 V3 hg7;have hs7:=hg7.steps;have hs8:=(poke hrG hm (z:=72) (by omega) (by omega) (.inl (by omega)) (nameW T.off)).2.steps;simp only [List.length_nil] at hs7;exact ⟨V3,G7,hS7,tG7,d2,by omega,.inl ⟨rfl,T,d1,c1⟩⟩
  ·simp -implicitDefEqProofs [go_sem];refine callE_of (jobFail_calls (.int .i64 72) (.int .u64 0) (.slice none 0 0) w6 hJ6 hrG hm (by omega) (by simpa using hG6.nd) (fun y hy=>(hG6.new y (by simpa using hy)).2) (by simp;omega)) ?_;rintro v w7 ⟨rfl,V3,F7,hg7,hJ7,t7⟩;simp -implicitDefEqProofs [go_sem];refine body_tmp 6 rfl ?_;simp -implicitDefEqProofs [go_sem];obtain ⟨G7,hS7,tG7⟩:=js_end hJ7 h0 bel5 (t6.trans t7) hj0;rw [List.nil_append] at hg7;obtain ⟨d1,d2⟩:=undone hm hO hG6 hg7
   have hs7:=hg7.steps;exact ⟨V3,G7,hS7,tG7,d2,by omega,.inr ⟨rfl,d1,rfl,V6,L,hG6,by omega,hM6⟩⟩
 | some T =>
  refine callE_of (idxPath_calls x key T w1 h.pd hr hm hx hk hT.root (hT.at_ T rfl) (hT.ok T rfl)) ?_;rintro v w2 ⟨c,t,r,Q,a,cap,a7,c7,rfl,hkey,hE,rfl,hW,h7,b2,hWN⟩;have bel2:=btr bel0 b2;replace h:=h.next b2
  replace hx:=hx.next b2
  have hv:=val_way (hT.ok _ rfl) hkey hE;have hcl:c.length≤32:=by
   have h3:=congrArg List.length hkey;have h4:=pth_len c;rw [List.length_append] at h3;omega
  simp -implicitDefEqProofs [go_sem];refine callE_of (idxStands_calls Q a a7 cap c7 c t r w2 hW h7 (by omega)) ?_;rintro v w3 ⟨b3,hs⟩;have bel3:=btr bel2 b3;replace h:=h.next b3
  replace hx:=hx.next b3
  replace h7:=h7.next b3
  have hvn:t.nv.val=t.val:=by cases t;rfl
  by_cases hp:t.pre=r
  ·rw [if_pos hp] at hs hv;subst hs;obtain ⟨C,hC⟩:∃ C,C=plC (Q c.length) t.nv t.off (lbW c c.length) (wdW c t c.length):=⟨_,rfl⟩;have hC1:∀ v∈C.toList,v.oneCell'=true:=by rw [hC];exact plC_one _ _ _ _ _
   have hCs:C.size=7:=by rw [hC];rfl
   rw [← hC];have st:=stNew (P:=Tryz.prog) (t:=236) (cs:=C) (C0:=#[.slice none 0 0,.int .u64 0,.slice none 0 0,.slice none 0 0,.int .i64 0,.int .u8 0,.int .i64 0]) (by rw [hCs];exact plI) (by rw [hCs];rfl) hC1;have ld:=ldAll (P:=Tryz.prog) (Blk.new w3 C 236) Tryz.underlying236 rfl plI (n:=7) hCs;simp -implicitDefEqProofs [go_sem,↓st,↓ld];generalize hw4:World.alloc w3 _=w4 at *;obtain ⟨hB4,b4,sz4,bel4⟩:=newF hw4 bel3;replace h:=h.next b4
   replace hx:=hx.next b4
   replace h7:=h7.next b4
   obtain ⟨o,p',v',k'⟩:=t;have hp:p'=r:=hp;subst hp;have hN:=(at_nd.1 (plug_at (hT.at_ _ rfl))).1;obtain ⟨n1,n2,n3,_⟩:=hN.in_ hm;obtain ⟨e1,hP,e2,e3,e4⟩:=own_value hm hO (u:=u) (fun _=>by rw [← hkey];omega);rw [hC];refine callE_of (idxValue_calls x (Q c.length) (Tr.nd o p' v' k').nv o (wdW c (Tr.nd o p' v' k') c.length) (lbW c c.length) u w4 h (by omega) hx hxG (by omega)) ?_;rintro v w5 ⟨rfl,G5,hS5,t5⟩;rw [e1];simp -implicitDefEqProofs [go_sem];refine body_tmp 6 rfl ?_
   simp -implicitDefEqProofs [go_sem];rw [← hkey] at e4;have hs:=hP.steps;refine ⟨pokeV V (o+16) u,G5,hS5,(Turn.of bel4).trans t5,e3,by omega,.inl ⟨rfl,_,e2,?_⟩⟩;have hv2:valI (itemsO (some (plug c (Tr.nd o p' v' k')))) (nibs key)=v':=hv;rw [hv2];exact e4
  ·rw [if_neg hp] at hs hv;subst hs;have st:=stNew (P:=Tryz.prog) (t:=236) (cs:=#[.slice none 0 0,.int .u64 0,.slice none 0 0,.slice none 0 0,.int .i64 0,.int .u8 0,.int .i64 0]) (C0:=#[.slice none 0 0,.int .u64 0,.slice none 0 0,.slice none 0 0,.int .i64 0,.int .u8 0,.int .i64 0]) plI rfl (by simp [Value.oneCell']);have x1:((c.length:Int)+1==0)=false:=by rw [beq_eq_false_iff_ne];omega
   have hWs:=fun w hw=>(hW.row.next (w':=w) hw).ld (i:=c.length) (by rw [wayL_len];omega) Tryz.underlying236 rfl plI
   simp -implicitDefEqProofs [go_sem,↓st,x1];generalize hw4:World.alloc w3 _=w4 at *;obtain ⟨hB4,b4,sz4,bel4⟩:=newF hw4 bel3;replace h:=h.next b4
   replace hx:=hx.next b4
   replace h7:=h7.next b4
   generalize hw5:World.alloc w4 _=w5 at *;obtain ⟨hB5,b5,sz5,bel5⟩:=newF hw5 bel4;replace h:=h.next b5
   replace hx:=hx.next b5
   replace h7:=h7.next b5
   have b25:=b3.trans ((b4.mono b3.size).trans (b5.mono (by have:=b3.size;have:=b4.size;omega)));obtain ⟨g,o',rfl,hld⟩:=hWs w5 b25;rw [wayL_get Q c t (Nat.lt_succ_self _),subT_len] at hld;have hWN5:=hWN.next b25
   obtain ⟨q,hq⟩:∃ q,q=Q c.length:=⟨_,rfl⟩;have hnd5:=hWN5.nd c.length (Nat.lt_succ_self _);rw [subT_len,← hq] at hnd5;rw [← hq] at hld;obtain ⟨C,hC⟩:∃ C,C=plC q t.nv t.off (lbW c c.length) (wdW c t c.length):=⟨_,rfl⟩;have hC1:∀ v∈C.toList,v.oneCell'=true:=by rw [hC];exact plC_one _ _ _ _ _
   have hCs:C.size=7:=by rw [hC];rfl
   have hC4:C[4]?=some (.int .i64 (t.off:Int)):=by rw [hC];rfl
   have hC6:C[6]?=some (.int .i64 (wdW c t c.length:Int)):=by rw [hC];rfl
   rw [← hC] at hld;have e1:=IntWalk.i64_in (c.length:Int) (by omega);have e3:(c.length:Int)<(c.length:Int)+1:=by omega
   have st5:=stNew (P:=Tryz.prog) (t:=236) (cs:=C) (C0:=#[.slice none 0 0,.int .u64 0,.slice none 0 0,.slice none 0 0,.int .i64 0,.int .u8 0,.int .i64 0]) (by rw [hCs];exact plI) (by rw [hCs];rfl) hC1;have ld5:=ldAll (P:=Tryz.prog) (Blk.new w5 C 236) Tryz.underlying236 rfl plI (n:=7) hCs;simp -implicitDefEqProofs [go_sem,e1,e3,↓hld,↓st5,↓ld5];generalize hw6:World.alloc w5 _=w6 at *;obtain ⟨hB6,b6,sz6,bel6⟩:=newF hw6 bel5;replace h:=h.next b6
   replace hx:=hx.next b6
   replace h7:=h7.next b6
   replace hB5:=hB5.next b6
   rw [← sz4];have hj0:w1.heap.size≤w4.heap.size:=bel4.size;have hGlt:=h0.lt;have hxlt:=hx0.lt;have hjG:¬ G w4.heap.size:=fun hg=>by have:=hGlt _ hg;omega
   have hJS:=js_start h hx hxG hB5 hjG (by omega) (by omega);have hFlt:∀ k,JobF G w4.heap.size none k→k<w1.heap.size∨k=w4.heap.size:=fun k hk=>by
    rcases hk with hk|hk|⟨y,hy,_⟩
    ·exact .inl (hGlt k hk)
    ·exact .inr hk
    ·cases hy
   have s24:w2.heap.size≤w4.heap.size:=by have:=b3.size;have:=b4.size;omega
   have hsep:∀ {y:Option Addr},SepA w2 (fun z=>z<w1.heap.size) y→SepA w6 (JobF G w4.heap.size none) y:=fun hy z hz=>by
    have h1:=hy z hz;have:=b6.size;refine ⟨by omega,fun hf=>?_⟩
    rcases hFlt _ hf with h2|h2
    ·exact h1.2 h2
    ·omega
   have hWn:=hWN.nd c.length (Nat.lt_succ_self _);rw [subT_len,← hq] at hWn;have hq6:NdS w6 (JobF G w4.heap.size none) q t.nv:=⟨(hnd5.next b6).in_,hsep hWn.s1,hsep hWn.s2,hsep hWn.s3⟩;have hs76:=hsep hWN.s7;obtain ⟨o,pr,vl,ks⟩:=t;have hp:¬ pr=r:=hp;have hAt:=plug_at (hT.at_ _ rfl);have hOt:=plug_ok (hT.ok _ rfl);rw [List.nil_append] at hOt;have hBF:¬ JobF G w4.heap.size none w5.heap.size:=fun hf=>by
    rcases hFlt _ hf with h2|h2
    ·have:=bel5.size;omega
    ·omega
   have hB6':Blk w6 w5.heap.size C 236:=hB6;have hgr:=jobGrow_calls (b:=b) (p:=p) (j:=w4.heap.size) (x:=x) (base:=w6.heap.size) (made:=[]) hm q o (wdW c (Tr.nd o pr vl ks) c.length) (lbW c c.length) pr vl ks (pth c) r a7 c7 u w6 hJS hr (by omega) hq6 h7 hs76 hAt hOt (by simp) (by rw [← hkey];exact ⟨by omega,by omega⟩) (fun y hy=>hn16 y (by rw [hkey];exact List.mem_append_right _ hy)) hu hE hp
   rw [show plC q (Tr.nd o pr vl ks).nv o (lbW c c.length) (wdW c (Tr.nd o pr vl ks) c.length)=C from hC.symm] at hgr;refine callE_of hgr ?_;rintro v w7 ⟨F7,L,V7,t7,hG7,hJ7,hL7,hres⟩;obtain ⟨hB7,hBF7⟩:=hB6'.keepT hBF t7;have hT7:=hG7.steps;have hrG:=hG7.rest
   rcases hres with ⟨T',rfl,hgt⟩|⟨rfl,hL7',hM7⟩
   ·simp -implicitDefEqProofs [go_sem,hB7.cell,hC4,hC6];generalize hw8:World.alloc w7 _=w8 at *;obtain ⟨hB8,b8,sz8⟩:=new_facts hw8;have hJ8:=hJ7.next b8
    rw [show (Tr.nd o pr vl ks).off=o from rfl] at hB8;have hVs:VsIn w8 (some ⟨w7.heap.size,0,none⟩) (offC [o]) 1:=⟨vsAt_blk hB8 (fun i hi=>by
     have hi0:i=0:=by simpa [offC] using hi
     subst hi0;rfl),by simp [offC],by decide,fun h=>by cases h⟩
    have hVsep:SepA w8 F7 (some ⟨w7.heap.size,0,none⟩):=fun y hy=>by
     obtain rfl:=Option.some.inj hy;exact ⟨by show w7.heap.size<_;omega,fun hf=>by have:=hJ7.lt _ hf;exact Nat.lt_irrefl _ this⟩
    obtain ⟨z1,z2,z3⟩:=wd_ok hm (hG7.tree (hT.at_ _ rfl));obtain ⟨p1,hP,hDn,hDp,hch,hfin⟩:=own_swap hm hO hG7 hgt.swap;refine callE_of (jobFinish_calls (wdW c (Tr.nd o pr vl ks) c.length) (nameW T'.off) (some ⟨w7.heap.size,0,none⟩) [o] 1 w8 hJ8 hrG hm (by omega) z1 z2 z3 hVs hVsep hDn hDp (by simp)) ?_;rintro v w9 ⟨rfl,V9,F9,hg9,hJ9,t9⟩;simp -implicitDefEqProofs [go_sem];refine body_tmp 6 rfl ?_;simp -implicitDefEqProofs [go_sem]
    obtain ⟨G9,hS9,tG9⟩:=js_end hJ9 h0 bel6 (t7.trans ((Turn.of b8).trans t9)) hj0;obtain ⟨d1,d2⟩:=hfin V9 hg9;have hs7:=hg9.steps;have hs8:=hP.steps;simp only [List.length_singleton] at hs7;refine ⟨V9,G9,hS9,tG9,d2,by omega,.inl ⟨rfl,_,d1,?_⟩⟩;rw [hkey];rw [hkey] at hv;have hv2:valI (itemsO (some (plug c (Tr.nd o pr vl ks)))) (pth c++r)=0#64:=hv;rw [hv2];exact hch
   ·simp -implicitDefEqProofs [go_sem,hB7.cell,hC4,hC6];generalize hw8:World.alloc w7 _=w8 at *;obtain ⟨hB8,b8,sz8⟩:=new_facts hw8;have hJ8:=hJ7.next b8
    refine callE_of (jobFail_calls _ _ _ w8 hJ8 hrG hm (by omega) (by simpa using hG7.nd) (fun y hy=>(hG7.new y (by simpa using hy)).2) (by simp;omega)) ?_;rintro v w9 ⟨rfl,V9,F9,hg9,hJ9,t9⟩;simp -implicitDefEqProofs [go_sem];refine body_tmp 6 rfl ?_;simp -implicitDefEqProofs [go_sem];obtain ⟨G9,hS9,tG9⟩:=js_end hJ9 h0 bel6 (t7.trans ((Turn.of b8).trans t9)) hj0;rw [List.nil_append] at hg9;obtain ⟨d1,d2⟩:=undone hm hO hG7 hg9;have hs7:=hg9.steps
    exact ⟨V9,G9,hS9,tG9,d2,by omega,.inr ⟨rfl,d1,hv,V7,L,hG7,by omega,hM7⟩⟩
end
end
section
open Go Go.RowKit
open TR
theorem words8 {r:LinkV}(hr:r.right=true):r.words.length=8:=by
 unfold LinkV.words encM LinkV.right at *;rw [if_pos hr];rfl
theorem link_words {k:LinkV}(hr:k.right=true):okM k.words=true∧linkW k.off k.words=k:=by
 unfold LinkV.right at hr;obtain ⟨h1,h2⟩:=enc_back (nx:=k.nxt) hr;refine ⟨h1,?_⟩;unfold decM at h2;rw [if_pos h1] at h2;unfold LinkV.words linkW;simp only [recV,Value.agg.injEq,Array.mk.injEq,List.cons.injEq,Value.int.injEq,Value.bool.injEq,Value.string.injEq,true_and,and_true] at h2;obtain ⟨a1,a2,a3,a4⟩:=h2;cases k;simp only [LinkV.mk.injEq,true_and];exact ⟨uv_inj a1,uv_inj a2,a3,a4⟩
theorem wordsAt_eq {D:NM.Dv}{o:Nat}{ws:List (BitVec 64)}(hw:ws.length=8)(h:∀ w,w<8→D.word (o+8*w)=ws.getD w 0#64):wordsAt D o 8=ws:=by
 refine List.ext_getElem (by rw [wordsAt_len,hw]) fun i h1 h2=>?_
 have hi:i<8:=by rw [wordsAt_len] at h1;exact h1
 have:(wordsAt D o 8)[i]=D.word (o+8*i):=by simp [wordsAt]
 refine this.trans ?_;rw [h i hi,List.getD,List.getElem?_eq_getElem h2];rfl
structure LkAt (m:Nat) (V:PV) (o:Nat) (k:LinkV):Prop where
 off:k.off=(o:Int)
 right:k.right=true
 blk:Bk m V (o:Int)=64
 words:∀ w,w<8→V.D.word (o+8*w)=k.words.getD w 0#64
def ChAt (m:Nat)(V:PV):BitVec 64→List LinkV→List Nat→Prop
 | x,[],L=>x=0#64∧L=[]
 | x,k::l,L=>∃ o L',L=o::L'∧x=nameW o∧LkAt m V o k∧ChAt m V k.nxt l L'
section
variable {m:Nat} {V V1 V2:PV}
theorem LkAt.keep {o:Nat}{k:LinkV}(h:LkAt m V o k)(hb:Bk m V1 (o:Int)=Bk m V (o:Int))(hw:∀ w,w<8→V1.D.word (o+8*w)=V.D.word (o+8*w)):LkAt m V1 o k:=⟨h.off,h.right,hb.trans h.blk,fun w h1=>(hw w h1).trans (h.words w h1)⟩
theorem LkAt.in_ (hm:m=6∨m=24){o:Nat}{k:LinkV}(h:LkAt m V o k):o%64=0∧dT m≤o∧o+64≤64*nL m∧o<1000000∧nameW o≠0#64∧(nameW o).toInt=(o:Int)∧wordsAt V.D o 8=k.words:=by
 have zf:=sz hm;have hp:0<Bk m V (o:Int):=by rw [h.blk];decide
 obtain ⟨n,e,h1,h2,h3,_⟩:=bk_in hm hp;obtain rfl:o=n:=by omega
 have ho:o<1000000:=by rw [h.blk] at h3;omega
 refine ⟨h1,h2,by rw [h.blk] at h3;omega,ho,name_ne ho (by omega),?_,wordsAt_eq (words8 h.right) h.words⟩;rw [← wrap_uv,(name_int ho).1]
theorem LkAt.side {X:List Nat}{o:Nat}{k:LinkV}(h:LkAt m V o k)(hs:Side m V V1 X)(ho:o∈X):LkAt m V1 o k:=h.keep (hs.blk o ho) fun w hw=>hs.words o ho w (by rw [h.blk];omega)
theorem ChAt.side {X:List Nat}(hs:Side m V V1 X):∀ {l:List LinkV} {x:BitVec 64} {L:List Nat},ChAt m V x l L→(∀ o∈L,o∈X)→ChAt m V1 x l L
 | [],_,_,h,_=>h
 | k::l,x,L,h,hL=>by
  obtain ⟨o,L',rfl,hx,hk,h2⟩:=h;exact ⟨o,L',rfl,hx,hk.side hs (hL o List.mem_cons_self),ChAt.side hs h2 fun y hy=>hL y (List.mem_cons_of_mem _ hy)⟩
theorem ChAt.len:∀ {l:List LinkV} {x:BitVec 64} {L:List Nat},ChAt m V x l L→L.length=l.length
 | [],_,_,h=>by rw [h.2];rfl
 | k::l,x,L,h=>by
  obtain ⟨o,L',rfl,_,_,h2⟩:=h;rw [List.length_cons,List.length_cons,h2.len]
theorem ChAt.offs:∀ {l:List LinkV} {x:BitVec 64} {L:List Nat},ChAt m V x l L→l.map LinkV.off=L.map fun o:Nat=>(o:Int)
 | [],_,_,h=>by rw [h.2];rfl
 | k::l,x,L,h=>by
  obtain ⟨o,L',rfl,_,hk,h2⟩:=h;rw [List.map_cons,List.map_cons,h2.offs,hk.off]
theorem get8 (h:Rest m V)(hm:m=6∨m=24){o:Nat}(h8:o%8=0)(ho:o+64≤64*nL m):V.D.get (o:Int) 8=(wordsAt V.D o 8,0):=by
 have zf:=sz hm;exact get_in (o:=o) (n:=8) (by rw [h.well.lines];omega) h.well.up.down h8 (by unfold NM.Dv.size;rw [h.well.lines];omega)
theorem lk_fetch (h:Rest m V)(hm:m=6∨m=24){o:Nat}{k:LinkV}(hk:LkAt m V o k):fetch (shN m) V.T V.H V.D (nameW o)=some k:=by
 obtain ⟨n1,n2,n3,n4,n5,n6,n7⟩:=hk.in_ hm;obtain ⟨h1,h2⟩:=link_words hk.right;unfold fetch;rw [n6,get8 h hm (by omega) n3];dsimp only;rw [n7,if_pos ⟨(class_1 h).2 hk.blk,h1⟩,← hk.off,h2]
theorem ChAt.seg (h:Rest m V)(hm:m=6∨m=24):∀ {l:List LinkV} {x:BitVec 64} {L:List Nat},ChAt m V x l L→Seg (fetch (shN m) V.T V.H V.D) x l 0#64
 | [],_,_,h=>h.1
 | k::l,x,L,hc=>by
  obtain ⟨o,L',_,rfl,hk,h2⟩:=hc;exact ⟨(hk.in_ hm).2.2.2.2.1,lk_fetch h hm hk,ChAt.seg h hm h2⟩
theorem get_cls (h:Rest m V)(hm:m=6∨m=24)(off:Int)(hc:classV (shN m) V.T V.H off=1):(V.D.get off 8).2=0:=by
 have hb:=(class_1 h).1 hc;obtain ⟨o,rfl,h1,h2,h3,_⟩:=bk_in (V:=V) (y:=off) hm (by rw [hb];decide);rw [hb] at h3;rw [get8 h hm (by omega) (by omega)]
theorem builtW (h:Rest m V)(hm:m=6∨m=24){r:LinkV}(hr:r.right=true){off:Nat}(hh:Hold m V V1 off 1)(h0:Bk m V (off:Int)=0)(h1:Bk m V1 (off:Int)=64*linesI (1:Nat))(h2:∀ y,y≠(off:Int)→Bk m V1 y=Bk m V y) :
  (V1.D.putAll (off:Int) r.words).2=0∧(V1.D.putAll (off:Int) r.words).1.steps≤V.D.steps+40∧∃ V2,takeV (shN m) { V1 with D:=(V1.D.putAll (off:Int) r.words).1 } off=(V2,0)∧Grew m V V2 [off]∧LkAt m V2 off { r with off:=(off:Int) }:=by
 have zf:=sz hm;have h1:Bk m V1 (off:Int)=64:=h1;have hp1:0<Bk m V1 (off:Int):=by rw [h1];omega
 obtain ⟨o',ho',o1,o2,o3,o4⟩:=bk_in hm hp1;obtain rfl:off=o':=by omega
 rw [h1] at o3;rw [hh.d];have hw:=words8 hr;obtain ⟨u1,u2,u3,u4,u5,u6⟩:=putAll_up h.well.up h.well.ok h.well.lines hm (o:=off) (l:=r.words) o1 (by rw [hw];omega) (by rw [hw];omega);rw [hw] at u5;refine ⟨u1,u6,?_⟩;have hold:=hold_take h hm hh u2 u3 u4 (fun x hx hx2=>by rw [u5 x hx (by omega),if_neg (by omega)]);obtain ⟨V2,e2,r2,k2,w2,s2⟩:=hold;have hb2:∀ y:Nat,y∉[off]→Bk m V2 (y:Int)=Bk m V (y:Int):=fun y hy=>by rw [k2,h2 _ (nat_not_mem hy)]
 refine ⟨V2,e2,⟨r2,hb2,fun y hy=>?_,by simp,fun x hx hx2=>?_,fun y i hi=>?_,?_⟩,⟨rfl,hr,by rw [k2,h1],fun i hi=>?_⟩⟩
 ·rw [List.mem_singleton] at hy;subst hy;exact ⟨h0,by rw [k2];exact hp1⟩
 ·rw [w2 x hx (by omega) (by omega),u5 x hx (by omega),if_neg (by omega)]
 ·have hp:0<Bk m V (y:Int):=by omega
  obtain ⟨y',hy',y1,y2,y3,y4⟩:=bk_in hm hp;obtain rfl:y=y':=by omega
  have hne:(y:Int)≠(off:Int):=fun e=>by rw [e] at hp;omega
  have hp':0<Bk m V1 (y:Int):=by rw [h2 _ hne];exact hp
  have ha:=bk_apart hm hp' hp1 hne;rw [h1,h2 _ hne] at ha;rw [w2 _ (by omega) (by omega) (by omega),u5 _ (by omega) (by omega),if_neg (by omega)]
 ·show V2.D.steps≤V.D.steps+50*1;omega
 ·rw [w2 _ (by omega) (by omega) (by omega),u5 _ (by omega) (by omega),if_pos (by omega),show (off+8*i-off)/8=i by omega];rfl
theorem add_rest (h:Rest m V)(hm:m=6∨m=24){r:LinkV}(hr:r.right=true) :
  (addV (shN m) V r=(V,0#64,6)∧Many m V m)∨∃ (off:Nat) (V2:PV),addV (shN m) V r=(V2,nameW off,0)∧Grew m V V2 [off]∧LkAt m V2 off { r with off:=(off:Int) }:=by
 have zf:=sz hm
 rcases rest_reserve h hm (c:=1) (.inl rfl) with e|⟨off,V1,e,hh,z0,z1,z2⟩
 ·refine .inl ⟨?_,fun L hL=>full_many h hm (.inl rfl) e hL⟩;unfold addV;rw [hr,e,if_neg (by decide)];dsimp only;rw [if_pos (by decide)]
 ·obtain ⟨u1,u2,V2,u3,hG,hL⟩:=builtW h hm hr hh z0 z1 z2;refine .inr ⟨off,V2,?_,hG,hL⟩;unfold addV;rw [hr,e,if_neg (by decide)];dsimp only;rw [if_neg (by decide),u1,if_neg (by decide),u3];dsimp only;rw [if_neg (by decide)]
  congr 2
end
section
variable {w w':World} {m b p:Nat} {V V':PV} {G G' F:Nat→Prop}
set_option maxHeartbeats 4000000
theorem sysList_calls (first:BitVec 64)(l:List LinkV)(L:List Nat)(w0:World)(h:Pd w0 m V b p G)(hr:Rest m V)(hm:m=6∨m=24)(hc:ChAt m V first l L)(hf:FallL l)(hl:l.length≤100000) :
  Ret Tryz.prog 86 #[.pointer (some ⟨p,0,none⟩),.pointer (some ⟨b,0,none⟩),.int .u64 (uv first)] w0 fun v w'=>∃ a c,v=.tuple #[.slice a l.length c,.int .i64 0]∧LksIn w' a l c∧(∀ y,a=some y→w0.heap.size≤y.block∧y.block<w'.heap.size)∧Below w0.heap.size w0 w':=by
 have zf:=sz hm;obtain ⟨tb,tc,hb,hc',F,hP,hG⟩:=h;have hs:=hc.seg hr hm;refine (chList_calls first w0 hP (by rw [hr.well.len];omega) (shN_data hm) (get_cls hr hm) l.length (fun acc y ha _=>?_) hl).mono ?_
 ·obtain ⟨r,e,_⟩:=Seg.ext ha hs;rw [e,List.length_append];omega
 ·rintro v w' ⟨⟨l',a,c,h1,h2,rfl,h3,h4⟩|⟨h1,_⟩,b1⟩
  ·obtain rfl:=h1.uniq hs;exact ⟨a,c,rfl,h3,h4,b1⟩
  ·exact absurd hf (h1 l hs)
theorem sysAdd_calls (r:LinkV)(w0:World)(h:Sys w0 m V b p G)(hr:Rest m V)(hm:m=6∨m=24)(hst:V.D.steps+3000000<1099511627776)(hright:r.right=true) :
  Ret Tryz.prog 252 #[.pointer (some ⟨p,0,none⟩),.pointer (some ⟨b,0,none⟩),.agg r.rc] w0 fun v w'=>∃ G' V',Sys w' m V' b p G'∧Turn w0 G w' G' ∧
   ((v=.tuple #[.int .u64 0,.int .i64 6]∧V'=V∧Many m V m)∨∃ off:Nat,v=.tuple #[.int .u64 (uv (nameW off)),.int .i64 0]∧Grew m V V' [off]∧LkAt m V' off { r with off:=(off:Int) }):=by
 have zf:=sz hm;obtain ⟨tb,tc,hb,hc',F,hP,hG⟩:=h.pd;have hro:I64 (reserveV (shN m) V 1).2.1:=by
  rcases rest_reserve hr hm (c:=1) (.inl rfl) with e|⟨off,V1,e,hh,z0,z1,z2⟩
  ·rw [e];show I64 0;unfold I64;omega
  ·rw [e];have hp:0<Bk m V1 (off:Int):=by rw [z1];decide
   obtain ⟨o',ho',o1,o2,o3,o4⟩:=bk_in hm hp;show I64 (off:Int);unfold I64;omega
 refine (Dq.add_calls V r w0 hP h.tabs rfl (by rw [hr.well.len];omega) (by omega) (shN_data hm) hro).mono ?_;rintro v w' ⟨rfl,F',hP',ht⟩;rw [← hG] at ht;refine ⟨_,(addV (shN m) V r).1,h.to ⟨tb,tc,hb,hc',F',hP',rfl⟩ ht,ht,?_⟩
 rcases add_rest hr hm hright with ⟨e,hM⟩|⟨off,V2,e,hg,hL⟩
 ·rw [e];exact .inl ⟨rfl,rfl,hM⟩
 ·rw [e];exact .inr ⟨off,rfl,hg,hL⟩
end
end
end Go.Proofs.YtaaihijkdhmcdaaGreatDoor
