/- WholeImage, part 13 of 38: contracts and lemmas of its proof. Conditions: none. -/
import Derived.Test.YtaaihijkdhmcdaaGreatDoorW11
import Derived.Test.YtaaihijkdhmcdaaGreatDoorW07
set_option linter.unusedVariables false
set_option linter.unusedSimpArgs false
set_option maxRecDepth 100000
namespace Go.Proofs.YtaaihijkdhmcdaaGreatDoor
section
open Go Go.RowKit
structure PD (w:World) (b p:Nat) (s:HM.Shape) (T H:List (BitVec 64)) (tb tc hb hc:Nat) (F:Nat→Prop) (D:NM.Dv):Prop where
 pool:PoolAt w b p s T H tb tc hb hc
 dev:DevB w p F D
 apart:∀ k,(k=b∨k=tb∨k=hb)→¬ F k
def PdK (b tb hb:Nat)(F:Nat→Prop)(k:Nat):Prop:=F k∨(k=b∨k=tb∨k=hb)
section
variable {w w':World} {b p:Nat} {s:HM.Shape} {T H:List (BitVec 64)} {tb tc hb hc:Nat} {F F' G:Nat→Prop} {D D':NM.Dv}
theorem DevB.mod (h:DevB w p F D)(hm:Mod G w w')(hG:∀ k,F k→¬ G k):DevB w' p F D:=by
 obtain ⟨lb,S,hA,rfl,hok⟩:=h;exact ⟨lb,S,hA.mod hm hG,rfl,hok⟩
theorem PD.mod (h:PD w b p s T H tb tc hb hc F D)(hm:Mod G w w')(hG:∀ k,PdK b tb hb F k→¬ G k):PD w' b p s T H tb tc hb hc F D :=
 ⟨h.pool.mod hm (fun k hk=>hG k (.inr hk)),h.dev.mod hm (fun k hk=>hG k (.inl hk)),h.apart⟩
theorem PD.next (h:PD w b p s T H tb tc hb hc F D)(hw:Below w.heap.size w w'):PD w' b p s T H tb tc hb hc F D:=h.mod (Mod.of (F:=fun _=>False) hw) (fun _ _ h=>h)
theorem PD.lt (h:PD w b p s T H tb tc hb hc F D):∀ k,PdK b tb hb F k→k<w.heap.size:=by
 rintro k (hk|rfl|rfl|rfl)
 ·exact h.dev.lt k hk
 ·exact h.pool.blk.lt
 ·exact h.pool.tk.lt
 ·exact h.pool.hd.lt
theorem PD.turn (h:PD w b p s T H tb tc hb hc F D)(hd:DevB w' p F' D')(ht:Turn w F w' F'):PD w' b p s T H tb tc hb hc F' D' :=
 ⟨h.pool.mod ht.mod h.apart,hd,fun k hk hk2=>by
  rcases ht.new k hk2 with h2|h2
  ·exact h.apart k hk h2
  ·have:=h.lt k (.inr hk);omega⟩
theorem PD.setT {i:Nat}(h:PD w b p s T H tb tc hb hc F D)(x:BitVec 64):PD (w.setCell ⟨tb,i,none⟩ (.int .u64 (uv x))) b p s (T.set i x) H tb tc hb hc F D :=
 ⟨h.pool.setT x,h.dev.mod ((Mod.refl (fun k=>k=tb) w).setCell (.inl rfl) _) (fun k hk e=>h.apart k (.inr (.inl e)) hk),h.apart⟩
theorem PD.setH {i:Nat}(h:PD w b p s T H tb tc hb hc F D)(x:BitVec 64):PD (w.setCell ⟨hb,i,none⟩ (.int .u64 (uv x))) b p s T (H.set i x) tb tc hb hc F D :=
 ⟨h.pool.setH x,h.dev.mod ((Mod.refl (fun k=>k=hb) w).setCell (.inl rfl) _) (fun k hk e=>h.apart k (.inr (.inr e)) hk),h.apart⟩
theorem turn_pd (ht:Turn w F w' F'):Turn w (PdK b tb hb F) w' (PdK b tb hb F') :=
 ⟨ht.mod.mono (fun k hk _=>.inl hk),fun k hk=>by
  rcases hk with hk|hk
  ·rcases ht.new k hk with h2|h2
   ·exact .inl (.inl h2)
   ·exact .inr h2
  ·exact .inl (.inr hk)⟩
theorem turn_cell {w0:World}{a:Addr}(ht:Turn w0 (PdK b tb hb F) w (PdK b tb hb F'))(ha:a.block=b∨a.block=tb∨a.block=hb)(v:Value):Turn w0 (PdK b tb hb F) (w.setCell a v) (PdK b tb hb F') :=
 ⟨ht.mod.setCell (.inl (.inr ha)) v,ht.new⟩
structure PV where
 T:List (BitVec 64)
 H:List (BitVec 64)
 D:NM.Dv
def putV (V:PV)(i:Nat)(x:BitVec 64):PV × Int :=
 (⟨if (runS V.D (putS ((128+8*i:Nat):Int) x)).2=0 then V.T.set i x else V.T,V.H,(runS V.D (putS ((128+8*i:Nat):Int) x)).1⟩,(runS V.D (putS ((128+8*i:Nat):Int) x)).2)
def takeV (s:HM.Shape)(V:PV)(off:Int):PV × Int :=
 match findP s V.T.length (bF V.T V.H) off with
 | none=>(V,7)
 | some (i,q) =>
  if WM.hasM (V.H.getD i 0#64) q=true then
   if (putV V i (WM.takeW (V.T.getD i 0#64) (WM.classM (V.H.getD i 0#64)) q)).2=0 then
    ({ (putV V i (WM.takeW (V.T.getD i 0#64) (WM.classM (V.H.getD i 0#64)) q)).1 with H:=V.H.set i (WM.dropW (V.H.getD i 0#64) q) },0)
   else putV V i (WM.takeW (V.T.getD i 0#64) (WM.classM (V.H.getD i 0#64)) q)
  else (V,7)
def dropV (s:HM.Shape)(V:PV)(off:Int):PV × Int :=
 match findP s V.T.length (bF V.T V.H) off with
 | none=>(V,7)
 | some (i,q) =>
  if WM.hasM (V.H.getD i 0#64) q=true then ({ V with H:=V.H.set i (WM.dropW (V.H.getD i 0#64) q) },0)
  else if WM.hasM (V.T.getD i 0#64) q=true then putV V i (WM.dropW (V.T.getD i 0#64) q)
  else (V,7)
theorem findP_some {n:Nat}{B:Nat→BitVec 64}{off:Int}{i q:Nat}(h:findP s n B off=some (i,q)):i<n∧q<16∧off=placeI s i (WM.classM (B i)) q∧linesI (WM.classM (B i))≠0:=by
 unfold findP at h;split at h
 ·cases h
 ·rename_i h1;obtain ⟨d,hd⟩:=Int.eq_ofNat_of_zero_le (by omega:0≤off-s.data);rw [hd,Int.toNat_natCast] at h;obtain ⟨j,hj⟩:∃ j,j=d/1024:=⟨_,rfl⟩;rw [← hj] at h;have hl:=linesI_le (WM.classM (B j));obtain ⟨L,hL⟩:=Int.eq_ofNat_of_zero_le hl.1;rw [hL,Int.toNat_natCast] at h;split at h
  ·cases h
  ·rename_i h2;simp only [Option.some.injEq,Prod.mk.injEq] at h;obtain ⟨rfl,hq⟩:=h;have h3:¬ (L:Int)=0∧d%1024%(64*L)=0:=by
    constructor
    ·exact fun h=>h2 (.inl h)
    ·exact Decidable.byContradiction fun h=>h2 (.inr h)
   have hL0:0<64*L:=by omega
   have e1:=Nat.div_add_mod (d%1024) (64*L);have e2:=Nat.div_add_mod d 1024;rw [hq,h3.2] at e1;refine ⟨by omega,?_,?_,by rw [hL];omega⟩
   ·have h4:64*L*q<1024:=by have:=Nat.mod_lt d (by decide:0<1024);omega
    rcases Nat.lt_or_ge q 16 with h5|h5
    ·exact h5
    ·have h6:64*16≤64*L*q:=Nat.mul_le_mul (by omega) h5;omega
   ·unfold placeI;rw [hL];have e5:64*(L:Int)*(q:Int)=((64*L*q:Nat):Int):=by push_cast;rfl
    rw [e5];omega
set_option maxHeartbeats 8000000
theorem poolPut_calls (V:PV)(i:Nat)(x:BitVec 64)(w0:World)(h:PD w0 b p s V.T V.H tb tc hb hc F V.D)(hs:s.table=128)(hi:i<V.T.length)(hn:V.T.length≤64)(hst:V.D.steps+3<1099511627776) :
  Ret Tryz.prog 139 #[.pointer (some ⟨b,0,none⟩),.int .i64 (i:Int),.int .u64 (uv x)] w0 fun v w'=>v=.int .i64 (putV V i x).2 ∧
   ∃ F',PD w' b p s (putV V i x).1.T (putV V i x).1.H tb tc hb hc F' (putV V i x).1.D∧Turn w0 (PdK b tb hb F) w' (PdK b tb hb F'):=by
 obtain ⟨T,H,D⟩:=V;dsimp only at h hi hn hst;have bel0:=Below.refl w0.heap.size w0;have hi':(i:Int)<T.length:=by omega
 obtain ⟨R,hR⟩:∃ R,R=putV ⟨T,H,D⟩ i x:=⟨_,rfl⟩;rw [← hR];refine ret_of (args:=[_,_,_]) _ Tryz.func139 rfl Tryz.ntmps139 (by simp) ?_;simp -implicitDefEqProofs [go_sem];refine drawE_mix [.pure 0,.pure 1,.pure 2,.pure 4,.pure 5,.pure 7,.take 3,.run 6 [3],.run 8 [],.pure 9] mixed (by decide +kernel) (by simp only [wo];rfl) ?_;have h1:=h.next (Below.refl _ _).drew
 have bel1:=bel0.drew;generalize World.drew w0=w1 at *;simp -implicitDefEqProofs [go_sem,h1.pool.blk.cell];refine onTake_of (fun w'=>Below w1.heap.size w1 w') (.pointer (some ⟨p,0,none⟩)) (Below.refl _ _) (fun w' hw=>by simp -implicitDefEqProofs [go_sem,(h1.pool.blk.next hw).cell]) ?_;simp -implicitDefEqProofs [go_sem,h1.pool.blk.cell];refine callE_of (entry_calls i w1 h1.pool hs (by omega)) ?_;rintro v w2 ⟨rfl,rfl⟩;refine ⟨.inr (by simp -implicitDefEqProofs [go_sem];exact Below.refl _ _),?_⟩
 simp -implicitDefEqProofs [go_sem];refine callE_of (put_calls' ((128+8*i:Nat):Int) x w2 h1.dev (by unfold I64;omega) hst) ?_;rintro v w3 ⟨rfl,F3,d3,t3⟩;refine ⟨.inr (by simp -implicitDefEqProofs [go_sem]),?_⟩;have h3:=h1.turn d3 t3;have T3:Turn w0 (PdK b tb hb F) w3 (PdK b tb hb F3):=(Turn.of bel1).trans (turn_pd t3);have hR':R=(⟨if (runS D (putS ((128+8*i:Nat):Int) x)).2=0 then T.set i x else T,H,(runS D (putS ((128+8*i:Nat):Int) x)).1⟩,(runS D (putS ((128+8*i:Nat):Int) x)).2):=hR
 generalize runS D (putS ((128+8*i:Nat):Int) x)=r at *;by_cases hz:r.2=0
 ·have gx3:=h3.pool.tk.cell (i:=i) hi;simp -implicitDefEqProofs [go_sem,hz,h3.pool.blk.cell,hi,hi',gx3,h3.pool.tk.thaw];have h4:=h3.setT (i:=i) x;have T4:=turn_cell (a:=⟨tb,i,none⟩) T3 (.inr (.inl rfl)) (.int .u64 (uv x));generalize World.setCell w3 _ _=w4 at *;refine body_tmp 6 rfl ?_;simp -implicitDefEqProofs [go_sem];rw [hR'];dsimp only;rw [if_pos hz];exact ⟨by rw [hz],F3,h4,T4⟩
 ·have hz':(r.2==0)=false:=by rw [beq_eq_false_iff_ne];exact hz
  simp -implicitDefEqProofs [go_sem,hz,hz'];refine body_tmp 6 rfl ?_;simp -implicitDefEqProofs [go_sem];rw [hR'];dsimp only;rw [if_neg hz];exact ⟨rfl,F3,h3,T3⟩
theorem poolTake_calls (V:PV)(off:Int)(w0:World)(h:PD w0 b p s V.T V.H tb tc hb hc F V.D)(hs:s.table=128)(hn:V.T.length≤64)(hst:V.D.steps+3<1099511627776)(ho:I64 off)(hd:0≤s.data∧s.data≤1000000) :
  Ret Tryz.prog 194 #[.pointer (some ⟨b,0,none⟩),.int .i64 off] w0 fun v w'=>v=.int .i64 (takeV s V off).2 ∧
   ∃ F',PD w' b p s (takeV s V off).1.T (takeV s V off).1.H tb tc hb hc F' (takeV s V off).1.D∧Turn w0 (PdK b tb hb F) w' (PdK b tb hb F'):=by
 have bel0:=Below.refl w0.heap.size w0;obtain ⟨R,hR⟩:∃ R,R=takeV s V off:=⟨_,rfl⟩;rw [← hR];refine ret_of (args:=[_,_]) _ Tryz.func194 rfl Tryz.ntmps194 (by simp) ?_;simp -implicitDefEqProofs [go_sem];refine callE_of (none_calls w0 h.pool) ?_;rintro v w1 ⟨rfl,rfl⟩;simp -implicitDefEqProofs [go_sem];refine callE_of (find_calls off w1 h.pool hd hn ho) ?_;rintro v w2 ⟨hf,b2⟩;have h2:=h.next b2
 have bel2:=bel0.trans b2
 rcases hf with ⟨hf,rfl⟩|⟨i,q,hf,rfl⟩
 ·simp -implicitDefEqProofs [go_sem];refine body_tmp 4 rfl ?_;simp -implicitDefEqProofs [go_sem];have hR':R=(V,7):=by rw [hR];unfold takeV;rw [hf]
  rw [hR'];exact ⟨rfl,F,h2,Turn.of bel2⟩
 ·obtain ⟨hi,hq,-,-⟩:=findP_some hf;have hi':(i:Int)<V.T.length:=by omega
  have gx:=h2.pool.hd.cell (i:=i) (by rw [h.pool.len];exact hi);obtain ⟨x,ex⟩:∃ x,x=V.H.getD i 0#64:=⟨_,rfl⟩;rw [← ex] at gx;simp -implicitDefEqProofs [go_sem,h2.pool.blk.cell,hi,hi',gx];refine callE_of (has_calls' x q w2) ?_;rintro v w3 ⟨rfl,b3⟩;have h3:=h2.next b3
  have bel3:=btr bel2 b3;by_cases hh:WM.hasM x q=true
  ·rw [hh];simp -implicitDefEqProofs [go_sem];refine drawE_mix [.pure 0,.pure 1,.pure 2,.pure 4,.pure 7,.pure 8,.pure 9,.pure 11,.pure 15,.take 3,.pure 5,.take 6,.run 10 [3,6],.pure 12,.run 13 [3,6],.run 14 [3,6],.run 16 [],.pure 17,.pure 18,.pure 19,.pure 20,.pure 21] mixed (by decide +kernel) (by simp only [wo];rfl) ?_;have h4:=h3.next (Below.refl _ _).drew
   have bel4:=bel3.drew;generalize World.drew w3=w4 at *;obtain ⟨y,ey⟩:∃ y,y=V.T.getD i 0#64:=⟨_,rfl⟩;have gy4:=h4.pool.tk.cell (i:=i) hi;have gx4:=h4.pool.hd.cell (i:=i) (by rw [h.pool.len];exact hi);rw [← ey] at gy4;rw [← ex] at gx4;simp -implicitDefEqProofs [go_sem,h4.pool.blk.cell];refine onTake_of (fun w'=>Below w4.heap.size w4 w') (.slice (some ⟨tb,0,none⟩) V.T.length tc) (Below.refl _ _) (fun w' hw=>by simp -implicitDefEqProofs [go_sem,(h4.pool.blk.next hw).cell]) ?_
   simp -implicitDefEqProofs [go_sem,h4.pool.blk.cell,hi,hi'];refine onTake_of (fun w'=>Below w4.heap.size w4 w') (.int .u64 (uv y)) (Below.refl _ _) (fun w' hw=>by
    have g:=(h4.pool.next hw).tk.cell (i:=i) hi;rw [← ey] at g;simp -implicitDefEqProofs [go_sem,g]) ?_
   simp -implicitDefEqProofs [go_sem,h4.pool.blk.cell,hi,hi',gx4];refine callE_of (class_calls x w4) ?_;rintro v w5 ⟨rfl,b5⟩;refine ⟨.inr (by simp -implicitDefEqProofs [go_sem];exact b5),?_⟩;simp -implicitDefEqProofs [go_sem];have h5:=h4.next b5
   have bel5:=btr bel4 b5;obtain ⟨tw,etw⟩:∃ tw,tw=WM.takeW y (WM.classM x) q:=⟨_,rfl⟩;refine callE_of (take_calls y (WM.classM x) q w5) ?_;rintro v w6 ⟨rfl,b6⟩;refine ⟨.inr (by simp -implicitDefEqProofs [go_sem]),?_⟩;rw [← etw];have h6:=h5.next b6
   have bel6:=btr bel5 b6;generalize WM.takeOk y (WM.classM x) q=ok at *;simp -implicitDefEqProofs [go_sem];have hP:=poolPut_calls V i tw w6 h6 hs hi hn hst;have hR':R=if (putV V i tw).2=0 then ({ (putV V i tw).1 with H:=V.H.set i (WM.dropW x q) },0) else putV V i tw:=by
    rw [hR];unfold takeV;rw [hf];dsimp only;rw [← ex,if_pos hh,← ey,← etw]
   obtain ⟨U,hU⟩:∃ U,U=putV V i tw:=⟨_,rfl⟩;have hUH:U.1.H=V.H:=by rw [hU];rfl
   rw [← hU] at hP hR';refine callE_of hP ?_;rintro v w7 ⟨rfl,F7,h7,T7⟩;have T07:=(Turn.of (F:=PdK b tb hb F) bel6).trans T7;by_cases hz:U.2=0
   ·rw [if_pos hz] at hR';simp -implicitDefEqProofs [go_sem,hz];refine drawE_mix [.pure 0,.pure 1,.pure 2,.pure 4,.pure 5,.pure 6,.pure 7,.pure 9,.pure 12,.take 3,.run 8 [3],.pure 10,.run 11 [3],.run 13 [3],.pure 14,.pure 15,.pure 16,.pure 17,.run 18 []] mixed (by decide +kernel) (by simp only [wo];rfl) ?_;have h8:=h7.next (Below.refl _ _).drew
    have T08:Turn w1 (PdK b tb hb F) w7.drew (PdK b tb hb F7):=T07.trans (Turn.of (Below.refl _ _).drew);generalize World.drew w7=w8 at *;obtain ⟨⟨UT,UH,UD⟩,U2⟩:=U;dsimp only at hUH h7 h8 hR' hz;subst hUH;have hUT:UT.length=V.T.length:=by
     have e:UT=(putV V i tw).1.T:=by rw [← hU]
     rw [e];unfold putV;dsimp only;split
     ·rw [List.length_set]
     ·rfl
    have hi8:i<UT.length:=by omega
    have hi8':(i:Int)<UT.length:=by omega
    have gx8:=h8.pool.hd.cell (i:=i) (by rw [h.pool.len];exact hi);rw [← ex] at gx8;simp -implicitDefEqProofs [go_sem,h8.pool.blk.cell];refine onTake_of (fun w'=>Below w8.heap.size w8 w') (.slice (some ⟨hb,0,none⟩) UT.length hc) (Below.refl _ _) (fun w' hw=>by simp -implicitDefEqProofs [go_sem,(h8.pool.blk.next hw).cell]) ?_;simp -implicitDefEqProofs [go_sem,h8.pool.blk.cell,hi8,hi8',gx8];refine callE_of (drop_calls x q w8) ?_;rintro v w9 ⟨rfl,b9⟩
    refine ⟨.inr (by simp -implicitDefEqProofs [go_sem];exact b9),?_⟩;have h9:=h8.next b9
    have gx9:=h9.pool.hd.cell (i:=i) (by rw [h.pool.len];exact hi);rw [← ex] at gx9;generalize WM.dropW x q=dw at *;simp -implicitDefEqProofs [go_sem,h9.pool.blk.cell,hi8,hi8',gx9,h9.pool.hd.thaw];have h10:=h9.setH (i:=i) dw;have T10:=turn_cell (b:=b) (tb:=tb) (hb:=hb) (F:=F) (F':=F7) (a:=⟨hb,i,none⟩) (T08.trans (Turn.of b9)) (.inr (.inr rfl)) (.int .u64 (uv dw));generalize World.setCell w9 _ _=w10 at *;refine body_tmp 4 rfl ?_;simp -implicitDefEqProofs [go_sem];rw [hR']
    exact ⟨rfl,F7,h10,T10⟩
   ·have hz':(U.2==0)=false:=by rw [beq_eq_false_iff_ne];exact hz
    rw [if_neg hz] at hR';have hz2:(U.2 != 0)=true:=by rw [bne,hz'];rfl
    simp -implicitDefEqProofs [go_sem,hz,hz',hz2];refine body_tmp 4 rfl ?_;simp -implicitDefEqProofs [go_sem];rw [hR'];exact ⟨rfl,F7,h7,T07⟩
  ·have hh':WM.hasM x q=false:=by simpa using hh
   rw [hh'];simp -implicitDefEqProofs [go_sem];refine body_tmp 4 rfl ?_;simp -implicitDefEqProofs [go_sem];have hR':R=(V,7):=by rw [hR];unfold takeV;rw [hf];dsimp only;rw [← ex,if_neg hh]
   rw [hR'];exact ⟨rfl,F,h3,Turn.of bel3⟩
theorem poolDrop_calls (V:PV)(off:Int)(w0:World)(h:PD w0 b p s V.T V.H tb tc hb hc F V.D)(hs:s.table=128)(hn:V.T.length≤64)(hst:V.D.steps+3<1099511627776)(ho:I64 off)(hd:0≤s.data∧s.data≤1000000) :
  Ret Tryz.prog 93 #[.pointer (some ⟨b,0,none⟩),.int .i64 off] w0 fun v w'=>v=.int .i64 (dropV s V off).2 ∧
   ∃ F',PD w' b p s (dropV s V off).1.T (dropV s V off).1.H tb tc hb hc F' (dropV s V off).1.D∧Turn w0 (PdK b tb hb F) w' (PdK b tb hb F'):=by
 have bel0:=Below.refl w0.heap.size w0;obtain ⟨R,hR⟩:∃ R,R=dropV s V off:=⟨_,rfl⟩;rw [← hR];refine ret_of (args:=[_,_]) _ Tryz.func93 rfl Tryz.ntmps93 (by simp) ?_;simp -implicitDefEqProofs [go_sem];refine callE_of (none_calls w0 h.pool) ?_;rintro v w1 ⟨rfl,rfl⟩;simp -implicitDefEqProofs [go_sem];refine callE_of (find_calls off w1 h.pool hd hn ho) ?_;rintro v w2 ⟨hf,b2⟩;have h2:=h.next b2
 have bel2:=bel0.trans b2
 rcases hf with ⟨hf,rfl⟩|⟨i,q,hf,rfl⟩
 ·simp -implicitDefEqProofs [go_sem];refine body_tmp 4 rfl ?_;simp -implicitDefEqProofs [go_sem];have hR':R=(V,7):=by rw [hR];unfold dropV;rw [hf]
  rw [hR'];exact ⟨rfl,F,h2,Turn.of bel2⟩
 ·obtain ⟨hi,hq,-,-⟩:=findP_some hf;have hi':(i:Int)<V.T.length:=by omega
  have gx:=h2.pool.hd.cell (i:=i) (by rw [h.pool.len];exact hi);obtain ⟨x,ex⟩:∃ x,x=V.H.getD i 0#64:=⟨_,rfl⟩;rw [← ex] at gx;simp -implicitDefEqProofs [go_sem,h2.pool.blk.cell,hi,hi',gx];refine callE_of (drop_calls x q w2) ?_;rintro v w3 ⟨rfl,b3⟩;have h3:=h2.next b3
  have bel3:=btr bel2 b3;have gx3:=h3.pool.hd.cell (i:=i) (by rw [h.pool.len];exact hi);obtain ⟨y,ey⟩:∃ y,y=V.T.getD i 0#64:=⟨_,rfl⟩;have gy3:=h3.pool.tk.cell (i:=i) hi;rw [← ey] at gy3;rw [← ex] at gx3;by_cases hh:WM.hasM x q=true
  ·rw [hh];obtain ⟨z,ez⟩:∃ z,z=WM.dropW x q:=⟨_,rfl⟩;rw [← ez];simp -implicitDefEqProofs [go_sem,h3.pool.blk.cell,hi,hi',gx3,h3.pool.hd.thaw];have h4:=h3.setH (i:=i) z;have T4:=turn_cell (b:=b) (tb:=tb) (hb:=hb) (F:=F) (F':=F) (a:=⟨hb,i,none⟩) (Turn.of bel3) (.inr (.inr rfl)) (.int .u64 (uv z));generalize World.setCell w3 _ _=w4 at *;refine body_tmp 4 rfl ?_;simp -implicitDefEqProofs [go_sem]
   have hR':R=({ V with H:=V.H.set i z },0):=by rw [hR];unfold dropV;rw [hf];dsimp only;rw [← ex,if_pos hh,ez]
   rw [hR'];exact ⟨rfl,F,h4,T4⟩
  ·have hh':WM.hasM x q=false:=by simpa using hh
   rw [hh'];simp -implicitDefEqProofs [go_sem,h3.pool.blk.cell,hi,hi',gy3];refine callE_of (drop_calls y q w3) ?_;rintro v w4 ⟨rfl,b4⟩;have h4:=h3.next b4
   have bel4:=btr bel3 b4;by_cases hy:WM.hasM y q=true
   ·rw [hy];simp -implicitDefEqProofs [go_sem];refine callE_of (poolPut_calls V i (WM.dropW y q) w4 h4 hs hi hn hst) ?_;rintro v w5 ⟨rfl,F5,h5,T5⟩;simp -implicitDefEqProofs [go_sem];refine body_tmp 4 rfl ?_;simp -implicitDefEqProofs [go_sem];have hR':R=putV V i (WM.dropW y q):=by rw [hR];unfold dropV;rw [hf];dsimp only;rw [← ex,if_neg hh,← ey,if_pos hy]
    rw [hR'];exact ⟨rfl,F5,h5,(Turn.of bel4).trans T5⟩
   ·have hy':WM.hasM y q=false:=by simpa using hy
    rw [hy'];simp -implicitDefEqProofs [go_sem];refine body_tmp 4 rfl ?_;simp -implicitDefEqProofs [go_sem];have hR':R=(V,7):=by rw [hR];unfold dropV;rw [hf];dsimp only;rw [← ex,if_neg hh,← ey,if_neg hy]
    rw [hR'];exact ⟨rfl,F,h4,Turn.of bel4⟩
end
end
section
open Go Go.RowKit
section
variable {w w':World} {b p:Nat} {s:HM.Shape} {T H:List (BitVec 64)} {tb tc hb hc:Nat} {F F' G:Nat→Prop} {D D':NM.Dv}
def classV (s:HM.Shape)(T H:List (BitVec 64))(off:Int):Int :=
 match findP s T.length (bF T H) off with
 | none=>0
 | some (i,q)=>if WM.hasM (T.getD i 0#64) q=true then WM.classM (T.getD i 0#64) else 0
set_option maxHeartbeats 4000000
theorem poolClass_calls (off:Int)(w0:World)(h:PoolAt w0 b p s T H tb tc hb hc)(hn:T.length≤64)(ho:I64 off)(hd:0≤s.data∧s.data≤1000000) :
  Ret Tryz.prog 123 #[.pointer (some ⟨b,0,none⟩),.int .i64 off] w0 fun v w'=>v=.int .i64 (classV s T H off)∧Below w0.heap.size w0 w':=by
 have bel0:=Below.refl w0.heap.size w0;obtain ⟨R,hR⟩:∃ R,R=classV s T H off:=⟨_,rfl⟩;rw [← hR];refine ret_of (args:=[_,_]) _ Tryz.func123 rfl Tryz.ntmps123 (by simp) ?_;simp -implicitDefEqProofs [go_sem];refine callE_of (none_calls w0 h) ?_;rintro v w1 ⟨rfl,rfl⟩;simp -implicitDefEqProofs [go_sem];refine callE_of (find_calls off w1 h hd hn ho) ?_;rintro v w2 ⟨hf,b2⟩;have h2:=h.next b2
 have bel2:=bel0.trans b2
 rcases hf with ⟨hf,rfl⟩|⟨i,q,hf,rfl⟩
 ·simp -implicitDefEqProofs [go_sem];refine body_tmp 4 rfl ?_;simp -implicitDefEqProofs [go_sem];exact ⟨by rw [hR];unfold classV;rw [hf],bel2⟩
 ·obtain ⟨hi,hq,-,-⟩:=findP_some hf;have hi':(i:Int)<T.length:=by omega
  have gx:=h2.tk.cell (i:=i) hi;obtain ⟨x,ex⟩:∃ x,x=T.getD i 0#64:=⟨_,rfl⟩;rw [← ex] at gx;simp -implicitDefEqProofs [go_sem,h2.blk.cell,hi,hi',gx];refine callE_of (has_calls' x q w2) ?_;rintro v w3 ⟨rfl,b3⟩;have h3:=h2.next b3
  have bel3:=btr bel2 b3;have gx3:=h3.tk.cell (i:=i) hi;rw [← ex] at gx3;by_cases hh:WM.hasM x q=true
  ·rw [hh];simp -implicitDefEqProofs [go_sem,h3.blk.cell,hi,hi',gx3];refine callE_of (class_calls x w3) ?_;rintro v w4 ⟨rfl,b4⟩;simp -implicitDefEqProofs [go_sem];refine body_tmp 4 rfl ?_;simp -implicitDefEqProofs [go_sem];exact ⟨by rw [hR];unfold classV;rw [hf];dsimp only;rw [← ex,if_pos hh],btr bel3 b4⟩
  ·have hh':WM.hasM x q=false:=by simpa using hh
   rw [hh'];simp -implicitDefEqProofs [go_sem];refine body_tmp 4 rfl ?_;simp -implicitDefEqProofs [go_sem];exact ⟨by rw [hR];unfold classV;rw [hf];dsimp only;rw [← ex,if_neg hh],bel3⟩
def manyL (l:List (BitVec 64)):Nat→Nat
 | 0=>0
 | n+1=>manyL l n+(WM.listM (l.getD n 0#64)).length
theorem listM_len (x:BitVec 64):(WM.listM x).length≤16:=by
 rw [WM.list_ref];exact Nat.le_trans (List.length_filter_le _ _) (by simp)
theorem manyL_le (l:List (BitVec 64)):∀ n,manyL l n≤16*n
 | 0=>by simp [manyL]
 | n+1=>by unfold manyL;have:=manyL_le l n;have:=listM_len (l.getD n 0#64);omega
theorem bodyOne {P:Program}{w:World}{fn:Func}{R:Value→World→Prop}{e:Env}(p:Tmp){ty t':TypeId}{g:Nat}{cs:Array Value}{d:TypeDesc}{t:Tag (bodyR P fn R,Exit.ret)}(h:fn.results=#[.cell p ty])(hp:e p=.pointer (some ⟨g,0,none⟩))(hB:Blk w g cs t')
  (hu:P.underlying ty=some d) (hd:isAggD d=true) (hi:(P.info? ty).map (·.size)=some cs.size) (hR:R (.agg cs) w):goE (bodyR P fn R) .ret t e w:=by
 intro tmps ht;refine ⟨_,?_,hR⟩;exact results_cell_row h tmps w g t' cs (0,0) d (by rw [ht];exact hp) hB hu (by cases d<;>simp_all [isAggD]) hi
end
end
section
open Go Go.RowKit
def placeN (s:HM.Shape)(i:Nat)(c:Int)(q:Nat):Nat:=(placeI s i c q).toNat
theorem placeN_int (s:HM.Shape)(hs:0≤s.data)(i:Nat)(c:Int)(q:Nat):placeI s i c q=(placeN s i c q:Int):=by
 have hl:=(linesI_le c).1;unfold placeN;rw [Int.toNat_of_nonneg];unfold placeI;have:0≤64*linesI c*(q:Int):=Int.mul_nonneg (by omega) (by omega);omega
def rowK (s:HM.Shape)(k:Nat)(x:BitVec 64):List Nat:=(WM.listM x).map (placeN s k (WM.classM x))
def allK (s:HM.Shape)(T:List (BitVec 64)):Nat→List Nat
 | 0=>[]
 | k+1=>allK s T k++rowK s k (T.getD k 0#64)
theorem rowK_len (s:HM.Shape)(k:Nat)(x:BitVec 64):(rowK s k x).length≤16:=by unfold rowK;rw [List.length_map];exact listM_len x
theorem allK_len (s:HM.Shape)(T:List (BitVec 64)):∀ k,(allK s T k).length≤16*k
 | 0=>by simp [allK]
 | k+1=>by
  unfold allK;rw [List.length_append];have:=allK_len s T k;have:=rowK_len s k (T.getD k 0#64);omega
def accL (s:HM.Shape)(T:List (BitVec 64))(k:Nat)(x:BitVec 64)(L:List Nat)(j:Nat):List Nat:=allK s T k++(L.take j).map (placeN s k (WM.classM x))
theorem accL_zero (s:HM.Shape)(T:List (BitVec 64))(k:Nat)(x:BitVec 64)(L:List Nat):accL s T k x L 0=allK s T k:=by simp [accL]
theorem listM_lt {x:BitVec 64}{j:Nat}(h:j∈WM.listM x):j<16:=by
 rw [WM.list_ref] at h;have:=(List.mem_filter.1 h).1;simpa using this
theorem owns_new {w:World}{base m cap:Nat}{e:TypeId}{a:Option Addr}{l:List Value}(h:w.ownsRow base e 1 (.slice a m cap) m l):∀ y,a=some y→base≤y.block∧y.block<w.heap.size:=by
 have hlt:=h.lt;obtain ⟨_,⟨hv,h0⟩|⟨g,cap2,cur,hv,hg,hblk,hcap,hm,hsz,htake⟩⟩:=h
 ·simp only [Value.slice.injEq] at hv;obtain ⟨rfl,_,rfl⟩:=hv;intro y hy;cases hy
 ·simp only [Value.slice.injEq] at hv;obtain ⟨rfl,_,rfl⟩:=hv;have hblk:Blk w g cur e:=hblk;intro y hy;cases hy;exact ⟨hg,hblk.lt⟩
theorem push_nat2 {w:World}{a:Option Addr}{len c:Nat}{xs:List Nat}(base:Nat)(hown:w.ownsRow base 3 1 (.slice a len c) len (nats xs))(hl:len≤1000000)(hb:base≤w.heap.size)(i:Nat) :
  ∃ g c2 w2,(appendB #[45,45] 45 #[.slice a len c,.slice (some ⟨w.heap.size,0,none⟩) 1 1]).run Tryz.prog (w.alloc (.cells #[.int .i64 (i:Int)] 3))=.ok (.slice (some ⟨g,0,none⟩) (len+1) c2) w2 ∧
   w2.ownsRow base 3 1 (.slice (some ⟨g,0,none⟩) (len+1) c2) (len+1) (nats (xs++[i]))∧w.heap.size<w2.heap.size ∧
   Turn w (fun b=>Value.ownBlock (.slice a len c)=some b) w2 (fun b=>b=g):=by
 have ha:(w.alloc (.cells #[.int .i64 (i:Int)] 3)).heap.size=w.heap.size+1:=by simp
 obtain ⟨ti,tz,hti,htz,hts,htb,htc⟩:=intI;obtain ⟨g,c2,w2,hr2,hown2,hgr,hwhere⟩:=run_append_where (P:=Tryz.prog) (w:=w.alloc (.cells #[.int .i64 (i:Int)] 3)) base (t:=45) (ty:=45) Tryz.underlying45 hti htz hts htb htc (by decide) (hown.alloc (.cells #[.int .i64 (i:Int)] 3)) ⟨w.heap.size,0,none⟩ (m:=1) (c:=1) (news:=[.int .i64 (i:Int)]) rfl
  (fun j u' hu'=>by rw [Addr.add_lit,Nat.zero_add,(Blk.new _ _ _).cell];simpa using hu') (by intro u' hu';simp at hu';subst hu';rfl) (by decide) (by omega) (by omega) (by omega)
 have hsz:=hgr.size;refine ⟨g,c2,w2,hr2,by rw [nats_append];exact hown2,by omega,⟨?_,fun b hb=>?_⟩⟩
 ·exact ((Mod.refl (fun b=>Value.ownBlock (.slice a len c)=some b) w).alloc _).trans (mod_of_grown hgr) (fun b hb _=>hb)
 ·subst hb
  rcases hwhere with h|h
  ·exact .inl h
  ·exact .inr (by omega)
theorem VsIn.mod {w w':World}{G:Nat→Prop}{a:Option Addr}{l:List Value}{cap:Nat}(h:VsIn w a l cap)(hm:Mod G w w')(hG:∀ y,a=some y→¬ G y.block):VsIn w' a l cap :=
 ⟨h.at_.mod hm (fun b hb=>by obtain ⟨o,ho⟩:=hb;exact hG _ ho),h.le,h.max,h.nil⟩
set_option maxHeartbeats 1000000 in
theorem listN_calls (x:BitVec 64)(w0:World):Ret Tryz.prog 62 #[.int .u64 (uv x)] w0 fun v w'=>∃ a c,v=.slice a (WM.listM x).length c∧VsIn w' a (nats (WM.listM x)) c∧Below w0.heap.size w0 w'∧(∀ y,a=some y→w0.heap.size≤y.block∧y.block<w'.heap.size):=by
 have bel0:=Below.refl w0.heap.size w0;obtain ⟨n,hn⟩:∃ n:Nat,WM.blocksI (WM.classM x)=n:=by
  rw [WM.cR_class,WM.blocksI_nat];exact ⟨_,rfl⟩
 have hn16:n≤16:=by
  rw [WM.cR_class,WM.blocksI_nat] at hn;have:=WM.bl_le (WM.cR x);omega
 have hlist:WM.listM x=lstK (fun (i:Nat)=>WM.hasM x i) n:=by
  unfold WM.listM lstK;rw [WM.cR_class] at hn ⊢;rw [WM.blocksI_nat] at hn;congr 2;rw [Int.toNat_natCast];omega
 refine ret_of (args:=[_]) _ Tryz.func62 rfl Tryz.ntmps62 (by simp) ?_;simp -implicitDefEqProofs [go_sem];refine callE_of (class_calls x w0) ?_;rintro v w1 ⟨rfl,b1⟩;have bel1:=btr bel0 b1;simp -implicitDefEqProofs [go_sem];refine callE_of (blocks_calls _ w1) ?_;rintro v w2 ⟨rfl,rfl⟩;rw [hn];simp -implicitDefEqProofs [go_sem]
 refine wpE_loop (fun e' w'=>∃ (k len:Nat) (a:Option Addr) (c:Nat),k≤n∧e' 0=.int .u64 (uv x)∧e' 3=.slice a len c∧e' 7=.int .i64 n∧e' 8=.int .i64 k∧len=(lstK (fun (i:Nat)=>WM.hasM x i) k).length ∧
  w'.ownsRow w0.heap.size 3 1 (.slice a len c) len (nats (lstK (fun (i:Nat)=>WM.hasM x i) k))∧Below w0.heap.size w0 w'∧w0.heap.size≤w'.heap.size) (fun e' _=>n-(intOf (e' 8)).toNat) ?_ ?_
 ·refine ⟨0,0,none,0,by omega,?_⟩;simp -implicitDefEqProofs [go_sem,lstK_zero];exact ⟨World.ownsRow_nil _ _ _ _,bel1,bel1.size⟩
 ·rintro e' w' ⟨k,len,a,c,hk,h0,h3,h7,h8,hlen,hown,bel,hsz⟩;have hl16:len≤16:=by rw [hlen];have:=filter_len (fun (i:Nat)=>WM.hasM x i) k;omega
  by_cases hlt:k<n
  ·have hlt':(k:Int)<n:=by omega
   have hw:=IntWalk.i64_in ((k:Int)+1) (by omega);have hfs:=filter_succ (fun (i:Nat)=>WM.hasM x i) k;simp -implicitDefEqProofs [go_sem,h0,h3,h7,h8,hlt,hlt'];refine callE_of (has_calls' x k w') ?_;rintro v w3 ⟨rfl,b3⟩;have bel3:=bel.trans (b3.mono hsz);have hown3:=ownsRow_next hown b3;cases hh:WM.hasM x k
   ·rw [hh] at hfs;simp only [Bool.false_eq_true,if_false,List.append_nil] at hfs;simp -implicitDefEqProofs [go_sem,h3,h8,hw];refine goE_round ⟨k+1,len,a,c,by omega,?_⟩ ?_
    ·simp -implicitDefEqProofs [go_sem,h0,h3,h7];exact ⟨by rw [hfs];exact hlen,by rw [hfs];exact hown3,bel3,by have:=b3.size;omega⟩
    ·simp -implicitDefEqProofs [go_sem,intOf,h8];omega
   ·rw [hh] at hfs;simp only [if_true] at hfs;obtain ⟨a2,c2,w4,hr4,hown4,bel4,hsz4⟩:=push_nat w0.heap.size hown3 (by omega) (by have:=b3.size;omega) bel3 k;simp -implicitDefEqProofs [go_sem,h0,h3,h7,h8,hr4,hw];refine goE_round ⟨k+1,len+1,a2,c2,by omega,?_⟩ ?_
    ·simp -implicitDefEqProofs [go_sem,h0,h7];exact ⟨by rw [hfs];simp [hlen],by rw [hfs];exact hown4,bel4,hsz4⟩
    ·simp -implicitDefEqProofs [go_sem,intOf,h8];omega
  ·have hk':k=n:=by omega
   subst hk';rw [← hlist] at hlen hown;simp -implicitDefEqProofs [go_sem,h0,h3,h7,h8];refine body_tmp 2 rfl ?_;simp -implicitDefEqProofs [go_sem];exact ⟨a,c,⟨rfl,hlen,rfl⟩,owns_vsIn (by rw [nats_length];exact hlen.symm) hown,bel,owns_new hown⟩
section
variable {w w':World} {b p:Nat} {s:HM.Shape} {T H:List (BitVec 64)} {tb tc hb hc:Nat}
set_option maxHeartbeats 8000000
theorem poolAllN_calls (w0:World)(h:PoolAt w0 b p s T H tb tc hb hc)(hn:T.length≤64)(hd:0≤s.data∧s.data≤1000000) :
  Ret Tryz.prog 33 #[.pointer (some ⟨b,0,none⟩)] w0 fun v w'=>∃ a c,v=.slice a (allK s T T.length).length c∧VsIn w' a (nats (allK s T T.length)) c∧Below w0.heap.size w0 w'∧(∀ y,a=some y→w0.heap.size≤y.block):=by
 have bel0:=Below.refl w0.heap.size w0;refine ret_of (args:=[_]) _ Tryz.func33 rfl Tryz.ntmps33 (by simp) ?_;simp -implicitDefEqProofs [go_sem];refine callE_of (none_calls w0 h) ?_;rintro v w1 ⟨rfl,rfl⟩;simp -implicitDefEqProofs [go_sem,h.blk.cell];refine wpE_loop (fun e' w'=>∃ (k m:Nat) (a:Option Addr) (c:Nat),k≤T.length∧e' 0=.pointer (some ⟨b,0,none⟩)∧e' 3=.slice a m c∧e' 13=.slice (some ⟨tb,0,none⟩) T.length tc∧e' 14=.int .i64 (T.length:Int)∧e' 15=.int .i64 (k:Int) ∧
  m=(allK s T k).length∧w'.ownsRow w1.heap.size 3 1 (.slice a m c) m (nats (allK s T k))∧Below w1.heap.size w1 w'∧w1.heap.size≤w'.heap.size) (fun e' _=>T.length-(intOf (e' 15)).toNat) ?_ ?_
 ·refine ⟨0,0,none,0,Nat.zero_le _,?_⟩;simp -implicitDefEqProofs [go_sem,allK];exact ⟨World.ownsRow_nil _ _ _ _,bel0⟩
 ·rintro e' w2 ⟨k,m,a,c,hk,g0,g3,g13,g14,g15,hm,hown,bel2,hsz⟩;have h2:=h.next bel2
  have hle:=allK_len s T k;by_cases hlt:k<T.length
  ·have hlt':(k:Int)<T.length:=by omega
   have gx:=h2.tk.cell (i:=k) hlt;obtain ⟨x,ex⟩:∃ x,x=T.getD k 0#64:=⟨_,rfl⟩;rw [← ex] at gx;obtain ⟨k',hk'⟩:∃ k',k'=k+1:=⟨_,rfl⟩;have hw:=IntWalk.i64_in (k':Int) (by omega);have e1:(k:Int)+1=(k':Int):=by omega
   have hall:allK s T k'=allK s T k++rowK s k x:=by rw [hk',ex];rfl
   simp -implicitDefEqProofs [go_sem,g0,g3,g13,g14,g15,hlt,hlt',gx];refine callE_of (listN_calls x w2) ?_;rintro v w3 ⟨al,cl,rfl,hin,b3,hnew3⟩;have hown3:=ownsRow_next hown b3;have bel3:=bel2.trans (b3.mono hsz);have hsz3:w1.heap.size≤w3.heap.size:=Nat.le_trans hsz b3.size;obtain ⟨L,hL⟩:∃ L,L=WM.listM x:=⟨_,rfl⟩;have hrow:rowK s k x=L.map (placeN s k (WM.classM x)):=by rw [hL];rfl
   have hL16:L.length≤16:=by rw [hL];exact listM_len x
   have hLlt:∀ j∈L,j<16:=fun j hj=>listM_lt (hL▸hj)
   rw [← hL] at hin ⊢;simp -implicitDefEqProofs [go_sem,g0,g3,g13,g14,g15];refine wpE_loop (fun e2 w'=>∃ (j m:Nat) (a:Option Addr) (c:Nat),j≤L.length∧e2 0=.pointer (some ⟨b,0,none⟩)∧e2 3=.slice a m c∧e2 4=.int .i64 (k:Int)∧e2 5=.int .u64 (uv x)∧e2 13=.slice (some ⟨tb,0,none⟩) T.length tc∧e2 14=.int .i64 (T.length:Int)∧e2 15=.int .i64 (k:Int) ∧
    e2 21=.slice al L.length cl∧e2 22=.int .i64 (L.length:Int)∧e2 23=.int .i64 (j:Int) ∧
    m=(accL s T k x L j).length∧w'.ownsRow w1.heap.size 3 1 (.slice a m c) m (nats (accL s T k x L j))∧Below w1.heap.size w1 w'∧w1.heap.size≤w'.heap.size∧VsIn w' al (nats L) cl∧(∀ y,al=some y→y.block<w'.heap.size∧Value.ownBlock (.slice a m c)≠some y.block)) (fun e2 _=>17-(intOf (e2 23)).toNat) ?_ ?_
   ·refine ⟨0,m,a,c,Nat.zero_le _,?_⟩;simp -implicitDefEqProofs [go_sem,g0,g3,g13,g14,g15,accL_zero];refine ⟨hm,hown3,bel3,hsz3,hin,fun y hy=>⟨(hnew3 y hy).2,fun e=>by have:=(hown.lt _ e).1;have:=(hnew3 y hy).1;have:=(hown.lt _ e).2;omega⟩⟩
   ·rintro e2 w4 ⟨j,m2,a2,c2,hj,q0,q3,q4,q5,q13,q14,q15,q21,q22,q23,hm2,hown4,bel4,hsz4,hin4,hap4⟩;by_cases hjl:j<L.length
    ·have hjl':(j:Int)<L.length:=by omega
     obtain ⟨ba,oa,hal,ga⟩:=hin4.at_.cell (i:=j) (by rw [nats_length];exact hjl);subst hal;simp only [nats,List.getElem_map] at ga;have hy16:=hLlt L[j] (List.getElem_mem hjl);have htake:L.take (j+1)=L.take j++[L[j]]:=by rw [List.take_append_getElem hjl]
     generalize L[j]=y at *;simp -implicitDefEqProofs [go_sem,q0,q3,q4,q5,q13,q14,q15,q21,q22,q23,hjl,hjl',ga];refine callE_of (class_calls x w4) ?_;rintro v w5 ⟨rfl,b5⟩;have bel5:=bel4.trans (b5.mono hsz4);have hsz5:w1.heap.size≤w5.heap.size:=Nat.le_trans hsz4 b5.size;simp -implicitDefEqProofs [go_sem,q0,q3,q4,q5,q13,q14,q15,q21,q22,q23];have hk1000:k≤1000:=by omega
     have hy1000:y≤1000:=by omega
     refine callE_of (place_calls k (WM.classM x) y w5 (h.next bel5) hd hk1000 hy1000) ?_;rintro v w6 ⟨rfl,b6⟩;have bel6:=bel5.trans (b6.mono hsz5);have hsz6:w1.heap.size≤w6.heap.size:=Nat.le_trans hsz5 b6.size;have hown6:=ownsRow_next (ownsRow_next hown4 b5) b6;rw [placeN_int s hd.1];have hlen2:m2≤1000000:=by
      rw [hm2,accL,List.length_append,List.length_map];have:=List.length_take_le j L;omega
     obtain ⟨g7,c7,w7,hr7,hown7,hsz7,t7⟩:=push_nat2 w1.heap.size hown6 hlen2 hsz6 (placeN s k (WM.classM x) y);obtain ⟨j',hj'⟩:∃ j',j'=j+1:=⟨_,rfl⟩;have hwj:=IntWalk.i64_in (j':Int) (by omega);have e2':(j:Int)+1=(j':Int):=by omega
     have hnew:accL s T k x L j'=(accL s T k x L j)++[placeN s k (WM.classM x) y]:=by
      unfold accL;rw [hj',htake,List.map_append,List.append_assoc];rfl
     generalize placeN s k (WM.classM x) y=pl at *;simp -implicitDefEqProofs [go_sem,q0,q3,q4,q5,q13,q14,q15,q21,q22,q23,hr7,hwj,e2'];refine goE_round ⟨j',m2+1,some ⟨g7,0,none⟩,c7,by omega,?_⟩ ?_
     ·simp -implicitDefEqProofs [go_sem,q0,q3,q4,q5,q13,q14,q15,q21,q22,q23,hr7,hwj,e2'];rw [hnew];refine ⟨by rw [hm2];simp,hown7,bel6.trans (t7.mod.below hsz6 (fun k hk=>by have:=(hown6.lt _ hk).1;omega)),by omega,((hin4.next b5).next b6).mod t7.mod (fun y hy e=>(hap4 y hy).2 e),?_,fun e=>?_⟩
      ·have:=(hap4 _ rfl).1;dsimp only at this;have:=b5.size;have:=b6.size;omega
      ·simp only [Value.ownBlock,Option.some.injEq] at e;have h1:=hap4 _ rfl;have h11:ba<w4.heap.size:=h1.1
       rcases t7.new g7 rfl with h2|h2
       ·exact h1.2 (e▸h2)
       ·have:=b5.size;have:=b6.size;omega
     ·simp -implicitDefEqProofs [go_sem,intOf,q23];omega
    ·obtain rfl:j=L.length:=by omega
     rw [accL,List.take_length,← hrow,← hall] at hm2 hown4;simp -implicitDefEqProofs [go_sem,q0,q3,q4,q5,q13,q14,q15,q21,q22,q23,hw,e1];refine goE_round ⟨k',m2,a2,c2,by omega,?_⟩ ?_
     ·simp -implicitDefEqProofs [go_sem,q0,q3,q4,q5,q13,q14,q15,q21,q22,q23,hw,e1];exact ⟨hm2,hown4,bel4,hsz4⟩
     ·simp -implicitDefEqProofs [go_sem,intOf,g15];omega
  ·obtain rfl:k=T.length:=by omega
   simp -implicitDefEqProofs [go_sem,g3,g13,g14,g15];refine body_tmp 2 rfl ?_;simp -implicitDefEqProofs [go_sem,g3];exact ⟨a,c,⟨rfl,hm,rfl⟩,owns_vsIn (by rw [nats_length];exact hm.symm) hown,bel2,fun y hy=>(owns_new hown y hy).1⟩
theorem poolAll_calls (w0:World)(h:PoolAt w0 b p s T H tb tc hb hc)(hn:T.length≤64)(hd:0≤s.data∧s.data≤1000000) :
  Ret Tryz.prog 33 #[.pointer (some ⟨b,0,none⟩)] w0 fun v w'=>∃ a c,v=.slice a (allK s T T.length).length c∧VsIn w' a (nats (allK s T T.length)) c∧Below w0.heap.size w0 w':=by
 refine (poolAllN_calls w0 h hn hd).mono ?_;rintro v w' ⟨a,c,h1,h2,h3,_⟩;exact ⟨a,c,h1,h2,h3⟩
end
end
section
open Go Go.RowKit
def wordD (D:NM.Dv)(i:Nat):BitVec 64:=(D.get ((128+8*i:Nat):Int) 1).1.getD 0 0#64
def tabD (D:NM.Dv)(k:Nat):List (BitVec 64):=(List.range k).map (wordD D)
def badD (D:NM.Dv)(i:Nat):Option Int :=
 if (D.get ((128+8*i:Nat):Int) 1).2≠0 then some (D.get ((128+8*i:Nat):Int) 1).2 else if WM.rightM (wordD D i)=true then none else some 5
def openE (D:NM.Dv):Nat→Option Int
 | 0=>none
 | n+1=>match openE D n with
  | some e=>some e
  | none=>badD D n
theorem tabD_succ (D:NM.Dv)(k:Nat):tabD D (k+1)=tabD D k++[wordD D k]:=by unfold tabD;rw [List.range_succ,List.map_append];rfl
theorem openE_keep {D : NM.Dv} {k n : Nat} {e : Int} (h : openE D k = some e) (hkn : k ≤ n) : openE D n = some e := by
  induction n with
  | zero => obtain rfl : k = 0 := by omega
            exact h
  | succ n ih =>
    rcases Nat.lt_or_ge n k with h1 | h1
    · obtain rfl : k = n + 1 := by omega
      exact h
    · unfold openE; rw [ih h1]
theorem owns_row {w:World}{base m cap:Nat}{a:Option Addr}{l:List (BitVec 64)}(h:w.ownsRow base 42 1 (.slice a m cap) m (cellsK .u64 l))(hl:l.length=m)(hm:1≤m):∃ g,a=some ⟨g,0,none⟩∧base≤g∧RowW w g l:=by
 have hv:=owns_vsIn (by rw [cellsK_length];exact hl) h;obtain ⟨_,⟨hv,h0⟩|⟨g,cap2,cur,hv2,hg,hblk,hcap,hm,hsz,htake⟩⟩:=h
 ·omega
 ·simp only [Value.slice.injEq] at hv2;obtain ⟨rfl,_,rfl⟩:=hv2;have hblk:Blk w g cur 42:=hblk;refine ⟨g,rfl,hg,cur,hblk,fun i hi=>?_⟩;obtain ⟨b,off,e1,e2⟩:=hv.at_.cell (i:=i) (by rw [cellsK_length];exact hi);simp only [Option.some.injEq,Addr.mk.injEq] at e1;obtain ⟨rfl,rfl,_⟩:=e1;rw [Nat.zero_add,hblk.cell] at e2;rw [e2];simp [cellsK,List.getD,hi]
theorem get_one {D:NM.Dv}{off:Int}(h:(D.get off 1).2=0):(D.get off 1).1.length=1:=by
 unfold NM.Dv.get at h ⊢;split at h
 ·rename_i h1;rw [if_pos h1];split at h
  ·rename_i h2;rw [if_pos h2,wordsAt_len];rfl
  ·simp at h
 ·rename_i h1;exact absurd h h1
theorem tabD_len (D:NM.Dv)(k:Nat):(tabD D k).length=k:=by simp [tabD]
section
variable {w w':World} {b p:Nat} {s:HM.Shape} {T H:List (BitVec 64)} {tb tc hb hc:Nat} {F:Nat→Prop} {D:NM.Dv}
set_option maxHeartbeats 4000000
theorem entry_calls' (i:Nat)(w:World){C:Array Value}(h:Blk w b C 155)(hC:C[3]?=some (.int .i64 128))(hi:i≤1000):Ret Tryz.prog 82 #[.pointer (some ⟨b,0,none⟩),.int .i64 (i:Int)] w fun v w'=>v=.int .i64 ((128+8*i:Nat):Int)∧w'=w:=by
 have k1:=IntWalk.i64_in (8*(i:Int)) (by omega);have k2:=IntWalk.i64_in (128+8*(i:Int)) (by omega);refine ret_of (args:=[_,_]) _ Tryz.func82 rfl Tryz.ntmps82 (by simp) ?_;simp -implicitDefEqProofs [go_sem,h.cell,hC,k1,k2];refine body_tmp 4 rfl ?_;simp -implicitDefEqProofs [go_sem]
def OpenP (w0:World)(p:Nat)(D:NM.Dv)(n:Nat)(v:Value)(w':World):Prop :=
 (D.openH.2≠0∧v=.tuple #[.pointer none,.int .i64 D.openH.2]∧Below w0.heap.size w0 w') ∨
 (D.openH.2=0∧((∃ e,openE D n=some e∧v=.tuple #[.pointer none,.int .i64 e]∧Below w0.heap.size w0 w') ∨
  (openE D n=none∧∃ b tb tc hb hc,v=.tuple #[.pointer (some ⟨b,0,none⟩),.int .i64 0]∧PoolAt w' b p D.openH.1 (tabD D n) (List.replicate n 0#64) tb tc hb hc∧Below w0.heap.size w0 w'∧(∀ k,(k=b∨k=tb∨k=hb)→w0.heap.size≤k))))
theorem poolOpen_calls (n:Nat)(w0:World)(h:DevB w0 p F D)(hF:Fours w0)(hn:1≤n∧n≤64)(hsl:D.openH.2=0→D.openH.1.slabs=n∧D.openH.1.table=128) :
  Ret Tryz.prog 49 #[.pointer (some ⟨p,0,none⟩)] w0 fun v w'=>OpenP w0 p D n v w':=by
 have bel0:=Below.refl w0.heap.size w0;have hst:Tryz.prog.underlying 54=_:=Tryz.underlying54;have h0:=h;refine ret_of (args:=[_]) _ Tryz.func49 rfl Tryz.ntmps49 (by simp) ?_;simp -implicitDefEqProofs [go_sem];refine callE_of (openH_calls w0 h hF) ?_;rintro v w1 ⟨rfl,b1⟩;have bel1:=btr bel0 b1;replace h:=h.next b1
 replace hF:=hF.next b1
 simp -implicitDefEqProofs [go_sem,↓stShape D.openH.1];generalize hw2:World.alloc w1 _=w2 at *;obtain ⟨hB2,b2,sz2,bel2⟩:=newF hw2 bel1;replace h:=h.next b2
 replace hF:=hF.next b2
 by_cases he:D.openH.2=0
 ·have he':(D.openH.2 != 0)=false:=by rw [bne_eq_false_iff_eq];exact he
  obtain ⟨hs1,hs2⟩:=hsl he;generalize hsh:D.openH.1=sh at *;simp -implicitDefEqProofs [go_sem,he,he'];refine drawE_mix [.pure 0,.pure 2,.take 1,.run 3 [1],.run 4 [1],.run 5 [],.run 6 [],.pure 7] mixed (by decide +kernel) (by simp only [wo];rfl) ?_;replace h:=h.next (Below.refl _ _).drew
  replace hB2:=hB2.next (Below.refl _ _).drew
  have hF3:=hF.next (Below.refl _ _).drew
  have bel3:=bel2.drew;generalize World.drew w2=w3 at *;have hmk:=fun w=>run_make_n (P:=Tryz.prog) (t:=100) (e:=42) (z:=.int .u64 0) (bytes:=8) Tryz.underlying100 (by kernel_rfl) rfl .i64 .i64 n (by omega) (by omega) w
  have hl:=fun (w:World) (hB:Blk w w1.heap.size (shapeC sh) 54)=>ldAll (P:=Tryz.prog) hB hst rfl (shapeI sh) rfl
  simp -implicitDefEqProofs [go_sem,↓hl _ hB2];refine onTake_of (fun w'=>Below w3.heap.size w3 w') (.agg (shapeC sh)) (Below.refl _ _) (fun w' hw=>by simp -implicitDefEqProofs [go_sem,(hB2.next hw).cell,shapeC_0,shapeC_1,shapeC_2,shapeC_3];rfl) ?_;simp -implicitDefEqProofs [go_sem,hB2.cell,shapeC_1,hs1,hmk];refine ⟨.inr ((Below.refl _ _).alloc (Nat.le_refl _) _),?_⟩;generalize hw4:World.alloc w3 _=w4 at *;obtain ⟨hB4,b4,sz4,bel4⟩:=newF hw4 bel3;replace h:=h.next b4
  replace hB2:=hB2.next b4
  simp -implicitDefEqProofs [go_sem,shapeC];generalize hw5:World.alloc w4 _=w5 at *;obtain ⟨hB5,b5,sz5,bel5⟩:=newF hw5 bel4;replace h:=h.next b5
  replace hB2:=hB2.next b5
  replace hB4:=hB4.next b5
  simp -implicitDefEqProofs [go_sem,hB2.cell,shapeC_1,hs1];have hs2':sh.table=128:=hs2;refine wpE_loop (fun e' w'=>∃ (k c:Nat) (a:Option Addr),k≤n∧e' 0=.pointer (some ⟨p,0,none⟩)∧e' 6=.pointer (some ⟨w4.heap.size,0,none⟩)∧e' 26=.int .i64 (n:Int)∧e' 27=.int .i64 (k:Int) ∧
   Blk w' w4.heap.size #[.pointer (some ⟨p,0,none⟩),.int .i64 sh.lines,.int .i64 sh.slabs,.int .i64 sh.table,.int .i64 sh.data,.slice a k c,.slice (some ⟨w3.heap.size,0,none⟩) n n] 155 ∧
   Blk w' w3.heap.size (Array.replicate n (.int .u64 0)) 42∧w'.ownsRow w5.heap.size 42 1 (.slice a k c) k (cellsK .u64 (tabD D k))∧openE D k=none∧Below w0.heap.size w0 w'∧w5.heap.size≤w'.heap.size) (fun e' _=>n-(intOf (e' 27)).toNat) ?_ ?_
  ·refine ⟨0,0,none,Nat.zero_le _,?_⟩;simp -implicitDefEqProofs [go_sem];exact ⟨hB5,hB4,World.ownsRow_nil _ _ _ _,rfl,bel5⟩
  ·rintro e' w6 ⟨k,c,a,hk,g0,g6,g26,g27,hBp,hBh,hown,hoe,bel6,hsz6⟩;have h6:=h0.next bel6
   by_cases hlt:k<n
   ·have hlt':(k:Int)<n:=by omega
    have hk1000:k≤1000:=by omega
    simp -implicitDefEqProofs [go_sem,g0,g6,g26,g27,hlt,hlt'];refine callE_of (entry_calls' k w6 hBp (by simp [hs2']) hk1000) ?_;rintro v w7 ⟨rfl,rfl⟩;simp -implicitDefEqProofs [go_sem,g0,g6];refine callE_of (get_calls' ((128+8*k:Nat):Int) 1 w7 h6 (by unfold I64;omega) (by unfold I64;omega)) ?_;rintro v w8 ⟨b8,a8,c8,rfl,hin8,hnew8⟩;by_cases he8:(D.get ((128+8*k:Nat):Int) 1).2=0
    ·have hlen:(D.get ((128+8*k:Nat):Int) 1).1.length=1:=get_one he8;have hbad:openE D (k+1)=badD D k:=by unfold openE;rw [hoe]
     unfold badD at hbad;rw [if_neg (by rw [he8];simp)] at hbad;have bel8:=btr bel6 b8;obtain ⟨ba,oa,rfl,ga⟩:=hin8.at_.cellD (i:=0) (by rw [hlen];decide);have htab:=tabD_succ D k;have eword:(D.get ((128+8*k:Nat):Int) 1).1.getD 0 0#64=wordD D k:=rfl;rw [eword,Nat.add_zero] at ga;obtain ⟨x,ex⟩:∃ x,x=wordD D k:=⟨_,rfl⟩;rw [← ex] at ga hbad htab;rw [hlen,he8];simp -implicitDefEqProofs [go_sem,ga];refine callE_of (right_calls x w8) ?_;rintro v w9 ⟨rfl,b9⟩;have bel9:=btr bel8 b9
     have hin9:=hin8.next b9
     by_cases hr:WM.rightM x=true
     ·rw [if_pos hr] at hbad;rw [hr];simp -implicitDefEqProofs [go_sem];refine drawE_mix [.pure 0,.pure 1,.pure 2,.pure 3,.pure 5,.pure 6,.take 4,.run 7 [4],.run 8 [4],.run 9 [],.pure 10,.pure 11,.run 12 []] mixed (by decide +kernel) (by simp only [wo];rfl) ?_;have bd:=(Below.refl w9.heap.size w9).drew;have hBp10:=((hBp.next b8).next b9).next bd
      have hBh10:=((hBh.next b8).next b9).next bd
      have hown10:=ownsRow_next (ownsRow_next (ownsRow_next hown b8) b9) bd;have hin10:=hin9.next bd
      have bel10:=bel9.drew;have hsz10:w5.heap.size≤w9.drew.heap.size:=by have:=b8.size;have:=b9.size;have:=bd.size;omega
      have ga10:w9.drew.cell? ⟨ba,oa,none⟩=some (.int .u64 (uv x)):=(b9.drew.cell (p:=⟨_,_,none⟩) (World.block_lt_of_cell? w8 _ ga)).trans ga;generalize World.drew w9=w10 at *;simp -implicitDefEqProofs [go_sem,g6,hBp10.cell];refine onTake_of (fun w'=>Below w10.heap.size w10 w') (.slice a k c) (Below.refl _ _) (fun w' hw=>by simp -implicitDefEqProofs [go_sem,g6,(hBp10.next hw).cell]) ?_
      obtain ⟨a11,c11,w11,hr11,hown11,bel11,hsz11⟩:=push_u64 (w0:=w10) w5.heap.size hown10 (by omega) hsz10 (Below.refl _ _) x;simp -implicitDefEqProofs [go_sem,g6,hBp10.cell,ga10,hr11];refine ⟨.inr ((Below.refl _ _).alloc (Nat.le_refl _) _),?_⟩;have hlt4:w4.heap.size<w5.heap.size:=by omega
      have hlt3:w3.heap.size<w4.heap.size:=by omega
      have hBp11:Blk w11 w4.heap.size _ _:=(bel11.block _ hlt4).trans hBp10;have hBh11:Blk w11 w3.heap.size _ _:=(bel11.block _ (by omega)).trans hBh10;obtain ⟨k',hk'⟩:∃ k',k'=k+1:=⟨_,rfl⟩;have hm12:=(Mod.refl (fun j=>j=w4.heap.size) w11).setCell (a:=⟨w4.heap.size,5,none⟩) (.inl rfl) (.slice a11 (k+1) c11);have hBp12:=hBp11.set 5 (.slice a11 (k+1) c11);have hBh12:=hBh11.mod hm12 (by omega);have hown12:=ownsRow_mod hown11 hm12 (fun g hg e=>by have:=(hown11.lt g hg).1;omega)
      have hle:w10.heap.size≤w11.heap.size:=bel11.size;have bel12:Below w0.heap.size w0 (w11.setCell ⟨w4.heap.size,5,none⟩ (.slice a11 (k+1) c11)):=(bel10.trans (bel11.mono (by have:=bel3.size;omega))).setCell (by have:=bel3.size;dsimp only;omega) _;simp -implicitDefEqProofs [go_sem,hBp11.cell,hBp11.thaw];rw [← htab,← hk'] at hown12;rw [← hk'] at hBp12 bel12 hbad hm12 hBh12 ⊢;have hsz12:=hm12.size;generalize World.setCell w11 _ _=w12 at *;have hw:=IntWalk.i64_in (k':Int) (by omega)
      have e1:(k:Int)+1=(k':Int):=by omega
      simp -implicitDefEqProofs [go_sem,g27,hw,e1];refine goE_round ⟨k',c11,a11,by omega,?_⟩ ?_
      ·simp -implicitDefEqProofs [go_sem,g0,g6,g26,g27,hw,e1];exact ⟨hBp12,hBh12,hown12,hbad,bel12,by omega⟩
      ·simp -implicitDefEqProofs [go_sem,intOf,g27,hw,e1];omega
     ·have hr':WM.rightM x=false:=by simpa using hr
      rw [if_neg hr] at hbad;rw [hr'];simp -implicitDefEqProofs [go_sem];refine body_tmp2 2 3 rfl ?_;simp -implicitDefEqProofs [go_sem];exact .inr ⟨he,.inl ⟨5,openE_keep hbad (by omega),rfl,bel9⟩⟩
    ·have he9:((D.get ((128+8*k:Nat):Int) 1).2 != 0)=true:=by rw [bne_iff_ne];exact he8
     have hbad:openE D (k+1)=some (D.get ((128+8*k:Nat):Int) 1).2:=by
      unfold openE;rw [hoe];unfold badD;rw [if_pos he8]
     generalize (D.get ((128+8*k:Nat):Int) 1).2=er at *;simp -implicitDefEqProofs [go_sem,he9];refine body_tmp2 2 3 rfl ?_;simp -implicitDefEqProofs [go_sem];exact .inr ⟨he,.inl ⟨er,openE_keep hbad (by omega),rfl,btr bel6 b8⟩⟩
   ·obtain rfl:k=n:=by omega
    simp -implicitDefEqProofs [go_sem,g0,g6,g26,g27];refine body_tmp2 2 3 rfl ?_;simp -implicitDefEqProofs [go_sem,g6];obtain ⟨tb,rfl,htb,hrow⟩:=owns_row hown (tabD_len D k) hn.1;refine .inr ⟨he,.inr ⟨hoe,w4.heap.size,tb,c,w3.heap.size,k,rfl,⟨?_,hrow,⟨_,hBh,fun i hi=>?_⟩,?_,?_,?_,?_⟩,bel6,?_⟩⟩
    ·rw [tabD_len,hsh];exact hBp
    ·have hi':i<k:=by simpa using hi
     simp [hi',List.getD,uv]
    ·rw [tabD_len,List.length_replicate]
    ·omega
    ·omega
    ·omega
    ·have:=bel3.size;rintro j (rfl|rfl|rfl)<;>omega
 ·have he':(D.openH.2 != 0)=true:=by rw [bne_iff_ne];exact he
  simp -implicitDefEqProofs [go_sem,he,he'];refine body_tmp2 2 3 rfl ?_;simp -implicitDefEqProofs [go_sem];exact .inl ⟨he,rfl,bel2⟩
end
end
end Go.Proofs.YtaaihijkdhmcdaaGreatDoor
