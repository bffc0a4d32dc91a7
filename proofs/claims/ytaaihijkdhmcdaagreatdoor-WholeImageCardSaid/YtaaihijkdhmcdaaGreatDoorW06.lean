/- WholeImage, part 7 of 38: contracts and lemmas of its proof. Conditions: none. -/
import Derived.Test.YtaaihijkdhmcdaaGreatDoorW05
set_option linter.unusedVariables false
set_option linter.unusedSimpArgs false
set_option maxRecDepth 100000
namespace Go.Proofs.YtaaihijkdhmcdaaGreatDoor
section
open Go Go.RowKit
structure St (W w:World) (p:Nat) (F:Nat→Prop) (D:NM.Dv):Prop where
 dev:DevB w p F D
 bel:Below W.heap.size W w
 ge:∀ k,F k→W.heap.size≤k
section
variable {W w w':World} {p:Nat} {F F':Nat→Prop} {D D':NM.Dv}
theorem St.step (h:St W w p F D)(hd:DevB w' p F' D')(ht:Turn w F w' F'):St W w' p F' D' :=
 ⟨hd,h.bel.trans (ht.below h.bel.size h.ge),ht.ge h.bel.size h.ge⟩
structure Apart (w:World) (F:Nat→Prop) (a:Option Addr) (l:List (BitVec 8)) (c:Nat):Prop where
 in_:SlIn .u8 w a l c
 sep:∀ y,a=some y→y.block<w.heap.size∧¬ F y.block
theorem Apart.turn {a:Option Addr}{l:List (BitVec 8)}{c:Nat}(h:Apart w F a l c)(ht:Turn w F w' F'):Apart w' F' a l c:=by
 refine ⟨h.in_.mod ht.mod (fun b hb=>?_),fun y hy=>?_⟩
 ·obtain ⟨o,ho⟩:=hb;exact (h.sep _ ho).2
 ·obtain ⟨h1,h2⟩:=h.sep y hy;refine ⟨by have:=ht.size;omega,fun hf=>?_⟩
  rcases ht.new _ hf with h3|h3
  ·exact h2 h3
  ·omega
end
end
section
open Go Go.RowKit
namespace NM
open Go.Proofs.YtaaihijkdhmcdaaGreatDoor.WM (getM putM putM_length putM_getD hasB get_put byteOf byteOf_wd wd)
def LnStep (l l':Ln):Prop:=(l'.now=l.now∧l'.chg.length≤l.chg.length)∨(l'.now≠l.now∧l'.chg.length=l.chg.length+1)
theorem LnStep.refl (l:Ln):LnStep l l:=.inl ⟨rfl,Nat.le_refl _⟩
theorem setLn_step (D:Dv)(i:Nat)(hi:i<D.ls.length)(l':Ln)(h:LnStep (D.ln i) l')(k:Nat):LnStep (D.ln k) ((D.setLn i l').ln k):=by
 rw [Dv.setLn_ln D i l' hi];split
 ·rename_i h2;subst h2;exact h
 ·exact .refl _
theorem store_step {D:Dv}(h:D.Ok)(hp:0<D.ls.length)(off:Int)(n:BitVec 64)(k:Nat):LnStep (D.ln k) ((D.store off n).1.ln k):=by
 by_cases ha:D.ask off 8=0
 ·obtain ⟨o,rfl,ho8,hos⟩:=ask8 hp ha;have hq:o/64<D.ls.length:=by unfold Dv.size at hos;omega
  unfold Dv.store;rw [if_pos ha,Int.toNat_natCast];by_cases hw:D.word o=n
  ·simp only [hw,if_true];exact .refl _
  ·simp only [hw,if_false];show LnStep (D.ln k) ((D.setLn (o/64) _).ln k);refine setLn_step D _ hq _ (.inr ⟨fun e=>hw ?_,by simp [Ln.store]⟩) k;have hlen:=(Dv.Ok0.ln h.to0 (o/64)).len;obtain ⟨q,hq8⟩:∃ q,o%64=8*q:=⟨o%64/8,by omega⟩;have e':putM (D.ln (o/64)).now (o%64) n=(D.ln (o/64)).now:=e;show getM (D.ln (o/64)).now (o%64)=n;rw [← e',hq8,get_put _ q q n (by omega),if_pos rfl]
 ·rw [store_fail off n ha];exact .refl _
theorem flush_step {D:Dv}(hp:0<D.ls.length)(off:Int)(k:Nat):LnStep (D.ln k) ((D.flush off).1.ln k):=by
 unfold Dv.flush;split
 ·rename_i ha;obtain ⟨o,rfl,hos⟩:=ask1 hp ha;have hq:o/64<D.ls.length:=by unfold Dv.size at hos;omega
  show LnStep (D.ln k) ((D.setLn _ _).ln k);rw [Int.toNat_natCast];exact setLn_step D _ hq { D.ln (o/64) with mark:=(D.ln (o/64)).chg.length+1 } (.inl ⟨rfl,Nat.le_refl _⟩) k
 ·exact .refl _
theorem map_ln (D:Dv)(f:Ln→Ln)(k:Nat)(hk:k<D.ls.length):({ D with ls:=D.ls.map f }:Dv).ln k=f (D.ln k):=by
 unfold Dv.ln;simp [List.getD,hk]
theorem fence_ln {D:Dv}(ha:D.ask 0 1=0)(k:Nat)(hk:k<D.ls.length):D.fence.1.ln k=(D.ln k).fence:=by
 unfold Dv.fence;rw [if_pos ha];exact map_ln D Ln.fence k hk
theorem fence_now (l:Ln):l.fence.now=l.now:=by unfold Ln.fence;split<;>rfl
end NM
end
section
open Go Go.RowKit
inductive StepV
 | store (off:Int) (n:BitVec 64)
 | flush (off:Int)
 | fence
def StepV.Ok:StepV→Prop
 | .store off _=>I64 off
 | .flush off=>I64 off
 | .fence=>True
def NM.Dv.step (D:NM.Dv):StepV→NM.Dv × Int
 | .store off n=>D.store off n
 | .flush off=>D.flush off
 | .fence=>D.fence
def runS:NM.Dv→List StepV→NM.Dv × Int
 | D,[]=>(D,0)
 | D,s::l=>if (D.step s).2=0 then runS (D.step s).1 l else D.step s
theorem runS_ok {D:NM.Dv}{s:StepV}(h:(D.step s).2=0)(l:List StepV):runS D (s::l)=runS (D.step s).1 l:=by
 show (if (D.step s).2=0 then _ else _)=_;rw [if_pos h]
theorem runS_err {D:NM.Dv}{s:StepV}(h:¬ (D.step s).2=0)(l:List StepV):runS D (s::l)=D.step s:=by
 show (if (D.step s).2=0 then _ else _)=_;rw [if_neg h]
theorem runS_append (D:NM.Dv)(a b:List StepV):runS D (a++b)=if (runS D a).2=0 then runS (runS D a).1 b else runS D a:=by
 induction a generalizing D with
 | nil=>rfl
 | cons s a ih =>
  by_cases h:(D.step s).2=0
  ·rw [List.cons_append,runS_ok h,runS_ok h];exact ih _
  ·rw [List.cons_append,runS_err h,runS_err h,if_neg h]
theorem step_steps (D:NM.Dv)(s:StepV):(D.step s).1.steps≤D.steps+1:=by
 cases s with
 | store off n=>exact store_steps D off n
 | flush off=>exact flush_steps D off
 | fence=>exact fence_steps D
theorem step_ok {D:NM.Dv}(h:D.Ok)(s:StepV):(D.step s).1.Ok:=by
 cases s with
 | store off n=>exact h.store off n
 | flush off=>exact h.flush off
 | fence=>exact h.fence
theorem step_len (D:NM.Dv)(s:StepV):(D.step s).1.ls.length=D.ls.length:=by
 cases s with
 | store off n=>exact NM.store_len D off n
 | flush off=>exact NM.flush_len D off
 | fence=>exact NM.fence_len D
theorem runS_steps (D:NM.Dv)(l:List StepV):(runS D l).1.steps≤D.steps+l.length:=by
 induction l generalizing D with
 | nil=>simp [runS]
 | cons s l ih =>
  have h1:=step_steps D s;simp only [runS];split
  ·have:=ih (D.step s).1;simp only [List.length_cons];omega
  ·simp only [List.length_cons];omega
theorem runS_len (D:NM.Dv)(l:List StepV):(runS D l).1.ls.length=D.ls.length:=by
 induction l generalizing D with
 | nil=>rfl
 | cons s l ih =>
  simp only [runS];split
  ·rw [ih,step_len]
  ·exact step_len _ _
def StepOk (w:World)(F:Nat→Prop)(p:Nat):StepV→Value→Prop
 | .store off n,v=>∃ b0 b1 b2,v=.func (.func 102) #[] #[.pointer (some ⟨b0,0,none⟩),.pointer (some ⟨b1,0,none⟩),.pointer (some ⟨b2,0,none⟩)]∧(¬ F b0∧¬ F b1∧¬ F b2) ∧
   Blk w b0 #[.pointer (some ⟨p,0,none⟩)] 25∧Blk w b1 #[.int .i64 off] 3∧Blk w b2 #[.int .u64 (uv n)] 42
 | .flush off,v=>∃ b0 b1,v=.func (.func 104) #[] #[.pointer (some ⟨b0,0,none⟩),.pointer (some ⟨b1,0,none⟩)]∧(¬ F b0∧¬ F b1) ∧
   Blk w b0 #[.pointer (some ⟨p,0,none⟩)] 25∧Blk w b1 #[.int .i64 off] 3
 | .fence,v=>v=.func (.func 71) #[.pointer (some ⟨p,0,none⟩)] #[]
section
variable {w w':World} {F F':Nat→Prop} {p:Nat} {s:StepV} {v:Value}
theorem out_turn {b:Nat}(h:¬ F b)(hlt:b<w.heap.size)(ht:Turn w F w' F'):¬ F' b:=fun hf=>by
 rcases ht.new b hf with h2|h2
 ·exact h h2
 ·omega
theorem StepOk.turn (h:StepOk w F p s v)(ht:Turn w F w' F'):StepOk w' F' p s v:=by
 cases s with
 | store off n =>
  obtain ⟨b0,b1,b2,rfl,⟨h0,h1,h2⟩,k0,k1,k2⟩:=h;exact ⟨b0,b1,b2,rfl,⟨out_turn h0 k0.lt ht,out_turn h1 k1.lt ht,out_turn h2 k2.lt ht⟩,k0.mod ht.mod h0,k1.mod ht.mod h1,k2.mod ht.mod h2⟩
 | flush off =>
  obtain ⟨b0,b1,rfl,⟨h0,h1⟩,k0,k1⟩:=h;exact ⟨b0,b1,rfl,⟨out_turn h0 k0.lt ht,out_turn h1 k1.lt ht⟩,k0.mod ht.mod h0,k1.mod ht.mod h1⟩
 | fence=>exact h
theorem StepOk.next (h:StepOk w F p s v)(hb:Below w.heap.size w w'):StepOk w' F p s v:=h.turn (.of hb)
theorem StepOk.func (h:StepOk w F p s v):∃ f x y,v=.func (.func f) x y:=by
 cases s with
 | store off n=>obtain ⟨_,_,_,rfl,_⟩:=h;exact ⟨_,_,_,rfl⟩
 | flush off=>obtain ⟨_,_,rfl,_⟩:=h;exact ⟨_,_,_,rfl⟩
 | fence=>exact ⟨_,_,_,h⟩
theorem StepOk.one (h:StepOk w F p s v):v.oneCell'=true:=by
 cases s with
 | store off n=>obtain ⟨_,_,_,rfl,_⟩:=h;rfl
 | flush off=>obtain ⟨_,_,rfl,_⟩:=h;rfl
 | fence=>rw [show v=_ from h];rfl
end
section
variable {p:Nat} {F:Nat→Prop} {D:NM.Dv}
theorem store1_calls (off:Int)(n:BitVec 64)(b0 b1 b2:Nat)(w:World)(h:DevB w p F D)(k0:Blk w b0 #[.pointer (some ⟨p,0,none⟩)] 25)(k1:Blk w b1 #[.int .i64 off] 3)(k2:Blk w b2 #[.int .u64 (uv n)] 42)(ho:I64 off)(hc:D.steps<1099511627776) :
  Ret Tryz.prog 102 #[.pointer (some ⟨b0,0,none⟩),.pointer (some ⟨b1,0,none⟩),.pointer (some ⟨b2,0,none⟩)] w fun v w'=>v=.int .i64 (D.store off n).2∧∃ F',DevB w' p F' (D.store off n).1∧Turn w F w' F':=by
 refine ret_of (args:=[_,_,_]) _ Tryz.func102 rfl Tryz.ntmps102 (by simp) ?_;simp -implicitDefEqProofs [go_sem,k0.cell,k1.cell,k2.cell];refine callE_of (storeB off n w h ho hc) ?_;rintro v w1 ⟨rfl,h1⟩;simp -implicitDefEqProofs [go_sem];refine body_tmp 3 rfl ?_;simp -implicitDefEqProofs [go_sem];exact h1
theorem flush1_calls (off:Int)(b0 b1:Nat)(w:World)(h:DevB w p F D)(k0:Blk w b0 #[.pointer (some ⟨p,0,none⟩)] 25)(k1:Blk w b1 #[.int .i64 off] 3)(ho:I64 off)(hc:D.steps<1099511627776) :
  Ret Tryz.prog 104 #[.pointer (some ⟨b0,0,none⟩),.pointer (some ⟨b1,0,none⟩)] w fun v w'=>v=.int .i64 (D.flush off).2∧∃ F',DevB w' p F' (D.flush off).1∧Turn w F w' F':=by
 refine ret_of (args:=[_,_]) _ Tryz.func104 rfl Tryz.ntmps104 (by simp) ?_;simp -implicitDefEqProofs [go_sem,k0.cell,k1.cell];refine callE_of (flushB off w h ho hc) ?_;rintro v w1 ⟨rfl,h1⟩;simp -implicitDefEqProofs [go_sem];refine body_tmp 2 rfl ?_;simp -implicitDefEqProofs [go_sem];exact h1
theorem mkStore_calls (off:Int)(n:BitVec 64)(w0:World)(h:DevB w0 p F D) :
  Ret Tryz.prog 68 #[.pointer (some ⟨p,0,none⟩),.int .i64 off,.int .u64 (uv n)] w0 fun v w'=>Below w0.heap.size w0 w'∧StepOk w' F p (.store off n) v:=by
 have bel0:=Below.refl w0.heap.size w0;have hlt:=h.lt;refine ret_of (args:=[_,_,_]) _ Tryz.func68 rfl Tryz.ntmps68 (by simp) ?_;simp -implicitDefEqProofs [go_sem];generalize hw1:World.alloc w0 _=w1 at *;obtain ⟨hB1,b1,sz1,bel1⟩:=newF hw1 bel0;generalize hw2:World.alloc w1 _=w2 at *;obtain ⟨hB2,b2,sz2,bel2⟩:=newF hw2 bel1;replace hB1:=hB1.next b2
 generalize hw3:World.alloc w2 _=w3 at *;obtain ⟨hB3,b3,sz3,bel3⟩:=newF hw3 bel2;replace hB1:=hB1.next b3
 replace hB2:=hB2.next b3
 refine body_tmp 6 rfl ?_;refine ⟨bel3,w0.heap.size,w0.heap.size+1,w0.heap.size+1+1,?_,⟨fun hf=>?_,fun hf=>?_,fun hf=>?_⟩,hB1,?_,?_⟩
 ·simp -implicitDefEqProofs [go_sem]
 ·have:=hlt _ hf;omega
 ·have:=hlt _ hf;omega
 ·have:=hlt _ hf;omega
 ·rw [sz1] at hB2;exact hB2
 ·rw [sz2,sz1] at hB3;exact hB3
theorem mkFlush_calls (off:Int)(w0:World)(h:DevB w0 p F D) :
  Ret Tryz.prog 69 #[.pointer (some ⟨p,0,none⟩),.int .i64 off] w0 fun v w'=>Below w0.heap.size w0 w'∧StepOk w' F p (.flush off) v:=by
 have bel0:=Below.refl w0.heap.size w0;have hlt:=h.lt;refine ret_of (args:=[_,_]) _ Tryz.func69 rfl Tryz.ntmps69 (by simp) ?_;simp -implicitDefEqProofs [go_sem];generalize hw1:World.alloc w0 _=w1 at *;obtain ⟨hB1,b1,sz1,bel1⟩:=newF hw1 bel0;generalize hw2:World.alloc w1 _=w2 at *;obtain ⟨hB2,b2,sz2,bel2⟩:=newF hw2 bel1;replace hB1:=hB1.next b2
 refine body_tmp 4 rfl ?_;refine ⟨bel2,w0.heap.size,w0.heap.size+1,?_,⟨fun hf=>?_,fun hf=>?_⟩,hB1,?_⟩
 ·simp -implicitDefEqProofs [go_sem]
 ·have:=hlt _ hf;omega
 ·have:=hlt _ hf;omega
 ·rw [sz1] at hB2;exact hB2
structure StepsIn (w:World) (F:Nat→Prop) (p:Nat) (a:Option Addr) (vs:List Value) (ss:List StepV) (cap:Nat):Prop where
 at_:VsIn w a vs cap
 sep:∀ y,a=some y→y.block<w.heap.size∧¬ F y.block
 len:vs.length=ss.length
 step:∀ i (h:i<ss.length) (h':i<vs.length),StepOk w F p ss[i] vs[i]
theorem StepsIn.turn {w w':World}{F':Nat→Prop}{a:Option Addr}{vs:List Value}{ss:List StepV}{cap:Nat}(h:StepsIn w F p a vs ss cap)(ht:Turn w F w' F'):StepsIn w' F' p a vs ss cap:=by
 refine ⟨⟨h.at_.at_.mod ht.mod (fun b hb=>?_),h.at_.le,h.at_.max,h.at_.nil⟩,fun y hy=>?_,h.len,fun i hi hi'=>(h.step i hi hi').turn ht⟩
 ·obtain ⟨o,ho⟩:=hb;exact (h.sep _ ho).2
 ·obtain ⟨h1,h2⟩:=h.sep y hy;exact ⟨by have:=ht.size;omega,out_turn h2 h1 ht⟩
set_option maxHeartbeats 1000000 in
theorem run_calls (a:Option Addr)(vs:List Value)(ss:List StepV)(cap:Nat)(w0:World)(h:DevB w0 p F D)(hin:StepsIn w0 F p a vs ss cap)(hok:∀ s∈ss,s.Ok)(hc:D.steps+ss.length<1099511627776) :
  Ret Tryz.prog 70 #[.slice a ss.length cap] w0 fun v w'=>v=.int .i64 (runS D ss).2∧∃ F',DevB w' p F' (runS D ss).1∧Turn w0 F w' F':=by
 have hmax:=hin.at_.max;have hle:=hin.at_.le;have hlen:=hin.len;refine ret_of (args:=[_]) _ Tryz.func70 rfl Tryz.ntmps70 (by simp) ?_;simp -implicitDefEqProofs [go_sem];refine wpE_loop (fun e' w'=>∃ (k:Nat) (F':Nat→Prop) (E:NM.Dv),k≤ss.length∧e' 6=.slice a ss.length cap∧e' 7=.int .i64 ss.length∧e' 8=.int .i64 k∧DevB w' p F' E∧Turn w0 F w' F'∧StepsIn w' F' p a vs ss cap∧runS D ss=runS E (ss.drop k)∧E.steps≤D.steps+k) (fun e' _=>ss.length-(intOf (e' 8)).toNat) ?_ ?_
 ·refine ⟨0,F,D,by omega,?_⟩;simp -implicitDefEqProofs [go_sem];exact ⟨h,Turn.refl _ _,hin⟩
 ·rintro e' w1 ⟨k,F1,E,hk,g6,g7,g8,hE,ht1,hin1,hrun,hst⟩;by_cases hlt:k<ss.length
  ·have hlt':(k:Int)<ss.length:=by omega
   have hwk:=IntWalk.i64_in ((k:Int)+1) (by omega);obtain ⟨b,o,rfl,hcv⟩:=hin1.at_.at_.cell (i:=k) (by omega);have hso:=hin1.step k hlt (by omega);have hsk:(ss[k]).Ok:=hok _ (List.getElem_mem hlt);rw [List.drop_eq_getElem_cons hlt] at hrun;have hget:ss[k]?=some ss[k]:=by simp [hlt]
   generalize hsv:ss[k]=s at *;have fin:∀ (w2:World) (F2:Nat→Prop),DevB w2 p F2 (E.step s).1→Turn w1 F1 w2 F2→(E.step s).2=0→DevB w2 p F2 (E.step s).1∧Turn w0 F w2 F2∧StepsIn w2 F2 p (some ⟨b,o,none⟩) vs ss cap∧runS D ss=runS (E.step s).1 (ss.drop (k+1))∧(E.step s).1.steps≤D.steps+(k+1):=by
    intro w2 F2 h2 t2 he;exact ⟨h2,ht1.trans t2,hin1.turn t2,by rw [hrun,runS_ok he],by have:=step_steps E s;omega⟩
   have ferr:¬ (E.step s).2=0→runS D ss=E.step s:=fun he=>by rw [hrun,runS_err he]
   cases s with
   | store off n =>
    obtain ⟨b0,b1,b2,hv,_,k0,k1,k2⟩:=hso;have hcall:=store1_calls off n b0 b1 b2 w1 hE k0 k1 k2 hsk (by omega);have est:E.store off n=E.step (.store off n):=rfl;rw [est] at hcall;generalize E.step (.store off n)=r at *;rw [hv] at hcv;simp -implicitDefEqProofs [go_sem,g6,g7,g8,hlt,hlt',hcv];refine callE_of hcall ?_;rintro v w2 ⟨rfl,F2,h2,t2⟩;by_cases he:r.2=0
    ·simp -implicitDefEqProofs [go_sem,g6,g7,g8,he,hwk];refine goE_round ⟨k+1,F2,r.1,by omega,?_⟩ ?_
     ·simp -implicitDefEqProofs [go_sem,g6,g7];exact fin w2 F2 h2 t2 he
     ·simp -implicitDefEqProofs [go_sem,intOf,g8,hwk];omega
    ·have he':(r.2 != 0)=true:=by rw [bne_iff_ne];exact he
     simp -implicitDefEqProofs [go_sem,g6,g7,g8,he,he'];refine body_tmp 2 rfl ?_;rw [ferr he];simp -implicitDefEqProofs [go_sem];exact ⟨F2,h2,ht1.trans t2⟩
   | flush off =>
    obtain ⟨b0,b1,hv,_,k0,k1⟩:=hso;have hcall:=flush1_calls off b0 b1 w1 hE k0 k1 hsk (by omega);have est:E.flush off=E.step (.flush off):=rfl;rw [est] at hcall;generalize E.step (.flush off)=r at *;rw [hv] at hcv;simp -implicitDefEqProofs [go_sem,g6,g7,g8,hlt,hlt',hcv];refine callE_of hcall ?_;rintro v w2 ⟨rfl,F2,h2,t2⟩;by_cases he:r.2=0
    ·simp -implicitDefEqProofs [go_sem,g6,g7,g8,he,hwk];refine goE_round ⟨k+1,F2,r.1,by omega,?_⟩ ?_
     ·simp -implicitDefEqProofs [go_sem,g6,g7];exact fin w2 F2 h2 t2 he
     ·simp -implicitDefEqProofs [go_sem,intOf,g8,hwk];omega
    ·have he':(r.2 != 0)=true:=by rw [bne_iff_ne];exact he
     simp -implicitDefEqProofs [go_sem,g6,g7,g8,he,he'];refine body_tmp 2 rfl ?_;rw [ferr he];simp -implicitDefEqProofs [go_sem];exact ⟨F2,h2,ht1.trans t2⟩
   | fence =>
    have hv:=hso;have hcall:=fenceB w1 hE (by omega);have est:E.fence=E.step .fence:=rfl;rw [est] at hcall;generalize E.step .fence=r at *;rw [hv] at hcv;simp -implicitDefEqProofs [go_sem,g6,g7,g8,hlt,hlt',hcv];refine callE_of hcall ?_;rintro v w2 ⟨rfl,F2,h2,t2⟩;by_cases he:r.2=0
    ·simp -implicitDefEqProofs [go_sem,g6,g7,g8,he,hwk];refine goE_round ⟨k+1,F2,r.1,by omega,?_⟩ ?_
     ·simp -implicitDefEqProofs [go_sem,g6,g7];exact fin w2 F2 h2 t2 he
     ·simp -implicitDefEqProofs [go_sem,intOf,g8,hwk];omega
    ·have he':(r.2 != 0)=true:=by rw [bne_iff_ne];exact he
     simp -implicitDefEqProofs [go_sem,g6,g7,g8,he,he'];refine body_tmp 2 rfl ?_;rw [ferr he];simp -implicitDefEqProofs [go_sem];exact ⟨F2,h2,ht1.trans t2⟩
  ·have hk':k=ss.length:=by omega
   subst hk';rw [List.drop_length] at hrun;simp -implicitDefEqProofs [go_sem,g6,g7,g8];refine body_tmp 2 rfl ?_;rw [hrun];simp -implicitDefEqProofs [go_sem,runS];exact ⟨F1,hE,ht1⟩
end
end
section
open Go Go.RowKit
def NM.Dv.within (D:NM.Dv)(off many:Int):Int :=
 if D.ls.length=0 then 1 else if off<0∨(D.size:Int)<off∨off.tmod 8≠0 then 4 else if many<0∨((D.size:Int)-off).tdiv 8<many then 4 else 0
def putS (off:Int)(n:BitVec 64):List StepV:=[.store off n,.flush off,.fence]
section
variable {p:Nat} {F:Nat→Prop} {D:NM.Dv}
theorem within_calls (off many:Int)(w:World)(h:DevB w p F D)(ho:I64 off)(hm:I64 many) :
  Ret Tryz.prog 67 #[.pointer (some ⟨p,0,none⟩),.int .i64 off,.int .i64 many] w fun v w'=>v=.int .i64 (D.within off many)∧w'=w:=by
 have hpos:=h.pos;have hmost:=h.ok.most;have hs0:((D.size:Int)==0)=false:=by rw [beq_eq_false_iff_ne];unfold NM.Dv.size;omega
 have hs0':¬ D.size=0:=by unfold NM.Dv.size;omega
 have hl0:¬ D.ls.length=0:=by omega
 have hsz:(D.size:Int)≤65536:=by unfold NM.Dv.size;omega
 unfold I64 at ho hm;refine ret_of (args:=[_,_,_]) _ Tryz.func67 rfl Tryz.ntmps67 (by simp) ?_;simp -implicitDefEqProofs [go_sem];refine callE_of (sizeB w h) ?_;rintro v w1 ⟨rfl,rfl⟩;by_cases h1:off<0
 ·simp -implicitDefEqProofs [go_sem,hs0,hs0',h1];refine body_tmp 6 rfl ?_;simp -implicitDefEqProofs [go_sem,NM.Dv.within,hl0,h1]
 by_cases h2:(D.size:Int)<off
 ·simp -implicitDefEqProofs [go_sem,hs0,hs0',h1,h2];refine body_tmp 6 rfl ?_;simp -implicitDefEqProofs [go_sem,NM.Dv.within,hl0,h1,h2]
 by_cases h3:off.tmod 8=0
 ·have h3':(off.tmod 8 != 0)=false:=by rw [bne_eq_false_iff_eq];exact h3
  have hw1:=IntWalk.i64_in ((D.size:Int)-off) (by omega);have hdv:((D.size:Int)-off).tdiv 8≤65536∧0≤((D.size:Int)-off).tdiv 8:=by
   rw [Int.tdiv_eq_ediv_of_nonneg (by omega)];omega
  have hw2:=IntWalk.i64_in (((D.size:Int)-off).tdiv 8) (by omega);have hdd:((D.size:Int)-off).tdiv 8=((D.size:Int)-off)/8:=Int.tdiv_eq_ediv_of_nonneg (by omega);have hw3:=hw2;rw [hdd] at hw3;by_cases h4:many<0
  ·simp -implicitDefEqProofs [go_sem,hs0,hs0',h1,h2,h3',h4];refine body_tmp 6 rfl ?_;simp -implicitDefEqProofs [go_sem,NM.Dv.within,hl0,h1,h2,h3,h4]
  by_cases h5:((D.size:Int)-off).tdiv 8<many
  ·have h5':((D.size:Int)-off)/8<many:=by rw [← hdd];exact h5
   simp -implicitDefEqProofs [go_sem,hs0,hs0',h1,h2,h3',h4,h5,h5',hw1,hw2,hw3];refine body_tmp 6 rfl ?_;simp -implicitDefEqProofs [go_sem,NM.Dv.within,hl0,h1,h2,h3,h4,h5]
  ·have h5':¬ ((D.size:Int)-off)/8<many:=by rw [← hdd];exact h5
   simp -implicitDefEqProofs [go_sem,hs0,hs0',h1,h2,h3',h4,h5,h5',hw1,hw2,hw3];refine body_tmp 6 rfl ?_;simp -implicitDefEqProofs [go_sem,NM.Dv.within,hl0,h1,h2,h3,h4,h5]
 ·have h3':(off.tmod 8 != 0)=true:=by rw [bne_iff_ne];exact h3
  simp -implicitDefEqProofs [go_sem,hs0,hs0',h1,h2,h3'];refine body_tmp 6 rfl ?_;simp -implicitDefEqProofs [go_sem,NM.Dv.within,hl0,h1,h2,h3]
set_option maxHeartbeats 1000000 in
theorem put_calls' (off:Int)(n:BitVec 64)(w0:World)(h:DevB w0 p F D)(ho:I64 off)(hc:D.steps+3<1099511627776) :
  Ret Tryz.prog 168 #[.pointer (some ⟨p,0,none⟩),.int .i64 off,.int .u64 (uv n)] w0 fun v w'=>v=.int .i64 (runS D (putS off n)).2∧∃ F',DevB w' p F' (runS D (putS off n)).1∧Turn w0 F w' F':=by
 have bel0:=Below.refl w0.heap.size w0;refine ret_of (args:=[_,_,_]) _ Tryz.func168 rfl Tryz.ntmps168 (by simp) ?_;simp -implicitDefEqProofs [go_sem];refine callE_of (mkStore_calls off n w0 h) ?_;rintro v1 w1 ⟨b1,s1⟩;have bel1:=btr bel0 b1;replace h:=h.next b1
 simp -implicitDefEqProofs [go_sem];refine callE_of (mkFlush_calls off w1 h) ?_;rintro v2 w2 ⟨b2,s2⟩;have bel2:=btr bel1 b2;replace h:=h.next b2
 replace s1:=s1.next b2
 have hlt2:=h.lt;obtain ⟨f1,x1,y1,rfl⟩:=s1.func;obtain ⟨f2,x2,y2,rfl⟩:=s2.func;simp -implicitDefEqProofs [go_sem];generalize hw3:World.alloc w2 _=w3 at *;obtain ⟨hB3,b3,sz3,bel3⟩:=newF hw3 bel2;replace h:=h.next b3
 replace s1:=s1.next b3
 replace s2:=s2.next b3
 have hin:StepsIn w3 F p (some ⟨w2.heap.size,0,none⟩) [.func (.func f1) x1 y1,.func (.func f2) x2 y2,.func (.func 71) #[.pointer (some ⟨p,0,none⟩)] #[]] (putS off n) 3:=by
  refine ⟨⟨vsAt_blk hB3 (fun i hi=>?_),by simp,by decide,fun h=>by cases h⟩,fun y hy=>?_,rfl,fun i hi hi'=>?_⟩
  ·have:i=0∨i=1∨i=2:=by simp at hi;omega
   rcases this with rfl|rfl|rfl<;>rfl
  ·obtain rfl:_=y:=Option.some.inj hy;exact ⟨by simp;omega,fun hf=>by have:=hlt2 _ hf;simp at this⟩
  ·have:i=0∨i=1∨i=2:=by simp [putS] at hi;omega
   rcases this with rfl|rfl|rfl
   ·exact s1
   ·exact s2
   ·rfl
 have hrun:=run_calls (some ⟨w2.heap.size,0,none⟩) _ (putS off n) 3 w3 h hin (by
  intro s hs;simp [putS] at hs
  rcases hs with rfl|rfl|rfl
  ·exact ho
  ·exact ho
  ·trivial) (by simpa [putS] using hc)
 refine callE_of hrun ?_;rintro v w4 ⟨rfl,F4,h4,t4⟩;simp -implicitDefEqProofs [go_sem];refine body_tmp 6 rfl ?_;simp -implicitDefEqProofs [go_sem];exact ⟨F4,h4,(Turn.of bel3).trans t4⟩
end
end
section
open Go Go.RowKit
def storesS (off:Nat)(l:List (BitVec 64))(k:Nat):List StepV:=(List.range k).map fun i=>.store ((off+8*i:Nat):Int) (l.getD i 0#64)
def flushesS (off:Nat)(m:Nat):List StepV:=(List.range m).map fun i=>.flush ((64*(off/64+i):Nat):Int)
def linesOf (off n:Nat):Nat:=if n=0 then 0 else (off+8*n-1)/64-off/64+1
def putAllS (off:Nat)(l:List (BitVec 64)):List StepV:=storesS off l l.length++(flushesS off (linesOf off l.length)++[.fence])
def NM.Dv.putAll (D:NM.Dv)(off:Int)(l:List (BitVec 64)):NM.Dv × Int:=if D.within off l.length=0 then runS D (putAllS off.toNat l) else (D,D.within off l.length)
theorem storesS_succ (off:Nat)(l:List (BitVec 64))(k:Nat):storesS off l (k+1)=storesS off l k++[.store ((off+8*k:Nat):Int) (l.getD k 0#64)]:=by
 unfold storesS;rw [List.range_succ,List.map_append];rfl
theorem flushesS_succ (off k:Nat):flushesS off (k+1)=flushesS off k++[.flush ((64*(off/64+k):Nat):Int)]:=by
 unfold flushesS;rw [List.range_succ,List.map_append];rfl
theorem storesS_len (off:Nat)(l:List (BitVec 64))(k:Nat):(storesS off l k).length=k:=by simp [storesS]
theorem flushesS_len (off k:Nat):(flushesS off k).length=k:=by simp [flushesS]
theorem within_ok {D:NM.Dv}{off:Int}{n:Nat}(hp:0<D.ls.length)(h:D.within off n=0):∃ o:Nat,off=(o:Int)∧o%8=0∧o+8*n≤D.size:=by
 unfold NM.Dv.within at h;rw [if_neg (by omega)] at h;split at h
 ·cases h
 ·rename_i h1;split at h
  ·cases h
  ·rename_i h2;have h0:0≤off:=by
    apply Classical.byContradiction;intro h;exact h1 (.inl (by omega))
   obtain ⟨o,rfl⟩:=Int.eq_ofNat_of_zero_le h0;have h3:(o:Int)≤D.size:=by
    apply Classical.byContradiction;intro h;exact h1 (.inr (.inl (by omega)))
   have h4:(o:Int).tmod 8=0:=by
    apply Classical.byContradiction;intro h;exact h1 (.inr (.inr h))
   rw [Int.tmod_eq_emod_of_nonneg h0] at h4;have h5:¬ ((D.size:Int)-o).tdiv 8<(n:Int):=fun h=>h2 (.inr h)
   rw [Int.tdiv_eq_ediv_of_nonneg (by omega)] at h5;exact ⟨o,rfl,by omega,by omega⟩
theorem not_row {w:World}{b:Nat}{C:Array Value}{t e:TypeId}(h:Blk w b C t)(hte:t≠e){base size k:Nat}{v:Value}{xs:List Value}(hr:w.ownsRow base e size v k xs):some b≠v.ownBlock:=by
 rcases hr.2 with ⟨rfl,_⟩|⟨g,cap,cur,rfl,_,hgb,_⟩
 ·simp [Value.ownBlock]
 ·intro e';obtain rfl:b=g:=by simpa [Value.ownBlock] using e'
  have:=(show w.heap[b]?=_ from h).symm.trans hgb;simp at this;exact hte this.2
theorem Blk.grown {w w':World}{b:Nat}{C:Array Value}{e:TypeId}{row:Option Nat}(h:Blk w b C e)(hg:w.grownBy w' row)(hne:some b≠row):Blk w' b C e:=(hg.block b h.lt hne).trans h
theorem StepOk.grown {w w':World}{F:Nat→Prop}{p:Nat}{s:StepV}{v:Value}(h:StepOk w F p s v){base k:Nat}{sl:Value}{xs:List Value}(hr:w.ownsRow base 161 1 sl k xs)(hg:w.grownBy w' sl.ownBlock):StepOk w' F p s v:=by
 cases s with
 | store off n =>
  obtain ⟨b0,b1,b2,rfl,hF,k0,k1,k2⟩:=h;exact ⟨b0,b1,b2,rfl,hF,k0.grown hg (not_row k0 (by decide) hr),k1.grown hg (not_row k1 (by decide) hr),k2.grown hg (not_row k2 (by decide) hr)⟩
 | flush off =>
  obtain ⟨b0,b1,rfl,hF,k0,k1⟩:=h;exact ⟨b0,b1,rfl,hF,k0.grown hg (not_row k0 (by decide) hr),k1.grown hg (not_row k1 (by decide) hr)⟩
 | fence=>exact h
theorem info_fn:(Tryz.prog.info? 161).map (fun i=>(i.zero,i.size,i.bytes))=some (some Value.nilFunc,1,8):=by kernel_rfl
theorem putAllS_ok {o:Nat}{l:List (BitVec 64)}(h:o+8*l.length≤65536):∀ s∈putAllS o l,s.Ok:=by
 intro s hs;have hm:linesOf o l.length≤2000:=by unfold linesOf;split<;>omega
 unfold putAllS at hs
 rcases List.mem_append.1 hs with hs|hs
 ·obtain ⟨i,hi,rfl⟩:=List.mem_map.1 hs;have:=List.mem_range.1 hi;show I64 _;unfold I64;omega
 ·rcases List.mem_append.1 hs with hs|hs
  ·obtain ⟨i,hi,rfl⟩:=List.mem_map.1 hs;have:=List.mem_range.1 hi;show I64 _;unfold I64;omega
  ·rw [List.mem_singleton.1 hs];trivial
structure Steps (w0 w:World) (F:Nat→Prop) (p:Nat) (a:Option Addr) (vs:List Value) (ss:List StepV) (cap:Nat):Prop where
 own:w.ownsRow w0.heap.size 161 1 (.slice a ss.length cap) ss.length vs
 bel:Below w0.heap.size w0 w
 step:∀ i (h:i<ss.length) (h':i<vs.length),StepOk w F p ss[i] vs[i]
theorem Steps.len {w0 w:World}{F:Nat→Prop}{p:Nat}{a:Option Addr}{vs:List Value}{ss:List StepV}{cap:Nat}(h:Steps w0 w F p a vs ss cap):vs.length=ss.length:=by have:=h.own.1;omega
theorem Steps.next {w0 w w':World}{F:Nat→Prop}{p:Nat}{a:Option Addr}{vs:List Value}{ss:List StepV}{cap:Nat}(h:Steps w0 w F p a vs ss cap)(hb:Below w.heap.size w w'):Steps w0 w' F p a vs ss cap :=
 ⟨ownsRow_next h.own hb,h.bel.trans (hb.mono h.bel.size),fun i hi hi'=>(h.step i hi hi').next hb⟩
theorem Steps.append {w0 w:World}{F:Nat→Prop}{p:Nat}{D:NM.Dv}{a:Option Addr}{vs:List Value}{ss:List StepV}{cap:Nat}(h:Steps w0 w F p a vs ss cap)(hd:DevB w p F D)(hF:∀ k,F k→k<w0.heap.size){s:StepV}{v:Value}(hs:StepOk w F p s v){b:Nat}(hb:Blk w b #[v] 161)(hlen:ss.length≤1000000) :
  ∃ a' cap' w',(appendB #[160,160] 160 #[.slice a ss.length cap,.slice (some ⟨b,0,none⟩) 1 1]).run Tryz.prog w=.ok (.slice a' (ss.length+1) cap') w' ∧
   Steps w0 w' F p a' (vs++[v]) (ss++[s]) cap'∧DevB w' p F D:=by
 have hlv:=h.len;obtain ⟨a',cap',w',hr,hown,hg⟩:=run_append1 (P:=Tryz.prog) w0.heap.size 160 Tryz.underlying160 info_fn rfl h.own (a2:=some ⟨b,0,none⟩) (c2:=1) (m:=1) (news:=[v]) rfl (.inr ⟨_,rfl,fun j u hu=>by
   rw [Addr.add_lit,Nat.zero_add,hb.cell];simpa using hu⟩) (fun h=>by cases h) (fun u hu=>by rw [List.mem_singleton.1 hu];exact hs.one) (by omega) (by omega) h.bel.size
 have hrow:∀ g,Value.ownBlock (.slice a ss.length cap)=some g→w0.heap.size≤g:=fun g hg=>(h.own.lt g hg).1
 refine ⟨a',cap',w',hr,⟨by simpa using hown,h.bel.grown hg h.bel.size hrow,fun i hi hi'=>?_⟩,?_⟩
 ·by_cases hlt:i<ss.length
  ·rw [List.getElem_append_left hlt,List.getElem_append_left (by omega)];exact (h.step i hlt (by omega)).grown h.own hg
  ·have e:i=ss.length:=by simp at hi;omega
   subst e;rw [List.getElem_append_right (by omega),List.getElem_append_right (by omega)];simp;exact hs.grown h.own hg
 ·obtain ⟨lb,S,hA,hF',hok⟩:=hd;refine ⟨lb,S,hA.mod (mod_of_grown hg) (fun k hk e=>?_),hF',hok⟩;rw [← hF'] at hk;have:=hF k hk;have:=hrow k e;omega
section
variable {p:Nat} {F:Nat→Prop} {D:NM.Dv}
set_option maxHeartbeats 4000000 in
set_option maxRecDepth 10000 in
theorem putAll_calls (off:Int)(a2:Option Addr)(l:List (BitVec 64))(c2:Nat)(w0:World)(h:DevB w0 p F D)(hin:SlIn .u64 w0 a2 l c2)(ho:I64 off)(hc:D.steps+1000000<1099511627776) :
  Ret Tryz.prog 36 #[.pointer (some ⟨p,0,none⟩),.int .i64 off,.slice a2 l.length c2] w0 fun v w'=>v=.int .i64 (D.putAll off l).2∧∃ F',DevB w' p F' (D.putAll off l).1∧Turn w0 F w' F':=by
 have bel0:=Below.refl w0.heap.size w0;have hpos:=h.pos;have hmost:=h.ok.most;have hFlt:=h.lt;have hle:=hin.le;have hmax:=hin.max;refine ret_of (args:=[_,_,_]) _ Tryz.func36 rfl Tryz.ntmps36 (by simp) ?_;simp -implicitDefEqProofs [go_sem];refine callE_of (within_calls off l.length w0 h ho (by unfold I64;omega)) ?_;rintro v w1 ⟨rfl,rfl⟩;by_cases hw:¬ D.within off l.length=0
 ·have hw':(D.within off l.length != 0)=true:=by rw [bne_iff_ne];exact hw
  simp -implicitDefEqProofs [go_sem,hw,hw'];refine body_tmp 6 rfl ?_;simp -implicitDefEqProofs [go_sem,NM.Dv.putAll,hw];exact ⟨F,h,Turn.refl _ _⟩
 replace hw:D.within off l.length=0:=by simpa using hw
 obtain ⟨o,rfl,ho8,hos⟩:=within_ok hpos hw;have hsz:D.size≤65536:=by unfold NM.Dv.size;omega
 have hln:l.length≤8192:=by omega
 have hres:D.putAll (o:Int) l=runS D (putAllS o l):=by unfold NM.Dv.putAll;rw [if_pos hw,Int.toNat_natCast]
 rw [hres];have hlit:=World.ownsRow_lit (base:=w1.heap.size) (e:=161) (size:=1) w1 #[] 0 (Nat.le_refl _) (by decide) rfl;simp -implicitDefEqProofs [go_sem,hw];generalize hw2:World.alloc w1 _=w2 at *;have sz2:w2.heap.size=w1.heap.size+1:=by rw [← hw2];simp
 have b2:Below w1.heap.size w1 w2:=by rw [← hw2];exact (Below.refl _ _).alloc (Nat.le_refl _) _
 have hst0:Steps w1 w2 F p (some ⟨w1.heap.size,0,none⟩) [] [] 0:=⟨hlit,b2,fun i hi=>by cases hi⟩;have h2:=h.next b2
 refine wpE_loop (fun e' w'=>∃ (k:Nat) (a:Option Addr) (c:Nat) (vs:List Value),k≤l.length∧e' 0=.pointer (some ⟨p,0,none⟩)∧e' 1=.int .i64 o∧e' 2=.slice a2 l.length c2∧e' 8=.slice a k c∧e' 22=.slice a2 l.length c2∧e' 23=.int .i64 l.length∧e' 24=.int .i64 k∧Steps w1 w' F p a vs (storesS o l k) c∧DevB w' p F D) (fun e' _=>l.length-(intOf (e' 24)).toNat) ?_ ?_
 ·refine ⟨0,some ⟨w1.heap.size,0,none⟩,0,[],by omega,?_⟩;simp -implicitDefEqProofs [go_sem];exact ⟨hst0,h2⟩
 ·rintro e' w3 ⟨k,a,c,vs,hk,g0,g1,g2,g8,g22,g23,g24,hs3,h3⟩;by_cases hlt:k<l.length
  ·have hlt':(k:Int)<l.length:=by omega
   have hwk:=IntWalk.i64_in ((k:Int)+1) (by omega);obtain ⟨b,oo,rfl,hcv⟩:=(hin.next hs3.bel).at_.cell (i:=k) hlt;have hgd:l.getD k 0#64=l[k]:=by simp [List.getD,hlt]
   have hw1:=IntWalk.i64_in (8*(k:Int)) (by omega);have hw2:=IntWalk.i64_in ((o:Int)+8*(k:Int)) (by omega);simp -implicitDefEqProofs [go_sem,g0,g1,g2,g8,g22,g23,g24,hlt,hlt',hcv,hw1,hw2];refine callE_of (mkStore_calls ((o:Int)+8*(k:Int)) l[k] w3 h3) ?_;rintro v w4 ⟨b4,s4⟩;have hs4:=hs3.next b4
   have h4:=h3.next b4
   have hlt4:=h4.lt;obtain ⟨f1,x1,y1,rfl⟩:=s4.func;have bA:Below w4.heap.size w4 (w4.alloc (.cells #[.func (.func f1) x1 y1] 161)):=(Below.refl _ _).alloc (Nat.le_refl _) _;obtain ⟨a',c',w6,hr6,hs6,h6⟩:=(hs4.next bA).append (h4.next bA) hFlt (s4.next bA) (Blk.new w4 _ _) (by rw [storesS_len];omega);rw [storesS_len] at hr6;have e1:storesS o l k++[.store ((o:Int)+8*(k:Int)) l[k]]=storesS o l (k+1):=by rw [storesS_succ,hgd,show ((o+8*k:Nat):Int)=(o:Int)+8*(k:Int) by omega]
   rw [e1] at hs6;simp -implicitDefEqProofs [go_sem,g0,g1,g2,g8,g22,g23,g24,hr6,hwk];refine goE_round ⟨k+1,a',c',vs++[.func (.func f1) x1 y1],by omega,?_⟩ ?_
   ·simp -implicitDefEqProofs [go_sem,g0,g1,g2,g22,g23];exact ⟨hs6,h6⟩
   ·simp -implicitDefEqProofs [go_sem,intOf,g24,hwk];omega
  ·have hk':k=l.length:=by omega
   subst hk';have hw1:=IntWalk.i64_in (8*(l.length:Int)) (by omega);have hw2:=IntWalk.i64_in ((o:Int)+8*(l.length:Int)) (by omega);simp -implicitDefEqProofs [go_sem,g0,g1,g2,g8,g22,g23,g24,hw1,hw2];by_cases hl0:l.length=0
   ·have hl0':¬ (0:Int)<l.length:=by omega
    have hl0'':¬ 0<l.length:=by omega
    have hsteps:putAllS o l=storesS o l l.length++[]++[.fence]:=by
     unfold putAllS linesOf;rw [if_pos hl0];simp [flushesS]
    have hs5:Steps w1 w3 F p a vs (storesS o l l.length++[]) c:=by simpa using hs3
    have hlen5:(storesS o l l.length++[]).length=l.length:=by simp [storesS_len]
    simp -implicitDefEqProofs [go_sem,g0,g1,g2,g8,hl0',hl0''];generalize storesS o l l.length++[]=ss at *;have h5:=h3;generalize w3=w5 at *;have bA:Below w5.heap.size w5 (w5.alloc (.cells #[.func (.func 71) #[.pointer (some ⟨p,0,none⟩)] #[]] 161)):=(Below.refl _ _).alloc (Nat.le_refl _) _;obtain ⟨a',c',w6,hr6,hs6,h6⟩:=(hs5.next bA).append (s:=.fence) (v:=.func (.func 71) #[.pointer (some ⟨p,0,none⟩)] #[]) (h5.next bA) hFlt rfl (Blk.new w5 _ _) (by omega);rw [hlen5] at hr6
    have hlenP:(ss++[StepV.fence]).length=ss.length+1:=by simp
    have hinP:StepsIn w6 F p a' (vs++[.func (.func 71) #[.pointer (some ⟨p,0,none⟩)] #[]]) (ss++[StepV.fence]) c' :=
     ⟨owns_vsIn hs6.len hs6.own,fun y hy=>by
      subst hy;have h1:=hs6.own.lt y.block rfl;exact ⟨h1.2,fun hf=>by have:=hFlt _ hf;omega⟩,hs6.len,hs6.step⟩
    rw [← hsteps] at hinP hlenP;have hrun:=run_calls a' _ (putAllS o l) c' w6 h6 hinP (putAllS_ok (by omega)) (by omega);rw [hlenP,hlen5] at hrun;simp -implicitDefEqProofs [go_sem,g0,g8,hr6];refine callE_of hrun ?_;rintro v w7 ⟨rfl,F7,h7,t7⟩;simp -implicitDefEqProofs [go_sem];refine body_tmp 6 rfl ?_;simp -implicitDefEqProofs [go_sem];exact ⟨F7,h7,(Turn.of hs6.bel).trans t7⟩
   ·have hl0':(0:Int)<l.length:=by omega
    have hl0'':0<l.length:=by omega
    have hm:linesOf o l.length=(o+8*l.length-1)/64-o/64+1:=by unfold linesOf;rw [if_neg hl0]
    have hw3:=IntWalk.i64_in ((o:Int)/64) (by omega);have hw4:=IntWalk.i64_in ((o:Int)/64*64) (by omega);simp -implicitDefEqProofs [go_sem,g0,g1,g2,g8,hl0',hl0'',hw3,hw4]
    refine wpE_loop (fun e' w'=>∃ (j:Nat) (a:Option Addr) (c:Nat) (vs:List Value),j≤linesOf o l.length∧e' 0=.pointer (some ⟨p,0,none⟩)∧e' 8=.slice a (l.length+j) c∧e' 11=.int .i64 ((o:Int)+8*l.length)∧e' 12=.int .i64 (((64*(o/64+j):Nat)):Int)∧Steps w1 w' F p a vs (storesS o l l.length++flushesS o j) c∧DevB w' p F D) (fun e' _=>linesOf o l.length-((intOf (e' 12)).toNat/64-o/64)) ?_ ?_
    ·refine ⟨0,a,c,vs,by omega,?_⟩;simp -implicitDefEqProofs [go_sem,g0,g8];refine ⟨by omega,by simpa [flushesS] using hs3,h3⟩
    ·rintro e2 w4 ⟨j,a,c,vs,hj,g0,g8,g11,g12,hs4,h4⟩;by_cases hlt:j<linesOf o l.length
     ·have hlt2:((64*(o/64+j):Nat):Int)<(o:Int)+8*l.length:=by omega
      have hw5:=IntWalk.i64_in (((64*(o/64+j):Nat):Int)+64) (by omega);have hlen4:(storesS o l l.length++flushesS o j).length=l.length+j:=by simp [storesS_len,flushesS_len]
      generalize hat:64*(o/64+j)=at_ at *;simp -implicitDefEqProofs [go_sem,g0,g8,g11,g12,hlt2];refine callE_of (mkFlush_calls at_ w4 h4) ?_;rintro v w5 ⟨b5,s5⟩;have hs5:=hs4.next b5
      have h5:=h4.next b5
      obtain ⟨f1,x1,y1,rfl⟩:=s5.func;have bA:Below w5.heap.size w5 (w5.alloc (.cells #[.func (.func f1) x1 y1] 161)):=(Below.refl _ _).alloc (Nat.le_refl _) _;obtain ⟨a',c',w6,hr6,hs6,h6⟩:=(hs5.next bA).append (h5.next bA) hFlt (s5.next bA) (Blk.new w5 _ _) (by omega);rw [hlen4] at hr6;have e1:storesS o l l.length++flushesS o j++[.flush (at_:Int)]=storesS o l l.length++flushesS o (j+1):=by rw [flushesS_succ,hat,List.append_assoc]
      rw [e1] at hs6;simp -implicitDefEqProofs [go_sem,g0,g8,g11,g12,hr6,hw5];refine goE_round ⟨j+1,a',c',vs++[.func (.func f1) x1 y1],by omega,?_⟩ ?_
      ·simp -implicitDefEqProofs [go_sem,g0,g11];exact ⟨by omega,by omega,hs6,h6⟩
      ·simp -implicitDefEqProofs [go_sem,intOf,g12,hw5];omega
     ·have hj':j=linesOf o l.length:=by omega
      have hlt2:¬ ((64*(o/64+j):Nat):Int)<(o:Int)+8*l.length:=by omega
      have hsteps:putAllS o l=storesS o l l.length++flushesS o j++[.fence]:=by
       unfold putAllS;rw [hj',List.append_assoc]
      have hlen5:(storesS o l l.length++flushesS o j).length=l.length+j:=by simp [storesS_len,flushesS_len]
      have hjb:j≤10000:=by omega
      have hlt3:¬ 64*((o:Int)/64+j)<(o:Int)+8*l.length:=by omega
      simp -implicitDefEqProofs [go_sem,g0,g8,g11,g12,hlt2,hlt3];generalize storesS o l l.length++flushesS o j=ss at *;have hs5:=hs4;have h5:=h4;generalize w4=w5 at *;have bA:Below w5.heap.size w5 (w5.alloc (.cells #[.func (.func 71) #[.pointer (some ⟨p,0,none⟩)] #[]] 161)):=(Below.refl _ _).alloc (Nat.le_refl _) _;obtain ⟨a',c',w6,hr6,hs6,h6⟩:=(hs5.next bA).append (s:=.fence) (v:=.func (.func 71) #[.pointer (some ⟨p,0,none⟩)] #[]) (h5.next bA) hFlt rfl (Blk.new w5 _ _) (by omega)
      rw [hlen5] at hr6;have hlenP:(ss++[StepV.fence]).length=ss.length+1:=by simp
      have hinP:StepsIn w6 F p a' (vs++[.func (.func 71) #[.pointer (some ⟨p,0,none⟩)] #[]]) (ss++[StepV.fence]) c' :=
       ⟨owns_vsIn hs6.len hs6.own,fun y hy=>by
        subst hy;have h1:=hs6.own.lt y.block rfl;exact ⟨h1.2,fun hf=>by have:=hFlt _ hf;omega⟩,hs6.len,hs6.step⟩
      rw [← hsteps] at hinP hlenP;have hrun:=run_calls a' _ (putAllS o l) c' w6 h6 hinP (putAllS_ok (by omega)) (by omega);rw [hlenP,hlen5] at hrun;simp -implicitDefEqProofs [go_sem,g0,g8,hr6];refine callE_of hrun ?_;rintro v w7 ⟨rfl,F7,h7,t7⟩;simp -implicitDefEqProofs [go_sem];refine body_tmp 6 rfl ?_;simp -implicitDefEqProofs [go_sem];exact ⟨F7,h7,(Turn.of hs6.bel).trans t7⟩
end
end
section
open Go Go.RowKit
def wordsAt (D:NM.Dv)(o n:Nat):List (BitVec 64):=(List.range n).map fun i=>D.word (o+8*i)
theorem wordsAt_len (D:NM.Dv)(o n:Nat):(wordsAt D o n).length=n:=by simp [wordsAt]
def NM.Dv.get (D:NM.Dv)(off many:Int):List (BitVec 64) × Int :=
 if D.within off many=0 then (if many=0∨D.down=false then (wordsAt D off.toNat many.toNat,0) else ([],12)) else ([],D.within off many)
theorem within_nat {D:NM.Dv}{off many:Int}(hp:0<D.ls.length)(h:D.within off many=0):∃ n:Nat,many=(n:Int):=by
 unfold NM.Dv.within at h;rw [if_neg (by omega)] at h;split at h
 ·cases h
 ·split at h
  ·cases h
  ·rename_i h2;exact ⟨many.toNat,by have:¬ many<0:=fun h=>h2 (.inl h);omega⟩
theorem load_in {D:NM.Dv}(hp:0<D.ls.length){o:Nat}(h8:o%8=0)(hs:o<D.size):D.load (o:Int)=if D.down=true then (0#64,12) else (D.word o,0):=by
 have hl0:¬ D.ls.length=0:=by omega
 by_cases hd:D.down=true
 ·have ha:D.ask (o:Int) 8=12:=by unfold NM.Dv.ask;rw [if_neg hl0,if_pos hd]
  rw [if_pos hd];unfold NM.Dv.load;rw [ha];rfl
 ·rw [if_neg hd];have ha:D.ask (o:Int) 8=0:=by
   unfold NM.Dv.ask;rw [if_neg hl0,if_neg hd,if_neg];rintro (h|h|h)
   ·omega
   ·omega
   ·rw [Int.tmod_eq_emod_of_nonneg (by omega)] at h;omega
  unfold NM.Dv.load;rw [if_pos ha,Int.toNat_natCast]
section
variable {p:Nat} {F:Nat→Prop} {D:NM.Dv}
set_option maxHeartbeats 4000000 in
set_option maxRecDepth 10000 in
theorem get_calls' (off many : Int) (w0 : World) (h : DevB w0 p F D) (ho : I64 off) (hm : I64 many) :
    Ret Tryz.prog 81 #[.pointer (some ⟨p, 0, none⟩), .int .i64 off, .int .i64 many] w0 fun v w' => Below w0.heap.size w0 w' ∧
      ∃ a c, v = .tuple #[.slice a (D.get off many).1.length c, .int .i64 (D.get off many).2] ∧ SlIn .u64 w' a (D.get off many).1 c ∧ (∀ y, a = some y → w0.heap.size ≤ y.block ∧ y.block < w'.heap.size) := by
  have bel0 := Below.refl w0.heap.size w0
  have hpos := h.pos
  have hmost := h.ok.most
  refine ret_of (args := [_, _, _]) _ Tryz.func81 rfl Tryz.ntmps81 (by simp) ?_
  simp -implicitDefEqProofs [go_sem]
  refine callE_of (within_calls off many w0 h ho hm) ?_
  rintro v w1 ⟨rfl, rfl⟩
  have nilIn : ∀ w : World, SlIn .u64 w none ([] : List (BitVec 64)) 0 := fun w => ⟨.inl rfl, Nat.le_refl _, by decide, fun _ => rfl⟩
  by_cases hw : ¬ D.within off many = 0
  · have hw' : (D.within off many != 0) = true := by rw [bne_iff_ne]; exact hw
    have hg : D.get off many = ([], D.within off many) := by unfold NM.Dv.get; rw [if_neg hw]
    simp -implicitDefEqProofs [go_sem, hw, hw']
    refine body_tmp2 6 7 rfl ?_
    rw [hg]
    simp -implicitDefEqProofs [go_sem]
    exact ⟨bel0, none, 0, ⟨rfl, rfl⟩, nilIn _, fun y hy => by cases hy⟩
  replace hw : D.within off many = 0 := by simpa using hw
  obtain ⟨n, rfl⟩ := within_nat hpos hw
  obtain ⟨o, rfl, ho8, hos⟩ := within_ok hpos hw
  have hsz : D.size ≤ 65536 := by unfold NM.Dv.size; omega
  have hn : n ≤ 8192 := by omega
  have hmk := fun w => run_make_n (P := Tryz.prog) (t := 100) (e := 42) (z := .int .u64 0) (bytes := 8) Tryz.underlying100 (by kernel_rfl) rfl .i64 .i64 n (by omega) (by omega) w
  have hg : D.get (o : Int) (n : Int) = if n = 0 ∨ D.down = false then (wordsAt D o n, 0) else ([], 12) := by
    unfold NM.Dv.get; rw [if_pos hw, Int.toNat_natCast, Int.toNat_natCast]
    by_cases h0 : n = 0
    · subst h0; simp
    · simp only [h0, false_or, show ¬ ((n : Int) = 0) by omega]
  rw [hg]
  simp -implicitDefEqProofs [go_sem, hw, hmk]
  have bel1 := bel0
  have hFlt := h.lt
  generalize hw2 : World.alloc w1 _ = w2 at *
  obtain ⟨hB2, b2, sz2, bel2⟩ := newF hw2 bel1
  replace h := h.next b2
  refine wpE_loop (fun e' w' => ∃ (k : Nat) (C : Array Value), k ≤ n ∧ (0 < k → D.down = false) ∧ e' 0 = .pointer (some ⟨p, 0, none⟩) ∧ e' 1 = .int .i64 o ∧ e' 9 = .slice (some ⟨w1.heap.size, 0, none⟩) n n ∧ e' 22 = .slice (some ⟨w1.heap.size, 0, none⟩) n n ∧ e' 23 = .int .i64 n ∧ e' 24 = .int .i64 k ∧ Blk w' w1.heap.size C 42 ∧ C.size = n ∧ (∀ i, i < k → C[i]? = some (.int .u64 (uv (D.word (o + 8 * i))))) ∧ DevB w' p F D ∧ Below w1.heap.size w1 w') (fun e' _ => n - (intOf (e' 24)).toNat) ?_ ?_
  · refine ⟨0, Array.replicate n (.int .u64 0), by omega, fun h => by omega, ?_⟩
    simp -implicitDefEqProofs [go_sem]
    exact ⟨hB2, h, bel2⟩
  · rintro e' w3 ⟨k, C, hk, hdn, g0, g1, g9, g22, g23, g24, hB, hCs, hC, h3, b3⟩
    by_cases hlt : k < n
    · have hlt' : (k : Int) < n := by omega
      have hwk := IntWalk.i64_in ((k : Int) + 1) (by omega)
      have hw1 := IntWalk.i64_in (8 * (k : Int)) (by omega)
      have hw2 := IntWalk.i64_in ((o : Int) + 8 * (k : Int)) (by omega)
      have hld := load_in hpos (o := o + 8 * k) (by omega) (by omega)
      rw [show ((o + 8 * k : Nat) : Int) = (o : Int) + 8 * (k : Int) by omega] at hld
      have hCk : C[k]? = some (C[k]'(by omega)) := by simp [hCs, hlt]
      simp -implicitDefEqProofs [go_sem, g0, g1, g9, g22, g23, g24, hlt, hlt', hw1, hw2]
      refine callE_of (loadB ((o : Int) + 8 * (k : Int)) w3 h3 (by unfold I64; omega)) ?_
      rintro v w4 ⟨rfl, rfl⟩
      rw [hld]
      by_cases hd : D.down = true
      · rw [if_pos hd]
        simp -implicitDefEqProofs [go_sem, g0, g1, g9, g22, g23, g24]
        refine body_tmp2 6 7 rfl ?_
        rw [if_neg (by rintro (h | h); · omega
                       · rw [hd] at h; cases h)]
        simp -implicitDefEqProofs [go_sem]
        exact ⟨b3, none, 0, ⟨rfl, rfl⟩, nilIn _, fun y hy => by cases hy⟩
      · rw [if_neg hd]
        have hB' := hB.set k (.int .u64 (uv (D.word (o + 8 * k))))
        have hmS := (Mod.refl (fun j => j = w1.heap.size) w4).setCell (a := ⟨w1.heap.size, k, none⟩) (.inl rfl) (.int .u64 (uv (D.word (o + 8 * k))))
        have h4 : DevB (w4.setCell ⟨w1.heap.size, k, none⟩ (.int .u64 (uv (D.word (o + 8 * k))))) p F D := by
          obtain ⟨lb, S, hA, hF, hok⟩ := h3
          exact ⟨lb, S, hA.mod hmS (fun j hj e => by rw [← hF] at hj; have := hFlt j hj; omega), hF, hok⟩
        have b4 := b3.trans (hmS.below (B := w1.heap.size) b3.size (fun j hj => by omega))
        simp -implicitDefEqProofs [go_sem, g0, g1, g9, g22, g23, g24, hB.cell, hB.thaw, hCk, hlt, hlt', hwk]
        refine goE_round ⟨k + 1, C.setIfInBounds k (.int .u64 (uv (D.word (o + 8 * k)))), by omega, fun _ => by simpa using hd, ?_⟩ ?_
        · simp -implicitDefEqProofs [go_sem, g0, g1, g9, g22, g23]
          refine ⟨hB', hCs, fun i hi => ?_, h4, b4⟩
          rw [Array.getElem?_setIfInBounds]
          by_cases e : k = i
          · subst e; rw [if_pos rfl, if_pos (by omega)]
          · rw [if_neg e]; exact hC i (by omega)
        · simp -implicitDefEqProofs [go_sem, intOf, g24, hwk]; omega
    · have hk' : k = n := by omega
      subst hk'
      have hcond : k = 0 ∨ D.down = false := by
        by_cases h0 : k = 0
        · exact .inl h0
        · exact .inr (hdn (by omega))
      rw [if_pos hcond]
      simp -implicitDefEqProofs [go_sem, g0, g1, g9, g22, g23, g24]
      refine body_tmp2 6 7 rfl ?_
      simp -implicitDefEqProofs [go_sem, wordsAt_len]
      refine ⟨b3, some ⟨w1.heap.size, 0, none⟩, k, ⟨rfl, rfl⟩, ⟨slAt_blk hB (fun i hi => ?_), by rw [wordsAt_len]; omega, by omega, fun h => by cases h⟩, fun y hy => ?_⟩
      · rw [wordsAt_len] at hi
        rw [hC i hi]; simp [wordsAt]
      · obtain rfl : _ = y := Option.some.inj hy
        exact ⟨Nat.le_refl _, hB.lt⟩
end
end
section
open Go Go.RowKit
section
variable {p:Nat} {F:Nat→Prop} {D:NM.Dv}
set_option maxHeartbeats 1000000 in
theorem clearAll_calls (n:Nat)(w0:World)(h:DevB w0 p F D)(hn:n≤1024)(hc:D.steps+1000000<1099511627776) :
  Ret Tryz.prog 35 #[.pointer (some ⟨p,0,none⟩),.int .i64 0,.int .i64 n] w0 fun v w'=>v=.int .i64 (D.putAll 0 (List.replicate (n*8) 0#64)).2∧∃ F',DevB w' p F' (D.putAll 0 (List.replicate (n*8) 0#64)).1∧Turn w0 F w' F':=by
 have bel0:=Below.refl w0.heap.size w0;have hmk:=fun w=>run_make_n (P:=Tryz.prog) (t:=100) (e:=42) (z:=.int .u64 0) (bytes:=8) Tryz.underlying100 (by kernel_rfl) rfl .i64 .i64 (n*8) (by omega) (by omega) w
 have hw:=IntWalk.i64_in ((n:Int)*8) (by omega);have e8:((n*8:Nat):Int)=(n:Int)*8:=by omega
 rw [e8] at hmk;have h1:¬ (n:Int)<0:=by omega
 have h2:¬ (1024:Int)<n:=by omega
 have h2':¬ 1024<n:=by omega
 refine ret_of (args:=[_,_,_]) _ Tryz.func35 rfl Tryz.ntmps35 (by simp) ?_;simp -implicitDefEqProofs [go_sem,hmk,hw,h1,h2,h2'];generalize hw1:World.alloc w0 _=w1 at *;obtain ⟨hB1,b1,sz1,bel1⟩:=newF hw1 bel0;replace h:=h.next b1
 have hin:SlIn .u64 w1 (some ⟨w0.heap.size,0,none⟩) (List.replicate (n*8) 0#64) (n*8):=⟨slAt_blk hB1 (fun i hi=>by
  have hi':i<n*8:=by simpa using hi
  have e:(List.replicate (n*8) 0#64)[i]=0#64:=List.getElem_replicate ..;rw [e];simp [hi',show uv 0#64=0 from rfl]),by simp,by omega,fun h=>by cases h⟩
 have hp:=putAll_calls 0 (some ⟨w0.heap.size,0,none⟩) (List.replicate (n*8) 0#64) (n*8) w1 h hin (by unfold I64;omega) hc;rw [List.length_replicate] at hp;refine callE_of hp ?_;rintro v w2 ⟨rfl,F2,h2,t2⟩;simp -implicitDefEqProofs [go_sem];refine body_tmp 6 rfl ?_;simp -implicitDefEqProofs [go_sem];exact ⟨F2,h2,(Turn.of bel1).trans t2⟩
end
end
section
open Go
namespace NM
open Go.Proofs.YtaaihijkdhmcdaaGreatDoor.WM (getM putM putM_length putM_getD hasB get_put byteOf byteOf_wd wd)
theorem flush_ln {D:Dv}(hp:0<D.ls.length)(off:Int)(i:Nat):((D.flush off).1.ln i).now=(D.ln i).now∧((D.flush off).1.ln i).chg=(D.ln i).chg:=by
 unfold Dv.flush;split
 ·rename_i ha;obtain ⟨o,rfl,hos⟩:=ask1 hp ha;have hq:o/64<D.ls.length:=by unfold Dv.size at hos;omega
  show ((D.setLn _ _).ln i).now=_∧((D.setLn _ _).ln i).chg=_;rw [Int.toNat_natCast,Dv.setLn_ln D _ _ hq];split
  ·rename_i h;subst h;exact ⟨rfl,rfl⟩
  ·exact ⟨rfl,rfl⟩
 ·exact ⟨rfl,rfl⟩
theorem fence_lnNow {D:Dv}(i:Nat)(hi:i<D.ls.length):(D.fence.1.ln i).now=(D.ln i).now:=by
 by_cases ha:D.ask 0 1=0
 ·rw [fence_ln ha i hi,fence_now]
 ·unfold Dv.fence;rw [if_neg ha]
theorem store_word {D:Dv}(h:D.Ok){o:Nat}(n:BitVec 64)(ha:D.ask (o:Int) 8=0)(ho:o%8=0)(hs:o<D.size){x:Nat}(hx:x%8=0) :
  (D.store o n).1.word x=if x=o then n else D.word x:=by
 have hlen:=(Dv.Ok0.ln h.to0 (o/64)).len;unfold Dv.word;rw [store_now h n ha ho hs];obtain ⟨q,hq⟩:∃ q,o%64=8*q:=⟨o%64/8,by omega⟩;obtain ⟨r,hr⟩:∃ r,x%64=8*r:=⟨x%64/8,by omega⟩;by_cases e:x/64=o/64
 ·rw [if_pos e,e,hq,hr,get_put _ q r n (by omega)];by_cases e2:q=r
  ·rw [if_pos e2,if_pos (by omega)]
  ·rw [if_neg e2,if_neg (by omega)]
 ·rw [if_neg e,if_neg (by intro h2;subst h2;exact e rfl)]
theorem flush_word {D:Dv}(hp:0<D.ls.length)(off:Int)(x:Nat):(D.flush off).1.word x=D.word x:=by
 unfold Dv.word;rw [(flush_ln hp off _).1]
theorem fence_word {D:Dv}{x:Nat}(hx:x<D.size):D.fence.1.word x=D.word x:=by
 unfold Dv.word;rw [fence_lnNow _ (by unfold Dv.size at hx;omega)]
theorem ask_nat {D:Dv}(hp:0<D.ls.length)(hd:D.down=false){o e:Nat}(hs:o<D.size)(he:o%e=0):D.ask (o:Int) (e:Int)=0:=by
 unfold Dv.ask;rw [if_neg (by omega),hd];simp only [Bool.false_eq_true,if_false];rw [if_neg];rintro (h|h|h)
 ·omega
 ·omega
 ·rw [Int.tmod_eq_emod_of_nonneg (by omega)] at h;have:((o%e:Nat):Int)=(o:Int)%(e:Int):=Int.natCast_emod o e;omega
theorem ask_down {D:Dv}(hp:0<D.ls.length)(hd:D.down=true)(off each:Int):D.ask off each=12:=by
 unfold Dv.ask;rw [if_neg (by omega),hd];rfl
end NM
def StepIn (N:Nat):StepV→Prop
 | .store off _=>∃ o:Nat,off=(o:Int)∧o%8=0∧o<64*N
 | .flush off=>∃ o:Nat,off=(o:Int)∧o<64*N
 | .fence=>True
theorem step_down {D:NM.Dv}(hp:0<D.ls.length)(hd:D.down=true)(s:StepV):D.step s=(D,12):=by
 cases s with
 | store off n=>show D.store off n=_;unfold NM.Dv.store;rw [NM.ask_down hp hd];rfl
 | flush off=>show D.flush off=_;unfold NM.Dv.flush;rw [NM.ask_down hp hd];rfl
 | fence=>show D.fence=_;unfold NM.Dv.fence;rw [NM.ask_down hp hd];rfl
theorem step_up {D:NM.Dv}(hp:0<D.ls.length)(hd:D.down=false){s:StepV}(h:StepIn D.ls.length s):(D.step s).2=0:=by
 cases s with
 | store off n =>
  obtain ⟨o,rfl,h8,hs⟩:=h;show (D.store _ _).2=0;rw [NM.store_err];exact NM.ask_nat (e:=8) hp hd (by unfold NM.Dv.size;omega) h8
 | flush off =>
  obtain ⟨o,rfl,hs⟩:=h;show (D.flush _).2=0;unfold NM.Dv.flush;rw [show D.ask (o:Int) 1=0 from NM.ask_nat (e:=1) hp hd (by unfold NM.Dv.size;omega) (Nat.mod_one _)];rfl
 | fence =>
  show D.fence.2=0;unfold NM.Dv.fence;rw [show D.ask 0 1=0 from NM.ask_nat (o:=0) (e:=1) hp hd (by unfold NM.Dv.size;omega) rfl];rfl
theorem step_err {D:NM.Dv}(hp:0<D.ls.length){s:StepV}(h:StepIn D.ls.length s):(D.step s).2=0∧D.down=false∨(D.step s).2=12∧D.down=true∧(D.step s).1=D:=by
 cases hd:D.down with
 | false=>exact .inl ⟨step_up hp hd h,rfl⟩
 | true=>rw [step_down hp hd];exact .inr ⟨rfl,rfl,rfl⟩
theorem runS_err2 {D:NM.Dv}(hp:0<D.ls.length)(ss:List StepV)(h:∀ s∈ss,StepIn D.ls.length s):(runS D ss).2=0∨(runS D ss).2=12:=by
 induction ss generalizing D with
 | nil=>exact .inl rfl
 | cons s ss ih =>
  rcases step_err hp (h s List.mem_cons_self) with ⟨h1,_⟩|⟨h1,_,_⟩
  ·rw [runS_ok h1];have hl:=step_len D s;exact ih (by omega) (fun x hx=>by rw [hl];exact h x (List.mem_cons_of_mem _ hx))
  ·rw [runS_err (by rw [h1];decide)];exact .inr h1
theorem step_upUp {D:NM.Dv}(hu:D.Up)(s:StepV):(D.step s).1.Up:=by
 cases s with
 | store off n=>exact hu.store off n
 | flush off=>exact hu.flush off
 | fence=>exact hu.fence
theorem runS_upUp {D:NM.Dv}(hu:D.Up)(hp:0<D.ls.length)(ss:List StepV)(h:∀ s∈ss,StepIn D.ls.length s):(runS D ss).2=0∧(runS D ss).1.Up:=by
 induction ss generalizing D with
 | nil=>exact ⟨rfl,hu⟩
 | cons s ss ih =>
  have h1:=step_up hp hu.down (h s List.mem_cons_self);rw [runS_ok h1];have hl:=step_len D s;exact ih (step_upUp hu s) (by omega) (fun x hx=>by rw [hl];exact h x (List.mem_cons_of_mem _ hx))
theorem runS_okk {D:NM.Dv}(h:D.Ok)(ss:List StepV):(runS D ss).1.Ok:=by
 induction ss generalizing D with
 | nil=>exact h
 | cons s ss ih =>
  by_cases h1:(D.step s).2=0
  ·rw [runS_ok h1];exact ih (step_ok h s)
  ·rw [runS_err h1];exact step_ok h s
theorem runS_inv {I:NM.Dv→Prop}(ss:List StepV)(h:∀ s∈ss,∀ D,I D→I (D.step s).1){D:NM.Dv}(h0:I D):I (runS D ss).1:=by
 induction ss generalizing D with
 | nil=>exact h0
 | cons s ss ih =>
  by_cases h1:(D.step s).2=0
  ·rw [runS_ok h1];exact ih (fun s hs=>h s (List.mem_cons_of_mem _ hs)) (h s List.mem_cons_self D h0)
  ·rw [runS_err h1];exact h s List.mem_cons_self D h0
theorem putAllS_in {o N:Nat}{l:List (BitVec 64)}(h8:o%8=0)(h:o+8*l.length≤64*N):∀ s∈putAllS o l,StepIn N s:=by
 intro s hs;unfold putAllS at hs
 rcases List.mem_append.1 hs with hs|hs
 ·obtain ⟨i,hi,rfl⟩:=List.mem_map.1 hs;have:=List.mem_range.1 hi;exact ⟨_,rfl,by omega,by omega⟩
 ·rcases List.mem_append.1 hs with hs|hs
  ·obtain ⟨i,hi,rfl⟩:=List.mem_map.1 hs;have h1:=List.mem_range.1 hi;unfold linesOf at h1;split at h1
   ·omega
   ·exact ⟨_,rfl,by omega⟩
  ·rw [List.mem_singleton.1 hs];trivial
theorem stores_word {D:NM.Dv}(hok:D.Ok)(hp:0<D.ls.length){o:Nat}{l:List (BitVec 64)}(h8:o%8=0)(h:o+8*l.length≤D.size):∀ k,k≤l.length→(runS D (storesS o l k)).2=0 →
  ∀ x,x%8=0→(runS D (storesS o l k)).1.word x=if o≤x∧x<o+8*k then l.getD ((x-o)/8) 0#64 else D.word x
 | 0,_,_,x,_=>by rw [if_neg (by omega)];rfl
 | k+1,hk,he,x,hx=>by
  have ih:=stores_word hok hp h8 h k (by omega);rw [storesS_succ,runS_append] at he ⊢;by_cases h0:(runS D (storesS o l k)).2=0
  ·rw [if_pos h0] at he ⊢;have hlen:=runS_len D (storesS o l k);have hok2:=runS_okk hok (storesS o l k);have ih2:=ih h0 x hx;generalize (runS D (storesS o l k)).1=E at *;have hsz:E.size=D.size:=by unfold NM.Dv.size;rw [hlen]
   by_cases hs:(E.step (.store ((o+8*k:Nat):Int) (l.getD k 0#64))).2=0
   ·rw [runS_ok hs];show (E.store ((o+8*k:Nat):Int) (l.getD k 0#64)).1.word x=_;have ha:E.ask ((o+8*k:Nat):Int) 8=0:=by rw [← NM.store_err];exact hs
    rw [NM.store_word hok2 _ ha (by omega) (by omega) hx,ih2];by_cases e:x=o+8*k
    ·subst e;rw [if_pos rfl,if_pos (by omega)];congr 1;omega
    ·rw [if_neg e];by_cases e2:o≤x∧x<o+8*k
     ·rw [if_pos e2,if_pos (by omega)]
     ·rw [if_neg e2,if_neg (by omega)]
   ·rw [runS_err hs] at he;exact absurd he hs
  ·rw [if_neg h0] at he;exact absurd he h0
theorem flushes_word {D:NM.Dv}(hp:0<D.ls.length)(o:Nat):∀ k x,(runS D (flushesS o k)).1.word x=D.word x:=by
 intro k x;refine (runS_inv (I:=fun E=>E.word x=D.word x∧0<E.ls.length) _ (fun s hs E hE=>?_) ⟨rfl,hp⟩).1;obtain ⟨i,_,rfl⟩:=List.mem_map.1 hs;exact ⟨by show (E.flush _).1.word x=_;rw [NM.flush_word hE.2];exact hE.1,by rw [step_len];exact hE.2⟩
theorem putAll_words {D:NM.Dv}(hok:D.Ok)(hp:0<D.ls.length){o:Nat}{l:List (BitVec 64)}(h8:o%8=0)(h:o+8*l.length≤D.size)(he:(runS D (putAllS o l)).2=0){x:Nat}(hx:x%8=0)(hxs:x<D.size) :
  (runS D (putAllS o l)).1.word x=if o≤x∧x<o+8*l.length then l.getD ((x-o)/8) 0#64 else D.word x:=by
 unfold putAllS at he ⊢;rw [runS_append] at he ⊢;by_cases h0:(runS D (storesS o l l.length)).2=0
 ·rw [if_pos h0] at he ⊢;have hw:=stores_word hok hp h8 h l.length (Nat.le_refl _) h0 x hx;have hlen:=runS_len D (storesS o l l.length);generalize (runS D (storesS o l l.length)).1=E at *;rw [runS_append] at he ⊢;by_cases h1:(runS E (flushesS o (linesOf o l.length))).2=0
  ·rw [if_pos h1] at he ⊢;have hw2:=flushes_word (D:=E) (by omega) o (linesOf o l.length) x;have hlen2:=runS_len E (flushesS o (linesOf o l.length));generalize (runS E (flushesS o (linesOf o l.length))).1=G at *;have hG:(runS G [.fence]).1.word x=G.word x:=by
    have hsz:x<G.size:=by unfold NM.Dv.size at hxs ⊢;omega
    by_cases hs:(G.step .fence).2=0
    ·rw [runS_ok hs];exact NM.fence_word hsz
    ·rw [runS_err hs];exact NM.fence_word hsz
   rw [hG,hw2,hw]
  ·rw [if_neg h1] at he;exact absurd he h1
 ·rw [if_neg h0] at he;exact absurd he h0
theorem flushes_mark {D:NM.Dv}(hp:0<D.ls.length)(o:Nat):∀ k,(∀ s∈flushesS o k,StepIn D.ls.length s)→(runS D (flushesS o k)).2=0→∀ i,o/64≤i→i<o/64+k →
  ((runS D (flushesS o k)).1.ln i).mark=((runS D (flushesS o k)).1.ln i).chg.length+1
 | 0,_,_,i,h1,h2=>by omega
 | k+1,hin,he,i,h1,h2=>by
  have ih:=flushes_mark hp o k (fun s hs=>hin s (by rw [flushesS_succ];exact List.mem_append_left _ hs));have hlast:StepIn D.ls.length (.flush ((64*(o/64+k):Nat):Int)):=hin _ (by rw [flushesS_succ];exact List.mem_append_right _ (List.mem_singleton.2 rfl));rw [flushesS_succ,runS_append] at he ⊢;by_cases h0:(runS D (flushesS o k)).2=0
  ·rw [if_pos h0] at he ⊢;have hlen:=runS_len D (flushesS o k);have ih2:=ih h0;generalize (runS D (flushesS o k)).1=E at *;obtain ⟨o',ho',hlt⟩:=hlast;obtain rfl:o'=64*(o/64+k):=by omega
   by_cases hs:(E.step (.flush ((64*(o/64+k):Nat):Int))).2=0
   ·rw [runS_ok hs];have ha:E.ask ((64*(o/64+k):Nat):Int) 1=0:=by
     rcases step_err (D:=E) (by omega) (s:=.flush ((64*(o/64+k):Nat):Int)) (by rw [hlen];exact ⟨_,rfl,hlt⟩) with ⟨_,hd⟩|⟨h12,_⟩
     ·exact NM.ask_nat (e:=1) (by omega) hd (by unfold NM.Dv.size;omega) (Nat.mod_one _)
     ·rw [hs] at h12;cases h12
    show ((E.flush _).1.ln i).mark=((E.flush _).1.ln i).chg.length+1;unfold NM.Dv.flush;rw [if_pos ha,Int.toNat_natCast,show 64*(o/64+k)/64=o/64+k by omega];show ((E.setLn (o/64+k) _).ln i).mark=((E.setLn (o/64+k) _).ln i).chg.length+1;rw [NM.Dv.setLn_ln E _ _ (by omega)];split
    ·rename_i h;subst h;rfl
    ·exact ih2 i h1 (by omega)
   ·rw [runS_err hs] at he;exact absurd he hs
  ·rw [if_neg h0] at he;exact absurd he h0
theorem putAll_one {D:NM.Dv}(hp:0<D.ls.length){o:Nat}{l:List (BitVec 64)}(h8:o%8=0)(h:o+8*l.length≤D.size)(he:(runS D (putAllS o l)).2=0){j:Nat}(hj:j<l.length) :
  ((runS D (putAllS o l)).1.ln ((o+8*j)/64)).chg=[]:=by
 have hin:∀ s∈flushesS o (linesOf o l.length),StepIn D.ls.length s:=fun s hs=>putAllS_in (o:=o) (l:=l) (N:=D.ls.length) h8 (by unfold NM.Dv.size at h;omega) s (by unfold putAllS;exact List.mem_append_right _ (List.mem_append_left _ hs))
 unfold putAllS at he ⊢;rw [runS_append] at he ⊢;by_cases h0:(runS D (storesS o l l.length)).2=0
 ·rw [if_pos h0] at he ⊢;have hlen:=runS_len D (storesS o l l.length);generalize (runS D (storesS o l l.length)).1=E at *;rw [← hlen] at hin;rw [runS_append] at he ⊢;by_cases h1:(runS E (flushesS o (linesOf o l.length))).2=0
  ·rw [if_pos h1] at he ⊢;have hline:(o+8*j)/64<o/64+linesOf o l.length:=by unfold linesOf;rw [if_neg (by omega)];omega
   have hm:=flushes_mark (D:=E) (by omega) o (linesOf o l.length) hin h1 ((o+8*j)/64) (by omega) hline;have hlen2:=runS_len E (flushesS o (linesOf o l.length));generalize (runS E (flushesS o (linesOf o l.length))).1=G at *;have hsz:(o+8*j)/64<G.ls.length:=by unfold NM.Dv.size at h;omega
   by_cases hs:(G.step .fence).2=0
   ·rw [runS_ok hs];have ha:G.ask 0 1=0:=by
     rcases step_err (D:=G) (by omega) (s:=.fence) trivial with ⟨_,hd⟩|⟨h12,_⟩
     ·exact NM.ask_nat (o:=0) (e:=1) (by omega) hd (by unfold NM.Dv.size;omega) rfl
     ·rw [hs] at h12;cases h12
    show (G.fence.1.ln _).chg=[];rw [NM.fence_ln ha _ hsz];unfold NM.Ln.fence;rw [if_pos (by omega)];show (G.ln _).chg.drop ((G.ln _).mark-1)=[];rw [hm];exact List.drop_eq_nil_of_le (by omega)
   ·rw [runS_err hs] at he;exact absurd he hs
  ·rw [if_neg h1] at he;exact absurd he h1
 ·rw [if_neg h0] at he;exact absurd he h0
end
section
open Go Go.RowKit
theorem info_u64:(Tryz.prog.info? 42).map (fun i=>(i.zero,i.size,i.bytes))=some (some (.int .u64 0),1,8):=by kernel_rfl
theorem within_in {D:NM.Dv}(hp:0<D.ls.length){o n:Nat}(h8:o%8=0)(h:o+8*n≤D.size):D.within (o:Int) (n:Int)=0:=by
 unfold NM.Dv.within;rw [if_neg (by omega),if_neg,if_neg]
 ·rintro (h1|h1)
  ·omega
  ·rw [Int.tdiv_eq_ediv_of_nonneg (by omega)] at h1;omega
 ·rintro (h1|h1|h1)
  ·omega
  ·omega
  ·rw [Int.tmod_eq_emod_of_nonneg (by omega)] at h1;omega
theorem get_in {D:NM.Dv}(hp:0<D.ls.length)(hd:D.down=false){o n:Nat}(h8:o%8=0)(h:o+8*n≤D.size):D.get (o:Int) (n:Int)=(wordsAt D o n,0):=by
 unfold NM.Dv.get;rw [if_pos (within_in hp h8 h),if_pos (.inr hd),Int.toNat_natCast,Int.toNat_natCast]
end
section
open Go Go.RowKit
namespace NM
theorem flush_other {D:Dv}(hp:0<D.ls.length)(off:Int){i:Nat}(h:∀ o:Nat,off=(o:Int)→o/64≠i):(D.flush off).1.ln i=D.ln i:=by
 unfold Dv.flush;split
 ·rename_i ha;obtain ⟨o,rfl,hos⟩:=ask1 hp ha;show (D.setLn _ _).ln i=_;rw [Int.toNat_natCast,Dv.setLn_ln D _ _ (by unfold Dv.size at hos;omega),if_neg (fun e=>h o rfl e.symm)]
 ·rfl
theorem store_other {D:Dv}(hp:0<D.ls.length)(off:Int)(n:BitVec 64){i:Nat}(h:∀ o:Nat,off=(o:Int)→o/64≠i):(D.store off n).1.ln i=D.ln i:=by
 by_cases ha:D.ask off 8=0
 ·obtain ⟨o,rfl,ho8,hos⟩:=ask8 hp ha;unfold Dv.store;rw [if_pos ha,Int.toNat_natCast];by_cases hw:D.word o=n
  ·simp only [hw,if_true];rfl
  ·simp only [hw,if_false];show (D.setLn _ _).ln i=_;rw [Dv.setLn_ln D _ _ (by unfold Dv.size at hos;omega),if_neg (fun e=>h o rfl e.symm)]
 ·rw [store_fail off n ha]
end NM
end
end Go.Proofs.YtaaihijkdhmcdaaGreatDoor
