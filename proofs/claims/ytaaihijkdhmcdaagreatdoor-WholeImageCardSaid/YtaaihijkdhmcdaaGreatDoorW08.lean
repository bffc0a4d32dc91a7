/- WholeImage, part 9 of 38: contracts and lemmas of its proof. Conditions: none. -/
import Derived.Test.YtaaihijkdhmcdaaGreatDoorW07
import Derived.Test.YtaaihijkdhmcdaaGreatDoorW06
import Derived.Test.YtaaihijkdhmcdaaGreatDoorProg
import Derived.Test.YtaaihijkdhmcdaaGreatDoorW00
import Derived.Test.YtaaihijkdhmcdaaGreatDoorW01
set_option linter.unusedVariables false
set_option linter.unusedSimpArgs false
set_option maxRecDepth 100000
namespace Go.Proofs.YtaaihijkdhmcdaaGreatDoor
section
open Go Go.RowKit
namespace NM
open Go.Proofs.YtaaihijkdhmcdaaGreatDoor.WM (getM putM putM_length putM_getD hasB get_put byteOf byteOf_wd wd)
theorem putAll_up {D:Dv}(hok:D.Ok)(hu:D.Up)(hp:0<D.ls.length){l:List (BitVec 64)}(h:8*l.length≤D.size) :
  D.putAll 0 l=((runS D (putAllS 0 l)).1,0)∧(runS D (putAllS 0 l)).2=0∧(runS D (putAllS 0 l)).1.Up∧(runS D (putAllS 0 l)).1.Ok∧(runS D (putAllS 0 l)).1.ls.length=D.ls.length:=by
 have hw:D.within 0 l.length=0:=within_in (o:=0) hp (by omega) (by omega);have hin:=putAllS_in (o:=0) (l:=l) (N:=D.ls.length) (by omega) (by unfold Dv.size at h;omega);obtain ⟨h1,h2⟩:=runS_upUp hu hp _ hin;refine ⟨?_,h1,h2,runS_okk hok _,runS_len _ _⟩;unfold Dv.putAll;rw [if_pos hw];show runS D (putAllS 0 l)=_;rw [← h1]
theorem putAll0_words {D:Dv}(hok:D.Ok)(hu:D.Up)(hp:0<D.ls.length){l:List (BitVec 64)}(h:8*l.length≤D.size){x:Nat}(hx:x%8=0)(hxs:x<D.size) :
  (D.putAll 0 l).1.word x=if x<8*l.length then l.getD (x/8) 0#64 else D.word x:=by
 obtain ⟨h1,h2,_⟩:=putAll_up hok hu hp h;rw [h1];have:=putAll_words hok hp (o:=0) (l:=l) (by omega) (by omega) h2 hx hxs;rw [this];by_cases hlt:x<8*l.length
 ·rw [if_pos (by omega),if_pos hlt];rfl
 ·rw [if_neg (by omega),if_neg hlt]
theorem putAll0_one {D:Dv}(hok:D.Ok)(hu:D.Up)(hp:0<D.ls.length){l:List (BitVec 64)}(h:8*l.length≤D.size){i:Nat}(hi:64*i<8*l.length):((D.putAll 0 l).1.ln i).chg=[]:=by
 obtain ⟨h1,h2,_⟩:=putAll_up hok hu hp h;rw [h1];have:=putAll_one hp (o:=0) (l:=l) (by omega) (by omega) h2 (j:=8*i) (by omega);rw [show (0+8*(8*i))/64=i by omega] at this;exact this
theorem fence_nil {l:Ln}(h:l.chg=[]):l.fence.chg=[]:=by
 unfold Ln.fence;split
 ·show l.chg.drop _=[];rw [h];exact List.drop_nil
 ·exact h
theorem putAll0_rest {D:Dv}(hp:0<D.ls.length){l:List (BitVec 64)}(h:8*l.length≤64){i:Nat}(hi:1≤i)(hiD:i<D.ls.length)(hc:(D.ln i).chg=[]):((runS D (putAllS 0 l)).1.ln i).chg=[]:=by
 refine (runS_inv (I:=fun E=>E.ls.length=D.ls.length∧(E.ln i).chg=[]) _ (fun s hs E hE=>?_) ⟨rfl,hc⟩).2;refine ⟨by rw [step_len];exact hE.1,?_⟩;unfold putAllS at hs
 rcases List.mem_append.1 hs with hs|hs
 ·obtain ⟨k,hk,rfl⟩:=List.mem_map.1 hs;have hk':=List.mem_range.1 hk;show ((E.store _ _).1.ln i).chg=[];rw [store_other (by omega) _ _ (fun o ho=>by omega)];exact hE.2
 ·rcases List.mem_append.1 hs with hs|hs
  ·obtain ⟨k,hk,rfl⟩:=List.mem_map.1 hs;have hk':=List.mem_range.1 hk;have hk1:k<1:=by unfold linesOf at hk';split at hk' <;> omega
   show ((E.flush _).1.ln i).chg=[];rw [flush_other (by omega) _ (fun o ho=>by omega)];exact hE.2
  ·rw [List.mem_singleton.1 hs];show (E.fence.1.ln i).chg=[];by_cases ha:E.ask 0 1=0
   ·rw [fence_ln ha i (by omega)];exact fence_nil hE.2
   ·unfold Dv.fence;rw [if_neg ha];exact hE.2
theorem format_up {D:Dv}(hok:D.Ok)(hu:D.Up)(hp:0<D.ls.length)(hof:(HM.of D.ls.length).2=true) :
  D.format.2=((HM.of D.ls.length).1,0)∧D.format.1.Up∧D.format.1.Ok∧D.format.1.ls.length=D.ls.length ∧
  (∀ x,x%8=0→x<D.size→D.format.1.word x=(HM.words (HM.of D.ls.length).1).getD (x/8) 0#64)∧∀ i,i<D.ls.length→(D.format.1.ln i).chg=[]:=by
 obtain ⟨hn1,hn2,hn3,_⟩:=HM.of_some hof;have hwl:(HM.words (HM.of D.ls.length).1).length=8:=by rw [hn3];exact HM.words_len (by omega) (by omega)
 have hl1:8*(List.replicate (D.ls.length*8) 0#64).length≤D.size:=by rw [List.length_replicate];unfold Dv.size;omega
 obtain ⟨a1,a2,a3,a4,a5⟩:=putAll_up hok hu hp hl1;have w1:=fun x h1 h2=>putAll0_words hok hu hp hl1 (x:=x) h1 h2
 have c1:=fun i h1=>putAll0_one hok hu hp hl1 (i:=i) h1
 rw [List.length_replicate] at w1 c1;unfold Dv.format;rw [if_neg (by rw [hof];simp)];rw [a1] at w1 c1 ⊢;generalize (runS D (putAllS 0 (List.replicate (D.ls.length*8) 0#64))).1=E at *;have hsz:E.size=D.size:=by unfold Dv.size;rw [a5]
 have hl2:8*(HM.words (HM.of D.ls.length).1).length≤E.size:=by rw [hwl];unfold Dv.size;omega
 obtain ⟨b1,b2,b3,b4,b5⟩:=putAll_up a4 a3 (by omega) hl2;have w2:=fun x h1 h2=>putAll0_words a4 a3 (by omega) hl2 (x:=x) h1 h2
 have c2:=fun i h1=>putAll0_one a4 a3 (by omega) hl2 (i:=i) h1
 have r2:=fun i h1 h2 h3=>putAll0_rest (D:=E) (by omega) (l:=HM.words (HM.of D.ls.length).1) (by rw [hwl];omega) (i:=i) h1 h2 h3
 rw [if_neg (by simp)];rw [b1] at w2 c2 ⊢;rw [if_neg (by simp)];refine ⟨rfl,b3,b4,by show _=_;rw [b5,a5],fun x h1 h2=>?_,fun i hi=>?_⟩
 ·show (runS E _).1.word x=_;rw [w2 x h1 (by omega),hwl];by_cases h64:x<8*8
  ·rw [if_pos h64]
  ·rw [if_neg h64,w1 x h1 h2,List.getD_eq_getElem?_getD,List.getElem?_replicate,if_pos (by unfold Dv.size at h2;omega),List.getD_eq_getElem?_getD,List.getElem?_eq_none (by rw [hwl];omega)]
   split<;>rfl
 ·by_cases h0:i=0
  ·subst h0;exact c2 0 (by rw [hwl];omega)
  ·exact r2 i (by omega) (by omega) (c1 i (by omega))
theorem open_up {D:Dv}(hp:0<D.ls.length)(hd:D.down=false):D.openH=if (HM.of D.ls.length).2=true∧wordsAt D 0 8=HM.words (HM.of D.ls.length).1 then ((HM.of D.ls.length).1,0) else (HM.none4,5):=by
 have hg:D.get 0 8=(wordsAt D 0 8,0):=get_in (o:=0) (n:=8) hp hd (by omega) (by unfold Dv.size;omega);unfold Dv.openH;rw [hg,if_neg (by simp)]
theorem words_eq {D:Dv}{l:List (BitVec 64)}(hl:l.length=8):wordsAt D 0 8=l↔∀ i,i<8→D.word (8*i)=l.getD i 0#64:=by
 unfold wordsAt;constructor
 ·intro h i hi;rw [← h];simp [hi]
 ·intro h;apply List.ext_getElem (by simp [hl]);intro i h1 h2;have hi:i<8:=by simpa using h1
  have:=h i hi;simp [List.getD,h2] at this ⊢;exact this
theorem open_format {D:Dv}(hok:D.Ok)(hu:D.Up)(hp:0<D.ls.length)(hof:(HM.of D.ls.length).2=true):D.format.1.openH=((HM.of D.ls.length).1,0):=by
 obtain ⟨hn1,hn2,hn3,_⟩:=HM.of_some hof;have hwl:(HM.words (HM.of D.ls.length).1).length=8:=by rw [hn3];exact HM.words_len (by omega) (by omega)
 obtain ⟨f1,f2,f3,f4,f5,_⟩:=format_up hok hu hp hof;rw [open_up (by omega) f2.down,f4,if_pos];refine ⟨hof,(words_eq hwl).2 fun i hi=>?_⟩;rw [f5 (8*i) (by omega) (by unfold Dv.size;omega)]
 congr 1;omega
end NM
end
section
open Go Go.RowKit
def Tabs (w:World):Prop:=∀ j,j<64→w.cell? ⟨1,j,none⟩=some (.int .u8 (uv (WM.tab.getD j 0#8)))
theorem Tabs.next {w w':World}(h:Tabs w)(hb:Below w.heap.size w w'):Tabs w':=fun j hj=>(hb.cell (p:=⟨_,_,none⟩) (World.block_lt_of_cell? w _ (h j hj))).trans (h j hj)
theorem low_eq (low:Int):min (max low 0) 64=(WM.lowM low:Int):=by unfold WM.lowM;omega
theorem size_eq (low size:Int):min (max size 0) (64-(WM.lowM low:Int))=(WM.sizeM low size:Int):=by unfold WM.sizeM;have:=WM.lowM_le low;omega
theorem span_calls (low size:Int)(w:World) :
  Ret Tryz.prog 147 #[.int .i64 low,.int .i64 size] w fun v w'=>v=.tuple #[.int .i64 (WM.lowM low),.int .u64 (uv (WM.ones (WM.sizeM low size)))]∧Below w.heap.size w w':=by
 have h1:=low_eq low;have h2:=size_eq low size;have h3:=IntWalk.i64_in (64-(WM.lowM low:Int)) (by have:=WM.lowM_le low;omega);refine ret_of (args:=[_,_]) _ Tryz.func147 rfl Tryz.ntmps147 (by simp) ?_;simp -implicitDefEqProofs [go_sem,h1,h2,h3];refine drawE_still mixed (by decide +kernel) ?_;simp -implicitDefEqProofs [go_sem];unfold endE;simp -implicitDefEqProofs [go_sem];refine body_tmp2 4 5 rfl ?_;simp -implicitDefEqProofs [go_sem,WM.ones];exact BelowR.drew
theorem field_calls (n:BitVec 64)(low size:Int)(w:World) :
  Ret Tryz.prog 118 #[.int .u64 (uv n),.int .i64 low,.int .i64 size] w fun v w'=>v=.int .u64 (uv (WM.fieldM n low size))∧Below w.heap.size w w':=by
 refine ret_of (args:=[_,_,_]) _ Tryz.func118 rfl Tryz.ntmps118 (by simp) ?_;simp -implicitDefEqProofs [go_sem];refine callE_of (span_calls low size w) ?_;rintro v w1 ⟨rfl,b1⟩;simp -implicitDefEqProofs [go_sem];refine body_tmp 6 rfl ?_;simp -implicitDefEqProofs [go_sem,WM.fieldM];exact b1
theorem with_calls (n:BitVec 64)(low size:Int)(x:BitVec 64)(w:World) :
  Ret Tryz.prog 119 #[.int .u64 (uv n),.int .i64 low,.int .i64 size,.int .u64 (uv x)] w fun v w'=>v=.int .u64 (uv (WM.withM n low size x))∧Below w.heap.size w w':=by
 refine ret_of (args:=[_,_,_,_]) _ Tryz.func119 rfl Tryz.ntmps119 (by simp) ?_;simp -implicitDefEqProofs [go_sem];refine callE_of (span_calls low size w) ?_;rintro v w1 ⟨rfl,b1⟩;simp -implicitDefEqProofs [go_sem];refine drawE_still mixed (by decide +kernel) ?_;simp -implicitDefEqProofs [go_sem];unfold endE;simp -implicitDefEqProofs [go_sem];refine body_tmp 8 rfl ?_;simp -implicitDefEqProofs [go_sem,WM.withM];exact b1.drew
theorem zeros_calls (x:BitVec 64)(w:World)(hT:Tabs w) :
  Ret Tryz.prog 226 #[.int .u64 (uv x)] w fun v w'=>∃ t:Nat,v=.int .i64 t∧WM.Zeros x t∧w'=w:=by
 refine ret_of (args:=[_]) _ Tryz.func226 rfl Tryz.ntmps226 (by simp) ?_;by_cases hx:x=0#64
 ·subst hx;simp -implicitDefEqProofs [go_sem];refine body_tmp 2 rfl ?_;simp -implicitDefEqProofs [go_sem];exact ⟨64,rfl,WM.zeros_zero⟩
 ·have hx':(x==0#64)=false:=by rw [beq_eq_false_iff_ne];exact hx
  obtain ⟨i,hi⟩:∃ i,i=idx (((x &&& -x)*285870213051353865#64) >>> 58):=⟨_,rfl⟩;have hi64:i<64:=by
   rw [hi];unfold idx;rw [BitVec.toNat_ushiftRight,Nat.shiftRight_eq_div_pow];have:=((x &&& -x)*285870213051353865#64).isLt;omega
  have hui:uv (((x &&& -x)*285870213051353865#64) >>> 58)=(i:Int):=by rw [hi];rfl
  have hc:=hT i hi64;have hi64':(i:Int)<64:=by omega
  have hte:(WM.tab.getD i 0#8).toNat=WM.tabAt x:=by rw [hi];rfl
  have hcv:IntKind.i64.wrap (uv (WM.tab.getD i 0#8))=(WM.tabAt x:Int):=by
   rw [← hte,IntWalk.i64_in _ (by unfold uv;have:=(WM.tab.getD i 0#8).isLt;omega)];rfl
  generalize WM.tab.getD i 0#8=y at *;simp -implicitDefEqProofs [go_sem,hx',hui,hi64',hi64,hc,hcv];refine body_tmp 2 rfl ?_;simp -implicitDefEqProofs [go_sem];exact ⟨_,rfl,WM.tab_zeros x hx⟩
theorem low_calls (n:BitVec 64)(many:Int)(w:World)(hT:Tabs w) :
  Ret Tryz.prog 221 #[.int .u64 (uv n),.int .i64 many] w fun v w'=>v=.int .i64 (WM.lowOff n many)∧Below w.heap.size w w':=by
 refine ret_of (args:=[_,_]) _ Tryz.func221 rfl Tryz.ntmps221 (by simp) ?_;simp -implicitDefEqProofs [go_sem];refine callE_of (zeros_calls (~~~n) w hT) ?_;rintro v w1 ⟨t,rfl,hz,rfl⟩;have hl:=WM.lowOff_zeros n many t hz;by_cases hlt:(t:Int)<min many 64
 ·rw [if_pos hlt] at hl;simp -implicitDefEqProofs [go_sem,hlt];refine body_tmp 4 rfl ?_;simp -implicitDefEqProofs [go_sem,hl];exact BelowR
 ·rw [if_neg hlt] at hl;simp -implicitDefEqProofs [go_sem,hlt];refine body_tmp 4 rfl ?_;simp -implicitDefEqProofs [go_sem,hl];exact BelowR
end
end Go.Proofs.YtaaihijkdhmcdaaGreatDoor
