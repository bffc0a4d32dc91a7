/- WholeImage, part 11 of 38: contracts and lemmas of its proof. Conditions: none. -/
import Derived.Test.YtaaihijkdhmcdaaGreatDoorW08
import Derived.Test.YtaaihijkdhmcdaaGreatDoorW09
import Derived.Test.YtaaihijkdhmcdaaGreatDoorW01
import Derived.Test.YtaaihijkdhmcdaaGreatDoorProg
import Derived.Test.YtaaihijkdhmcdaaGreatDoorW00
import Derived.ProofKit
import Derived.OpenShut
import Derived.Lib.SmallJoins
set_option linter.unusedVariables false
set_option linter.unusedSimpArgs false
set_option maxRecDepth 100000
namespace Go.Proofs.YtaaihijkdhmcdaaGreatDoor
section
open Go Go.RowKit
theorem blocks_calls (c:Int)(w:World):Ret Tryz.prog 98 #[.int .i64 c] w fun v w'=>v=.int .i64 (WM.blocksI c)∧w'=w:=by
 refine ret_of (args:=[_]) _ Tryz.func98 rfl Tryz.ntmps98 (by simp) ?_;by_cases h1:c=1
 ·subst h1;simp -implicitDefEqProofs [go_sem];refine body_tmp 2 rfl ?_;simp -implicitDefEqProofs [go_sem,WM.blocksI]
 ·have h1':(c==1)=false:=by rw [beq_eq_false_iff_ne];exact h1
  by_cases h2:c=2
  ·subst h2;simp -implicitDefEqProofs [go_sem];refine body_tmp 2 rfl ?_;simp -implicitDefEqProofs [go_sem,WM.blocksI]
  ·have h2':(c==2)=false:=by rw [beq_eq_false_iff_ne];exact h2
   simp -implicitDefEqProofs [go_sem,h1',h2'];refine body_tmp 2 rfl ?_;simp -implicitDefEqProofs [go_sem,WM.blocksI,h1,h2]
theorem kind_range (w:BitVec 64):0≤uv (WM.kindW w)∧uv (WM.kindW w)<4:=by
 obtain ⟨k,hk,h⟩:=WM.kind_lt w;rw [h,WM.uv_ofNat4 hk];omega
theorem kind_calls (x:BitVec 64)(w:World):Ret Tryz.prog 101 #[.int .u64 (uv x)] w fun v w'=>v=.int .i64 (WM.kindM x)∧Below w.heap.size w w':=by
 have hk:=kind_range x;have hw:=IntWalk.i64_in (uv (WM.kindW x)) (by omega);refine ret_of (args:=[_]) _ Tryz.func101 rfl Tryz.ntmps101 (by simp) ?_;simp -implicitDefEqProofs [go_sem];refine callE_of (field_calls x 16 2 w) ?_;rintro v w1 ⟨rfl,b1⟩;rw [show WM.fieldM x 16 2=WM.kindW x from rfl];simp -implicitDefEqProofs [go_sem,hw];refine body_tmp 2 rfl ?_;simp -implicitDefEqProofs [go_sem,WM.kindM];exact b1
theorem taken_calls (x:BitVec 64)(w:World):Ret Tryz.prog 173 #[.int .u64 (uv x)] w fun v w'=>v=.int .u64 (uv (WM.takenM x))∧Below w.heap.size w w':=by
 refine ret_of (args:=[_]) _ Tryz.func173 rfl Tryz.ntmps173 (by simp) ?_;simp -implicitDefEqProofs [go_sem];refine callE_of (field_calls x 0 16 w) ?_;rintro v w1 ⟨rfl,b1⟩;simp -implicitDefEqProofs [go_sem];refine body_tmp 2 rfl ?_;simp -implicitDefEqProofs [go_sem,WM.takenM];exact b1
theorem right_eq (x:BitVec 64)(hx:(x==0#64)=false):WM.rightM x=((WM.fieldM x 0 (WM.blocksI (WM.kindM x)) != 0#64)&&(WM.withM (WM.withM x 0 (WM.blocksI (WM.kindM x)) 0#64) 16 2 0#64==0#64)):=by
 unfold WM.rightM;rw [hx];rfl
theorem right_calls (x:BitVec 64)(w0:World):Ret Tryz.prog 83 #[.int .u64 (uv x)] w0 fun v w'=>v=.bool (WM.rightM x)∧Below w0.heap.size w0 w':=by
 have bel0:=Below.refl w0.heap.size w0;have hW:=fun n low size w=>with_calls n low size 0#64 w
 rw [show uv 0#64=0 from rfl] at hW;refine ret_of (args:=[_]) _ Tryz.func83 rfl Tryz.ntmps83 (by simp) ?_;cases hx:x==0#64
 ·have hr:=right_eq x hx;simp -implicitDefEqProofs [go_sem,hx];refine callE_of (kind_calls x w0) ?_;rintro v w1 ⟨rfl,b1⟩;have bel1:=btr bel0 b1;simp -implicitDefEqProofs [go_sem];refine callE_of (blocks_calls _ w1) ?_;rintro v w2 ⟨rfl,rfl⟩;simp -implicitDefEqProofs [go_sem];refine callE_of (field_calls x 0 _ w2) ?_;rintro v w3 ⟨rfl,b3⟩;have bel3:=btr bel1 b3;cases h1:WM.fieldM x 0 (WM.blocksI (WM.kindM x)) != 0#64
  ·simp -implicitDefEqProofs [go_sem,h1];refine body_tmp 2 rfl ?_;simp -implicitDefEqProofs [go_sem,hr,h1];exact bel3
  ·simp -implicitDefEqProofs [go_sem,h1];refine callE_of (hW x 0 _ w3) ?_;rintro v w4 ⟨rfl,b4⟩;have bel4:=btr bel3 b4;simp -implicitDefEqProofs [go_sem];refine callE_of (hW _ 16 2 w4) ?_;rintro v w5 ⟨rfl,b5⟩;have bel5:=btr bel4 b5;simp -implicitDefEqProofs [go_sem];refine body_tmp 2 rfl ?_;simp -implicitDefEqProofs [go_sem,hr,h1];exact bel5
 ·simp -implicitDefEqProofs [go_sem,hx];refine body_tmp 2 rfl ?_;simp -implicitDefEqProofs [go_sem,WM.rightM,hx];exact bel0
theorem class_calls (x:BitVec 64)(w0:World):Ret Tryz.prog 64 #[.int .u64 (uv x)] w0 fun v w'=>v=.int .i64 (WM.classM x)∧Below w0.heap.size w0 w':=by
 have bel0:=Below.refl w0.heap.size w0;refine ret_of (args:=[_]) _ Tryz.func64 rfl Tryz.ntmps64 (by simp) ?_;simp -implicitDefEqProofs [go_sem];refine callE_of (right_calls x w0) ?_;rintro v w1 ⟨rfl,b1⟩;have bel1:=btr bel0 b1;cases h1:WM.rightM x
 ·simp -implicitDefEqProofs [go_sem];refine body_tmp 2 rfl ?_;simp -implicitDefEqProofs [go_sem,WM.classM,h1];exact bel1
 ·simp -implicitDefEqProofs [go_sem];refine callE_of (kind_calls x w1) ?_;rintro v w2 ⟨rfl,b2⟩;have bel2:=btr bel1 b2;simp -implicitDefEqProofs [go_sem];refine body_tmp 2 rfl ?_;simp -implicitDefEqProofs [go_sem,WM.classM,h1];exact bel2
theorem has_calls' (x:BitVec 64)(p:Int)(w0:World):Ret Tryz.prog 99 #[.int .u64 (uv x),.int .i64 p] w0 fun v w'=>v=.bool (WM.hasM x p)∧Below w0.heap.size w0 w':=by
 have bel0:=Below.refl w0.heap.size w0;refine ret_of (args:=[_,_]) _ Tryz.func99 rfl Tryz.ntmps99 (by simp) ?_;by_cases h0:0≤p
 ·simp -implicitDefEqProofs [go_sem,h0];refine callE_of (class_calls x w0) ?_;rintro v w1 ⟨rfl,b1⟩;have bel1:=btr bel0 b1;simp -implicitDefEqProofs [go_sem];refine callE_of (blocks_calls _ w1) ?_;rintro v w2 ⟨rfl,rfl⟩;by_cases h1:p<WM.blocksI (WM.classM x)
  ·simp -implicitDefEqProofs [go_sem,h1];refine callE_of (field_calls x p 1 w2) ?_;rintro v w3 ⟨rfl,b3⟩;simp -implicitDefEqProofs [go_sem];refine body_tmp 4 rfl ?_;simp -implicitDefEqProofs [go_sem,WM.hasM,h0,h1];exact btr bel1 b3
  ·simp -implicitDefEqProofs [go_sem,h1];refine body_tmp 4 rfl ?_;simp -implicitDefEqProofs [go_sem,WM.hasM,h0,h1];exact bel1
 ·simp -implicitDefEqProofs [go_sem,h0];refine body_tmp 4 rfl ?_;simp -implicitDefEqProofs [go_sem,WM.hasM,h0];exact bel0
theorem meets_calls (x:BitVec 64)(c:Int)(w0:World):Ret Tryz.prog 220 #[.int .u64 (uv x),.int .i64 c] w0 fun v w'=>v=.bool (WM.meetsM x c)∧Below w0.heap.size w0 w':=by
 have bel0:=Below.refl w0.heap.size w0;refine ret_of (args:=[_,_]) _ Tryz.func220 rfl Tryz.ntmps220 (by simp) ?_;simp -implicitDefEqProofs [go_sem];refine callE_of (right_calls x w0) ?_;rintro v w1 ⟨rfl,b1⟩;have bel1:=btr bel0 b1;cases h1:WM.rightM x
 ·simp -implicitDefEqProofs [go_sem];refine body_tmp 4 rfl ?_;simp -implicitDefEqProofs [go_sem,WM.meetsM,h1];exact bel1
 ·simp -implicitDefEqProofs [go_sem];refine callE_of (blocks_calls _ w1) ?_;rintro v w2 ⟨rfl,rfl⟩;by_cases h2:0<WM.blocksI c
  ·cases h3:x==0#64
   ·simp -implicitDefEqProofs [go_sem,h2,h3];refine callE_of (kind_calls x w2) ?_;rintro v w3 ⟨rfl,b3⟩;simp -implicitDefEqProofs [go_sem];refine body_tmp 4 rfl ?_;simp -implicitDefEqProofs [go_sem,WM.meetsM,h1,h2,h3];exact btr bel1 b3
   ·simp -implicitDefEqProofs [go_sem,h2,h3];refine body_tmp 4 rfl ?_;simp -implicitDefEqProofs [go_sem,WM.meetsM,h1,h2,h3];exact bel1
  ·simp -implicitDefEqProofs [go_sem,h2];refine body_tmp 4 rfl ?_;simp -implicitDefEqProofs [go_sem,WM.meetsM,h1,h2];exact bel1
theorem slabNext_calls (x:BitVec 64)(c:Int)(w0:World)(hT:Tabs w0):Ret Tryz.prog 209 #[.int .u64 (uv x),.int .i64 c] w0 fun v w'=>v=.int .i64 (WM.nextM x c)∧Below w0.heap.size w0 w':=by
 have bel0:=Below.refl w0.heap.size w0;refine ret_of (args:=[_,_]) _ Tryz.func209 rfl Tryz.ntmps209 (by simp) ?_;simp -implicitDefEqProofs [go_sem];refine callE_of (meets_calls x c w0) ?_;rintro v w1 ⟨rfl,b1⟩;have bel1:=btr bel0 b1;replace hT:=hT.next b1
 cases h1:WM.meetsM x c
 ·simp -implicitDefEqProofs [go_sem];refine body_tmp 4 rfl ?_;simp -implicitDefEqProofs [go_sem,WM.nextM,h1];exact bel1
 ·simp -implicitDefEqProofs [go_sem];refine callE_of (taken_calls x w1) ?_;rintro v w2 ⟨rfl,b2⟩;have bel2:=btr bel1 b2;replace hT:=hT.next b2
  simp -implicitDefEqProofs [go_sem];refine callE_of (blocks_calls _ w2) ?_;rintro v w3 ⟨rfl,rfl⟩;simp -implicitDefEqProofs [go_sem];refine callE_of (low_calls _ _ w3 hT) ?_;rintro v w4 ⟨rfl,b4⟩;simp -implicitDefEqProofs [go_sem];refine body_tmp 4 rfl ?_;simp -implicitDefEqProofs [go_sem,WM.nextM,h1];exact btr bel2 b4
theorem take_calls (x:BitVec 64)(c p:Int)(w0:World):Ret Tryz.prog 210 #[.int .u64 (uv x),.int .i64 c,.int .i64 p] w0 fun v w'=>v=.tuple #[.int .u64 (uv (WM.takeW x c p)),.bool (WM.takeOk x c p)]∧Below w0.heap.size w0 w':=by
 have bel0:=Below.refl w0.heap.size w0;have hW:=fun n low size w=>with_calls n low size 1#64 w
 rw [show uv 1#64=1 from rfl] at hW;refine ret_of (args:=[_,_,_]) _ Tryz.func210 rfl Tryz.ntmps210 (by simp) ?_;simp -implicitDefEqProofs [go_sem];refine callE_of (meets_calls x c w0) ?_;rintro v w1 ⟨rfl,b1⟩;have bel1:=btr bel0 b1;cases h1:WM.meetsM x c
 ·simp -implicitDefEqProofs [go_sem];refine body_tmp2 6 7 rfl ?_;simp -implicitDefEqProofs [go_sem,WM.takeW,WM.takeOk,h1];exact bel1
 by_cases h2:p<0
 ·have h2':¬ 0≤p:=by omega
  simp -implicitDefEqProofs [go_sem,h2];refine body_tmp2 6 7 rfl ?_;simp -implicitDefEqProofs [go_sem,WM.takeW,WM.takeOk,h1,h2'];exact bel1
 have h2':0≤p:=by omega
 simp -implicitDefEqProofs [go_sem,h2];refine callE_of (blocks_calls _ w1) ?_;rintro v w2 ⟨rfl,rfl⟩;by_cases h3:WM.blocksI c≤p
 ·have h3':¬ p<WM.blocksI c:=by omega
  simp -implicitDefEqProofs [go_sem,h3];refine body_tmp2 6 7 rfl ?_;simp -implicitDefEqProofs [go_sem,WM.takeW,WM.takeOk,h1,h2',h3'];exact bel1
 have h3':p<WM.blocksI c:=by omega
 simp -implicitDefEqProofs [go_sem,h3];refine callE_of (has_calls' x p w2) ?_;rintro v w3 ⟨rfl,b3⟩;have bel3:=btr bel1 b3;cases h4:WM.hasM x p
 ·simp -implicitDefEqProofs [go_sem];refine callE_of (hW x p 1 w3) ?_;rintro v w4 ⟨rfl,b4⟩;have bel4:=btr bel3 b4;simp -implicitDefEqProofs [go_sem];refine callE_of (with_calls _ 16 2 _ w4) ?_;rintro v w5 ⟨rfl,b5⟩;have bel5:=btr bel4 b5;simp -implicitDefEqProofs [go_sem];refine body_tmp2 6 7 rfl ?_;simp -implicitDefEqProofs [go_sem,WM.takeW,WM.takeOk,h1,h2',h3',h4];exact bel5
 ·simp -implicitDefEqProofs [go_sem];refine body_tmp2 6 7 rfl ?_;simp -implicitDefEqProofs [go_sem,WM.takeW,WM.takeOk,h1,h2',h3',h4];exact bel3
theorem drop_calls (x:BitVec 64)(p:Int)(w0:World):Ret Tryz.prog 138 #[.int .u64 (uv x),.int .i64 p] w0 fun v w'=>v=.tuple #[.int .u64 (uv (WM.dropW x p)),.bool (WM.hasM x p)]∧Below w0.heap.size w0 w':=by
 have bel0:=Below.refl w0.heap.size w0;have hW:=fun n low size w=>with_calls n low size 0#64 w
 rw [show uv 0#64=0 from rfl] at hW;refine ret_of (args:=[_,_]) _ Tryz.func138 rfl Tryz.ntmps138 (by simp) ?_;simp -implicitDefEqProofs [go_sem];refine callE_of (has_calls' x p w0) ?_;rintro v w1 ⟨rfl,b1⟩;have bel1:=btr bel0 b1;cases h1:WM.hasM x p
 ·simp -implicitDefEqProofs [go_sem];refine body_tmp2 4 5 rfl ?_;simp -implicitDefEqProofs [go_sem,WM.dropW,h1];exact bel1
 ·simp -implicitDefEqProofs [go_sem];refine callE_of (hW x p 1 w1) ?_;rintro v w2 ⟨rfl,b2⟩;have bel2:=btr bel1 b2;rw [show WM.withM x p 1 0#64=WM.lessM x p from rfl];simp -implicitDefEqProofs [go_sem];refine callE_of (taken_calls _ w2) ?_;rintro v w3 ⟨rfl,b3⟩;have bel3:=btr bel2 b3;cases h2:WM.takenM (WM.lessM x p)==0#64
  ·simp -implicitDefEqProofs [go_sem,h2];refine body_tmp2 4 5 rfl ?_;simp -implicitDefEqProofs [go_sem,WM.dropW,h1,h2];exact bel3
  ·simp -implicitDefEqProofs [go_sem,h2];refine body_tmp2 4 5 rfl ?_;have h2':WM.takenM (WM.lessM x p)=0#64:=by simpa using h2
   simp -implicitDefEqProofs [go_sem,WM.dropW,h1,h2',show uv 0#64=0 from rfl];exact bel3
end
section
open Go Go.RowKit
def linesI (c:Int):Int:=if c=1 then 1 else if c=2 then 4 else 0
theorem lines_calls (c:Int)(w:World):Ret Tryz.prog 100 #[.int .i64 c] w fun v w'=>v=.int .i64 (linesI c)∧w'=w:=by
 refine ret_of (args:=[_]) _ Tryz.func100 rfl Tryz.ntmps100 (by simp) ?_;by_cases h1:c=1
 ·subst h1;simp -implicitDefEqProofs [go_sem];refine body_tmp 2 rfl ?_;simp -implicitDefEqProofs [go_sem,linesI]
 ·have h1':(c==1)=false:=by rw [beq_eq_false_iff_ne];exact h1
  by_cases h2:c=2
  ·subst h2;simp -implicitDefEqProofs [go_sem];refine body_tmp 2 rfl ?_;simp -implicitDefEqProofs [go_sem,linesI]
  ·have h2':(c==2)=false:=by rw [beq_eq_false_iff_ne];exact h2
   simp -implicitDefEqProofs [go_sem,h1',h2'];refine body_tmp 2 rfl ?_;simp -implicitDefEqProofs [go_sem,linesI,h1,h2]
end
section
open Go Go.RowKit
theorem info_int:(Tryz.prog.info? 3).map (fun i=>(i.zero,i.size,i.bytes))=some (some (.int .i64 0),1,8):=by kernel_rfl
def lstK (f:Nat→Bool)(k:Nat):List Nat:=(List.range k).filter f
theorem lstK_zero (f:Nat→Bool):lstK f 0=[]:=rfl
theorem filter_succ (f:Nat→Bool)(k:Nat):lstK f (k+1)=lstK f k++(if f k then [k] else []):=by
 unfold lstK;rw [List.range_succ,List.filter_append];cases h:f k<;>simp [h]
theorem filter_len (f:Nat→Bool)(k:Nat):(lstK f k).length≤k:=by
 have:=List.length_filter_le f (List.range k);simpa [lstK] using this
theorem push_nat {w0 w:World}{a:Option Addr}{len c:Nat}{l:List Nat}(base:Nat)(hown:w.ownsRow base 3 1 (.slice a len c) len (nats l))(hl:len≤1000000)(hbase:base≤w.heap.size)(hb:Below base w0 w)(i:Nat) :
  ∃ a2 c2 w2,(appendB #[45,45] 45 #[.slice a len c,.slice (some ⟨w.heap.size,0,none⟩) 1 1]).run Tryz.prog (w.alloc (.cells #[.int .i64 (i:Int)] 3))=.ok (.slice a2 (len+1) c2) w2 ∧
   w2.ownsRow base 3 1 (.slice a2 (len+1) c2) (len+1) (nats (l++[i]))∧Below base w0 w2∧base≤w2.heap.size:=by
 have ha:(w.alloc (.cells #[.int .i64 (i:Int)] 3)).heap.size=w.heap.size+1:=by simp
 obtain ⟨a2,c2,w2,hr2,hown2,hgr⟩:=run_append1 (P:=Tryz.prog) base (t:=45) (bytes:=8) (z:=.int .i64 0) 45 Tryz.underlying45 info_int rfl (hown.alloc (.cells #[.int .i64 (i:Int)] 3)) (a2:=some ⟨w.heap.size,0,none⟩) (c2:=1) (m:=1) (news:=[.int .i64 (i:Int)]) rfl
  (.inr ⟨_,rfl,fun j u hu=>by rw [Addr.add_lit,Nat.zero_add,(Blk.new _ _ _).cell];simpa using hu⟩) (by simp) (by simp [Value.oneCell']) (by omega) (by omega) (by omega)
 have hb2:=(hb.alloc hbase (.cells #[.int .i64 (i:Int)] 3)).grown hgr (by omega) (fun j hj=>(hown.lt j hj).1);refine ⟨a2,c2,w2,hr2,by rw [nats_append];exact hown2,hb2,?_⟩;have:=hgr.size;omega
end
section
open Go Go.RowKit Go.ChangeShapes Go.WideShapes Go.ChangeAt Go.Joins Go.Deep
theorem addr_at {w:World}{a:Addr}{v:Value}(h:w.cell? a=some v):a=⟨a.block,a.off,none⟩:=by
 obtain ⟨b,o,s⟩:=a;cases s with
 | none=>rfl
 | some s =>
  unfold World.cell? at h;split at h
  ·simp at h
  ·cases h
end
section
open Go Go.RowKit
namespace NM
open Go.Proofs.YtaaihijkdhmcdaaGreatDoor.WM (getM putM putM_length putM_getD hasB get_put byteOf byteOf_wd wd)
theorem words_le (s:HM.Shape):(HM.words s).length≤8:=by
 unfold HM.words;split
 ·exact Nat.le_refl _
 ·simp
theorem format_steps {D:Dv}(hn:D.ls.length≤1024):D.format.1.steps≤D.steps+100000:=by
 have h1:=putAll_steps D 0 (List.replicate (D.ls.length*8) 0#64);rw [List.length_replicate] at h1;have h2:=putAll_steps (D.putAll 0 (List.replicate (D.ls.length*8) 0#64)).1 0 (HM.words (HM.of D.ls.length).1);have h3:=words_le (HM.of D.ls.length).1;unfold Dv.format;split
 ·dsimp only;omega
 ·split
  ·dsimp only;omega
  ·split<;>(dsimp only;omega)
end NM
end
end Go.Proofs.YtaaihijkdhmcdaaGreatDoor
