/- WholeImage, part 15 of 38: contracts and lemmas of its proof. Conditions: none. -/
import Derived.Test.YtaaihijkdhmcdaaGreatDoorProg
import Derived.Test.YtaaihijkdhmcdaaGreatDoorW00
import Derived.Test.YtaaihijkdhmcdaaGreatDoorW01
import Derived.Test.YtaaihijkdhmcdaaGreatDoorW07
import Derived.Test.YtaaihijkdhmcdaaGreatDoorW03
import Derived.Laws.Rows
import Derived.Laws.ResultCell
import Derived.Laws.IdiomStrings
set_option linter.unusedVariables false
set_option linter.unusedSimpArgs false
set_option maxRecDepth 100000
namespace Go.Proofs.YtaaihijkdhmcdaaGreatDoor
namespace RM
def tw (f:Nat→BitVec 8):Nat→Nat→BitVec 64
 | 0,_=>0#64
 | n+1,k=>if n/8=k then tw f n k ||| (f n).setWidth 64 <<< (n%8*8) else tw f n k
theorem tw_bit (f:Nat→BitVec 8)(n k b:Nat):(tw f n k).getLsbD b=(decide (b<64)&&decide (8*k+b/8<n)&&(f (8*k+b/8)).getLsbD (b%8)):=by
 induction n with
 | zero=>simp [tw]
 | succ n ih =>
  rw [tw];by_cases hb:b<64
  ·split
   ·rename_i hk;rw [BitVec.getLsbD_or,ih,BitVec.getLsbD_shiftLeft,BitVec.getLsbD_setWidth];by_cases h1:b/8=n%8
    ·have e1:8*k+b/8=n:=by omega
     have e2:b-n%8*8=b%8:=by omega
     have e3:¬ b<n%8*8:=by omega
     have e4:b%8<64:=by omega
     simp [e1,e2,e3,e4,hb]
    ·rcases Nat.lt_or_ge b (n%8*8) with h2|h2
     ·have e1:8*k+b/8<n:=by omega
      have e2:8*k+b/8<n+1:=by omega
      simp [h2,e1,e2,hb]
     ·have e1:¬ 8*k+b/8<n:=by omega
      have e2:¬ 8*k+b/8<n+1:=by omega
      have e3:(f n).getLsbD (b-n%8*8)=false:=BitVec.getLsbD_of_ge _ _ (by omega);simp [e1,e2,e3]
   ·rename_i hk;rw [ih];by_cases h1:8*k+b/8=n
    ·omega
    ·have e:(8*k+b/8<n)↔(8*k+b/8<n+1):=by omega
     simp only [e]
  ·simp [hb,BitVec.getLsbD_of_ge _ b (by omega:64≤b)]
theorem tw_byte (f:Nat→BitVec 8)(n i:Nat):((tw f n (i/8)) >>> (i%8*8)).setWidth 8=if i<n then f i else 0#8:=by
 apply BitVec.eq_of_getLsbD_eq;intro b hb;rw [BitVec.getLsbD_setWidth,BitVec.getLsbD_ushiftRight,tw_bit];have e1:(i%8*8+b)/8=i%8:=by omega
 have e2:8*(i/8)+i%8=i:=by omega
 have e3:(i%8*8+b)%8=b:=by omega
 have e4:i%8*8+b<64:=by omega
 rw [e1,e2,e3];split
 ·simp_all
 ·rename_i h;simp [h]
def w0 (n:Nat)(gone:Bool):BitVec 64:=3#64 ||| BitVec.ofNat 64 n <<< 16 ||| (if gone then 256#64 else 0#64)
def ws (h st nx:BitVec 64)(f:Nat→BitVec 8)(n:Nat):List (BitVec 64):=[h,st,nx,tw f n 0,tw f n 1,tw f n 2,tw f n 3,tw f n 4]
theorem ws_set (h st nx:BitVec 64)(f:Nat→BitVec 8)(n:Nat)(hn:n<40) :
  (ws h st nx f n).set (3+n/8) ((ws h st nx f n).getD (3+n/8) 0#64 ||| (f n).setWidth 64 <<< (n%8*8))=ws h st nx f (n+1):=by
 have:n/8=0∨n/8=1∨n/8=2∨n/8=3∨n/8=4:=by omega
 rcases this with h1|h1|h1|h1|h1<;>simp [ws,tw,h1]
theorem w0_facts (n:Nat)(hn:n≤40)(g:Bool):(w0 n g) >>> 16=BitVec.ofNat 64 n∧((w0 n g &&& 256#64) != 0#64)=g∧(w0 n g/256#64%256#64==1#64)=g:=by
 have:∀ n,n<41→∀ g:Bool,(w0 n g) >>> 16=BitVec.ofNat 64 n∧((w0 n g &&& 256#64) != 0#64)=g∧(w0 n g/256#64%256#64==1#64)=g:=by decide +kernel
 exact this n (by omega) g
end RM
section
open Go Go.RowKit
def recV (st nx:BitVec 64)(gone:Bool)(s:ByteArray):Value:=.agg #[.int .u64 (uv st),.int .u64 (uv nx),.bool gone,.string s]
theorem toList_isEmpty (s:ByteArray):s.toList.isEmpty=(s.size==0):=by
 rw [ByteArray.toList_eq];show s.data.toList.isEmpty=(s.data.size==0);rw [← Array.length_toList];cases s.data.toList<;>rfl
theorem toList_beq (s u:ByteArray):(s.toList==u.toList)=decide (s=u):=by
 rw [ByteArray.toList_eq,ByteArray.toList_eq];by_cases h:s=u
 ·subst h;simp
 ·have:s.data.toList≠u.data.toList:=fun e=>h (by cases s;cases u;simp only [Array.toList_inj] at e;rw [e])
  rw [decide_eq_false h,beq_eq_false_iff_ne];exact this
attribute [go_sem] toList_isEmpty toList_beq
def rightB (st:BitVec 64)(gone:Bool)(s:ByteArray):Bool:=!(st==0#64)&&decide (s.size≤40)&&(!gone || s.size==0)
theorem recRight_calls (st nx:BitVec 64)(gone:Bool)(s:ByteArray)(w:World) :
  Ret Tryz.prog 178 #[recV st nx gone s] w fun v w'=>v=.bool (rightB st gone s)∧Below w.heap.size w w':=by
 unfold recV;have bel:∀ o,Below w.heap.size w (w.alloc o):=fun o=>(Below.refl _ _).alloc (Nat.le_refl _) _
 refine ret_of (args:=[_]) _ Tryz.func178 rfl Tryz.ntmps178 (by simp) ?_;by_cases h1:st=0#64
 ·subst h1;simp -implicitDefEqProofs [go_sem];refine body_tmp 2 rfl ?_;simp -implicitDefEqProofs [go_sem,rightB];exact bel _
 ·have h1':(st==0#64)=false:=by rw [beq_eq_false_iff_ne];exact h1
  by_cases h2:(40:Int)<s.size
  ·have h2':¬ s.size≤40:=by omega
   simp -implicitDefEqProofs [go_sem,h1',h2];refine body_tmp 2 rfl ?_;simp -implicitDefEqProofs [go_sem,rightB,h2'];exact bel _
  ·have h2':s.size≤40:=by omega
   simp -implicitDefEqProofs [go_sem,h1',h2];cases gone
   ·simp -implicitDefEqProofs [go_sem];refine body_tmp 2 rfl ?_;simp -implicitDefEqProofs [go_sem,rightB,h1',h2'];exact bel _
   ·simp -implicitDefEqProofs [go_sem];refine body_tmp 2 rfl ?_;simp -implicitDefEqProofs [go_sem,rightB,h1',h2'];exact bel _
def tx (s:ByteArray)(i:Nat):BitVec 8:=(s.data.toList.map UInt8.toBitVec).getD i 0#8
def wsOf (st nx:BitVec 64)(gone:Bool)(s:ByteArray):List (BitVec 64):=RM.ws (RM.w0 s.size gone) st nx (tx s) s.size
def encM (st nx:BitVec 64)(gone:Bool)(s:ByteArray):List (BitVec 64):=if rightB st gone s then wsOf st nx gone s else []
def cw (l:List (BitVec 64)):Array Value:=(cellsK .u64 l).toArray
theorem cw_get (l:List (BitVec 64))(i:Nat)(h:i<l.length):(cw l)[i]?=some (.int .u64 (uv (l.getD i 0#64))):=by simp [cw,cellsK,h]
theorem cw_set (l:List (BitVec 64))(i:Nat)(x:BitVec 64):(cw l).setIfInBounds i (.int .u64 (uv x))=cw (l.set i x):=by simp [cw,cellsK,List.map_set]
theorem ws_length (h st nx:BitVec 64)(f:Nat→BitVec 8)(n:Nat):(RM.ws h st nx f n).length=8:=rfl
theorem tx_at (s:ByteArray)(k:Nat)(h:k<s.size):tx s k=s.data[k].toBitVec:=by
 have:k<s.data.toList.length:=by simpa using h
 simp [tx,h]
theorem u8_int (c:UInt8):(c.toNat:Int)=uv c.toBitVec:=rfl
theorem Below.own {B o:Nat}{w w':World}{v:Value}(h:Below B w w'):Below B w (w'.setCell ⟨B,o,none⟩ v):=h.setCell (Nat.le_refl _) _
theorem Blk.eq {w:World}{b:Nat}{C C':Array Value}{e:TypeId}(h:Blk w b C e)(hC:C=C'):Blk w b C' e:=hC▸h
set_option maxHeartbeats 1000000 in
theorem encode_new (st nx:BitVec 64)(gone:Bool)(s:ByteArray)(w:World) :
  Ret Tryz.prog 150 #[recV st nx gone s] w fun v w'=>∃ a c,v=.tuple #[.slice a (encM st nx gone s).length c,.bool (rightB st gone s)] ∧
   SlIn .u64 w' a (encM st nx gone s) c∧Below w.heap.size w w'∧(∀ y,a=some y→w.heap.size≤y.block∧y.block<w'.heap.size):=by
 have hr:=recRight_calls st nx gone s;unfold recV at hr ⊢;have bel:∀ o,Below w.heap.size w (w.alloc o):=fun o=>(Below.refl _ _).alloc (Nat.le_refl _) _
 have mk8:=fun (w:World)=>run_make_n (P:=Tryz.prog) (t:=100) (e:=42) (z:=.int .u64 0) (bytes:=8) (by kernel_rfl) (by kernel_rfl) rfl .i64 .i64 8 (by decide) (by decide) w
 rw [show (((8:Nat)):Int)=8 from rfl] at mk8;refine ret_of (args:=[_]) _ Tryz.func150 rfl Tryz.ntmps150 (by simp) ?_;simp -implicitDefEqProofs [go_sem];refine callE_of (hr _) ?_;rintro v w1 ⟨rfl,bel1⟩;cases hright:rightB st gone s
 ·simp -implicitDefEqProofs [go_sem];refine body_tmp2 2 3 rfl ?_;simp -implicitDefEqProofs [go_sem,encM,hright];exact ⟨none,0,⟨rfl,rfl⟩,⟨.inl rfl,by simp,by simp,fun _=>rfl⟩,(bel _).trans (bel1.mono (bel _).size),fun y hy=>by cases hy⟩
 ·have hs:s.size≤40:=by
   simp [rightB] at hright;omega
  have hsz:=bel1.size;have hsz0:(w.alloc (.cells #[.int .u64 (uv st),.int .u64 (uv nx),.bool gone,.string s] 184)).heap.size=w.heap.size+1:=by simp
  rw [hsz0] at hsz;have hB0:=Blk.new w1 (Array.replicate 8 (.int .u64 0)) 42;have hP0:=(Blk.new w #[.int .u64 (uv st),.int .u64 (uv nx),.bool gone,.string s] 184).below (bel1.alloc (by rw [hsz0];omega) (.cells (Array.replicate 8 (.int .u64 0)) 42)) (by rw [hsz0];omega);have bel2:=(bel (.cells #[.int .u64 (uv st),.int .u64 (uv nx),.bool gone,.string s] 184)).trans ((bel1.alloc (by rw [hsz0];omega) (.cells (Array.replicate 8 (.int .u64 0)) 42)).mono (bel _).size)
  have hlt:w.heap.size<w1.heap.size:=by omega
  simp -implicitDefEqProofs [go_sem,mk8];generalize w1.alloc (.cells (Array.replicate 8 (.int .u64 0)) 42)=w2 at *;generalize w1.heap.size=b at *;generalize hbp:w.heap.size=bp at *;have hne:bp≠b:=by omega
  have gp0:=hP0.cell 0;have gp1:=hP0.cell 1;have gp2:=hP0.cell 2;have gp3:=hP0.cell 3;have gb0:=hB0.cell 0;have gb1:=hB0.cell 1;have gb2:=hB0.cell 2;have gf0:=hB0.thaw 0;have gf1:=hB0.thaw 1;have gf2:=hB0.thaw 2;simp at gp0 gp1 gp2 gp3 gb0 gb1 gb2;obtain ⟨hd,hhd⟩:∃ hd,hd=RM.w0 s.size gone:=⟨_,rfl⟩;have he:encM st nx gone s=RM.ws hd st nx (tx s) s.size:=by rw [encM,if_pos hright,hhd];rfl
  cases gone
  all_goals
   simp -implicitDefEqProofs [go_sem,gp0,gp1,gp2,gp3,gb0,gb1,gb2,gf0,gf1,gf2,hne];refine wpE_loop (fun e' w'=>∃ k:Nat,k≤s.size∧e' 1=.pointer (some ⟨bp,0,none⟩)∧e' 4=.slice (some ⟨b,0,none⟩) 8 8∧e' 35=.int .i64 s.size∧e' 36=.int .i64 k ∧
    Blk w' b (cw (RM.ws hd st nx (tx s) k)) 42∧Below b w2 w') (fun e' _=>s.size-(intOf (e' 36)).toNat) ?_ ?_
   ·refine ⟨0,Nat.zero_le _,?_⟩;simp -implicitDefEqProofs [go_sem];have hz:(Array.replicate 8 (Value.int .u64 0))=cw [0#64,0#64,0#64,0#64,0#64,0#64,0#64,0#64]:=by rfl
    rw [hz] at hB0;refine ⟨?_,?_⟩
    ·first
     | with_reducible refine Blk.eq (((hB0.set 0 _).set 1 _).set 2 _) ?_
     | with_reducible refine Blk.eq ((((hB0.set 0 _).set 0 _).set 1 _).set 2 _) ?_
     all_goals simp [hhd,cw,cellsK,RM.ws,RM.tw,RM.w0]
    ·repeat (with_reducible refine Below.own ?_)
     exact Below.refl _ _
   ·rintro e' w' ⟨k,hk,h1,h4,h35,h36,hB,bel3⟩;have gp3':=(hP0.below (bel3.mono (Nat.le_refl _)) (by omega)).cell 3;simp at gp3';by_cases hlt':k<s.size
    ·have hw:=IntWalk.i64_in ((k:Int)+1) (by omega);have gx:=(hB.cell (3+k/8)).trans (cw_get _ _ (by rw [ws_length];omega));have gf:=hB.thaw (3+k/8);have hset:=RM.ws_set hd st nx (tx s) k (by omega);have hwq:IntKind.i64.wrap ((k:Int)/8)=((k/8:Nat):Int):=by rw [IntWalk.i64_in _ (by omega)];rfl
     have hwr:(k:Int).tmod 8=((k%8:Nat):Int):=by rw [Int.tmod_eq_emod_of_nonneg (by omega)];rfl
     have hQ:k/8<5:=by omega
     have hR:k%8<8:=by omega
     have gt:=tx_at s k hlt';generalize k/8=Q at *;generalize k%8=R at *;have hw3:=IntWalk.i64_in (3+(Q:Int)) (by omega);have hwm:=IntWalk.i64_in ((R:Int)*8) (by omega);have hq0:(0:Int)≤3+Q:=by omega
     have hq8:(3:Int)+Q<8:=by omega
     have hqn:(3+(Q:Int)).toNat=3+Q:=by omega
     simp -implicitDefEqProofs [go_sem,h1,h4,h35,h36,hlt'];refine drawE_tail 17 mixed (by decide +kernel) (by simp only [wt];rfl) (by simp only [wt];rfl) ?_;simp -implicitDefEqProofs [go_sem,h1,h4,h35,h36,hlt',gp3',hwq,hwr,hw3,hwm,hq0,hq8,hqn,gx,gf,hw,u8_int];unfold endE;have gt':tx s k=(s[k]).toBitVec:=gt;have hRn:((R:Int)*8).toNat=R*8:=by omega
     simp -implicitDefEqProofs [go_sem,gx,gf,hw,h36,hRn,← gt'];refine goE_round ⟨k+1,by omega,?_⟩ ?_
     ·simp -implicitDefEqProofs [go_sem,h1,h4,h35];rw [← hset,← cw_set];exact ⟨hB.drew.set _ _,bel3.drew.setCell (Nat.le_refl _) _⟩
     ·simp -implicitDefEqProofs [go_sem,intOf,h36];omega
    ·have hk':k=s.size:=by omega
     subst hk';simp -implicitDefEqProofs [go_sem,h1,h4,h35,h36];refine body_tmp2 2 3 rfl ?_;simp -implicitDefEqProofs [go_sem];rw [he];refine ⟨_,8,⟨rfl,rfl,rfl⟩,⟨slAt_blk hB fun i hi=>?_,by rw [ws_length];exact Nat.le_refl _,by decide,by simp⟩,bel2.trans (bel3.mono (Nat.le_of_lt (by have:=bel2.size;omega))),fun y hy=>by
      obtain rfl:=Option.some.inj hy;have:=hB.lt;exact ⟨by show bp≤b;omega,this⟩⟩
     rw [cw_get _ _ hi];simp [hi]
theorem encode_calls (st nx:BitVec 64)(gone:Bool)(s:ByteArray)(w:World) :
  Ret Tryz.prog 150 #[recV st nx gone s] w fun v w'=>∃ a c,v=.tuple #[.slice a (encM st nx gone s).length c,.bool (rightB st gone s)] ∧
   SlIn .u64 w' a (encM st nx gone s) c∧Below w.heap.size w w' :=
 (encode_new st nx gone s w).mono fun v w' ⟨a,c,h1,h2,h3,_⟩=>⟨a,c,h1,h2,h3⟩
end
section
open Go Go.RowKit
section
variable {P:Program} {fn:Func} {R:Value→World→Prop} {e:Env} {w:World}
theorem body_cell_tmp (p u:Tmp){ty t':TypeId}{g:Nat}{cs:Array Value}{d:TypeDesc}{t:Tag (bodyR P fn R,Exit.ret)}(h:fn.results=#[.cell p ty,.tmp u])(hp:e p=.pointer (some ⟨g,0,none⟩))(hB:Blk w g cs t')
  (hu:P.underlying ty=some d) (hd:(match d with | .struct _ | .array _ _=>true|_=>false)=true) (hi:(P.info? ty).map (·.size)=some cs.size) (hR:R (.tuple #[.agg cs,e u]) w):goE (bodyR P fn R) .ret t e w:=by
 intro tmps ht;refine ⟨_,?_,hR⟩;rw [results_cell_tmp h tmps P w,ht,ht,hp];show ((loadVar ty ⟨g,0,none⟩).run P w).andThen _=_;rw [run_loadVar_row w g t' ty cs (0,0) d hB hu hd hi];rfl
end
theorem Blk.set4 {w:World}{b:Nat}{e:TypeId}{x0 x1 x2 x3 v0 v1 v2 v3:Value}(h:Blk w b #[x0,x1,x2,x3] e) :
  Blk ((((w.setCell ⟨b,0,none⟩ v0).setCell ⟨b,1,none⟩ v1).setCell ⟨b,2,none⟩ v2).setCell ⟨b,3,none⟩ v3) b #[v0,v1,v2,v3] e :=
 (((h.set 0 v0).set 1 v1).set 2 v2).set 3 v3
theorem Below.own4 {B b:Nat}{w w':World}{v0 v1 v2 v3:Value}(h:Below B w w')(hb:B≤b) :
  Below B w ((((w'.setCell ⟨b,0,none⟩ v0).setCell ⟨b,1,none⟩ v1).setCell ⟨b,2,none⟩ v2).setCell ⟨b,3,none⟩ v3) :=
 (((h.setCell hb _).setCell hb _).setCell hb _).setCell hb _
def byteM (l:List (BitVec 64))(i:Nat):BitVec 8:=((l.getD (3+i/8) 0#64) >>> (i%8*8)).setWidth 8
def textM (l:List (BitVec 64))(n:Nat):ByteArray:=⟨((List.range n).map fun i=>UInt8.ofBitVec (byteM l i)).toArray⟩
def sizeM (l:List (BitVec 64)):Nat:=((l.getD 0 0#64) >>> 16).toNat
def goneM (l:List (BitVec 64)):Bool:=(l.getD 0 0#64) &&& 256#64 != 0#64
def okM (l:List (BitVec 64)):Bool:=decide (l.length=8)&&decide (sizeM l≤40)&&decide (encM (l.getD 1 0#64) (l.getD 2 0#64) (goneM l) (textM l (sizeM l))=l)
def decM (l:List (BitVec 64)):Value:=if okM l then recV (l.getD 1 0#64) (l.getD 2 0#64) (goneM l) (textM l (sizeM l)) else .agg #[.int .u64 0,.int .u64 0,.bool false,.string ⟨#[]⟩]
set_option maxHeartbeats 1000000 in
theorem decode_calls (a:Option Addr)(l:List (BitVec 64))(n c:Nat)(w:World)(hn:l.length=n)(hin:SlIn .u64 w a l c) :
  Ret Tryz.prog 124 #[.slice a n c] w fun v w'=>v=.tuple #[decM l,.bool (okM l)]∧Below w.heap.size w w':=by
 subst hn;have bel:∀ o,Below w.heap.size w (w.alloc o):=fun o=>(Below.refl _ _).alloc (Nat.le_refl _) _
 obtain ⟨x0,hx0⟩:∃ x,x=l.getD 0 0#64:=⟨_,rfl⟩;obtain ⟨x1,hx1⟩:∃ x,x=l.getD 1 0#64:=⟨_,rfl⟩;obtain ⟨x2,hx2⟩:∃ x,x=l.getD 2 0#64:=⟨_,rfl⟩;have hst:=Tryz.underlying184;have hsi:(Tryz.prog.info? 184).map (·.size)=some 4:=by kernel_rfl
 refine ret_of (args:=[_]) _ Tryz.func124 rfl Tryz.ntmps124 (by simp) ?_;simp -implicitDefEqProofs [go_sem];have hBz:=Blk.new w #[.int .u64 0,.int .u64 0,.bool false,.string ⟨#[]⟩] 184;have belz:=bel (.cells #[.int .u64 0,.int .u64 0,.bool false,.string ⟨#[]⟩] 184);have hzs:(w.alloc (.cells #[.int .u64 0,.int .u64 0,.bool false,.string ⟨#[]⟩] 184)).heap.size=w.heap.size+1:=by simp
 generalize w.alloc (.cells #[.int .u64 0,.int .u64 0,.bool false,.string ⟨#[]⟩] 184)=wz at *;generalize hbp:w.heap.size=bp at *;have gz0:=hBz.cell 0;have gz1:=hBz.cell 1;have gz2:=hBz.cell 2;have gz3:=hBz.cell 3;have fz0:=hBz.thaw 0;have fz1:=hBz.thaw 1;have fz2:=hBz.thaw 2;have fz3:=hBz.thaw 3;simp at gz0 gz1 gz2 gz3;by_cases h8:l.length=8
 ·obtain rfl|⟨b,off,rfl,hc⟩:=hin.at_
  ·simp at h8
  have h8':((l.length:Int) != 8)=false:=by rw [bne_eq_false_iff_eq];omega
  have hcell:∀ w',Below bp w w'→∀ i,i<8→w'.cell? ⟨b,off+i,none⟩=some (.int .u64 (uv (l.getD i 0#64))):=by
   intro w' bw i hi;have:=hc i (by omega);rw [← hbp] at bw;rw [(bw.cell (p:=⟨_,_,none⟩) (World.block_lt_of_cell? w _ this)),this];simp [List.getD,show i<l.length by omega]
  have g0:=hcell _ belz 0 (by omega);rw [← hx0,Nat.add_zero] at g0;by_cases hs:sizeM l≤40
  ·have hs':¬ 40#64<x0 >>> 16:=by
    rw [BitVec.lt_def];unfold sizeM at hs;rw [← hx0] at hs;simp;simp at hs;omega
   obtain ⟨m,hm⟩:∃ m,m=sizeM l:=⟨_,rfl⟩;have hmu:uv (x0 >>> 16)=(m:Int):=by rw [hm,hx0];rfl
   have hmk:=run_make_n (P:=Tryz.prog) (t:=36) (e:=5) (z:=.int .u8 0) (bytes:=1) Tryz.underlying36 (by kernel_rfl) rfl .u64 .u64 m (by omega) (by omega) wz;rw [← hmu] at hmk;simp -implicitDefEqProofs [go_sem,h8',g0,hs',h8,hmk];rw [hmu];have hms:=hm▸hs;have bel1:Below bp wz (wz.alloc (.cells (Array.replicate m (.int .u8 0)) 5)):=(Below.refl _ _).alloc (by omega) _
   refine wpE_loop (fun e' w'=>∃ (k:Nat) (C:Array Value),k≤m∧C.size=m∧(∀ i,i<k→C[i]?=some (.int .u8 (uv (byteM l i))))∧e' 0=.slice (some ⟨b,off,none⟩) 8 c∧e' 2=.pointer (some ⟨bp,0,none⟩)∧e' 4=.slice (some ⟨wz.heap.size,0,none⟩) m m∧e' 26=.int .i64 m∧e' 27=.int .i64 k ∧
    Blk w' wz.heap.size C 5∧Below wz.heap.size wz w') (fun e' _=>m-(intOf (e' 27)).toNat) ?_ ?_
   ·refine ⟨0,Array.replicate m (.int .u8 0),Nat.zero_le _,by simp,fun i hi=>by omega,?_⟩;simp -implicitDefEqProofs [go_sem];exact ⟨Blk.new _ _ _,(Below.refl _ _).alloc (Nat.le_refl _) _⟩
   ·rintro e' w' ⟨k,C,hk,hC,hCi,h0,h2,h4,h26,h27,hB,bel3⟩;by_cases hlt:k<m
    ·have hw:=IntWalk.i64_in ((k:Int)+1) (by omega);have gx:=hcell w' (belz.trans (bel3.mono (by omega))) (3+k/8) (by omega);have hb:=byteM.eq_1 l k;have hwq:IntKind.i64.wrap ((k:Int)/8)=((k/8:Nat):Int):=by rw [IntWalk.i64_in _ (by omega)];rfl
     have hwr:(k:Int).tmod 8=((k%8:Nat):Int):=by rw [Int.tmod_eq_emod_of_nonneg (by omega)];rfl
     have hQ:k/8<5:=by omega
     have hR:k%8<8:=by omega
     generalize k/8=Q at *;generalize k%8=R at *;have hw3:=IntWalk.i64_in (3+(Q:Int)) (by omega);have hwm:=IntWalk.i64_in ((R:Int)*8) (by omega);have hq0:(0:Int)≤3+Q:=by omega
     have hq8:(3:Int)+Q<8:=by omega
     have hqn:(3+(Q:Int)).toNat=3+Q:=by omega
     have hRn:((R:Int)*8).toNat=R*8:=by omega
     generalize l.getD (3+Q) 0#64=xq at *;obtain ⟨v0,hv0⟩:∃ v0,C[k]?=some v0:=⟨C[k]'(by omega),Array.getElem?_eq_getElem _⟩;have gy:=(hB.cell k).trans hv0;have gf:=hB.thaw k;simp -implicitDefEqProofs [go_sem,h0,h2,h4,h26,h27,hlt,hwq,hwr,hw3,hwm,hq0,hq8,hqn,hRn,gx,gy,gf,hw];refine goE_round ⟨k+1,C.setIfInBounds k (.int .u8 (uv (byteM l k))),by omega,by simp [hC],?_,?_⟩ ?_
     ·intro i hi;rw [Array.getElem?_setIfInBounds];by_cases hik:k=i
      ·subst hik;simp [hC,hlt]
      ·rw [if_neg hik];exact hCi i (by omega)
     ·simp -implicitDefEqProofs [go_sem,h0,h2,h4,h26];rw [hb];exact ⟨hB.set _ _,bel3.setCell (Nat.le_refl _) _⟩
     ·simp -implicitDefEqProofs [go_sem,intOf,h27];omega
    ·have hk':k=m:=by omega
     subst hk';simp -implicitDefEqProofs [go_sem,h0,h2,h4,h26,h27];have bel4:=belz.trans (bel3.mono (by omega));obtain ⟨S,hS⟩:∃ S:World→Prop,S=fun w2=>Below w'.heap.size w' w2:=⟨_,rfl⟩
     have hr0:∀ w'',S w''→w''.cell? ⟨b,off,none⟩=some (.int .u64 (uv x0)):=fun w'' hb=>by
      rw [hS] at hb;have:=hcell _ (bel4.trans (hb.mono (hbp▸bel4.size))) 0 (by omega);rw [← hx0,Nat.add_zero] at this;exact this
     have hr1:∀ w'',S w''→w''.cell? ⟨b,off+1,none⟩=some (.int .u64 (uv x1)):=fun w'' hb=>by
      rw [hS] at hb;have:=hcell _ (bel4.trans (hb.mono (hbp▸bel4.size))) 1 (by omega);rw [← hx1] at this;exact this
     have hr2:∀ w'',S w''→w''.cell? ⟨b,off+2,none⟩=some (.int .u64 (uv x2)):=fun w'' hb=>by
      rw [hS] at hb;have:=hcell _ (bel4.trans (hb.mono (hbp▸bel4.size))) 2 (by omega);rw [← hx2] at this;exact this
     have hcv:∀ w'',S w''→(convert 36 9 (.slice (some ⟨wz.heap.size,0,none⟩) k k)).run Tryz.prog w''=.ok (.string (textM l k)) w'':=by
      intro w'' hb;rw [hS] at hb;have:=run_convert_bytes_back (P:=Tryz.prog) w'' 36 9 5 ⟨wz.heap.size,0,none⟩ k ((List.range k).map fun i=>UInt8.ofBitVec (byteM l i)) Tryz.underlying36 Tryz.underlying5 Tryz.underlying9 (by
       intro j hj;have hj':j<k:=by simpa using hj
       rw [Addr.add_lit,Nat.zero_add,(hB.below hb hB.lt).cell,hCi j hj'];simp
       rfl)
      unfold textM;simpa using this
     refine drawE_held 14 (S) mixed (by decide +kernel) (by simp only [wt];rfl) (by simp only [wt];rfl) (by first|exact (Below.refl _ _).drew|(subst_vars;exact (Below.refl _ _).drew)) (fun hsome=>?_);simp -implicitDefEqProofs [go_sem,h0,h2,h4,h26,h27,h8,hsome];refine onHeld_of (.int .u64 (uv x1)) (fun w2 hw2=>by simp -implicitDefEqProofs [go_sem,hr1 w2 hw2]) ?_;simp -implicitDefEqProofs [go_sem,h0,h2,h4,h26,h27,h8,hsome]
     refine onHeld_of (.int .u64 (uv x2)) (fun w2 hw2=>by simp -implicitDefEqProofs [go_sem,hr2 w2 hw2]) ?_;simp -implicitDefEqProofs [go_sem,h0,h2,h4,h26,h27,h8,hsome];refine onHeld_of (.int .u64 (uv x0)) (fun w2 hw2=>by simp -implicitDefEqProofs [go_sem,hr0 w2 hw2]) ?_;simp -implicitDefEqProofs [go_sem,h0,h2,h4,h26,h27,h8,hsome];refine onHeld_of (.string (textM l k)) (fun w2 hw2=>by simp -implicitDefEqProofs [go_sem,hcv w2 hw2]) ?_
     simp -implicitDefEqProofs [go_sem,h0,h2,h4,h26,h27,h8,hsome];unfold endE;simp -implicitDefEqProofs [go_sem];have hg:(x0 &&& 256#64 != 0#64)=goneM l:=by rw [hx0];rfl
     rw [hg];refine ⟨by rw [hS];exact ((Below.refl _ _).alloc (Nat.le_refl _) _).drew,by rw [hS];exact ((Below.refl _ _).alloc (Nat.le_refl _) _).drew,?_⟩;have hE:=encode_calls x1 x2 (goneM l) (textM l k);unfold recV at hE;have hB6:=(Blk.new w' #[.int .u64 (uv x1),.int .u64 (uv x2),.bool (goneM l),.string (textM l k)] 184).drew;have bel6:Below bp w (w'.alloc (.cells #[.int .u64 (uv x1),.int .u64 (uv x2),.bool (goneM l),.string (textM l k)] 184)).drew:=(bel4.alloc (hbp▸bel4.size) _).drew
     have hBz6:=(hBz.below (bel3.alloc bel3.size (.cells #[.int .u64 (uv x1),.int .u64 (uv x2),.bool (goneM l),.string (textM l k)] 184)).drew (by omega));generalize (w'.alloc (.cells #[.int .u64 (uv x1),.int .u64 (uv x2),.bool (goneM l),.string (textM l k)] 184)).drew=w6 at *;refine callE_of (hE _) ?_;rintro v w7 ⟨a7,c7,rfl,hin7,bel7⟩;have bel7':=bel6.trans (bel7.mono (hbp▸bel6.size));have hBz7:=hBz6.below bel7 hBz6.lt;have hB7:=hB6.below bel7 hB6.lt
     have okM_eq:okM l=decide (encM x1 x2 (goneM l) (textM l k)=l):=by
      rw [okM,decide_eq_true h8,decide_eq_true hs,← hm,← hx1,← hx2];rfl
     cases hright:rightB x1 (goneM l) (textM l k)
     ·have hok:okM l=false:=by
       rw [okM_eq,encM,hright];simp;intro h;rw [h] at h8;simp at h8
      have fz0:=hBz7.thaw 0;have fz1:=hBz7.thaw 1;have fz2:=hBz7.thaw 2;have fz3:=hBz7.thaw 3;have gz0:=hBz7.cell 0;have gz1:=hBz7.cell 1;have gz2:=hBz7.cell 2;have gz3:=hBz7.cell 3;simp at gz0 gz1 gz2 gz3;simp -implicitDefEqProofs [go_sem,h0,h2,h8,undef,gz0,gz1,gz2,gz3,fz0,fz1,fz2,fz3];refine body_cell_tmp 2 3 (ty:=184) rfl (by simp -implicitDefEqProofs [go_sem,h2]) (t':=184) (g:=bp) (cs:=#[.int .u64 0,.int .u64 0,.bool false,.string ⟨#[]⟩]) ?_ hst rfl hsi ?_
      ·exact hBz7.set4
      ·simp -implicitDefEqProofs [go_sem,decM,hok];exact Below.own4 bel7' (Nat.le_refl _)
     ·simp -implicitDefEqProofs [go_sem,h0,h2,h8];have hl7:SlAt .u64 w7 (some ⟨b,off,none⟩) l:=hin.at_.below (hbp▸bel7');refine callE_of (equal_calls a7 (some ⟨b,off,none⟩) (encM x1 x2 (goneM l) (textM l k)) l _ 8 c7 c w7 rfl h8 (by have:=hin7.le;have:=hin7.max;omega) hin7.at_ hl7) ?_;rintro v w8 ⟨rfl,bel8⟩;have bel8':=bel7'.trans (bel8.mono (hbp▸bel7'.size));have hBz8:=hBz7.below bel8 hBz7.lt;have hB8:=hB7.below bel8 hB7.lt;have fz0:=hBz8.thaw 0;have fz1:=hBz8.thaw 1;have fz2:=hBz8.thaw 2
      have fz3:=hBz8.thaw 3;have gz0:=hBz8.cell 0;have gz1:=hBz8.cell 1;have gz2:=hBz8.cell 2;have gz3:=hBz8.cell 3;have gr0:=hB8.cell 0;have gr1:=hB8.cell 1;have gr2:=hB8.cell 2;have gr3:=hB8.cell 3;simp at gz0 gz1 gz2 gz3 gr0 gr1 gr2 gr3;by_cases heq:encM x1 x2 (goneM l) (textM l k)=l
      ·have hok:okM l=true:=by rw [okM_eq];exact decide_eq_true heq
       rw [decide_eq_true heq];simp -implicitDefEqProofs [go_sem,h0,h2,h8,gz0,gz1,gz2,gz3,fz0,fz1,fz2,fz3,gr0,gr1,gr2,gr3];refine body_cell_tmp 2 3 (ty:=184) rfl (by simp -implicitDefEqProofs [go_sem,h2]) (t':=184) (g:=bp) (cs:=#[.int .u64 (uv x1),.int .u64 (uv x2),.bool (goneM l),.string (textM l k)]) ?_ hst rfl hsi ?_
       ·exact hBz8.set4
       ·have hdec:decM l=.agg #[.int .u64 (uv x1),.int .u64 (uv x2),.bool (goneM l),.string (textM l k)]:=by
         rw [decM,if_pos hok,← hm,← hx1,← hx2];rfl
        simp -implicitDefEqProofs [go_sem,hdec,hok];exact Below.own4 bel8' (Nat.le_refl _)
      ·have hok:okM l=false:=by rw [okM_eq];exact decide_eq_false heq
       rw [decide_eq_false heq];simp -implicitDefEqProofs [go_sem,h0,h2,h8,gz0,gz1,gz2,gz3,fz0,fz1,fz2,fz3];refine body_cell_tmp 2 3 (ty:=184) rfl (by simp -implicitDefEqProofs [go_sem,h2]) (t':=184) (g:=bp) (cs:=#[.int .u64 0,.int .u64 0,.bool false,.string ⟨#[]⟩]) ?_ hst rfl hsi ?_
       ·exact hBz8.set4
       ·simp -implicitDefEqProofs [go_sem,decM,hok];exact Below.own4 bel8' (Nat.le_refl _)
  ·have hs':40#64<x0 >>> 16:=by
    rw [BitVec.lt_def];unfold sizeM at hs;rw [← hx0] at hs;simp;simp at hs;omega
   have hok:okM l=false:=by simp [okM,hs]
   simp -implicitDefEqProofs [go_sem,h8',g0,hs',h8,gz0,gz1,gz2,gz3,fz0,fz1,fz2,fz3];refine body_cell_tmp 2 3 (ty:=184) rfl rfl (t':=184) (g:=bp) (cs:=#[.int .u64 0,.int .u64 0,.bool false,.string ⟨#[]⟩]) ?_ hst rfl hsi ?_
   ·exact hBz.set4
   ·simp -implicitDefEqProofs [go_sem,decM,hok];exact Below.own4 belz (Nat.le_refl _)
 ·have h8':((l.length:Int) != 8)=true:=by rw [bne_iff_ne];omega
  have hok:okM l=false:=by simp [okM,h8]
  simp -implicitDefEqProofs [go_sem,h8',undef,gz0,gz1,gz2,gz3,fz0,fz1,fz2,fz3];refine body_cell_tmp 2 3 (ty:=184) rfl rfl (t':=184) (g:=bp) (cs:=#[.int .u64 0,.int .u64 0,.bool false,.string ⟨#[]⟩]) ?_ hst rfl hsi ?_
  ·exact hBz.set4
  ·simp -implicitDefEqProofs [go_sem,decM,hok];exact Below.own4 belz (Nat.le_refl _)
end
section
open Go Go.RowKit
theorem w0_at (st nx:BitVec 64)(gone:Bool)(s:ByteArray)(hs:s.size≤40):sizeM (wsOf st nx gone s)=s.size∧goneM (wsOf st nx gone s)=gone:=by
 obtain ⟨h1,h2,_⟩:=RM.w0_facts s.size hs gone;have e:(wsOf st nx gone s).getD 0 0#64=RM.w0 s.size gone:=rfl;refine ⟨?_,?_⟩
 ·unfold sizeM;rw [e,h1];simp;omega
 ·unfold goneM;rw [e,h2]
theorem byte_ws (st nx:BitVec 64)(gone:Bool)(s:ByteArray)(i:Nat)(hi:i<40):byteM (wsOf st nx gone s) i=if i<s.size then tx s i else 0#8:=by
 have e:(wsOf st nx gone s).getD (3+i/8) 0#64=RM.tw (tx s) s.size (i/8):=by
  have:i/8=0∨i/8=1∨i/8=2∨i/8=3∨i/8=4:=by omega
  rcases this with h|h|h|h|h<;>rw [h]<;>rfl
 unfold byteM;rw [e,RM.tw_byte]
theorem text_ws (st nx:BitVec 64)(gone:Bool)(s:ByteArray)(hs:s.size≤40):textM (wsOf st nx gone s) s.size=s:=by
 have h:∀ i (hi:i<s.size),UInt8.ofBitVec (byteM (wsOf st nx gone s) i)=s.data[i]:=fun i hi=>by
  rw [byte_ws _ _ _ _ _ (by omega),if_pos hi,tx_at _ _ hi]
 unfold textM;cases s with
 | mk d =>
  congr 1
  apply Array.ext
  ·simp;rfl
  ·intro i h1 h2;have:=h i h2;simpa using this
theorem right_size {st:BitVec 64}{gone:Bool}{s:ByteArray}(h:rightB st gone s=true):s.size≤40:=by simp [rightB] at h;omega
theorem enc_back {st nx:BitVec 64}{gone:Bool}{s:ByteArray}(h:rightB st gone s=true):okM (encM st nx gone s)=true∧decM (encM st nx gone s)=recV st nx gone s:=by
 have hs:=right_size h;have e:encM st nx gone s=wsOf st nx gone s:=by rw [encM,if_pos h]
 obtain ⟨h1,h2⟩:=w0_at st nx gone s hs;have h3:=text_ws st nx gone s hs;have g1:(wsOf st nx gone s).getD 1 0#64=st:=rfl;have g2:(wsOf st nx gone s).getD 2 0#64=nx:=rfl;have hok:okM (encM st nx gone s)=true:=by
  unfold okM;rw [e,h1,h2,g1,g2,h3,e];have:(wsOf st nx gone s).length=8:=rfl;simp [this,hs]
 refine ⟨hok,?_⟩;rw [decM,if_pos hok,e,h1,h2,g1,g2,h3]
end
section
open Go
structure LinkV where
 off:Int
 stamp:BitVec 64
 nxt:BitVec 64
 gone:Bool
 text:ByteArray
deriving Inhabited,DecidableEq
def FallL:List LinkV→Prop
 | []=>True
 | [_]=>True
 | a::b::l=>b.stamp.toNat<a.stamp.toNat∧FallL (b::l)
def seeP (l:List LinkV)(at_:BitVec 64):ByteArray × Bool :=
 match l.find? (fun k=>decide (k.stamp.toNat≤at_.toNat)) with
 | none=>(ByteArray.empty,false)
 | some k=>if k.gone then (ByteArray.empty,false) else (k.text,true)
theorem see_more {r:LinkV}{l:List LinkV}(at_:BitVec 64):seeP (r::l) at_=if at_.toNat<r.stamp.toNat then seeP l at_ else if r.gone then (ByteArray.empty,false) else (r.text,true):=by
 unfold seeP;rw [List.find?_cons];by_cases h:at_.toNat<r.stamp.toNat
 ·rw [if_pos h,decide_eq_false (by omega:¬ r.stamp.toNat≤at_.toNat)]
 ·rw [if_neg h,decide_eq_true (by omega:r.stamp.toNat≤at_.toNat)]
end
section
open Go Go.RowKit
def LinkV.cs (k:LinkV):Array Value:=#[.int .i64 k.off,.int .u64 (uv k.stamp),.int .u64 (uv k.nxt),.bool k.gone,.string k.text]
def LinkV.rc (k:LinkV):Array Value:=#[.int .u64 (uv k.stamp),.int .u64 (uv k.nxt),.bool k.gone,.string k.text]
theorem LinkV.cs_size (k:LinkV):k.cs.size=5:=rfl
theorem LinkV.rc_size (k:LinkV):k.rc.size=4:=rfl
theorem LinkV.cs_one (k:LinkV):∀ v∈k.cs.toList,v.oneCell'=true:=by
 intro v hv;simp [LinkV.cs] at hv
 rcases hv with rfl|rfl|rfl|rfl|rfl<;>rfl
theorem LinkV.rc_one (k:LinkV):∀ v∈k.rc.toList,v.oneCell'=true:=by
 intro v hv;simp [LinkV.rc] at hv
 rcases hv with rfl|rfl|rfl|rfl<;>rfl
theorem LinkV.cs_1 (k:LinkV):k.cs[1]?=some (.int .u64 (uv k.stamp)):=rfl
theorem LinkV.cs_3 (k:LinkV):k.cs[3]?=some (.bool k.gone):=rfl
theorem LinkV.cs_4 (k:LinkV):k.cs[4]?=some (.string k.text):=rfl
theorem LinkV.cs_get (k:LinkV)(j:Nat)(h:j<5):k.cs[j]?=some (k.cs[j]'(by rw [k.cs_size];exact h)):=by simp [k.cs_size,h]
def flat (l:List LinkV):List Value:=l.flatMap fun k=>k.cs.toList
theorem flat_cons (k:LinkV)(l:List LinkV):flat (k::l)=k.cs.toList++flat l:=by simp [flat]
theorem flat_append (a b:List LinkV):flat (a++b)=flat a++flat b:=by simp [flat]
theorem flat_one (k:LinkV):flat [k]=k.cs.toList:=by simp [flat]
theorem flat_get:∀ (l:List LinkV) (i:Nat) (h:i<l.length) (j:Nat),j<5→(flat l)[i*5+j]?=l[i].cs[j]?
 | k::l,0,h,j,hj=>by
  rw [flat_cons,List.getElem?_append_left (by rw [Array.length_toList,k.cs_size];omega)];simp
 | k::l,i+1,h,j,hj=>by
  rw [flat_cons,List.getElem?_append_right (by rw [Array.length_toList,k.cs_size];omega),Array.length_toList,k.cs_size,show (i+1)*5+j-5=i*5+j by omega];exact flat_get l i (by simpa using h) j hj
structure LksIn (w:World) (a:Option Addr) (l:List LinkV) (cap:Nat):Prop where
 at_:l=[]∨∃ b off,a=some ⟨b,off,none⟩∧∀ i (h:i<l.length),∀ j (hj:j<l[i].cs.size),w.cell? ⟨b,off+i*5+j,none⟩=some l[i].cs[j]
 le:l.length≤cap
 max:cap≤9223372036854775807
 nil:a=none→cap=0
section
variable {w w':World} {a:Option Addr} {l:List LinkV} {cap:Nat}
theorem LksIn.next (h:LksIn w a l cap)(hb:Below w.heap.size w w'):LksIn w' a l cap:=by
 refine ⟨?_,h.le,h.max,h.nil⟩
 rcases h.at_ with h1|⟨b,off,rfl,hc⟩
 ·exact .inl h1
 ·exact .inr ⟨b,off,rfl,fun i hi j hj=>(hb.cell (p:=⟨_,_,none⟩) (World.block_lt_of_cell? w _ (hc i hi j hj))).trans (hc i hi j hj)⟩
theorem LksIn.drew (h:LksIn w a l cap):LksIn w.drew a l cap:=h.next (Below.refl _ _).drew
theorem LksIn.mod {F:Nat→Prop}(h:LksIn w a l cap)(hm:Mod F w w')(hF:∀ y,a=some y→¬ F y.block):LksIn w' a l cap:=by
 refine ⟨?_,h.le,h.max,h.nil⟩
 rcases h.at_ with h1|⟨b,off,rfl,hc⟩
 ·exact .inl h1
 ·refine .inr ⟨b,off,rfl,fun i hi j hj=>?_⟩;have h1:=hc i hi j hj;rw [← h1];exact World.cell?_of_block (w:=w) (hm.block b (World.block_lt_of_cell? w _ h1) (hF _ rfl))
theorem LksIn.get (h:LksIn w a l cap){i:Nat}(hi:i<l.length):∃ b off,a=some ⟨b,off,none⟩∧(∀ j (hj:j<l[i].cs.size),w.cell? ⟨b,off+i*5+j,none⟩=some l[i].cs[j]):=by
 rcases h.at_ with h1|⟨b,off,ha,hc⟩
 ·subst h1;cases hi
 ·exact ⟨b,off,ha,hc i hi⟩
theorem LksIn.cells (h:LksIn w a l cap){i:Nat}(hi:i<l.length):∃ b off,a=some ⟨b,off,none⟩∧w.cell? ⟨b,off+i*5,none⟩=some (.int .i64 l[i].off)∧w.cell? ⟨b,off+i*5+1,none⟩=some (.int .u64 (uv l[i].stamp)) ∧
  w.cell? ⟨b,off+i*5+1+1,none⟩=some (.int .u64 (uv l[i].nxt))∧w.cell? ⟨b,off+i*5+1+2,none⟩=some (.bool l[i].gone)∧w.cell? ⟨b,off+i*5+1+3,none⟩=some (.string l[i].text):=by
 obtain ⟨b,off,ha,hc⟩:=h.get hi;exact ⟨b,off,ha,hc 0 (by rw [LinkV.cs_size];omega),hc 1 (by rw [LinkV.cs_size];omega),hc 2 (by rw [LinkV.cs_size];omega),hc 3 (by rw [LinkV.cs_size];omega),hc 4 (by rw [LinkV.cs_size];omega)⟩
theorem owns_lks {base m:Nat}{e:TypeId}(hl:l.length=m)(h:w.ownsRow base e 5 (.slice a m cap) m (flat l)):LksIn w a l cap:=by
 obtain ⟨_,⟨hv,h0⟩|⟨g,cap2,cur,hv,hg,hblk,hcap,hm,hsz,htake⟩⟩:=h
 ·simp only [Value.slice.injEq] at hv;obtain ⟨rfl,_,rfl⟩:=hv;exact ⟨.inl (List.eq_nil_of_length_eq_zero (by omega)),by omega,by omega,fun _=>rfl⟩
 ·simp only [Value.slice.injEq] at hv;obtain ⟨rfl,_,rfl⟩:=hv;have hblk:Blk w g cur e:=hblk;refine ⟨.inr ⟨_,_,rfl,fun i hi j hj=>?_⟩,by omega,by unfold maxLen at hm;omega,fun h=>by cases h⟩;rw [LinkV.cs_size] at hj;rw [Nat.zero_add,hblk.cell];have h1:=congrArg (fun z:List Value=>z[i*5+j]?) htake;simp only [List.getElem?_take,show i*5+j<m*5 by omega,if_true,Array.getElem?_toList] at h1;rw [h1,flat_get l i hi j hj,LinkV.cs_get _ _ hj]
theorem owns_new5 {base m:Nat}{e:TypeId}{xs:List Value}(h:w.ownsRow base e 5 (.slice a m cap) m xs):∀ y,a=some y→base≤y.block∧y.block<w.heap.size:=by
 intro y hy;obtain ⟨_,⟨hv,h0⟩|⟨g,cap2,cur,hv,hg,hblk,_⟩⟩:=h
 ·simp only [Value.slice.injEq] at hv;rw [hv.1] at hy;cases hy
 ·simp only [Value.slice.injEq] at hv;rw [hv.1] at hy;cases hy;exact ⟨hg,Blk.lt hblk⟩
end
def LkInfo (e:TypeId):Prop:=(Tryz.prog.info? e).map (fun i=>(i.zero.map (fun z=>z.cells.size),i.size,i.bytes))=some (some 5,5,48)
theorem LkInfo.get {e:TypeId}(h:LkInfo e):∃ i z,Tryz.prog.info? e=some i∧i.zero=some z∧i.size=5∧i.bytes=48∧z.cells.size=5:=by
 obtain ⟨i,hi,h2⟩:=Option.map_eq_some_iff.1 h;simp only [Prod.mk.injEq] at h2;obtain ⟨z,hz,h3⟩:=Option.map_eq_some_iff.1 h2.1;exact ⟨i,z,hi,hz,h2.2.1,h2.2.2,h3⟩
theorem lkI_ours:LkInfo 186:=by unfold LkInfo;kernel_rfl
theorem LkInfo.five {e:TypeId}(h:LkInfo e):(Tryz.prog.info? e).map (·.size)=some 5:=by
 obtain ⟨i,z,hi,_,hs,_⟩:=h.get;rw [hi];exact congrArg some hs
theorem push_lk {t e:TypeId}(ht:Tryz.prog.underlying t=some (.slice e))(hI:LkInfo e){w0 w:World}{a:Option Addr}{len c:Nat}{l:List LinkV}(base:Nat)(hown:w.ownsRow base e 5 (.slice a len c) len (flat l))(hl:len≤1000000)(hbase:base≤w.heap.size)(hb:Below base w0 w)(k:LinkV) :
  ∃ g c2 w2,(appendB #[t,t] t #[.slice a len c,.slice (some ⟨w.heap.size,0,none⟩) 1 1]).run Tryz.prog (w.alloc (.cells k.cs e))=.ok (.slice (some ⟨g,0,none⟩) (len+1) c2) w2 ∧
   w2.ownsRow base e 5 (.slice (some ⟨g,0,none⟩) (len+1) c2) (len+1) (flat (l++[k]))∧Below base w0 w2∧base≤w2.heap.size∧(w.alloc (.cells k.cs e)).grownBy w2 (Value.ownBlock (.slice a len c)):=by
 have ha:(w.alloc (.cells k.cs e)).heap.size=w.heap.size+1:=by simp
 obtain ⟨ti,tz,hti,htz,hts,htb,htc⟩:=hI.get;obtain ⟨g,c2,w2,hr2,hown2,hgr,hwhere⟩:=run_append_where (P:=Tryz.prog) (w:=w.alloc (.cells k.cs e)) base (t:=t) (ty:=t) ht hti htz hts htb htc (by decide) (hown.alloc (.cells k.cs e)) ⟨w.heap.size,0,none⟩ (m:=1) (c:=1) (news:=k.cs.toList) rfl
  (fun j u hu=>by rw [Addr.add_lit,Nat.zero_add,(Blk.new _ _ _).cell];simpa using hu) k.cs_one (by decide) (by omega) (by omega) (by omega)
 have hb2:=(hb.alloc hbase (.cells k.cs e)).grown hgr (by omega) (fun j hj=>(hown.lt j hj).1);have hsz:=hgr.size;refine ⟨g,c2,w2,hr2,?_,hb2,by omega,hgr⟩;rw [flat_append,flat_one];exact hown2
theorem recI_ours:(Tryz.prog.info? 184).map (·.size)=some 4:=by kernel_rfl
end
section
open Go Go.RowKit
theorem see_drop {l:List LinkV}{k:Nat}(at_:BitVec 64)(hk:k<l.length):seeP (l.drop k) at_=if at_.toNat<l[k].stamp.toNat then seeP (l.drop (k+1)) at_ else if l[k].gone then (ByteArray.empty,false) else (l[k].text,true):=by
 rw [List.drop_eq_getElem_cons hk,see_more]
section
set_option maxHeartbeats 2000000
variable {a:Option Addr} {l:List LinkV} {cap:Nat} {w0:World}
theorem chSee_calls (at_:BitVec 64)(h:LksIn w0 a l cap) :
  Ret Tryz.prog 96 #[.slice a l.length cap,.int .u64 (uv at_)] w0 fun v w'=>v=.tuple #[.string (seeP l at_).1,.bool (seeP l at_).2]∧Below w0.heap.size w0 w':=by
 have bel0:=Below.refl w0.heap.size w0;have hmax:=h.max;have hle:=h.le;refine ret_of (args:=[_,_]) _ Tryz.func96 rfl Tryz.ntmps96 (by simp) ?_;simp -implicitDefEqProofs [go_sem];refine wpE_loop (fun e' w'=>∃ k:Nat,k≤l.length∧seeP (l.drop k) at_=seeP l at_∧e' 1=.int .u64 (uv at_)∧e' 8=.slice a l.length cap∧e' 9=.int .i64 l.length∧e' 10=.int .i64 k∧Below w0.heap.size w0 w') (fun e' _=>l.length-(intOf (e' 10)).toNat) ?_ ?_
 ·refine ⟨0,by omega,by rw [List.drop_zero],?_⟩;simp -implicitDefEqProofs [go_sem];exact bel0
 ·rintro e' w1 ⟨k,hk,hs,g1,g8,g9,g10,bel1⟩;by_cases hlt:k<l.length
  ·have hlt':(k:Int)<l.length:=by omega
   have hwk:=IntWalk.i64_in ((k:Int)+1) (by omega);obtain ⟨b,off,rfl,hcell⟩:=(h.next bel1).get hlt;have hld:=ldCells (P:=Tryz.prog) (w:=w1) (g:=b) (o:=off+k*5) (cs:=l[k].cs) Tryz.underlying186 rfl lkI_ours.five rfl hcell;have hst:=stNew (P:=Tryz.prog) (t:=186) (cs:=l[k].cs) (C0:=#[.int .i64 0,.int .u64 0,.int .u64 0,.bool false,.string ⟨#[]⟩]) lkI_ours.five rfl (l[k].cs_one);rw [see_drop at_ hlt] at hs;simp -implicitDefEqProofs [go_sem,g1,g8,g9,g10,hlt,hlt',↓hld,↓hst]
   generalize hw2:World.alloc w1 _=w2 at *;obtain ⟨hB2,b2,sz2,bel2⟩:=newF hw2 bel1;by_cases h1:l[k].stamp≤at_
   ·rw [if_neg (by rw [BitVec.le_def] at h1;omega)] at hs;cases hg:l[k].gone
    ·rw [hg,if_neg (by decide)] at hs;simp -implicitDefEqProofs [go_sem,g1,g8,g9,g10,hB2.cell,LinkV.cs_1,LinkV.cs_3,LinkV.cs_4,hg,h1];refine body_tmp2 4 5 rfl ?_;simp -implicitDefEqProofs [go_sem,← hs];exact bel2
    ·rw [hg,if_pos rfl] at hs;have hs':seeP l at_=(⟨#[]⟩,false):=hs.symm;simp -implicitDefEqProofs [go_sem,g1,g8,g9,g10,hB2.cell,LinkV.cs_1,LinkV.cs_3,LinkV.cs_4,hg,h1];refine body_tmp2 4 5 rfl ?_;simp -implicitDefEqProofs [go_sem,hs'];exact bel2
   ·rw [if_pos (by rw [BitVec.le_def] at h1;omega)] at hs;simp -implicitDefEqProofs [go_sem,g1,g8,g9,g10,hB2.cell,LinkV.cs_1,LinkV.cs_3,LinkV.cs_4,h1];refine goE_round ⟨k+1,by omega,hs,?_⟩ ?_
    ·simp -implicitDefEqProofs [go_sem,g1,g8,g9,hwk];exact bel2
    ·simp -implicitDefEqProofs [go_sem,intOf,g10,hwk];omega
  ·have hk':k=l.length:=by omega
   subst hk';rw [List.drop_length] at hs;simp -implicitDefEqProofs [go_sem,g1,g8,g9,g10];refine body_tmp2 4 5 rfl ?_;have hs':seeP l at_=(⟨#[]⟩,false):=hs.symm;simp -implicitDefEqProofs [go_sem,hs'];exact bel1
theorem fall_iff:∀ l:List LinkV,FallL l↔∀ i (h:i+1<l.length),l[i+1].stamp.toNat<l[i].stamp.toNat
 | []=>⟨fun _ i h=>by simp at h,fun _=>trivial⟩
 | [x]=>⟨fun _ i h=>by simp at h,fun _=>trivial⟩
 | x::y::l=>by
  rw [show FallL (x::y::l)=(y.stamp.toNat<x.stamp.toNat∧FallL (y::l)) from rfl,fall_iff (y::l)];constructor
  ·rintro ⟨h1,h2⟩ i hi;cases i with
   | zero=>exact h1
   | succ i=>exact h2 i (by simpa using hi)
  ·intro h;exact ⟨h 0 (by simp),fun i hi=>h (i+1) (by simpa using hi)⟩
def decFall:(l:List LinkV)→Decidable (FallL l)
 | []=>isTrue trivial
 | [_]=>isTrue trivial
 | x::y::l=>@instDecidableAnd (y.stamp.toNat<x.stamp.toNat) (FallL (y::l)) _ (decFall (y::l))
instance : DecidablePred FallL:=decFall
end
end
end Go.Proofs.YtaaihijkdhmcdaaGreatDoor
