/- WholeImage, part 8 of 38: contracts and lemmas of its proof. Conditions: none. -/
import Derived.WalkKit
import Derived.Test.YtaaihijkdhmcdaaGreatDoorProg
import Derived.Test.YtaaihijkdhmcdaaGreatDoorW00
import Derived.Lib.SlBytesConst
import Derived.Test.YtaaihijkdhmcdaaGreatDoorW01
import Derived.Test.YtaaihijkdhmcdaaGreatDoorW02
import Derived.Test.YtaaihijkdhmcdaaGreatDoorW03
import Derived.Test.YtaaihijkdhmcdaaGreatDoorW05
import Derived.Test.YtaaihijkdhmcdaaGreatDoorW06
set_option linter.unusedVariables false
set_option linter.unusedSimpArgs false
set_option maxRecDepth 100000
namespace Go.Proofs.YtaaihijkdhmcdaaGreatDoor
namespace Crc
def poly:BitVec 32:=2197175160#32
def r1 (x:BitVec 32):BitVec 32:=x >>> 1 ^^^ (if x.getLsbD 0 then poly else 0#32)
def four (k:BitVec 32):BitVec 32:=r1 (r1 (r1 (r1 k)))
def step4 (x:BitVec 32):BitVec 32:=x >>> 4 ^^^ four (x &&& 15#32)
theorem r1_xor (x y:BitVec 32):r1 (x ^^^ y)=r1 x ^^^ r1 y:=by
 unfold r1;rw [BitVec.ushiftRight_xor_distrib,BitVec.getLsbD_xor];cases hx:x.getLsbD 0<;>cases hy:y.getLsbD 0<;>simp
 ·ac_rfl
 ·ac_rfl
 ·have e:x >>> 1 ^^^ poly ^^^ (y >>> 1 ^^^ poly)=x >>> 1 ^^^ y >>> 1 ^^^ (poly ^^^ poly):=by ac_rfl
  rw [e,BitVec.xor_self,BitVec.xor_zero]
theorem r1_even (x:BitVec 32)(h:x.getLsbD 0=false):r1 x=x >>> 1:=by
 unfold r1;rw [h];simp
def rn:Nat→BitVec 32→BitVec 32
 | 0,x=>x
 | n+1,x=>rn n (r1 x)
theorem rn_xor (n:Nat):∀ x y:BitVec 32,rn n (x ^^^ y)=rn n x ^^^ rn n y:=by
 induction n with
 | zero=>intro x y;rfl
 | succ n ih=>intro x y;rw [rn,r1_xor,ih];rfl
theorem rn_add (m n:Nat):∀ x,rn (m+n) x=rn n (rn m x):=by
 induction m with
 | zero=>intro x;rw [Nat.zero_add];rfl
 | succ m ih=>intro x;rw [Nat.add_right_comm];exact ih (r1 x)
theorem rn_shift (n:Nat):∀ x:BitVec 32,(∀ i,i<n→x.getLsbD i=false)→rn n x=x >>> n:=by
 induction n with
 | zero=>intro x _;simp [rn]
 | succ n ih =>
  intro x h;rw [rn,r1_even x (h 0 (by omega)),ih _ (fun i hi=>by rw [BitVec.getLsbD_ushiftRight];exact h _ (by omega)),← BitVec.shiftRight_add,Nat.add_comm]
theorem split4 (x:BitVec 32):x=(x &&& ~~~15#32) ^^^ (x &&& 15#32):=by
 apply BitVec.eq_of_getLsbD_eq;intro i hi;simp only [BitVec.getLsbD_xor,BitVec.getLsbD_and,BitVec.getLsbD_not,hi,decide_true,Bool.true_and];cases x.getLsbD i<;>cases (15#32).getLsbD i<;>rfl
theorem hi4 (x:BitVec 32):(x &&& ~~~15#32) >>> 4=x >>> 4:=by
 rw [BitVec.ushiftRight_and_distrib];have e:(~~~15#32:BitVec 32) >>> 4=(BitVec.allOnes 32) >>> 4:=by decide
 rw [e,← BitVec.ushiftRight_and_distrib,BitVec.and_allOnes]
theorem low4 (i:Nat)(h:i<4):(15#32).getLsbD i=true:=by
 match i,h with
 | 0,_=>rfl
 | 1,_=>rfl
 | 2,_=>rfl
 | 3,_=>rfl
theorem step4_eq (x:BitVec 32):step4 x=rn 4 x:=by
 have h4:rn 4 (x &&& ~~~15#32)=x >>> 4:=by
  rw [rn_shift 4 _ (fun i hi=>by rw [BitVec.getLsbD_and,BitVec.getLsbD_not,low4 i hi];simp),hi4]
 conv=>rhs;rw [split4 x,rn_xor,h4]
 rfl
def byte (x:BitVec 32)(c:BitVec 8):BitVec 32:=rn 8 (x ^^^ c.setWidth 32)
def bytes (x:BitVec 32)(l:List (BitVec 8)):BitVec 32:=l.foldl byte x
def next (s:BitVec 32)(l:List (BitVec 8)):BitVec 32 := ~~~ bytes (~~~ s) l
theorem bytes_append (x:BitVec 32)(a b:List (BitVec 8)):bytes x (a++b)=bytes (bytes x a) b:=List.foldl_append
theorem bytes_snoc (x:BitVec 32)(a:List (BitVec 8))(c:BitVec 8):bytes x (a++[c])=byte (bytes x a) c:=by rw [bytes_append];rfl
theorem byte_steps (x:BitVec 32)(c:BitVec 8):byte x c=step4 (step4 (x ^^^ c.setWidth 32)):=by
 rw [step4_eq,step4_eq,← rn_add];rfl
theorem bytes_take (x:BitVec 32)(l:List (BitVec 8))(k:Nat)(h:k<l.length):bytes x (l.take (k+1))=step4 (step4 (bytes x (l.take k) ^^^ l[k].setWidth 32)):=by
 rw [← byte_steps,← bytes_snoc,List.take_succ_eq_append_getElem h]
def bits8 (c:BitVec 8):List Bool:=(List.range 8).map c.getLsbD
def bitsOf (l:List (BitVec 8)):List Bool:=l.flatMap bits8
end Crc
section
open Go Go.RowKit
def Fours (w:World):Prop:=∀ x:BitVec 32,w.cell? ⟨0,idx (x &&& 15#32),none⟩=some (.int .u32 (uv (Crc.four (x &&& 15#32))))
def BytesAt (w:World)(a:Option Addr)(l:List (BitVec 8)):Prop :=
 l=[]∨∃ b off,a=some ⟨b,off,none⟩∧∀ i (h:i<l.length),w.cell? ⟨b,off+i,none⟩=some (.int .u8 (uv l[i]))
def foursTab:List Int:=[0,274646895,549293790,820201905,1098587580,1361435347,1640403810,1905808397,2197175160,2460548119,2722870694,2987750089,3280807620,3553878443,3811616794,4084100981]
theorem fours_tab:∀ j,j<16→foursTab.getD j 0=uv (Crc.four (BitVec.ofNat 32 j)):=by decide +kernel
theorem fours_of {w:World}(h:∀ j,j<16→w.cell? ⟨0,j,none⟩=some (.int .u32 (foursTab.getD j 0))):Fours w:=by
 intro x;have hlt:(x &&& 15#32).toNat<16:=by rw [BitVec.toNat_and];exact Nat.lt_of_le_of_lt Nat.and_le_right (by decide)
 have h1:=h _ hlt;rw [fours_tab _ hlt,BitVec.ofNat_toNat,BitVec.setWidth_eq] at h1;exact h1
theorem and15_lt (x:BitVec 32):uv (x &&& 15#32)<16:=by
 have h:(x &&& 15#32).toNat≤15:=by rw [BitVec.toNat_and];exact Nat.and_le_right
 unfold uv;omega
theorem uv_zero (n:Nat):uv (0#n)=0:=by simp [uv]
theorem next_calls (s:BitVec 32)(a:Option Addr)(l:List (BitVec 8))(len cap:Nat)(w:World)(hn:l.length=len)(hl:len≤9223372036854775807)(hF:Fours w)(hb:BytesAt w a l) :
  Ret Tryz.prog 110 #[.int .u32 (uv s),.slice a len cap] w fun v w'=>v=.int .u32 (uv (Crc.next s l))∧w'=w:=by
 subst hn;refine ret_of (args:=[_,_]) _ Tryz.func110 rfl Tryz.ntmps110 (by simp) ?_;simp -implicitDefEqProofs [go_sem];refine wpE_loop (fun e' w'=>w'=w∧∃ k:Nat,k≤l.length∧e' 10=.slice a l.length cap∧e' 11=.int .i64 l.length∧e' 12=.int .i64 k ∧
  e' 5=.int .u32 (uv (Crc.bytes (~~~s) (l.take k)))) (fun e' _=>l.length-(intOf (e' 12)).toNat) ?_ ?_
 ·refine ⟨rfl,0,by omega,?_⟩;simp -implicitDefEqProofs [go_sem,Crc.bytes]
 ·rintro e' w' ⟨rfl,k,hk,h10,h11,h12,h5⟩;by_cases hlt:k<l.length
  ·obtain rfl|⟨b,off,rfl,hc⟩:=hb
   ·simp at hlt
   have hc:=hc k hlt;unfold Fours at hF;have hw:=IntWalk.i64_in ((k:Int)+1) (by omega);simp -implicitDefEqProofs [go_sem,h10,h11,h12,h5,hlt,hc,hF,and15_lt,hw];refine goE_round ⟨rfl,k+1,by omega,?_⟩ ?_
   ·have e1:=Crc.bytes_take (~~~s) l k hlt;simp -implicitDefEqProofs [go_sem,h10,h11,e1];rfl
   ·simp -implicitDefEqProofs [go_sem,intOf,h12];omega
  ·have hk':k=l.length:=by omega
   subst hk';simp -implicitDefEqProofs [go_sem,h11,h12,h5,hlt];refine body_tmp 4 rfl ?_;simp -implicitDefEqProofs [go_sem];rfl
theorem Fours.below {w w':World}(h:Fours w)(hb:Below w.heap.size w w'):Fours w':=fun x =>
 (hb.cell (p:=⟨_,_,none⟩) (World.block_lt_of_cell? w _ (h x))).trans (h x)
theorem sum_calls (a:Option Addr)(l:List (BitVec 8))(len cap:Nat)(w:World)(hn:l.length=len)(hl:len≤9223372036854775807)(hF:Fours w)(hb:BytesAt w a l) :
  Ret Tryz.prog 73 #[.slice a len cap] w fun v w'=>v=.int .u32 (uv (Crc.next 0#32 l))∧w'=w:=by
 subst hn;refine ret_of (args:=[_]) _ Tryz.func73 rfl Tryz.ntmps73 (by simp) ?_;simp -implicitDefEqProofs [go_sem];have h:=next_calls 0#32 a l _ cap w rfl hl hF hb;rw [uv_zero] at h;refine callE_of h ?_;rintro v w' ⟨rfl,rfl⟩;simp -implicitDefEqProofs [go_sem];refine body_tmp 2 rfl ?_;simp -implicitDefEqProofs [go_sem]
end
namespace HM
def need (s:Nat):Nat:=2+(s+7)/8+16*s
def slabsF (n:Nat):Nat→Nat
 | 0=>0
 | k+1=>if need (k+1)≤n then k+1 else slabsF n k
def slabs (n:Int):Nat:=slabsF n.toNat 64
theorem slabsF_le (n:Nat):∀ k,slabsF n k≤k
 | 0=>Nat.le_refl _
 | k+1=>by have:=slabsF_le n k;unfold slabsF;split<;>omega
theorem slabsF_spec (n:Nat):∀ k,(slabsF n k=0∨need (slabsF n k)≤n)∧(slabsF n k=k∨n<need (slabsF n k+1))
 | 0=>⟨.inl rfl,.inl rfl⟩
 | k+1=>by
  obtain ⟨h1,h2⟩:=slabsF_spec n k;unfold slabsF;by_cases h:need (k+1)≤n
  ·rw [if_pos h];exact ⟨.inr h,.inl rfl⟩
  ·rw [if_neg h];refine ⟨h1,.inr ?_⟩
   rcases h2 with h2|h2
   ·rw [h2];omega
   ·exact h2
theorem slabs_spec {n:Nat}(hn:n≤1024):(slabs n=0∨need (slabs n)≤n)∧n<need (slabs n+1):=by
 have h:=slabsF_spec n 64;have e:slabs (n:Int)=slabsF n 64:=by unfold slabs;rw [Int.toNat_natCast]
 rw [e];refine ⟨h.1,?_⟩
 rcases h.2 with h2|h2
 ·rw [h2];unfold need;omega
 ·exact h2
theorem slabs_eq {n:Nat}(hn:n≤1024){s:Nat}(h1:s=0∨need s≤n)(h2:n<need (s+1)):slabs n=s:=by
 obtain ⟨h3,h4⟩:=slabs_spec hn;generalize slabs (n:Int)=t at *;unfold need at *;omega
theorem slabs_neg {n:Int}(hn:n<19):slabs n=0:=by
 unfold slabs;have h:∀ k,slabsF n.toNat k=0:=by
  intro k
  induction k with
  | zero=>rfl
  | succ k ih =>
   unfold slabsF;rw [if_neg (by unfold need;omega)];exact ih
 exact h 64
theorem slabs_le {n:Nat}(hn:n≤1024):slabs n≤63:=by
 obtain ⟨h3,_⟩:=slabs_spec hn;generalize slabs (n:Int)=t at *;unfold need at h3;omega
structure Shape where
 lines:Int
 slabs:Int
 table:Int
 data:Int
deriving DecidableEq
def none4:Shape:=⟨0,0,0,0⟩
def shapeOf (n:Int):Shape:=⟨n,slabs n,128,64*(2+((slabs n+7)/8:Nat))⟩
def of (n:Int):Shape × Bool:=if 1024<n then (none4,false) else if slabs n=0 then (none4,false) else (shapeOf n,true)
theorem of_some {n:Int}(h:(of n).2=true):19≤n∧n≤1024∧(of n).1=shapeOf n∧1≤slabs n:=by
 unfold of at h ⊢;split at h
 ·cases h
 ·rename_i h1;rw [if_neg h1];split at h
  ·cases h
  ·rename_i h2;rw [if_neg h2];refine ⟨?_,by omega,rfl,by omega⟩;apply Classical.byContradiction;intro h3;exact h2 (slabs_neg (by omega))
theorem of_none {n:Int}(h:(of n).2=false):(of n).1=none4:=by
 unfold of at h ⊢;split
 ·rfl
 ·rename_i h1;rw [if_neg h1] at h;split
  ·rfl
  ·rename_i h2;rw [if_neg h2] at h;cases h
theorem of_nat {n:Nat}(h:19≤n)(h2:n≤1024):(of n).2=true∧(of n).1=shapeOf n:=by
 have hs:slabs (n:Int)≠0:=by
  intro h0;obtain ⟨_,h4⟩:=slabs_spec h2;rw [h0] at h4;unfold need at h4;omega
 unfold of;rw [if_neg (by omega),if_neg hs];exact ⟨rfl,rfl⟩
def wbytes (l:List (BitVec 64)):List (BitVec 8):=l.flatMap fun x=>(List.range 8).map (WM.byteOf x)
theorem wbytes_len (l:List (BitVec 64)):(wbytes l).length=8*l.length:=by
 induction l with
 | nil=>rfl
 | cons x l ih=>simp [wbytes] at ih ⊢;omega
def six (s:Shape):List (BitVec 64):=[465675318387#64,1#64,BitVec.ofInt 64 s.lines,BitVec.ofInt 64 s.slabs,BitVec.ofInt 64 s.table,BitVec.ofInt 64 s.data]
def words (s:Shape):List (BitVec 64):=if (of s.lines).2=true∧(of s.lines).1=s then six s++[(Crc.next 0#32 (wbytes (six s))).setWidth 64,0#64] else []
theorem words_of {n:Nat}(h:19≤n)(h2:n≤1024):words (shapeOf n)=six (shapeOf n)++[(Crc.next 0#32 (wbytes (six (shapeOf n)))).setWidth 64,0#64]:=by
 obtain ⟨h3,h4⟩:=of_nat h h2;unfold words;rw [if_pos ⟨h3,h4⟩]
theorem words_len {n:Nat}(h:19≤n)(h2:n≤1024):(words (shapeOf n)).length=8:=by rw [words_of h h2];rfl
end HM
namespace HM
theorem words_none {s:Shape}(h:(of s.lines).2=false∨(of s.lines).1≠s):words s=[]:=by
 unfold words;rw [if_neg];rintro ⟨h1,h2⟩
 rcases h with h|h
 ·rw [h] at h1;cases h1
 ·exact h h2
end HM
section
open Go Go.RowKit
def shapeC (s:HM.Shape):Array Value:=#[.int .i64 s.lines,.int .i64 s.slabs,.int .i64 s.table,.int .i64 s.data]
theorem shapeC_one (s:HM.Shape):∀ v∈(shapeC s).toList,v.oneCell'=true:=by
 intro v hv;simp [shapeC] at hv
 rcases hv with rfl|rfl|rfl|rfl<;>rfl
theorem shapeI (s:HM.Shape):(Tryz.prog.info? 54).map (·.size)=some (shapeC s).size:=by kernel_rfl
theorem shapeI4:(Tryz.prog.info? 54).map (·.size)=some 4:=by kernel_rfl
theorem fn_new (w:World)(f:Nat)(z:Value)(t:TypeId):(store ⟨w.heap.size,0,none⟩ (.func (.func f) #[] #[])).run Tryz.prog (w.alloc (.cells #[z] t))=.ok () (w.alloc (.cells #[.func (.func f) #[] #[]] t)):=by
 have hB:=Blk.new w #[z] t;rw [run_store _ _ _ _ _ rfl];simp [stored,hB.cell,hB.thaw];have h:(w.heap.push (Obj.cells #[z] t)).modify w.heap.size (fun
   | .cells c elem frozen=>.cells (c.setIfInBounds 0 (.func (.func f) #[] #[])) elem frozen
   | o=>o)=w.heap.push (Obj.cells #[.func (.func f) #[] #[]] t):=by
  apply Array.ext_getElem?;intro i;rw [Array.getElem?_modify,Array.getElem?_push,Array.getElem?_push];by_cases h:i=w.heap.size
  ·subst h;simp
  ·rw [if_neg (fun e=>h e.symm),if_neg h,if_neg h]
 exact congrArg (fun h=>World.mk h w.tape w.drawn w.os w.output) h
section
theorem ahead_calls (s:Nat)(w:World)(hs:s≤100):Ret Tryz.prog 65 #[.int .i64 s] w fun v w'=>v=.int .i64 ((2+(s+7)/8:Nat):Int)∧w'=w:=by
 have h1:=IntWalk.i64_in ((s:Int)+8) (by omega);have h2:=IntWalk.i64_in ((s:Int)+8-1) (by omega);have h3:=IntWalk.i64_in (((s:Int)+8-1).tdiv 8) (by rw [Int.tdiv_eq_ediv_of_nonneg (by omega)];omega);have e3:((s:Int)+8-1).tdiv 8=((s+7)/8:Nat):=by rw [Int.tdiv_eq_ediv_of_nonneg (by omega)];omega
 have h4:=IntWalk.i64_in (2+(((s+7)/8:Nat):Int)) (by omega);have h5:=IntWalk.i64_in (((s:Int)+7)/8) (by omega);have h6:=IntWalk.i64_in (2+((s:Int)+7)/8) (by omega);refine ret_of (args:=[_]) _ Tryz.func65 rfl Tryz.ntmps65 (by simp) ?_;simp -implicitDefEqProofs [go_sem,h1,h2,h3,e3,h4];refine body_tmp 2 rfl ?_;simp -implicitDefEqProofs [go_sem,h5,h6]
theorem need_calls (s b:Nat)(w:World)(hs:s≤100)(hb:Blk w b #[.func (.func 65) #[] #[]] 159):Ret Tryz.prog 66 #[.int .i64 s,.pointer (some ⟨b,0,none⟩)] w fun v w'=>v=.int .i64 (HM.need s:Int)∧w'=w:=by
 have h5:=IntWalk.i64_in (16*(s:Int)) (by omega);have h6:=IntWalk.i64_in (2+((s:Int)+7)/8+16*(s:Int)) (by omega);refine ret_of (args:=[_,_]) _ Tryz.func66 rfl Tryz.ntmps66 (by simp) ?_;simp -implicitDefEqProofs [go_sem,hb.cell];refine callE_of (ahead_calls s w hs) ?_;rintro v w' ⟨rfl,rfl⟩;simp -implicitDefEqProofs [go_sem];refine body_tmp 3 rfl ?_;simp -implicitDefEqProofs [go_sem,h5,h6,HM.need]
theorem slabs_int {n:Int}(h:n≤1024){s:Nat}(h1:s=0∨(HM.need s:Int)≤n)(h2:n<HM.need (s+1)):HM.slabs n=s:=by
 by_cases hn:n<19
 ·rw [HM.slabs_neg hn]
  rcases h1 with h1|h1
  ·exact h1.symm
  ·unfold HM.need at h1;omega
 ·obtain ⟨m,rfl⟩:=Int.eq_ofNat_of_zero_le (by omega:0≤n);exact HM.slabs_eq (by omega) (by omega) (by omega)
set_option maxHeartbeats 1000000 in
theorem headOf_calls (n:Int)(w0:World)(hn:I64 n):Ret Tryz.prog 34 #[.int .i64 n] w0 fun v w'=>v=.tuple #[.agg (shapeC (HM.of n).1),.bool (HM.of n).2]∧Below w0.heap.size w0 w':=by
 have bel0:=Below.refl w0.heap.size w0;have hst:Tryz.prog.underlying 54=_:=Tryz.underlying54;refine ret_of (args:=[_]) _ Tryz.func34 rfl Tryz.ntmps34 (by simp) ?_;simp -implicitDefEqProofs [go_sem];generalize hw1:World.alloc w0 _=w1 at *;obtain ⟨hB1,b1,sz1,bel1⟩:=newF hw1 bel0;have hz:=stAll (P:=Tryz.prog) (cs:=#[.int .i64 0,.int .i64 0,.int .i64 0,.int .i64 0]) hB1 shapeI4 rfl (shapeC_one HM.none4)
 have hBz:Blk (w1.setRow w0.heap.size #[.int .i64 0,.int .i64 0,.int .i64 0,.int .i64 0]) w0.heap.size #[.int .i64 0,.int .i64 0,.int .i64 0,.int .i64 0] 54:=hB1.row _;by_cases hbig:1024<n
 ·simp -implicitDefEqProofs [go_sem,hbig,↓hz];refine bodyCell 2 3 rfl (by simp -implicitDefEqProofs [go_sem]) hBz hst rfl shapeI4 ?_;have e:HM.of n=(HM.none4,false):=by unfold HM.of;rw [if_pos hbig]
  rw [e];simp -implicitDefEqProofs [go_sem,shapeC,HM.none4];exact Below.row bel1 (Nat.le_refl _) _
 ·simp -implicitDefEqProofs [go_sem,hbig,fn_new];generalize hw2:World.alloc w1 _=w2 at *;obtain ⟨hB2,b2,sz2,bel2⟩:=newF hw2 bel1;replace hB1:=hB1.next b2
  refine wpE_loop (fun e' w'=>w'=w2∧∃ k:Nat,(k=0∨(HM.need k:Int)≤n)∧e' 0=.int .i64 n∧e' 2=.pointer (some ⟨w0.heap.size,0,none⟩)∧e' 4=.pointer (some ⟨w1.heap.size,0,none⟩) ∧
   e' 5=.func (.func 66) #[] #[.pointer (some ⟨w1.heap.size,0,none⟩)]∧e' 6=.int .i64 k) (fun e' _=>64-(intOf (e' 6)).toNat) ?_ ?_
  ·refine ⟨rfl,0,.inl rfl,?_⟩;simp -implicitDefEqProofs [go_sem]
  ·rintro e' w' ⟨rfl,k,hk,g0,g2,g4,g5,g6⟩;have hk63:k≤63:=by
    rcases hk with hk|hk
    ·omega
    ·unfold HM.need at hk;omega
   have hw1:=IntWalk.i64_in ((k:Int)+1) (by omega);simp -implicitDefEqProofs [go_sem,g0,g2,g4,g5,g6,hw1];refine callE_of (need_calls (k+1) w1.heap.size w' (by omega) hB2) ?_;rintro v w3 ⟨rfl,rfl⟩;by_cases hle:(HM.need (k+1):Int)≤n
   ·simp -implicitDefEqProofs [go_sem,g0,g2,g4,g5,g6,hw1,hle];refine goE_round ⟨rfl,k+1,.inr hle,?_⟩ ?_
    ·simp -implicitDefEqProofs [go_sem,g0,g2,g4,g5]
    ·simp -implicitDefEqProofs [go_sem,intOf,g6];omega
   ·have hs:HM.slabs n=k:=slabs_int (by omega) hk (by omega);by_cases h0:k=0
    ·subst h0;have hz:=stAll (P:=Tryz.prog) (cs:=#[.int .i64 0,.int .i64 0,.int .i64 0,.int .i64 0]) hB1 shapeI4 rfl (shapeC_one HM.none4);have hBz:Blk (w3.setRow w0.heap.size #[.int .i64 0,.int .i64 0,.int .i64 0,.int .i64 0]) w0.heap.size #[.int .i64 0,.int .i64 0,.int .i64 0,.int .i64 0] 54:=hB1.row _;simp -implicitDefEqProofs [go_sem,g0,g2,g4,g5,g6,hle,↓hz];refine bodyCell 2 3 rfl (by simp -implicitDefEqProofs [go_sem,g2]) hBz hst rfl shapeI4 ?_
     have e:HM.of n=(HM.none4,false):=by unfold HM.of;rw [if_neg hbig,if_pos hs]
     rw [e];simp -implicitDefEqProofs [go_sem,shapeC,HM.none4];exact Below.row bel2 (Nat.le_refl _) _
    ·have h0':((k:Int)==0)=false:=by rw [beq_eq_false_iff_ne];omega
     simp -implicitDefEqProofs [go_sem,g0,g2,g4,g5,g6,hle,h0,h0',hB2.cell];refine callE_of (ahead_calls k w3 (by omega)) ?_;rintro v w4 ⟨rfl,rfl⟩;have h5:=IntWalk.i64_in ((2+((k:Int)+7)/8)*64) (by omega);have e:=shapeI4;have hz:=stAll (P:=Tryz.prog) (cs:=#[.int .i64 n,.int .i64 k,.int .i64 128,.int .i64 ((2+((k:Int)+7)/8)*64)]) hB1 shapeI4 rfl (shapeC_one ⟨n,k,128,(2+((k:Int)+7)/8)*64⟩);have hBz:=hB1.row #[.int .i64 n,.int .i64 k,.int .i64 128,.int .i64 ((2+((k:Int)+7)/8)*64)]
     simp -implicitDefEqProofs [go_sem,g0,g2,g4,g5,g6,h5,↓hz];refine bodyCell 2 3 rfl (by simp -implicitDefEqProofs [go_sem,g2]) hBz hst rfl shapeI4 ?_;have e:HM.of n=(HM.shapeOf n,true):=by unfold HM.of;rw [if_neg hbig,if_neg (by omega)]
     rw [e];refine ⟨?_,Below.row bel2 (Nat.le_refl _) _⟩;simp -implicitDefEqProofs [go_sem,shapeC,HM.shapeOf,hs];omega
end
end
section
open Go Go.RowKit
namespace HM
theorem wbytes_getD (l:List (BitVec 64)):∀ j,j<8*l.length→(wbytes l).getD j 0#8=WM.byteOf (l.getD (j/8) 0#64) (j%8):=by
 induction l with
 | nil=>intro j hj;simp at hj
 | cons x l ih =>
  intro j hj;have e:wbytes (x::l)=(List.range 8).map (WM.byteOf x)++wbytes l:=rfl;simp only [List.length_cons] at hj;rw [e,List.getD_eq_getElem?_getD];by_cases h:j<8
  ·rw [List.getElem?_append_left (by simpa using h)];have h1:j/8=0:=by omega
   have h2:j%8=j:=by omega
   rw [h1,h2];simp [h]
  ·rw [List.getElem?_append_right (by simp;omega)];obtain ⟨k,rfl⟩:∃ k,j=k+8:=⟨j-8,by omega⟩;have:=ih k (by omega);rw [List.getD_eq_getElem?_getD] at this;have h1:(k+8)/8=k/8+1:=by omega
   have h2:(k+8)%8=k%8:=by omega
   rw [h1,h2];simpa using this
def partB (l:List (BitVec 64))(i:Nat):List (BitVec 8):=wbytes (l.take i)++List.replicate (8*(l.length-i)) 0#8
theorem partB_len (l:List (BitVec 64))(i:Nat)(hi:i≤l.length):(partB l i).length=8*l.length:=by
 unfold partB;rw [List.length_append,wbytes_len,List.length_take,List.length_replicate,Nat.min_eq_left hi];omega
theorem partB_getD (l:List (BitVec 64))(i j:Nat)(hi:i≤l.length)(hj:j<8*l.length):(partB l i).getD j 0#8=if j<8*i then WM.byteOf (l.getD (j/8) 0#64) (j%8) else 0#8:=by
 have hl:(wbytes (l.take i)).length=8*i:=by rw [wbytes_len,List.length_take,Nat.min_eq_left hi]
 unfold partB;rw [List.getD_eq_getElem?_getD];by_cases h:j<8*i
 ·rw [if_pos h,List.getElem?_append_left (by omega),← List.getD_eq_getElem?_getD,wbytes_getD _ _ (by rw [List.length_take];omega)]
  congr 1
  rw [List.getD_eq_getElem?_getD,List.getElem?_take,if_pos (by omega),← List.getD_eq_getElem?_getD]
 ·rw [if_neg h,List.getElem?_append_right (by omega),List.getElem?_replicate]
  split<;>rfl
theorem partB_step (l:List (BitVec 64))(i:Nat)(hi:i<l.length):putB (partB l i) ((8*i:Nat):Int) (l.getD i 0#64)=partB l (i+1):=by
 have hl:=partB_len l i (by omega);have hh:WM.hasB (partB l i).length ((8*i:Nat):Int)=true:=by rw [hl];exact WM.hasB_iff.2 ⟨i,rfl,by omega⟩
 unfold putB;rw [if_pos hh,Int.toNat_natCast];apply NM.list_ext_getD (by rw [WM.putM_length,hl,partB_len _ _ (by omega)]);intro j hj;rw [WM.putM_length,hl] at hj;rw [WM.putM_getD _ _ _ _ (by omega),partB_getD l i j (by omega) hj,partB_getD l (i+1) j (by omega) hj];by_cases h1:8*i≤j∧j<8*i+8
 ·rw [if_pos h1,if_pos (by omega)];have e1:j/8=i:=by omega
  have e2:j%8=j-8*i:=by omega
  rw [e1,e2]
 ·rw [if_neg h1];by_cases h2:j<8*i
  ·rw [if_pos h2,if_pos (by omega)]
  ·rw [if_neg h2,if_neg (by omega)]
theorem partB_zero (l:List (BitVec 64)):partB l 0=List.replicate (8*l.length) 0#8:=by simp [partB,wbytes]
theorem partB_all (l:List (BitVec 64)):partB l l.length=wbytes l:=by simp [partB]
end HM
structure HM.Shape.I (s:HM.Shape):Prop where
 lines:I64 s.lines
 slabs:I64 s.slabs
 table:I64 s.table
 data:I64 s.data
theorem HM.of_i {n:Int}(h:I64 n):(HM.of n).1.I:=by
 cases hb:(HM.of n).2
 ·rw [HM.of_none hb];have h0:I64 0:=by unfold I64;decide
  exact ⟨h0,h0,h0,h0⟩
 ·obtain ⟨h1,h2,h3,h4⟩:=HM.of_some hb;obtain ⟨m,rfl⟩:=Int.eq_ofNat_of_zero_le (by omega:0≤n);have:=HM.slabs_le (n:=m) (by omega);rw [h3];unfold I64 at h;exact ⟨h,by unfold I64 HM.shapeOf;dsimp only;omega,by unfold I64 HM.shapeOf;dsimp only;omega,by unfold I64 HM.shapeOf;dsimp only;omega⟩
theorem shape_ne (t s:HM.Shape):(!decide (t.lines=s.lines) || (!decide (t.slabs=s.slabs) || (!decide (t.table=s.table) || !decide (t.data=s.data))))=!decide (t=s):=by
 obtain ⟨a,b,c,d⟩:=t;obtain ⟨a',b',c',d'⟩:=s;rw [Bool.eq_iff_iff];simp only [HM.Shape.mk.injEq,Bool.or_eq_true,Bool.not_eq_true',decide_eq_false_iff_not];omega
theorem shapeC_0 (s:HM.Shape):(shapeC s)[0]?=some (.int .i64 s.lines):=rfl
theorem shapeC_1 (s:HM.Shape):(shapeC s)[1]?=some (.int .i64 s.slabs):=rfl
theorem shapeC_2 (s:HM.Shape):(shapeC s)[2]?=some (.int .i64 s.table):=rfl
theorem shapeC_3 (s:HM.Shape):(shapeC s)[3]?=some (.int .i64 s.data):=rfl
theorem stShape (s:HM.Shape):∀ (w:World) (e:Env) (dst:Option Tmp) (x y:Operand) (ty':TypeId) (pos:String) (af:Array Edge) (gd:Option (Nat × Bool)),ev e x=.pointer (some ⟨w.heap.size,0,none⟩)→ev e y=.agg (shapeC s) →
  xOp Tryz.prog e ⟨dst,.store 54 x y,ty',pos,af,gd⟩ (w.alloc (.cells #[.int .i64 0,.int .i64 0,.int .i64 0,.int .i64 0] 54))=.ok .skip (w.alloc (.cells (shapeC s) 54)) :=
 stNew (P:=Tryz.prog) (shapeI s) rfl (shapeC_one s)
section
set_option maxHeartbeats 1000000 in
theorem headWords_calls (s:HM.Shape)(w0:World)(hs:s.I)(hF:Fours w0):Ret Tryz.prog 37 #[.agg (shapeC s)] w0 fun v w'=>Below w0.heap.size w0 w' ∧
  ∃ a c,v=.slice a (HM.words s).length c∧SlIn .u64 w' a (HM.words s) c∧(∀ y,a=some y→w0.heap.size≤y.block):=by
 have bel0:=Below.refl w0.heap.size w0;have hst:Tryz.prog.underlying 54=_:=Tryz.underlying54;refine ret_of (args:=[_]) _ Tryz.func37 rfl Tryz.ntmps37 (by simp) ?_;simp -implicitDefEqProofs [go_sem,shapeC_0];generalize hw1:World.alloc w0 _=w1 at *;obtain ⟨hB1,b1,sz1,bel1⟩:=newF hw1 bel0;refine callE_of (headOf_calls s.lines w1 hs.lines) ?_;rintro v w2 ⟨rfl,b2⟩;have bel2:=btr bel1 b2;replace hB1:=hB1.next b2
 simp -implicitDefEqProofs [go_sem,↓stShape (HM.of s.lines).1];generalize hw3:World.alloc w2 _=w3 at *;obtain ⟨hB3,b3,sz3,bel3⟩:=newF hw3 bel2;replace hB1:=hB1.next b3
 have l1:=ldAll (P:=Tryz.prog) hB1 hst rfl shapeI4 rfl;have l3:=ldAll (P:=Tryz.prog) hB3 hst rfl shapeI4 rfl;cases hb:(HM.of s.lines).2
 ·have hw:HM.words s=[]:=by unfold HM.words;rw [if_neg];rw [hb];simp
  rw [hw];simp -implicitDefEqProofs [go_sem,↓l1,↓l3];refine body_tmp 2 rfl ?_;simp -implicitDefEqProofs [go_sem];exact ⟨bel3,none,0,⟨rfl,rfl⟩,⟨.inl rfl,Nat.le_refl _,by decide,fun _=>rfl⟩,fun y hy=>by cases hy⟩
 generalize ht:(HM.of s.lines).1=t at *;by_cases hts:¬ t=s
 ·have hw:HM.words s=[]:=HM.words_none (.inr (by rw [ht];exact hts));rw [hw];simp -implicitDefEqProofs [go_sem,↓l1,↓l3,shapeC_0,shapeC_1,shapeC_2,shapeC_3,shape_ne,hts];refine body_tmp 2 rfl ?_;simp -implicitDefEqProofs [go_sem];exact ⟨bel3,none,0,⟨rfl,rfl⟩,⟨.inl rfl,Nat.le_refl _,by decide,fun _=>rfl⟩,fun y hy=>by cases hy⟩
 replace hts:t=s:=by simpa using hts
 subst hts;have hw:HM.words t=HM.six t++[(Crc.next 0#32 (HM.wbytes (HM.six t))).setWidth 64,0#64]:=by unfold HM.words;rw [if_pos ⟨hb,ht⟩]
 have hmk:=fun w=>run_make_n (P:=Tryz.prog) (t:=36) (e:=5) (z:=.int .u8 0) (bytes:=1) Tryz.underlying36 (by kernel_rfl) rfl .i64 .i64 48 (by omega) (by omega) w
 have e48:((48:Nat):Int)=48:=rfl;simp only [e48] at hmk;simp -implicitDefEqProofs [go_sem,↓l1,↓l3,shapeC_0,shapeC_1,shapeC_2,shapeC_3,shape_ne,hmk,hB1.cell];generalize hw4:World.alloc w3 _=w4 at *;obtain ⟨hB4,b4,sz4,bel4⟩:=newF hw4 bel3;replace hB1:=hB1.next b4
 generalize hw5:World.alloc w4 _=w5 at *;obtain ⟨hB5,b5,sz5,bel5⟩:=newF hw5 bel4;replace hB1:=hB1.next b5
 replace hB4:=hB4.next b5
 have hsix:HM.six t=[465675318387#64,1#64,BitVec.ofInt 64 t.lines,BitVec.ofInt 64 t.slabs,BitVec.ofInt 64 t.table,BitVec.ofInt 64 t.data]:=rfl;have hp0:HM.partB (HM.six t) 0=List.replicate 48 0#8:=HM.partB_zero _;have hin5:SlIn .u8 w5 (some ⟨w4.heap.size,0,none⟩) (List.replicate 48 0#8) 48:=⟨slAt_blk hB5 (fun i hi=>by
  have hi':i<48:=by simpa using hi
  have e:(List.replicate 48 0#8)[i]=0#8:=List.getElem_replicate ..;rw [e];simp [hi',show uv 0#8=0 from rfl]),by simp,by omega,fun h=>by cases h⟩
 rw [← hp0] at hin5;obtain ⟨C4,hC4⟩:∃ C4:Array Value,C4=#[.int .u64 465675318387,.int .u64 1,.int .u64 (uv (BitVec.ofInt 64 t.lines)),.int .u64 (uv (BitVec.ofInt 64 t.slabs)),.int .u64 (uv (BitVec.ofInt 64 t.table)),.int .u64 (uv (BitVec.ofInt 64 t.data)),.int .u64 0,.int .u64 0]:=⟨_,rfl⟩;rw [← hC4] at hB4;have hC4k:∀ k,k<6→C4[k]?=some (.int .u64 (uv ((HM.six t).getD k 0#64))):=by
  intro k hk;have:k=0∨k=1∨k=2∨k=3∨k=4∨k=5:=by omega
  rw [hC4]
  rcases this with rfl|rfl|rfl|rfl|rfl|rfl<;>rfl
 refine wpE_loop (fun e' w'=>∃ (k:Nat) (a:Option Addr) (c:Nat),k≤6∧e' 5=.slice (some ⟨w3.heap.size,0,none⟩) 8 8∧e' 6=.slice a 48 c∧e' 37=.slice (some ⟨w3.heap.size,0,none⟩) 6 8∧e' 38=.int .i64 6∧e' 39=.int .i64 k ∧
  SlIn .u8 w' a (HM.partB (HM.six t) k) c∧Blk w' w3.heap.size C4 42∧Below w0.heap.size w0 w'∧w5.heap.size≤w'.heap.size) (fun e' _=>6-(intOf (e' 39)).toNat) ?_ ?_
 ·refine ⟨0,some ⟨w4.heap.size,0,none⟩,48,by omega,?_⟩;simp -implicitDefEqProofs [go_sem];exact ⟨hin5,hB4,bel5⟩
 ·rintro e' w6 ⟨k,a,c,hk,g5,g6,g37,g38,g39,hin,hB,b6,hsz⟩;by_cases hlt:k<6
  ·have hlt':(k:Int)<6:=by omega
   have hw1:=IntWalk.i64_in ((k:Int)+1) (by omega);have hw8:=IntWalk.i64_in (8*(k:Int)) (by omega);have g:=hB.cell k;rw [hC4k k hlt] at g;simp -implicitDefEqProofs [go_sem,g5,g6,g37,g38,g39,hlt,hlt',hw1,hw8,g];have hput:=put_calls a (HM.partB (HM.six t) k) 48 c ((8*k:Nat):Int) ((HM.six t).getD k 0#64) w6 (by rw [HM.partB_len _ _ (by rw [hsix];simp;omega)];rfl) (by omega) hin;rw [HM.partB_step _ _ (by rw [hsix];simp;omega),show ((8*k:Nat):Int)=8*(k:Int) by omega] at hput
   refine callE_of hput ?_;rintro v w7 ⟨a',c',rfl,hin',b7⟩;simp -implicitDefEqProofs [go_sem,g5,g37,g38,g39,hw1];refine goE_round ⟨k+1,a',c',by omega,?_⟩ ?_
   ·simp -implicitDefEqProofs [go_sem,g5,g37,g38];exact ⟨hin',hB.next b7,btr b6 b7,Nat.le_trans hsz b7.size⟩
   ·simp -implicitDefEqProofs [go_sem,intOf,g39];omega
  ·have hk':k=6:=by omega
   subst hk';have e6:HM.partB (HM.six t) 6=HM.wbytes (HM.six t):=HM.partB_all (HM.six t);rw [e6] at hin;have hlen:(HM.wbytes (HM.six t)).length=48:=by rw [HM.wbytes_len];rfl
   simp -implicitDefEqProofs [go_sem,g5,g6,g37,g38,g39];refine callE_of (sum_calls a (HM.wbytes (HM.six t)) 48 c w6 hlen (by omega) (hF.below b6) hin.at_) ?_;rintro v w7 ⟨rfl,rfl⟩;have gt:=hB.thaw 6;have gc:=hB.cell 6;have gc6:C4[6]?=some (.int .u64 0):=by rw [hC4];rfl
   rw [gc6] at gc;have hB':=hB.set 6 (.int .u64 (uv ((Crc.next 0#32 (HM.wbytes (HM.six t))).setWidth 64)));simp -implicitDefEqProofs [go_sem,g5,g6,g37,g38,g39,gt,gc];refine body_tmp 2 rfl ?_;rw [hw];simp -implicitDefEqProofs [go_sem,g5];refine ⟨b6.setCell (by show w0.heap.size≤w3.heap.size;exact bel3.size) _,_,_,⟨rfl,rfl,rfl⟩,⟨slAt_blk hB' (fun i hi=>?_),by simp [HM.six],by decide,fun h=>by cases h⟩,fun y hy=>by rw [← Option.some.inj hy];exact bel3.size⟩
   have hi8:i<8:=by simpa [HM.six] using hi
   have:i=0∨i=1∨i=2∨i=3∨i=4∨i=5∨i=6∨i=7:=by omega
   rw [hC4]
   rcases this with rfl|rfl|rfl|rfl|rfl|rfl|rfl|rfl<;>rfl
end
end
section
open Go Go.RowKit
theorem push_u64 {w0 w:World}{a:Option Addr}{len c:Nat}{l:List (BitVec 64)}(base:Nat)(hown:w.ownsRow base 42 1 (.slice a len c) len (cellsK .u64 l))(hl:len≤1000000)(hbase:base≤w.heap.size)(hb:Below base w0 w)(i:BitVec 64) :
  ∃ a2 c2 w2,(appendB #[100,100] 100 #[.slice a len c,.slice (some ⟨w.heap.size,0,none⟩) 1 1]).run Tryz.prog (w.alloc (.cells #[.int .u64 (uv i)] 42))=.ok (.slice a2 (len+1) c2) w2 ∧
   w2.ownsRow base 42 1 (.slice a2 (len+1) c2) (len+1) (cellsK .u64 (l++[i]))∧Below base w0 w2∧base≤w2.heap.size:=by
 have ha:(w.alloc (.cells #[.int .u64 (uv i)] 42)).heap.size=w.heap.size+1:=by simp
 obtain ⟨a2,c2,w2,hr2,hown2,hgr⟩:=run_append1 (P:=Tryz.prog) base (t:=100) (bytes:=8) (z:=.int .u64 0) 100 Tryz.underlying100 info_u64 rfl (hown.alloc (.cells #[.int .u64 (uv i)] 42)) (a2:=some ⟨w.heap.size,0,none⟩) (c2:=1) (m:=1) (news:=[.int .u64 (uv i)]) rfl
  (.inr ⟨_,rfl,fun j u hu=>by rw [Addr.add_lit,Nat.zero_add,(Blk.new _ _ _).cell];simpa using hu⟩) (by simp) (by simp [Value.oneCell']) (by omega) (by omega) (by omega)
 have hb2:=(hb.alloc hbase (.cells #[.int .u64 (uv i)] 42)).grown hgr (by omega) (fun j hj=>(hown.lt j hj).1);refine ⟨a2,c2,w2,hr2,by rw [cellsK_append];exact hown2,hb2,?_⟩;have:=hgr.size;omega
end
section
open Go Go.RowKit
section
theorem equal_calls (a b:Option Addr)(la lb:List (BitVec 64))(na nb ca cb:Nat)(w:World)(hna:la.length=na)(hnb:lb.length=nb)(h63:na≤9223372036854775807)(ha:SlAt .u64 w a la)(hb:SlAt .u64 w b lb) :
  Ret Tryz.prog 117 #[.slice a na ca,.slice b nb cb] w fun v w'=>v=.bool (decide (la=lb))∧Below w.heap.size w w':=by
 subst hna;subst hnb;refine ret_of (args:=[_,_]) _ Tryz.func117 rfl Tryz.ntmps117 (by simp) ?_;by_cases hn:la.length=lb.length
 ·simp -implicitDefEqProofs [go_sem,hn];refine wpE_loop (fun e' w'=>∃ k:Nat,k≤la.length∧la.take k=lb.take k∧e' 0=.slice a la.length ca∧e' 1=.slice b lb.length cb∧e' 12=.int .i64 la.length∧e' 13=.int .i64 k∧Below w.heap.size w w') (fun e' _=>la.length-(intOf (e' 13)).toNat) ?_ ?_
  ·refine ⟨0,Nat.zero_le _,by simp,?_⟩;simp -implicitDefEqProofs [go_sem,hn];exact Below.refl _ _
  ·rintro e' w' ⟨k,hk,heq,h0,h1,h12,h5,bel⟩;by_cases hlt:k<la.length
   ·have hlb:k<lb.length:=by omega
    obtain ⟨ba,oa,rfl,ga⟩:=(ha.below bel).cell hlt;obtain ⟨bb,ob,rfl,gb⟩:=(hb.below bel).cell hlb;have hw:=IntWalk.i64_in ((k:Int)+1) (by omega);simp -implicitDefEqProofs [go_sem,h0,h1,h12,h5,hlt];refine drawE_still mixed (by decide +kernel) ?_;simp -implicitDefEqProofs [go_sem,h0,h1,h12,h5,hlt,hlb,ga,gb];unfold endE;simp -implicitDefEqProofs [go_sem];by_cases hx:la[k]=lb[k]
    ·have hx':(la[k] != lb[k])=false:=by rw [hx];simp
     rw [hx'];simp -implicitDefEqProofs [go_sem,hw,h5];refine goE_round ⟨k+1,by omega,?_,?_⟩ ?_
     ·rw [List.take_succ_eq_append_getElem hlt,List.take_succ_eq_append_getElem hlb,heq,hx]
     ·simp -implicitDefEqProofs [go_sem,h0,h1,h12];exact bel.drew
     ·simp -implicitDefEqProofs [go_sem,intOf,h5];omega
    ·have hx':(la[k] != lb[k])=true:=by rw [bne_iff_ne];exact hx
     have hne:decide (la=lb)=false:=by
      rw [decide_eq_false_iff_not];rintro rfl;exact hx rfl
     rw [hx',hne];simp -implicitDefEqProofs [go_sem];refine body_tmp 4 rfl ?_;simp -implicitDefEqProofs [go_sem];exact bel.drew
   ·have hk':k=la.length:=by omega
    have e:la=lb:=by
     rw [hk'] at heq;rw [List.take_length,List.take_of_length_le (by omega)] at heq;exact heq
    simp -implicitDefEqProofs [go_sem,h0,h1,h12,h5,hlt];refine body_tmp 4 rfl ?_;simp -implicitDefEqProofs [go_sem,e];exact bel
 ·have hne:decide (la=lb)=false:=by
   rw [decide_eq_false_iff_not];intro e;exact hn (by rw [e])
  have hn':((la.length:Int) != lb.length)=true:=by rw [bne_iff_ne];omega
  rw [hne];simp -implicitDefEqProofs [go_sem,hn'];refine body_tmp 4 rfl ?_;simp -implicitDefEqProofs [go_sem];exact Below.refl _ _
end
end
section
open Go Go.RowKit
def NM.Dv.format (D:NM.Dv):NM.Dv × HM.Shape × Int :=
 if (HM.of D.ls.length).2=false then (D,HM.none4,2) else
 if ¬ (D.putAll 0 (List.replicate (D.ls.length*8) 0#64)).2=0 then ((D.putAll 0 (List.replicate (D.ls.length*8) 0#64)).1,HM.none4,(D.putAll 0 (List.replicate (D.ls.length*8) 0#64)).2) else
 if ¬ ((D.putAll 0 (List.replicate (D.ls.length*8) 0#64)).1.putAll 0 (HM.words (HM.of D.ls.length).1)).2=0 then (((D.putAll 0 (List.replicate (D.ls.length*8) 0#64)).1.putAll 0 (HM.words (HM.of D.ls.length).1)).1,HM.none4,((D.putAll 0 (List.replicate (D.ls.length*8) 0#64)).1.putAll 0 (HM.words (HM.of D.ls.length).1)).2) else
 (((D.putAll 0 (List.replicate (D.ls.length*8) 0#64)).1.putAll 0 (HM.words (HM.of D.ls.length).1)).1,(HM.of D.ls.length).1,0)
def NM.Dv.openH (D:NM.Dv):HM.Shape × Int :=
 if ¬ (D.get 0 8).2=0 then (HM.none4,(D.get 0 8).2) else
 if (HM.of D.ls.length).2=true∧(D.get 0 8).1=HM.words (HM.of D.ls.length).1 then ((HM.of D.ls.length).1,0) else (HM.none4,5)
theorem mod_cell {F:Nat→Prop}{w w':World}(h:Mod F w w'){a:Addr}(hlt:a.block<w.heap.size)(hn:¬ F a.block):w'.cell? a=w.cell? a:=by
 unfold World.cell?;rw [h.block _ hlt hn]
theorem Fours.next {w w':World}(h:Fours w)(hb:Below w.heap.size w w'):Fours w':=h.below hb
theorem Blk.turn {w w':World}{F F':Nat→Prop}{b:Nat}{C:Array Value}{e:TypeId}(h:Blk w b C e)(ht:Turn w F w' F')(hn:¬ F b):Blk w' b C e:=(ht.mod.block b h.lt hn).trans h
theorem DevB.row {w:World}{p g:Nat}{F:Nat→Prop}{D:NM.Dv}(h:DevB w p F D)(hg:¬ F g)(C:Array Value):DevB (w.setRow g C) p F D:=by
 obtain ⟨lb,S,hA,rfl,hok⟩:=h;exact ⟨lb,S,hA.mod ((Mod.refl (fun j=>j=g) w).row (.inl rfl) C) (fun k hk e=>hg (e▸hk)),rfl,hok⟩
theorem Turn.row {w w':World}{F F':Nat→Prop}{g:Nat}(h:Turn w F w' F')(hg:w.heap.size≤g)(C:Array Value):Turn w F (w'.setRow g C) F':=⟨h.mod.row (.inr hg) C,h.new⟩
theorem Fours.turn {w w':World}{F F':Nat→Prop}(h:Fours w)(ht:Turn w F w' F')(hg:¬ F 0):Fours w':=fun x =>
 (mod_cell ht.mod (a:=⟨_,_,none⟩) (World.block_lt_of_cell? w _ (h x)) hg).trans (h x)
theorem putAll_steps (D:NM.Dv)(off:Int)(l:List (BitVec 64)):(D.putAll off l).1.steps≤D.steps+(9*l.length+10):=by
 unfold NM.Dv.putAll;split
 ·have:=runS_steps D (putAllS off.toNat l);have h2:(putAllS off.toNat l).length≤9*l.length+10:=by
   unfold putAllS;rw [List.length_append,List.length_append,storesS_len,flushesS_len];unfold linesOf;simp only [List.length_cons,List.length_nil]
   split<;>omega
  omega
 ·dsimp only;omega
section
variable {W:World} {p:Nat} {F:Nat→Prop} {D:NM.Dv}
set_option maxHeartbeats 1000000 in
theorem openH_calls (w0:World)(h:DevB w0 p F D)(hF:Fours w0):Ret Tryz.prog 80 #[.pointer (some ⟨p,0,none⟩)] w0 fun v w'=>v=.tuple #[.agg (shapeC D.openH.1),.int .i64 D.openH.2]∧Below w0.heap.size w0 w':=by
 have bel0:=Below.refl w0.heap.size w0;have hst:Tryz.prog.underlying 54=_:=Tryz.underlying54;have hpos:=h.pos;have hmost:=h.ok.most;have hsz:(D.size:Int).tdiv 64=D.ls.length:=by rw [Int.tdiv_eq_ediv_of_nonneg (by omega)];unfold NM.Dv.size;omega
 have hsz':(D.size:Int)/64=D.ls.length:=by unfold NM.Dv.size;omega
 have hwl:=IntWalk.i64_in (D.ls.length:Int) (by omega);have hl0:((D.ls.length:Int)==0)=false:=by rw [beq_eq_false_iff_ne];omega
 have hl0':¬ D.ls.length=0:=by omega
 have hz:=fun w (hB:Blk w w0.heap.size #[.int .i64 0,.int .i64 0,.int .i64 0,.int .i64 0] 54)=>stAll (P:=Tryz.prog) (cs:=#[.int .i64 0,.int .i64 0,.int .i64 0,.int .i64 0]) hB shapeI4 rfl (shapeC_one HM.none4)
 refine ret_of (args:=[_]) _ Tryz.func80 rfl Tryz.ntmps80 (by simp) ?_;simp -implicitDefEqProofs [go_sem];generalize hw1:World.alloc w0 _=w1 at *;obtain ⟨hB1,b1,sz1,bel1⟩:=newF hw1 bel0;replace h:=h.next b1
 replace hF:=hF.next b1
 refine callE_of (sizeB w1 h) ?_;rintro v w2 ⟨rfl,rfl⟩;simp -implicitDefEqProofs [go_sem,hsz,hsz',hwl,hl0,hl0'];refine callE_of (get_calls' 0 8 w2 h (by unfold I64;omega) (by unfold I64;omega)) ?_;rintro v w3 ⟨b3,a3,c3,rfl,hin3,hnew3⟩;have bel2:=bel1;have bel3:=btr bel2 b3;replace hB1:=hB1.next b3
 replace h:=h.next b3
 replace hF:=hF.next b3
 by_cases he:(D.get 0 8).2=0
 ·have he':((D.get 0 8).2 != 0)=false:=by rw [bne_eq_false_iff_eq];exact he
  simp -implicitDefEqProofs [go_sem,he,he'];refine callE_of (headOf_calls (D.ls.length:Int) w3 (by unfold I64;omega)) ?_;rintro v w4 ⟨rfl,b4⟩;have bel4:=btr bel3 b4;replace hB1:=hB1.next b4
  replace h:=h.next b4
  replace hF:=hF.next b4
  replace hin3:=hin3.next b4
  have hoi:=HM.of_i (n:=(D.ls.length:Int)) (by unfold I64;omega);simp -implicitDefEqProofs [go_sem,↓stShape (HM.of D.ls.length).1];generalize hw5:World.alloc w4 _=w5 at *;obtain ⟨hB5,b5,sz5,bel5⟩:=newF hw5 bel4;replace hB1:=hB1.next b5
  replace h:=h.next b5
  replace hF:=hF.next b5
  replace hin3:=hin3.next b5
  have l5:=fun w (hB:Blk w w4.heap.size (shapeC (HM.of D.ls.length).1) 54)=>ldAll (P:=Tryz.prog) hB hst rfl shapeI4 rfl
  cases hb:(HM.of (D.ls.length:Int)).2
  ·have e:D.openH=(HM.none4,5):=by unfold NM.Dv.openH;rw [if_neg (by rw [he];simp),if_neg (by rw [hb];simp)]
   rw [e];simp -implicitDefEqProofs [go_sem,↓hz _ hB1];refine bodyCell 2 3 rfl (by simp -implicitDefEqProofs [go_sem]) (hB1.row _) hst rfl shapeI4 ?_;simp -implicitDefEqProofs [go_sem,shapeC,HM.none4];exact Below.row bel5 (Nat.le_refl _) _
  simp -implicitDefEqProofs [go_sem,↓l5 _ hB5];refine callE_of (headWords_calls (HM.of D.ls.length).1 w5 hoi hF) ?_;rintro v w6 ⟨b6,a6,c6,rfl,hin6,hnew6⟩;have bel6:=btr bel5 b6;replace hB1:=hB1.next b6
  replace hB5:=hB5.next b6
  replace h:=h.next b6
  replace hin3:=hin3.next b6
  have hgl:(D.get 0 8).1.length≤9223372036854775807:=by have:=hin3.le;have:=hin3.max;omega
  simp -implicitDefEqProofs [go_sem];refine callE_of (equal_calls a3 a6 (D.get 0 8).1 (HM.words (HM.of D.ls.length).1) _ _ c3 c6 w6 rfl rfl hgl hin3.at_ hin6.at_) ?_;rintro v w7 ⟨rfl,b7⟩;have bel7:=btr bel6 b7;replace hB1:=hB1.next b7
  replace hB5:=hB5.next b7
  replace h:=h.next b7
  by_cases heq:(D.get 0 8).1=HM.words (HM.of D.ls.length).1
  ·have e:D.openH=((HM.of D.ls.length).1,0):=by unfold NM.Dv.openH;rw [if_neg (by rw [he];simp),if_pos ⟨hb,heq⟩]
   rw [e];have hs:=stAll (P:=Tryz.prog) (cs:=shapeC (HM.of D.ls.length).1) hB1 (shapeI _) rfl (shapeC_one _);simp -implicitDefEqProofs [go_sem,heq,↓l5 _ hB5,↓hs];refine bodyCell 2 3 rfl (by simp -implicitDefEqProofs [go_sem]) (hB1.row _) hst rfl (shapeI _) ?_;simp -implicitDefEqProofs [go_sem];exact Below.row bel7 (Nat.le_refl _) _
  ·have e:D.openH=(HM.none4,5):=by unfold NM.Dv.openH;rw [if_neg (by rw [he];simp),if_neg (fun h=>heq h.2)]
   rw [e];simp -implicitDefEqProofs [go_sem,heq,↓hz _ hB1];refine bodyCell 2 3 rfl (by simp -implicitDefEqProofs [go_sem]) (hB1.row _) hst rfl shapeI4 ?_;simp -implicitDefEqProofs [go_sem,shapeC,HM.none4];exact Below.row bel7 (Nat.le_refl _) _
 ·have he':((D.get 0 8).2 != 0)=true:=by rw [bne_iff_ne];exact he
  have e:D.openH=(HM.none4,(D.get 0 8).2):=by unfold NM.Dv.openH;rw [if_pos he]
  rw [e];simp -implicitDefEqProofs [go_sem,he',↓hz _ hB1];refine bodyCell 2 3 rfl (by simp -implicitDefEqProofs [go_sem]) (hB1.row _) hst rfl shapeI4 ?_;simp -implicitDefEqProofs [go_sem,shapeC,HM.none4];exact Below.row bel3 (Nat.le_refl _) _
set_option maxHeartbeats 1000000 in
theorem format_calls (w0:World)(h:St W w0 p F D)(hFW:Fours W)(hc:D.steps+3000000<1099511627776):Ret Tryz.prog 18 #[.pointer (some ⟨p,0,none⟩)] w0 fun v w'=>v=.tuple #[.agg (shapeC D.format.2.1),.int .i64 D.format.2.2]∧∃ F',DevB w' p F' D.format.1∧Turn w0 F w' F':=by
 have bel0:=Below.refl w0.heap.size w0;have hst:Tryz.prog.underlying 54=_:=Tryz.underlying54;have hpos:=h.dev.pos;have hmost:=h.dev.ok.most;have hF:=hFW.below h.bel;have hnF:¬ F 0:=fun hf=>by
  have h1:=h.ge _ hf;have h2:=World.block_lt_of_cell? W _ (hFW 0#32);simp only at h2;omega
 replace h:=h.dev;have hsz:(D.size:Int).tdiv 64=D.ls.length:=by rw [Int.tdiv_eq_ediv_of_nonneg (by omega)];unfold NM.Dv.size;omega
 have hsz':(D.size:Int)/64=D.ls.length:=by unfold NM.Dv.size;omega
 have hwl:=IntWalk.i64_in (D.ls.length:Int) (by omega);have hl0:((D.ls.length:Int)==0)=false:=by rw [beq_eq_false_iff_ne];omega
 have hl0':¬ D.ls.length=0:=by omega
 have hz:=fun w (hB:Blk w w0.heap.size #[.int .i64 0,.int .i64 0,.int .i64 0,.int .i64 0] 54)=>stAll (P:=Tryz.prog) (cs:=#[.int .i64 0,.int .i64 0,.int .i64 0,.int .i64 0]) hB shapeI4 rfl (shapeC_one HM.none4)
 have hlt0:=h.lt;have hn0:¬ F w0.heap.size:=fun hf=>by have:=hlt0 _ hf;omega
 refine ret_of (args:=[_]) _ Tryz.func18 rfl Tryz.ntmps18 (by simp) ?_;simp -implicitDefEqProofs [go_sem];generalize hw1:World.alloc w0 _=w1 at *;obtain ⟨hB1,b1,sz1,bel1⟩:=newF hw1 bel0;replace h:=h.next b1
 replace hF:=hF.next b1
 refine callE_of (sizeB w1 h) ?_;rintro v w2 ⟨rfl,rfl⟩;have bel2:=bel1;simp -implicitDefEqProofs [go_sem,hsz,hsz',hwl,hl0,hl0'];refine callE_of (headOf_calls (D.ls.length:Int) w2 (by unfold I64;omega)) ?_;rintro v w3 ⟨rfl,b3⟩;have bel3:=btr bel2 b3;replace hB1:=hB1.next b3
 replace h:=h.next b3
 replace hF:=hF.next b3
 have hn3:¬ F w3.heap.size:=fun hf=>by have:=hlt0 _ hf;have:=bel3.size;omega
 have hoi:=HM.of_i (n:=(D.ls.length:Int)) (by unfold I64;omega);simp -implicitDefEqProofs [go_sem,↓stShape (HM.of D.ls.length).1];generalize hw4:World.alloc w3 _=w4 at *;obtain ⟨hB4,b4,sz4,bel4⟩:=newF hw4 bel3;replace hB1:=hB1.next b4
 replace h:=h.next b4
 replace hF:=hF.next b4
 have l4:=fun w (hB:Blk w w3.heap.size (shapeC (HM.of D.ls.length).1) 54)=>ldAll (P:=Tryz.prog) hB hst rfl shapeI4 rfl
 cases hb:(HM.of (D.ls.length:Int)).2
 ·have e:D.format=(D,HM.none4,2):=by unfold NM.Dv.format;rw [if_pos hb]
  rw [e];simp -implicitDefEqProofs [go_sem,↓hz _ hB1];refine bodyCell 2 3 rfl (by simp -implicitDefEqProofs [go_sem]) (hB1.row _) hst rfl shapeI4 ?_;simp -implicitDefEqProofs [go_sem,shapeC,HM.none4];exact ⟨F,h.row hn0 _,(Turn.of bel4).row (Nat.le_refl _) _⟩
 simp -implicitDefEqProofs [go_sem];refine callE_of (clearAll_calls D.ls.length w4 h (by omega) (by omega)) ?_;rintro v w5 ⟨rfl,F5,h5,t5⟩;have hlt1:=hB1.lt;have hlt4:=hB4.lt;replace hB1:=hB1.turn t5 hn0;replace hB4:=hB4.turn t5 hn3;replace hn0:=out_turn hn0 hlt1 t5;replace hn3:=out_turn hn3 hlt4 t5;have hF5:=hF.turn t5 hnF;have hnF5:=out_turn hnF (World.block_lt_of_cell? w4 _ (hF 0#32)) t5;have t05:=(Turn.of (F:=F) bel4).trans t5
 obtain ⟨D5,hD5⟩:∃ D5,D5=(D.putAll 0 (List.replicate (D.ls.length*8) 0#64)).1:=⟨_,rfl⟩;obtain ⟨e5,he5⟩:∃ e5,e5=(D.putAll 0 (List.replicate (D.ls.length*8) 0#64)).2:=⟨_,rfl⟩;have hst5:D5.steps+1000000<1099511627776:=by
  have:=putAll_steps D 0 (List.replicate (D.ls.length*8) 0#64);rw [List.length_replicate] at this;rw [hD5];omega
 rw [← hD5] at h5;rw [← he5];by_cases he:¬ e5=0
 ·have he':(e5 != 0)=true:=by rw [bne_iff_ne];exact he
  have e:D.format=(D5,HM.none4,e5):=by unfold NM.Dv.format;rw [if_neg (by rw [hb];simp),if_pos (by rw [← he5];exact he),hD5,he5]
  rw [e];simp -implicitDefEqProofs [go_sem,he',↓hz _ hB1];refine bodyCell 2 3 rfl (by simp -implicitDefEqProofs [go_sem]) (hB1.row _) hst rfl shapeI4 ?_;simp -implicitDefEqProofs [go_sem,shapeC,HM.none4];exact ⟨F5,h5.row hn0 _,t05.row (Nat.le_refl _) _⟩
 replace he:e5=0:=by simpa using he
 simp -implicitDefEqProofs [go_sem,he,↓l4 _ hB4];refine callE_of (headWords_calls (HM.of D.ls.length).1 w5 hoi hF5) ?_;rintro v w6 ⟨b6,a6,c6,rfl,hin6,hnew6⟩;replace hB1:=hB1.next b6
 replace hB4:=hB4.next b6
 replace h5:=h5.next b6
 have t06:=t05.trans (Turn.of b6);have hlt1:=hB1.lt;have hlt4:=hB4.lt;simp -implicitDefEqProofs [go_sem];refine callE_of (putAll_calls 0 a6 (HM.words (HM.of D.ls.length).1) c6 w6 h5 hin6 (by unfold I64;omega) hst5) ?_;rintro v w7 ⟨rfl,F7,h7,t7⟩;replace hB1:=hB1.turn t7 hn0;replace hB4:=hB4.turn t7 hn3;replace hn0:=out_turn hn0 hlt1 t7;have t07:=t06.trans t7;obtain ⟨D7,hD7⟩:∃ D7,D7=(D5.putAll 0 (HM.words (HM.of D.ls.length).1)).1:=⟨_,rfl⟩
 obtain ⟨e7,he7⟩:∃ e7,e7=(D5.putAll 0 (HM.words (HM.of D.ls.length).1)).2:=⟨_,rfl⟩;rw [← hD7] at h7;rw [← he7];have ef:D.format=if ¬ e7=0 then (D7,HM.none4,e7) else (D7,(HM.of D.ls.length).1,0):=by
  unfold NM.Dv.format;rw [if_neg (by rw [hb];simp),if_neg (by rw [← he5];simpa using he),← hD5,← hD7,← he7]
 rw [ef];by_cases he:¬ e7=0
 ·have he':(e7 != 0)=true:=by rw [bne_iff_ne];exact he
  rw [if_pos he];simp -implicitDefEqProofs [go_sem,he',↓hz _ hB1];refine bodyCell 2 3 rfl (by simp -implicitDefEqProofs [go_sem]) (hB1.row _) hst rfl shapeI4 ?_;simp -implicitDefEqProofs [go_sem,shapeC,HM.none4];exact ⟨F7,h7.row hn0 _,t07.row (Nat.le_refl _) _⟩
 ·have he':(e7 != 0)=false:=by rw [bne_eq_false_iff_eq];simpa using he
  rw [if_neg he];have hs:=stAll (P:=Tryz.prog) (cs:=shapeC (HM.of D.ls.length).1) hB1 (shapeI _) rfl (shapeC_one _);simp -implicitDefEqProofs [go_sem,he',↓l4 _ hB4,↓hs];refine bodyCell 2 3 rfl (by simp -implicitDefEqProofs [go_sem]) (hB1.row _) hst rfl (shapeI _) ?_;simp -implicitDefEqProofs [go_sem];exact ⟨F7,h7.row hn0 _,t07.row (Nat.le_refl _) _⟩
end
end
end Go.Proofs.YtaaihijkdhmcdaaGreatDoor
