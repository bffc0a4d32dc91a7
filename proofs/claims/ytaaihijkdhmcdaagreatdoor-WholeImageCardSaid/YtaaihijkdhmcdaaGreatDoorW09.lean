/- WholeImage, part 10 of 38: contracts and lemmas of its proof. Conditions: none. -/
import Derived.Test.YtaaihijkdhmcdaaGreatDoorW01
import Derived.Test.YtaaihijkdhmcdaaGreatDoorW00
set_option linter.unusedVariables false
set_option linter.unusedSimpArgs false
set_option maxRecDepth 100000
namespace Go.Proofs.YtaaihijkdhmcdaaGreatDoor
namespace WM
def blocksI (c:Int):Int:=if c=1 then 16 else if c=2 then 4 else 0
def bl (c:Nat):Nat:=if c=1 then 16 else if c=2 then 4 else 0
theorem blocksI_nat (c:Nat):blocksI c=bl c:=by
 unfold blocksI bl;by_cases h1:c=1
 ·subst h1;rfl
 ·by_cases h2:c=2
  ·subst h2;rfl
  ·rw [if_neg (by omega),if_neg (by omega),if_neg h1,if_neg h2];rfl
theorem bl_le (c:Nat):bl c≤16:=by unfold bl;split<;>(try split)<;>omega
theorem blocksI_pos {c:Int}(h:0<blocksI c):∃ k:Nat,c=k∧(k=1∨k=2):=by
 unfold blocksI at h;split at h
 ·exact ⟨1,by omega,.inl rfl⟩
 ·split at h
  ·exact ⟨2,by omega,.inr rfl⟩
  ·omega
def kindW (w:BitVec 64):BitVec 64:=fieldM w 16 2
def kindM (w:BitVec 64):Int:=uv (kindW w)
def takenM (w:BitVec 64):BitVec 64:=fieldM w 0 16
def rightM (w:BitVec 64):Bool:=(w==0#64) || ((fieldM w 0 (blocksI (kindM w)) != 0#64)&&(withM (withM w 0 (blocksI (kindM w)) 0#64) 16 2 0#64==0#64))
def classM (w:BitVec 64):Int:=if rightM w then kindM w else 0
def hasM (w:BitVec 64)(p:Int):Bool:=decide (0≤p)&&(decide (p<blocksI (classM w))&&(fieldM w p 1==1#64))
def meetsM (w:BitVec 64)(c:Int):Bool:=rightM w&&(decide (0<blocksI c)&&((w==0#64) || (kindM w==c)))
def nextM (w:BitVec 64)(c:Int):Int:=if meetsM w c then lowOff (takenM w) (blocksI c) else -1
def takeOk (w:BitVec 64)(c p:Int):Bool:=meetsM w c&&decide (0≤p)&&decide (p<blocksI c) && !hasM w p
def takeW (w:BitVec 64)(c p:Int):BitVec 64:=if takeOk w c p then withM (withM w p 1 1#64) 16 2 (BitVec.ofInt 64 c) else w
def lessM (w:BitVec 64)(p:Int):BitVec 64:=withM w p 1 0#64
def dropW (w:BitVec 64)(p:Int):BitVec 64:=if hasM w p then (if takenM (lessM w p)==0#64 then 0#64 else lessM w p) else w
def listM (w:BitVec 64):List Nat:=(List.range (bl (classM w).toNat)).filter fun i=>hasM w i
structure Norm (w:BitVec 64) (c:Nat):Prop where
 cls:c=1∨c=2
 hi:w >>> 16=BitVec.ofNat 64 c
 some:∃ i,i<bl c∧w.getLsbD i=true
 none:∀ i,bl c≤i→i<16→w.getLsbD i=false
theorem nat_bits {l s:Nat}(n:BitVec 64)(h:l+s≤64)(i:Nat):(fieldM n l s).getLsbD i=(decide (i<s)&&n.getLsbD (l+i)):=by
 rw [field_bit,sizeM_nat l s h,lowM_nat l (by omega)]
theorem nat_with {l s:Nat}(n v:BitVec 64)(h:l+s≤64)(i:Nat):(withM n l s v).getLsbD i=if l≤i∧i<l+s then v.getLsbD (i-l) else n.getLsbD i:=by
 rw [with_bit,sizeM_nat l s h,lowM_nat l (by omega)]
theorem hi_bit {w:BitVec 64}{c:Nat}(h:w >>> 16=BitVec.ofNat 64 c)(i:Nat)(hi:16≤i):w.getLsbD i=(BitVec.ofNat 64 c).getLsbD (i-16):=by
 rw [← h,BitVec.getLsbD_ushiftRight];congr 1;omega
theorem hi_of {w:BitVec 64}{c:Nat}(h:∀ i,16≤i→i<64→w.getLsbD i=(BitVec.ofNat 64 c).getLsbD (i-16))(hc:c<4):w >>> 16=BitVec.ofNat 64 c:=by
 apply ext;intro i hi;rw [BitVec.getLsbD_ushiftRight];by_cases h2:16+i<64
 ·rw [h _ (by omega) h2];congr 1;omega
 ·rw [BitVec.getLsbD_of_ge _ _ (by omega)];have:∀ c,c<4→∀ i,i<64→48≤i→false=(BitVec.ofNat 64 c).getLsbD i:=by decide +kernel
  exact this c hc i hi (by omega)
theorem c_high {c:Nat}(hc:c<4){i:Nat}(hi:2≤i):(BitVec.ofNat 64 c).getLsbD i=false:=by
 rcases Nat.lt_or_ge i 64 with h|h
 ·have:∀ c,c<4→∀ i,i<64→2≤i→(BitVec.ofNat 64 c).getLsbD i=false:=by decide +kernel
  exact this c hc i h hi
 ·exact BitVec.getLsbD_of_ge _ _ h
theorem kind_hi {w:BitVec 64}{c:Nat}(hc:c<4)(h:w >>> 16=BitVec.ofNat 64 c):kindW w=BitVec.ofNat 64 c:=by
 apply ext;intro i hi;have:=nat_bits (l:=16) (s:=2) w (by omega) i;unfold kindW;rw [show ((16:Int))=((16:Nat):Int) from rfl,show ((2:Int))=((2:Nat):Int) from rfl,this];by_cases h2:i<2
 ·rw [hi_bit h _ (by omega),show 16+i-16=i by omega];simp [h2]
 ·rw [c_high hc (by omega)];simp [h2]
theorem uv_ofNat4 {c:Nat}(hc:c<4):uv (BitVec.ofNat 64 c)=(c:Int):=by
 unfold uv;rw [BitVec.toNat_ofNat,Nat.mod_eq_of_lt (by omega)]
theorem kind_lt (w:BitVec 64):∃ k,k<4∧kindW w=BitVec.ofNat 64 k:=by
 refine ⟨(kindW w).toNat,?_,by simp⟩;have h:(kindW w).toNat<2 ^ 2:=by
  apply Nat.lt_of_not_le;intro h;obtain ⟨i,h1,h2⟩:=Nat.exists_ge_and_testBit_of_ge_two_pow h;have h3:(kindW w).getLsbD i=true:=h2;have:=nat_bits (l:=16) (s:=2) w (by omega) i;unfold kindW at h3;rw [show ((16:Int))=((16:Nat):Int) from rfl,show ((2:Int))=((2:Nat):Int) from rfl,this] at h3;simp at h3;omega
 exact h
theorem norm_right {w:BitVec 64}{c:Nat}(h:Norm w c):rightM w=true∧kindM w=c:=by
 have hc:c<4:=by rcases h.cls with h|h<;>omega
 have hk:kindM w=c:=by unfold kindM;rw [kind_hi hc h.hi,uv_ofNat4 hc]
 have hb:=bl_le c;refine ⟨?_,hk⟩;unfold rightM;rw [hk,blocksI_nat,Bool.or_eq_true,Bool.and_eq_true];refine .inr ⟨?_,?_⟩
 ·obtain ⟨i,h1,h2⟩:=h.some;rw [bne_iff_ne];intro h0;have h3:=nat_bits (l:=0) (s:=bl c) w (by omega) i;rw [show ((0:Nat):Int)=0 from rfl,h0,Nat.zero_add,h2] at h3;simp [h1] at h3
 ·rw [beq_iff_eq];apply ext;intro i hi;rw [show ((16:Int))=((16:Nat):Int) from rfl,show ((2:Int))=((2:Nat):Int) from rfl,nat_with _ _ (by omega)];by_cases h1:16≤i∧i<16+2
  ·rw [if_pos h1];simp
  ·rw [if_neg h1,show ((0:Int))=((0:Nat):Int) from rfl,nat_with _ _ (by omega)];by_cases h2:0≤i∧i<0+bl c
   ·rw [if_pos h2];simp
   ·rw [if_neg h2,BitVec.getLsbD_zero];by_cases h3:i<16
    ·exact h.none i (by omega) h3
    ·rw [hi_bit h.hi i (by omega)];exact c_high hc (by omega)
theorem right_zero:rightM 0#64=true:=by decide +kernel
theorem right_cases {w:BitVec 64}(h:rightM w=true):w=0#64∨∃ c,Norm w c:=by
 unfold rightM at h;rw [Bool.or_eq_true,beq_iff_eq] at h
 rcases h with h|h
 ·exact .inl h
 obtain ⟨k,hk4,hk⟩:=kind_lt w;have hkM:kindM w=k:=by unfold kindM;rw [hk,uv_ofNat4 hk4]
 rw [hkM,blocksI_nat,Bool.and_eq_true,bne_iff_ne,beq_iff_eq] at h;obtain ⟨h1,h2⟩:=h;have hb:=bl_le k;have hbit:∀ i,bl k≤i→¬ (16≤i∧i<18)→i<64→w.getLsbD i=false:=by
  intro i h3 h4 h5;have h6:(withM (withM w 0 (bl k) 0#64) 16 2 0#64).getLsbD i=(0#64).getLsbD i:=by rw [h2]
  rw [show ((16:Int))=((16:Nat):Int) from rfl,show ((2:Int))=((2:Nat):Int) from rfl,nat_with _ _ (by omega),if_neg (by omega),show ((0:Int))=((0:Nat):Int) from rfl,nat_with _ _ (by omega),if_neg (by omega)] at h6;rw [h6];simp
 have hsome:∃ i,i<bl k∧w.getLsbD i=true:=by
  apply Classical.byContradiction;intro hno;apply h1;apply ext;intro i hi;rw [show ((0:Int))=((0:Nat):Int) from rfl,nat_bits _ (by omega),BitVec.getLsbD_zero,Nat.zero_add];by_cases h3:i<bl k
  ·cases h4:w.getLsbD i
   ·simp
   ·exact absurd ⟨i,h3,h4⟩ hno
  ·simp [h3]
 have hkc:k=1∨k=2:=by
  obtain ⟨i,h3,_⟩:=hsome;unfold bl at h3;split at h3
  ·exact .inl ‹_›
  ·split at h3
   ·exact .inr ‹_›
   ·omega
 refine .inr ⟨k,hkc,?_,hsome,fun i h3 h4=>hbit i h3 (by omega) (by omega)⟩;refine hi_of (fun i h3 h4=>?_) hk4;by_cases h5:i<18
 ·have h6:=nat_bits (l:=16) (s:=2) w (by omega) (i-16);rw [show ((16:Nat):Int)=16 from rfl,show ((2:Nat):Int)=2 from rfl] at h6;have h7:fieldM w 16 2=BitVec.ofNat 64 k:=hk;rw [h7,show 16+(i-16)=i by omega] at h6;rw [h6];simp;intro;omega
 ·rw [hbit i (by omega) (by omega) h4,c_high hk4 (by omega)]
theorem class_norm {w:BitVec 64}{c:Nat}(h:Norm w c):classM w=c:=by unfold classM;rw [(norm_right h).1,if_pos rfl,(norm_right h).2]
theorem class_zero:classM 0#64=0:=by decide +kernel
theorem class_wrong {w:BitVec 64}(h:rightM w=false):classM w=0:=by unfold classM;rw [h];rfl
theorem norm_inj {v w:BitVec 64}{c:Nat}(hv:Norm v c)(hw:Norm w c)(h:∀ i,i<bl c→v.getLsbD i=w.getLsbD i):v=w:=by
 apply ext;intro i hi;by_cases h1:i<bl c
 ·exact h i h1
 ·by_cases h2:i<16
  ·rw [hv.none i (by omega) h2,hw.none i (by omega) h2]
  ·rw [hi_bit hv.hi i (by omega),hi_bit hw.hi i (by omega)]
theorem one_bit (w:BitVec 64)(i:Nat)(hi:i<64):(fieldM w i 1==1#64)=w.getLsbD i:=by
 have h:=nat_bits (l:=i) (s:=1) w (by omega) 0;rw [show ((1:Nat):Int)=1 from rfl] at h;have h2:∀ j,0<j→(fieldM w i 1).getLsbD j=false:=fun j hj=>by
  have:=nat_bits (l:=i) (s:=1) w (by omega) j;rw [show ((1:Nat):Int)=1 from rfl] at this;rw [this];simp;omega
 cases hb:w.getLsbD i
 ·rw [beq_eq_false_iff_ne];intro h1;rw [h1,Nat.add_zero,hb] at h;simp at h
 ·rw [beq_iff_eq];apply ext;intro j hj;by_cases h3:j=0
  ·subst h3;rw [h,Nat.add_zero,hb];simp
  ·rw [h2 j (by omega),show (1#64)=BitVec.twoPow 64 0 by decide,two_bit 0 j (by decide)]
   simp;omega
theorem has_norm {w:BitVec 64}{c:Nat}(h:Norm w c)(i:Nat):hasM w i=(decide (i<bl c)&&w.getLsbD i):=by
 unfold hasM;rw [class_norm h,blocksI_nat];by_cases h1:i<bl c
 ·have hb:=bl_le c;rw [one_bit w i (by omega)];simp [h1]
 ·have:¬ (i:Int)<bl c:=by omega
  simp [h1,this]
theorem has_zero (p:Int):hasM 0#64 p=false:=by
 unfold hasM;rw [class_zero];by_cases h:0≤p
 ·have:¬ p<blocksI 0:=by unfold blocksI;simp;omega
  simp [this]
 ·simp [h]
theorem has_wrong {w:BitVec 64}(h:rightM w=false)(p:Int):hasM w p=false:=by
 unfold hasM;rw [class_wrong h];by_cases h:0≤p
 ·have:¬ p<blocksI 0:=by unfold blocksI;simp;omega
  simp [this]
 ·simp [h]
theorem has_true {w:BitVec 64}{p:Int}(h:hasM w p=true):∃ c i,Norm w c∧p=((i:Nat):Int)∧i<bl c∧w.getLsbD i=true:=by
 have h0:0≤p:=by unfold hasM at h;simp at h;exact h.1
 obtain ⟨i,rfl⟩:=Int.eq_ofNat_of_zero_le h0;cases hr:rightM w
 ·rw [has_wrong hr] at h;cases h
 ·rcases right_cases hr with rfl|⟨c,hn⟩
  ·rw [has_zero] at h;cases h
  ·rw [has_norm hn] at h;simp at h;exact ⟨c,i,hn,rfl,h.1,h.2⟩
end WM
namespace WM
def kR (x:BitVec 64):Nat:=x.toNat/65536
def bitsOf (x:BitVec 64)(i:Nat):Bool:=x.getLsbD i
def rB (x:BitVec 64):Bool:=decide (x.toNat<196608)&&(((List.range 16).all fun i=>!x.getLsbD i || decide (i<bl (kR x)))&&(((List.range 16).all fun i=>!x.getLsbD i)==decide (kR x=0)))
theorem rB_iff (x:BitVec 64):rB x=true↔(x.toNat<196608∧(∀ i,i<16→x.getLsbD i=true→i<bl (kR x))∧((∀ i,i<16→x.getLsbD i=false)↔kR x=0)):=by
 unfold rB;rw [Bool.and_eq_true,Bool.and_eq_true,decide_eq_true_iff,List.all_eq_true,beq_iff_eq,Bool.eq_iff_iff,List.all_eq_true,decide_eq_true_iff];have e1:(∀ i,i∈List.range 16→(!x.getLsbD i || decide (i<bl (kR x)))=true)↔(∀ i,i<16→x.getLsbD i=true→i<bl (kR x)) :=
  ⟨fun h i hi hb=>by have:=h i (List.mem_range.2 hi);simpa [hb] using this,fun h i hi=>by
   cases hb:x.getLsbD i
   ·rfl
   ·simpa using h i (List.mem_range.1 hi) hb⟩
 have e2:(∀ i,i∈List.range 16→(!x.getLsbD i)=true)↔(∀ i,i<16→x.getLsbD i=false) :=
  ⟨fun h i hi=>by simpa using h i (List.mem_range.2 hi),fun h i hi=>by simpa using h i (List.mem_range.1 hi)⟩
 rw [e1,e2]
theorem shr_toNat (x:BitVec 64):(x >>> 16).toNat=kR x:=by
 rw [BitVec.toNat_ushiftRight,Nat.shiftRight_eq_div_pow];rfl
theorem hi_iff (x:BitVec 64)(c:Nat)(hc:c<4):x >>> 16=BitVec.ofNat 64 c↔kR x=c:=by
 rw [← shr_toNat];constructor
 ·intro h;rw [h,BitVec.toNat_ofNat,Nat.mod_eq_of_lt (by omega)]
 ·intro h;apply BitVec.eq_of_toNat_eq;rw [BitVec.toNat_ofNat,Nat.mod_eq_of_lt (by omega)];exact h
theorem zero_of (x:BitVec 64)(h0:kR x=0)(h:∀ i,i<16→x.getLsbD i=false):x=0#64:=by
 have h1:=(hi_iff x 0 (by omega)).2 h0;apply ext;intro i hi;rw [BitVec.getLsbD_zero];by_cases h2:i<16
 ·exact h i h2
 ·rw [hi_bit h1 i (by omega)];simp
theorem rB_norm {x:BitVec 64}{c:Nat}(h:Norm x c):kR x=c∧rB x=true:=by
 have hc:c<4:=by rcases h.cls with h|h<;>omega
 have hk:=(hi_iff x c hc).1 h.hi;refine ⟨hk,?_⟩;rw [rB_iff,hk];refine ⟨by have h1:=h.cls;have h2:=hk;unfold kR at h2;omega,fun i h1 h2=>?_,?_⟩
 ·apply Nat.lt_of_not_le;intro h3;rw [h.none i h3 h1] at h2;cases h2
 ·constructor
  ·intro h1;obtain ⟨i,h2,h3⟩:=h.some;have:=bl_le c;rw [h1 i (by omega)] at h3;cases h3
  ·intro h1;rcases h.cls with h|h<;>omega
theorem rB_eq (x:BitVec 64):rB x=rightM x:=by
 cases hr:rightM x
 ·cases hb:rB x
  ·rfl
  ·exfalso;rw [rB_iff] at hb;obtain ⟨h1,h2,h3⟩:=hb;have hk:kR x<3:=by unfold kR;omega
   by_cases h0:kR x=0
   ·rw [zero_of x h0 (h3.2 h0),right_zero] at hr;cases hr
   ·have hn:Norm x (kR x):=by
     refine ⟨by omega,(hi_iff x (kR x) (by omega)).2 rfl,?_,fun i h4 h5=>?_⟩
     ·apply Classical.byContradiction;intro hno;apply h0;apply h3.1;intro i hi;cases hbi:x.getLsbD i
      ·rfl
      ·exact absurd ⟨i,h2 i hi hbi,hbi⟩ hno
     ·cases hbi:x.getLsbD i
      ·rfl
      ·have:=h2 i h5 hbi;omega
    rw [(norm_right hn).1] at hr;cases hr
 ·rcases right_cases hr with rfl|⟨c,hn⟩
  ·decide +kernel
  ·exact (rB_norm hn).2
theorem kR_class {x:BitVec 64}(h:rB x=true):classM x=kR x:=by
 rw [rB_eq] at h
 rcases right_cases h with rfl|⟨c,hn⟩
 ·decide +kernel
 ·rw [class_norm hn,(rB_norm hn).1]
def cnt (T:Nat→Bool):Nat→Nat
 | 0=>0
 | k+1=>if T k then cnt T k+1 else cnt T k
theorem cnt_le (T:Nat→Bool):∀ k,cnt T k≤k
 | 0=>Nat.le_refl _
 | k+1=>by have:=cnt_le T k;unfold cnt;split<;>omega
theorem cnt_zero (T:Nat→Bool):∀ k,cnt T k=0↔∀ i,i<k→T i=false
 | 0=>⟨fun _ i h=>by omega,fun _=>rfl⟩
 | k+1=>by
  unfold cnt;constructor
  ·intro h i hi;split at h
   ·omega
   ·rename_i hT;by_cases e:i=k
    ·subst e;simpa using hT
    ·exact (cnt_zero T k).1 h i (by omega)
  ·intro h;rw [h k (by omega)];exact (cnt_zero T k).2 fun i hi=>h i (by omega)
def wordK (c:Nat)(T:Nat→Bool):Nat→BitVec 64
 | 0=>BitVec.ofNat 64 c*65536#64
 | k+1=>if T k then wordK c T k+BitVec.twoPow 64 k else wordK c T k
theorem wordK_bit (c:Nat)(T:Nat→Bool):∀ k,k≤16→∀ i,(wordK c T k).getLsbD i=if i<16 then (decide (i<k)&&T i) else ((BitVec.ofNat 64 c) <<< 16).getLsbD i
 | 0,_,i=>by
  have h:wordK c T 0=(BitVec.ofNat 64 c) <<< 16:=by
   unfold wordK;rw [show (65536#64:BitVec 64)=BitVec.twoPow 64 16 by decide,BitVec.mul_twoPow_eq_shiftLeft]
  rw [h,BitVec.getLsbD_shiftLeft];by_cases h2:i<16
  ·simp [h2]
  ·rw [if_neg h2]
 | k+1,hk,i=>by
  have ih:=wordK_bit c T k (by omega);unfold wordK;split
  ·rename_i hT;rw [add_two _ k (by omega) (by rw [ih,if_pos (by omega)];simp),ih];by_cases h2:i<16
   ·rw [if_pos h2,if_pos h2];by_cases e:k=i
    ·subst e;simp [hT]
    ·have:decide (i<k+1)=decide (i<k):=decide_eq_decide.2 (by omega);rw [this];simp [e]
   ·rw [if_neg h2,if_neg h2];have e:¬ k=i:=by omega
    simp [e]
  ·rename_i hT;rw [ih];by_cases h2:i<16
   ·rw [if_pos h2,if_pos h2];by_cases e:k=i
    ·subst e;simp [hT]
    ·have:decide (i<k+1)=decide (i<k):=decide_eq_decide.2 (by omega);rw [this]
   ·rw [if_neg h2,if_neg h2]
def wordR (c:Nat)(T:Nat→Bool):BitVec 64:=wordK c T 16
theorem wordR_low (c:Nat)(T:Nat→Bool)(i:Nat)(hi:i<16):(wordR c T).getLsbD i=T i:=by
 unfold wordR;rw [wordK_bit c T 16 (Nat.le_refl _),if_pos hi];simp [hi]
theorem wordR_high (c:Nat)(T:Nat→Bool)(i:Nat)(hi:16≤i)(hi2:i<64):(wordR c T).getLsbD i=(BitVec.ofNat 64 c).getLsbD (i-16):=by
 unfold wordR;rw [wordK_bit c T 16 (Nat.le_refl _),if_neg (by omega),BitVec.getLsbD_shiftLeft];simp [hi2];omega
def setT (T:Nat→Bool)(p:Nat)(b:Bool):Nat→Bool:=fun i=>if i=p then b else T i
theorem lit16:(16:Int)=((16:Nat):Int):=rfl
theorem lit2:(2:Int)=((2:Nat):Int):=rfl
theorem lit1:(1:Int)=((1:Nat):Int):=rfl
theorem take_bit (x:BitVec 64)(c p i:Nat)(hp:p<16):(withM (withM x p 1 1#64) 16 2 (BitVec.ofNat 64 c)).getLsbD i=if 16≤i∧i<18 then (BitVec.ofNat 64 c).getLsbD (i-16) else if i=p then true else x.getLsbD i:=by
 rw [lit16,lit2,nat_with _ _ (by omega),lit1,nat_with _ _ (by omega)];by_cases h:16≤i∧i<18
 ·rw [if_pos h,if_pos (show 16≤i∧i<16+2 by omega)]
 ·rw [if_neg h,if_neg (show ¬ (16≤i∧i<16+2) by omega)];by_cases h2:i=p
  ·subst h2;rw [if_pos (show i≤i∧i<i+1 by omega),if_pos rfl];simp
  ·rw [if_neg (show ¬ (p≤i∧i<p+1) by omega),if_neg h2]
theorem take_eq {x:BitVec 64}{c p:Nat}(hr:rightM x=true)(hc:c=1∨c=2)(hk:x=0#64∨kindM x=c)(hp:p<bl c) :
  withM (withM x p 1 1#64) 16 2 (BitVec.ofNat 64 c)=wordR c (setT (bitsOf x) p true):=by
 have hb:=bl_le c;apply ext;intro i hi;rw [take_bit x c p i (by omega)];by_cases h1:i<16
 ·rw [if_neg (by omega),wordR_low _ _ _ h1];rfl
 ·rw [wordR_high _ _ _ (by omega) hi];by_cases h2:i<18
  ·rw [if_pos (by omega)]
  ·rw [if_neg (by omega),if_neg (by omega),c_high (by omega) (by omega)]
   rcases hk with rfl|hk
   ·simp
   ·rcases right_cases hr with rfl|⟨d,hn⟩
    ·simp
    ·have hd:=hn.cls;rw [hi_bit hn.hi i (by omega),c_high (by omega) (by omega)]
theorem take_norm {x:BitVec 64}{c p:Nat}(hr:rightM x=true)(hc:c=1∨c=2)(hk:x=0#64∨kindM x=c)(hp:p<bl c):Norm (withM (withM x p 1 1#64) 16 2 (BitVec.ofNat 64 c)) c:=by
 have hb:=bl_le c;have he:=take_eq hr hc hk hp;refine ⟨hc,?_,⟨p,hp,?_⟩,fun i h1 h2=>?_⟩
 ·rw [he];exact hi_of (fun i h1 h2=>wordR_high _ _ _ h1 h2) (by omega)
 ·rw [take_bit _ _ _ _ (by omega),if_neg (by omega),if_pos rfl]
 ·rw [take_bit _ _ _ _ (by omega),if_neg (by omega),if_neg (by omega)]
  rcases hk with rfl|hk
  ·simp
  ·rcases right_cases hr with rfl|⟨d,hn⟩
   ·simp
   ·have:d=c:=by have:=(norm_right hn).2;omega
    subst this;exact hn.none i h1 h2
theorem less_bit (x:BitVec 64)(p i:Nat)(hp:p<16):(lessM x p).getLsbD i=if i=p then false else x.getLsbD i:=by
 unfold lessM;rw [lit1,nat_with _ _ (by omega)];by_cases h2:i=p
 ·subst h2;rw [if_pos (show i≤i∧i<i+1 by omega),if_pos rfl];simp
 ·rw [if_neg (show ¬ (p≤i∧i<p+1) by omega),if_neg h2]
theorem taken_zero (x:BitVec 64):takenM x=0#64↔∀ i,i<16→x.getLsbD i=false:=by
 unfold takenM;constructor
 ·intro h i hi;have:=nat_bits (l:=0) (s:=16) x (by omega) i;rw [show ((0:Nat):Int)=0 from rfl,show ((16:Nat):Int)=16 from rfl,h,Nat.zero_add] at this;simpa [hi] using this.symm
 ·intro h;apply ext;intro i hi;have:=nat_bits (l:=0) (s:=16) x (by omega) i;rw [show ((0:Nat):Int)=0 from rfl,show ((16:Nat):Int)=16 from rfl,Nat.zero_add] at this;rw [this,BitVec.getLsbD_zero];by_cases h2:i<16
  ·rw [h i h2];simp
  ·simp [h2]
theorem drop_cases {x:BitVec 64}{c p:Nat}(hn:Norm x c)(hp:p<bl c)(hb:x.getLsbD p=true) :
  dropW x p=wordR (if cnt (setT (bitsOf x) p false) 16=0 then 0 else c) (setT (bitsOf x) p false) ∧
  ((dropW x p=0#64∧cnt (setT (bitsOf x) p false) 16=0)∨(Norm (dropW x p) c∧dropW x p=lessM x p∧cnt (setT (bitsOf x) p false) 16≠0)):=by
 have hbl:=bl_le c;have hc4:c<4:=by rcases hn.cls with h|h<;>omega
 have hh:hasM x p=true:=by rw [has_norm hn];simp [hp,hb]
 have hlow:∀ i,i<16→(lessM x p).getLsbD i=setT (bitsOf x) p false i:=fun i hi=>by
  rw [less_bit x p i (by omega)];rfl
 have hz:takenM (lessM x p)=0#64↔cnt (setT (bitsOf x) p false) 16=0:=by
  rw [taken_zero,cnt_zero];exact ⟨fun h i hi=>by rw [← hlow i hi];exact h i hi,fun h i hi=>by rw [hlow i hi];exact h i hi⟩
 by_cases h0:takenM (lessM x p)=0#64
 ·have hd:dropW x p=0#64:=by unfold dropW;rw [if_pos hh,if_pos (by rw [h0];rfl)]
  have hc:=hz.1 h0;refine ⟨?_,.inl ⟨hd,hc⟩⟩;rw [hd,if_pos hc];apply ext;intro i hi;rw [BitVec.getLsbD_zero];by_cases h1:i<16
  ·rw [wordR_low _ _ _ h1];exact ((cnt_zero _ 16).1 hc i h1).symm
  ·rw [wordR_high _ _ _ (by omega) hi];simp
 ·have hd:dropW x p=lessM x p:=by unfold dropW;rw [if_pos hh,if_neg (by simpa using h0)]
  have hc:cnt (setT (bitsOf x) p false) 16≠0:=fun h=>h0 (hz.2 h)
  have hhigh:∀ i,16≤i→(lessM x p).getLsbD i=x.getLsbD i:=fun i hi=>by rw [less_bit x p i (by omega),if_neg (by omega)]
  refine ⟨?_,.inr ⟨⟨hn.cls,?_,?_,fun i h1 h2=>?_⟩,hd,hc⟩⟩
  ·rw [hd,if_neg hc];apply ext;intro i hi;by_cases h1:i<16
   ·rw [wordR_low _ _ _ h1,hlow i h1]
   ·rw [wordR_high _ _ _ (by omega) hi,hhigh i (by omega),hi_bit hn.hi i (by omega)]
  ·rw [hd];exact hi_of (fun i h1 h2=>by rw [hhigh i h1,hi_bit hn.hi i h1]) hc4
  ·rw [hd];apply Classical.byContradiction;intro hno;apply h0;rw [taken_zero];intro i hi;cases hbi:(lessM x p).getLsbD i
   ·rfl
   ·refine absurd ⟨i,?_,hbi⟩ hno;rw [less_bit x p i (by omega)] at hbi;split at hbi
    ·cases hbi
    ·apply Nat.lt_of_not_le;intro h3;rw [hn.none i h3 hi] at hbi;cases hbi
  ·rw [hd,less_bit x p i (by omega)];split
   ·rfl
   ·exact hn.none i h1 h2
theorem filter_more (f:Nat→Bool)(b:Nat)(hb:b≤16)(h:∀ i,b≤i→i<16→f i=false):(List.range 16).filter f=(List.range b).filter f:=by
 obtain ⟨d,hd⟩:∃ d,16=b+d:=⟨16-b,by omega⟩;rw [hd,List.range_add,List.filter_append];have:((List.range d).map (b + ·)).filter f=[]:=by
  rw [List.filter_eq_nil_iff];intro i hi;simp at hi;obtain ⟨j,hj,rfl⟩:=hi;rw [h (b+j) (by omega) (by omega)];simp
 rw [this,List.append_nil]
theorem list_norm {x:BitVec 64}{c:Nat}(hn:Norm x c):listM x=(List.range 16).filter (bitsOf x):=by
 unfold listM;rw [class_norm hn,Int.toNat_natCast,filter_more (bitsOf x) (bl c) (bl_le c) (fun i h1 h2=>hn.none i h1 h2)];apply List.filter_congr;intro i hi;rw [List.mem_range] at hi;rw [has_norm hn];simp [hi,bitsOf]
theorem list_nil {x:BitVec 64}(h:classM x=0):listM x=[]:=by
 unfold listM;rw [h];rfl
def tR (x:BitVec 64)(i:Nat):Bool:=rB x&&x.getLsbD i
def cR (x:BitVec 64):Nat:=if rB x then kR x else 0
theorem list_ref (x:BitVec 64):listM x=(List.range 16).filter (tR x):=by
 cases hb:rB x
 ·rw [list_nil (class_wrong (by rw [← rB_eq];exact hb))];rw [eq_comm,List.filter_eq_nil_iff];intro i _;simp [tR,hb]
 ·rcases right_cases (by rw [← rB_eq];exact hb) with rfl|⟨c,hn⟩
  ·rw [list_nil class_zero];rw [eq_comm,List.filter_eq_nil_iff];intro i _;simp [tR]
  ·rw [list_norm hn];congr 1;funext i;simp [tR,hb,bitsOf]
theorem cR_class (x:BitVec 64):classM x=cR x:=by
 unfold cR;cases hb:rB x
 ·exact class_wrong (by rw [← rB_eq];exact hb)
 ·exact kR_class hb
theorem has_ref (x:BitVec 64)(i:Nat)(hi:i<16):hasM x i=tR x i:=by
 unfold tR;cases hb:rB x
 ·rw [has_wrong (by rw [← rB_eq];exact hb)];rfl
 ·rcases right_cases (by rw [← rB_eq];exact hb) with rfl|⟨c,hn⟩
  ·rw [has_zero];simp
  ·rw [has_norm hn];by_cases h:i<bl c
   ·simp [h]
   ·rw [hn.none i (by omega) hi];simp
theorem firstOff_congr (x y:BitVec 64):∀ (m k:Nat),(∀ j,k≤j→j<k+m→x.getLsbD j=y.getLsbD j)→firstOff x k m=firstOff y k m
 | 0,_,_=>rfl
 | m+1,k,h=>by
  unfold firstOff;rw [h k (Nat.le_refl _) (by omega),firstOff_congr x y m (k+1) fun j h1 h2=>h j (by omega) (by omega)]
theorem blocksI_le (c:Int):0≤blocksI c∧blocksI c≤16:=by unfold blocksI;split<;>(try split)<;>omega
theorem cR_zero {x:BitVec 64}(h:rB x=true):cR x=0↔x=0#64:=by
 unfold cR;rw [h,if_pos rfl];constructor
 ·intro h0;exact zero_of x h0 (((rB_iff x).1 h).2.2.2 h0)
 ·rintro rfl;decide
theorem meets_ref (x:BitVec 64)(c:Int)(hp:0<blocksI c):meetsM x c=(rB x&&(decide ((cR x:Int)=0) || decide ((cR x:Int)=c))):=by
 unfold meetsM;rw [← rB_eq,decide_eq_true hp,Bool.true_and];cases hb:rB x
 ·rfl
 ·rw [Bool.true_and,Bool.true_and]
  congr 1
  ·rw [Bool.eq_iff_iff,beq_iff_eq,decide_eq_true_iff,← cR_zero hb];omega
  ·have hc:=cR_class x;unfold classM at hc;rw [← rB_eq,hb,if_pos rfl] at hc;rw [hc,Bool.eq_iff_iff,beq_iff_eq,decide_eq_true_iff]
theorem next_ref (x:BitVec 64)(c:Int):nextM x c=if rB x=true∧((cR x:Int)=0∨(cR x:Int)=c) then firstOff x 0 (blocksI c).toNat else -1:=by
 have hbl:=blocksI_le c;unfold nextM;by_cases hp:0<blocksI c
 ·rw [meets_ref x c hp];have hlow:lowOff (takenM x) (blocksI c)=firstOff x 0 (blocksI c).toNat:=by
   unfold lowOff;rw [show (min (max (blocksI c) 0) 64).toNat=(blocksI c).toNat by omega];refine firstOff_congr _ _ _ _ fun j _ hj=>?_
   have:=nat_bits (l:=0) (s:=16) x (by omega) j;rw [show ((0:Nat):Int)=0 from rfl,show ((16:Nat):Int)=16 from rfl,Nat.zero_add] at this;unfold takenM;rw [this];simp;intro;omega
  rw [hlow];by_cases h:rB x=true∧((cR x:Int)=0∨(cR x:Int)=c)
  ·rw [if_pos h,if_pos (by rw [h.1,Bool.true_and,Bool.or_eq_true,decide_eq_true_iff,decide_eq_true_iff];exact h.2)]
  ·rw [if_neg h,if_neg];intro h2;rw [Bool.and_eq_true,Bool.or_eq_true,decide_eq_true_iff,decide_eq_true_iff] at h2;exact h h2
 ·have h0:blocksI c=0:=by omega
  have hm:meetsM x c=false:=by unfold meetsM;rw [h0];simp
  rw [hm,h0,if_neg (by simp)];by_cases h:rB x=true∧((cR x:Int)=0∨(cR x:Int)=c)
  ·rw [if_pos h];rfl
  ·rw [if_neg h]
theorem take_ref (x:BitVec 64)(c:Int)(p:Nat)(hp:(p:Int)<blocksI c):takeOk x c p=((rB x&&(decide ((cR x:Int)=0) || decide ((cR x:Int)=c))) && !tR x p):=by
 have hbl:=blocksI_le c;unfold takeOk;rw [meets_ref x c (by omega),decide_eq_true (by omega:(0:Int)≤p),decide_eq_true hp,has_ref x p (by omega)];simp
theorem take_yes {x:BitVec 64}{c p:Nat}(hc:c=1∨c=2)(hp:p<bl c)(h:takeOk x c p=true):takeW x c p=wordR c (setT (tR x) p true):=by
 have hpI:(p:Int)<blocksI c:=by rw [blocksI_nat];omega
 have h2:=h;rw [take_ref x c p hpI,Bool.and_eq_true,Bool.and_eq_true,Bool.or_eq_true,decide_eq_true_iff,decide_eq_true_iff] at h2;obtain ⟨⟨hb,hk⟩,_⟩:=h2;have hr:rightM x=true:=by rw [← rB_eq];exact hb
 unfold takeW;rw [if_pos h,BitVec.ofInt_natCast,take_eq hr hc ?_ hp]
 ·congr 1;funext i;simp [setT,tR,hb,bitsOf]
 ·rcases hk with hk|hk
  ·exact .inl ((cR_zero hb).1 (by omega))
  ·refine .inr ?_;have hcl:=cR_class x;unfold classM at hcl;rw [hr,if_pos rfl] at hcl;omega
theorem drop_yes {x:BitVec 64}{p:Nat}(hp:p<16)(h:tR x p=true):hasM x p=true∧cR x<4∧dropW x p=wordR (if cnt (setT (tR x) p false) 16=0 then 0 else cR x) (setT (tR x) p false):=by
 have hh:hasM x p=true:=by rw [has_ref x p hp,h]
 obtain ⟨c,i,hn,he,h1,h2⟩:=has_true hh;obtain rfl:p=i:=by omega
 have hb:=(rB_norm hn).2;have hcR:cR x=c:=by unfold cR;rw [hb,if_pos rfl,(rB_norm hn).1]
 have hT:tR x=bitsOf x:=by funext i;simp [tR,hb,bitsOf]
 refine ⟨hh,by rw [hcR];rcases hn.cls with h|h<;>omega,?_⟩;rw [hT,hcR];exact (drop_cases hn h1 h2).1
end WM
namespace WM
theorem wordR_congr {c:Nat}{T U:Nat→Bool}(h:∀ i,i<16→T i=U i):wordR c T=wordR c U:=by
 apply ext;intro i hi;by_cases h1:i<16
 ·rw [wordR_low _ _ _ h1,wordR_low _ _ _ h1,h i h1]
 ·rw [wordR_high _ _ _ (by omega) hi,wordR_high _ _ _ (by omega) hi]
theorem take_state {w:BitVec 64}{c p:Int}(h:takeOk w c p=true):∃ cn q:Nat,c=cn∧p=q∧(cn=1∨cn=2)∧q<bl cn∧tR w q=false∧((cR w:Int)=0∨cR w=cn)∧Norm (takeW w c p) cn∧∀ i,i<16→tR (takeW w c p) i=setT (tR w) q true i:=by
 have h2:=h;unfold takeOk at h2;simp only [Bool.and_eq_true,decide_eq_true_eq] at h2;obtain ⟨q,rfl⟩:=Int.eq_ofNat_of_zero_le h2.1.1.2;obtain ⟨cn,rfl,hcn⟩:=blocksI_pos (c:=c) (by omega);have hq:q<bl cn:=by have:=blocksI_nat cn;omega
 have h3:=h;rw [take_ref w cn q h2.1.2] at h3;simp only [Bool.and_eq_true,Bool.or_eq_true,decide_eq_true_eq,Bool.not_eq_true'] at h3;obtain ⟨⟨hb,hk⟩,hT⟩:=h3;have hr:rightM w=true:=by rw [← rB_eq];exact hb
 have hk2:w=0#64∨kindM w=cn:=by
  rcases hk with hk|hk
  ·exact .inl ((cR_zero hb).1 (by omega))
  ·refine .inr ?_;have hcl:=cR_class w;unfold classM at hcl;rw [hr,if_pos rfl] at hcl;omega
 have hw:takeW w cn q=withM (withM w q 1 1#64) 16 2 (BitVec.ofNat 64 cn):=by unfold takeW;rw [if_pos h,BitVec.ofInt_natCast]
 have hn:=take_norm hr hcn hk2 hq;rw [← hw] at hn;refine ⟨cn,q,rfl,rfl,hcn,hq,hT,by omega,hn,fun i hi=>?_⟩;have hbl:=bl_le cn;have h4:(takeW w cn q).getLsbD i=if i=q then true else w.getLsbD i:=by rw [hw,take_bit _ _ _ _ (by omega),if_neg (by omega)]
 unfold tR setT;rw [(rB_norm hn).2,h4,hb];simp
theorem cR_norm {x:BitVec 64}{c:Nat}(h:Norm x c):cR x=c∧rB x=true:=by
 have:=rB_norm h;unfold cR;rw [this.2,if_pos rfl];exact ⟨this.1,rfl⟩
theorem cnt_congr {T U:Nat→Bool}:∀ k,(∀ i,i<k→T i=U i)→cnt T k=cnt U k
 | 0,_=>rfl
 | k+1,h=>by unfold cnt;rw [h k (by omega),cnt_congr k fun i hi=>h i (by omega)]
theorem cnt_succ (T:Nat→Bool)(k:Nat):cnt T (k+1)=if T k then cnt T k+1 else cnt T k:=rfl
theorem cnt_set (T:Nat→Bool)(p:Nat)(hT:T p=false):∀ k,cnt (setT T p true) k=cnt T k+(if p<k then 1 else 0)
 | 0=>rfl
 | k+1=>by
  rw [cnt_succ,cnt_succ,cnt_set T p hT k];by_cases h:k=p
  ·subst h;have e:setT T k true k=true:=by simp [setT]
   rw [e,hT];simp
  ·have e:setT T p true k=T k:=by simp [setT,h]
   rw [e];by_cases h2:p<k
   ·have h3:p<k+1:=by omega
    simp only [h2,h3,if_true];split<;>omega
   ·have h3:¬ p<k+1:=by omega
    simp only [h2,h3,if_false];split<;>omega
theorem filter_cnt (T:Nat→Bool):∀ k,((List.range k).filter T).length=cnt T k
 | 0=>rfl
 | k+1=>by
  rw [List.range_succ,List.filter_append,List.length_append,filter_cnt T k,cnt_succ];cases h:T k<;>simp [h]
theorem list_len (x:BitVec 64):(listM x).length=cnt (tR x) 16:=by rw [list_ref,filter_cnt]
theorem order_law {w:BitVec 64}{c a b:Int}(ha:takeOk w c a=true)(hb:takeOk w c b=true)(hab:a≠b) :
  takeOk (takeW w c a) c b=true∧takeOk (takeW w c b) c a=true∧takeW (takeW w c a) c b=takeW (takeW w c b) c a∧(listM (takeW (takeW w c a) c b)).length=(listM w).length+2:=by
 obtain ⟨cn,p,rfl,rfl,hcn,hp,hTp,_,hnp,htp⟩:=take_state ha;obtain ⟨cn',q,hc',rfl,_,hq,hTq,_,hnq,htq⟩:=take_state hb;obtain rfl:cn=cn':=by omega
 have hpq:p≠q:=by omega
 have hbl:=bl_le cn;have hpI:(p:Int)<blocksI cn:=by rw [blocksI_nat];omega
 have hqI:(q:Int)<blocksI cn:=by rw [blocksI_nat];omega
 have hok1:takeOk (takeW w cn p) cn q=true:=by
  rw [take_ref _ _ _ hqI,(cR_norm hnp).1,(cR_norm hnp).2,htp q (by omega)];simp [setT,hTq];intro h;exact absurd h.symm hpq
 have hok2:takeOk (takeW w cn q) cn p=true:=by
  rw [take_ref _ _ _ hpI,(cR_norm hnq).1,(cR_norm hnq).2,htq p (by omega)];simp [setT,hTp];exact hpq
 obtain ⟨_,q',_,e1,_,_,hT1,_,hn1,ht1⟩:=take_state hok1;obtain rfl:q=q':=by omega
 refine ⟨hok1,hok2,?_,?_⟩
 ·rw [take_yes hcn hq hok1,take_yes hcn hp hok2];refine wordR_congr fun i hi=>?_
  unfold setT;by_cases h1:i=q
  ·subst h1;rw [if_pos rfl,if_neg (fun e=>hpq e.symm),htq i hi];simp [setT]
  ·rw [if_neg h1,htp i hi];by_cases h2:i=p
   ·subst h2;rw [if_pos rfl];simp [setT]
   ·rw [if_neg h2,htq i hi];simp [setT,h1,h2]
 ·rw [list_len,list_len,cnt_congr 16 ht1,cnt_set _ _ hT1,cnt_congr 16 htp,cnt_set _ _ hTp];rw [if_pos (by omega),if_pos (by omega)]
theorem mem_list {x:BitVec 64}{c:Nat}(hn:Norm x c)(i:Nat)(hi:i<16):i∈listM x↔x.getLsbD i=true:=by
 rw [list_norm hn,List.mem_filter,List.mem_range];exact ⟨fun h=>h.2,fun h=>⟨hi,h⟩⟩
theorem words_law {v w:BitVec 64}(hv:rightM v=true)(hw:rightM w=true):v=w↔(classM v=classM w∧listM v=listM w):=by
 constructor
 ·rintro rfl;exact ⟨rfl,rfl⟩
 ·rintro ⟨h1,h2⟩
  rcases right_cases hv with rfl|⟨c,hn⟩
  ·rcases right_cases hw with rfl|⟨d,hm⟩
   ·rfl
   ·rw [class_zero,class_norm hm] at h1;have:=hm.cls;omega
  ·rcases right_cases hw with rfl|⟨d,hm⟩
   ·rw [class_zero,class_norm hn] at h1;have:=hn.cls;omega
   ·rw [class_norm hn,class_norm hm] at h1;obtain rfl:c=d:=by omega
    have hbl:=bl_le c;refine norm_inj hn hm fun i hi=>?_
    rw [Bool.eq_iff_iff,← mem_list hn i (by omega),← mem_list hm i (by omega),h2]
end WM
section
def fillW (c:Int):Nat→BitVec 64
 | 0=>0#64
 | k+1=>WM.takeW (fillW c k) c k
theorem fill_state {c:Nat}(hc:c=1∨c=2):∀ k,k≤WM.bl c→(WM.rB (fillW c k)=true∧WM.cR (fillW c k)=(if k=0 then 0 else c))∧(∀ i,i<16→WM.tR (fillW c k) i=decide (i<k))∧(k<WM.bl c→WM.takeOk (fillW c k) c k=true)
 | 0,_=>by
  have h1:WM.rB (fillW c 0)=true:=(by decide +kernel:WM.rB 0#64=true);have h2:WM.cR (fillW c 0)=0:=(by decide +kernel:WM.cR 0#64=0);have h3:∀ i,i<16→WM.tR (fillW c 0) i=decide (i<0):=fun i hi=>by show (WM.rB 0#64&&(0#64).getLsbD i)=_;simp
  refine ⟨⟨h1,by rw [h2];rfl⟩,h3,fun hb=>?_⟩;have hbI:((0:Nat):Int)<WM.blocksI c:=by rw [WM.blocksI_nat];omega
  rw [WM.take_ref _ _ _ hbI,h1,h2,h3 0 (by omega)];rfl
 | k+1,hk=>by
  obtain ⟨_,_,hok⟩:=fill_state hc k (by omega);have hok:=hok (by omega);have hbl:=WM.bl_le c;obtain ⟨cn,q,hcn,hq,_,_,_,_,hn,ht⟩:=WM.take_state hok;obtain rfl:c=cn:=by omega
  obtain rfl:k=q:=by omega
  obtain ⟨_,hT,_⟩:=fill_state hc k (by omega);have h1:=WM.cR_norm hn;have h3:∀ i,i<16→WM.tR (fillW c (k+1)) i=decide (i<k+1):=fun i hi=>by
   show WM.tR (WM.takeW (fillW c k) c k) i=_;rw [ht i hi];unfold WM.setT;by_cases h:i=k
   ·subst h;simp
   ·rw [if_neg h,hT i hi];apply decide_eq_decide.2;omega
  refine ⟨⟨h1.2,by rw [if_neg (by omega)];exact h1.1⟩,h3,fun hb=>?_⟩;have hbI:((k+1:Nat):Int)<WM.blocksI c:=by rw [WM.blocksI_nat];omega
  have h1':WM.cR (fillW c (k+1))=c∧WM.rB (fillW c (k+1))=true:=h1;rw [WM.take_ref _ _ _ hbI,h1'.1,h1'.2,h3 (k+1) (by omega)];simp
theorem zero_iff {x:BitVec 64}(hb:WM.rB x=true):x=0#64↔WM.cnt (WM.tR x) 16=0:=by
 rw [WM.cnt_zero];constructor
 ·rintro rfl i _;simp [WM.tR]
 ·intro h;rw [WM.rB_eq] at hb
  rcases WM.right_cases hb with h0|⟨c,hn⟩
  ·exact h0
  ·obtain ⟨i,h1,h2⟩:=hn.some;have hbl:=WM.bl_le c;have h3:=h i (by omega);unfold WM.tR at h3;rw [(WM.cR_norm hn).2,h2] at h3;cases h3
end
namespace WM
theorem rB0:rB 0#64=true:=by decide +kernel
theorem cR0:cR 0#64=0:=by decide +kernel
theorem tR0 (i:Nat):tR 0#64 i=false:=by simp [tR]
theorem bit_tR {x:BitVec 64}(hx:rB x=true)(i:Nat):tR x i=x.getLsbD i:=by unfold tR;rw [hx,Bool.true_and]
theorem word_eq {x y:BitVec 64}(hx:rB x=true)(hy:rB y=true)(hc:cR x=cR y)(ht:∀ i,i<16→tR x i=tR y i):x=y :=
 (words_law (by rw [← rB_eq];exact hx) (by rw [← rB_eq];exact hy)).2 ⟨by rw [cR_class,cR_class,hc],by
  rw [list_ref,list_ref];exact List.filter_congr (fun i hi=>ht i (List.mem_range.1 hi))⟩
theorem word_eq2 {x y:BitVec 64}(hx:rB x=true)(hy:rB y=true)(hc:cR x=0∨cR y=0∨cR x=cR y)(ht:∀ i,i<16→tR x i=tR y i):x=y:=by
 have hcnt:=cnt_congr 16 ht;by_cases h0:cnt (tR x) 16=0
 ·rw [(zero_iff hx).2 h0,(zero_iff hy).2 (by rw [← hcnt];exact h0)]
 ·refine word_eq hx hy ?_ ht;have h1:cR x≠0:=fun h=>h0 ((zero_iff hx).1 ((cR_zero hx).1 h))
  have h2:cR y≠0:=fun h=>h0 (by rw [hcnt];exact (zero_iff hy).1 ((cR_zero hy).1 h))
  rcases hc with h|h|h
  ·exact absurd h h1
  ·exact absurd h h2
  ·exact h
theorem norm_of {x:BitVec 64}(hx:rB x=true)(h0:cR x≠0):Norm x (cR x):=by
 rw [rB_eq] at hx
 rcases right_cases hx with rfl|⟨c,hn⟩
 ·exact absurd cR0 h0
 ·rw [(cR_norm hn).1];exact hn
theorem tR_lt {x:BitVec 64}{i:Nat}(hi:i<16)(h:tR x i=true):cR x≠0∧i<bl (cR x):=by
 have hx:rB x=true:=by unfold tR at h;simp at h;exact h.1
 have h0:cR x≠0:=fun h0=>by rw [(cR_zero hx).1 h0,tR0] at h;cases h
 refine ⟨h0,?_⟩
 rcases Nat.lt_or_ge i (bl (cR x)) with h1|h1
 ·exact h1
 ·have:=(norm_of hx h0).none i h1 hi;rw [bit_tR hx,this] at h;cases h
structure Pair (t h:BitVec 64):Prop where
 rt:rB t=true
 rh:rB h=true
 cls:cR t=0∨cR h=0∨cR t=cR h
 dis:∀ i,i<16→tR t i=true→tR h i=false
theorem or_state {x y:BitVec 64}(hx:rB x=true)(hy:rB y=true)(h:cR x=0∨cR y=0∨cR x=cR y):rB (x ||| y)=true∧cR (x ||| y)=(if cR x=0 then cR y else cR x)∧∀ i,i<16→tR (x ||| y) i=(tR x i || tR y i):=by
 by_cases h0:cR x=0
 ·have e:=(cR_zero hx).1 h0;subst e;rw [BitVec.zero_or,if_pos h0];exact ⟨hy,rfl,fun i _=>by rw [tR0,Bool.false_or]⟩
 ·rw [if_neg h0];by_cases h1:cR y=0
  ·have e:=(cR_zero hy).1 h1;subst e;rw [BitVec.or_zero];exact ⟨hx,rfl,fun i _=>by rw [tR0,Bool.or_false]⟩
  ·have hc:cR x=cR y:=by rcases h with h|h|h<;>first|exact absurd h h0|exact absurd h h1|exact h
   have nx:=norm_of hx h0;have ny:=norm_of hy h1;rw [← hc] at ny;have n:Norm (x ||| y) (cR x):=⟨nx.cls,by rw [BitVec.ushiftRight_or_distrib,nx.hi,ny.hi,BitVec.or_self],by
    obtain ⟨i,h1,h2⟩:=nx.some;exact ⟨i,h1,by rw [BitVec.getLsbD_or,h2,Bool.true_or]⟩,fun i h1 h2=>by rw [BitVec.getLsbD_or,nx.none i h1 h2,ny.none i h1 h2];rfl⟩
   have hn:=cR_norm n;exact ⟨hn.2,hn.1,fun i _=>by rw [bit_tR hn.2,bit_tR hx,bit_tR hy,BitVec.getLsbD_or]⟩
theorem drop_full {x:BitVec 64}{p:Nat}(hp:p<16)(ht:tR x p=true):rB (dropW x p)=true∧(cR (dropW x p)=0∨cR (dropW x p)=cR x)∧∀ i,i<16→tR (dropW x p) i=setT (tR x) p false i:=by
 have hb:rB x=true:=by unfold tR at ht;simp at ht;exact ht.1
 have hh:=(drop_yes hp ht).1;obtain ⟨d,i,hn,he,h1,h2⟩:=has_true hh;obtain rfl:p=i:=by omega
 have hd:=(cR_norm hn).1;have hTx:tR x=bitsOf x:=by funext i;simp [tR,hb,bitsOf]
 rcases (drop_cases hn h1 h2).2 with ⟨h3,h4⟩|⟨h3,h4,h5⟩
 ·rw [h3];exact ⟨rB0,.inl cR0,fun i hi=>by rw [tR0,hTx,(cnt_zero _ 16).1 h4 i hi]⟩
 ·have h6:=cR_norm h3;exact ⟨h6.2,.inr (by rw [h6.1,hd]),fun i hi=>by
   unfold tR setT;rw [h6.2,hb,h4,less_bit x p i hp];simp⟩
section
variable {t h:BitVec 64}
theorem Pair.both (p:Pair t h):rB (t ||| h)=true∧cR (t ||| h)=(if cR t=0 then cR h else cR t)∧∀ i,i<16→tR (t ||| h) i=(tR t i || tR h i):=or_state p.rt p.rh p.cls
theorem Pair.zero:Pair 0#64 0#64:=⟨rB0,rB0,.inl cR0,fun i _ h=>by rw [tR0] at h;cases h⟩
theorem Pair.cT (p:Pair t h):cR t=0∨cR t=cR (t ||| h):=by
 rw [p.both.2.1];by_cases h0:cR t=0
 ·exact .inl h0
 ·rw [if_neg h0];exact .inr rfl
theorem Pair.cH (p:Pair t h):cR h=0∨cR h=cR (t ||| h):=by
 rw [p.both.2.1];by_cases h0:cR t=0
 ·rw [if_pos h0];exact .inr rfl
 ·rw [if_neg h0]
  rcases p.cls with h1|h1|h1
  ·exact absurd h1 h0
  ·exact .inl h1
  ·exact .inr h1.symm
theorem blocks_cls {c:Nat}(hc:c=1∨c=2){q:Nat}(hq:q<bl c):((q:Nat):Int)<blocksI c:=by rw [blocksI_nat];omega
theorem take_ok {x:BitVec 64}{c q:Nat}(hc:c=1∨c=2)(hq:q<bl c)(hx:rB x=true)(hk:cR x=0∨cR x=c)(hf:tR x q=false):takeOk x c q=true:=by
 rw [take_ref x c q (blocks_cls hc hq),hx,hf]
 simp;omega
theorem Pair.reserve (p:Pair t h){c:Nat}{q:Int}(hok:takeOk (t ||| h) c q=true):takeOk h c q=true∧Pair t (takeW h c q)∧t ||| takeW h c q=takeW (t ||| h) c q:=by
 obtain ⟨cn,q',hcn,rfl,hc,hq,hf,hk,hn,hs⟩:=take_state hok;obtain rfl:c=cn:=by omega
 obtain ⟨b1,b2,b3⟩:=p.both;have hbl:=bl_le c;rw [b3 q' (by omega)] at hf;simp only [Bool.or_eq_false_iff] at hf;have hkH:cR h=0∨cR h=c:=by rcases p.cH with e|e<;>omega
 have hkT:cR t=0∨cR t=c:=by rcases p.cT with e|e<;>omega
 have hok2:=take_ok hc hq p.rh hkH hf.2;obtain ⟨cn2,q2,hcn2,hq2,_,_,_,_,hn2,hs2⟩:=take_state hok2;obtain rfl:c=cn2:=by omega
 obtain rfl:q'=q2:=by omega
 have r2:=cR_norm hn2;have pp:Pair t (takeW h c q'):=⟨p.rt,r2.2,by rw [r2.1];omega,fun i hi ht=>by
  rw [hs2 i hi];unfold setT;by_cases e:i=q'
  ·subst e;rw [hf.1] at ht;cases ht
  ·rw [if_neg e];exact p.dis i hi ht⟩
 refine ⟨hok2,pp,?_⟩;obtain ⟨d1,d2,d3⟩:=pp.both;have r:=cR_norm hn;refine word_eq2 d1 r.2 ?_ fun i hi=>?_
 ·rw [r.1,d2,r2.1];split<;>omega
 ·rw [d3 i hi,hs2 i hi,hs i hi];unfold setT;by_cases e:i=q'
  ·rw [if_pos e,if_pos e,Bool.or_true]
  ·rw [if_neg e,if_neg e,b3 i hi]
theorem Pair.keep (p:Pair t h){q:Nat}(hq:q<16)(ht:tR h q=true):takeOk t (cR h:Nat) q=true∧Pair (takeW t (cR h:Nat) q) (dropW h q)∧takeW t (cR h:Nat) q ||| dropW h q=t ||| h:=by
 obtain ⟨h0,hbl⟩:=tR_lt hq ht;have hn:=norm_of p.rh h0;have hf:tR t q=false:=by
  cases e:tR t q
  ·rfl
  ·rw [p.dis q hq e] at ht;cases ht
 have hk:cR t=0∨cR t=cR h:=by rcases p.cls with e|e|e<;>omega
 have hok:=take_ok hn.cls hbl p.rt hk hf;obtain ⟨cn,q2,hcn,hq2,_,_,_,_,hn2,hs2⟩:=take_state hok;obtain rfl:cR h=cn:=by omega
 obtain rfl:q=q2:=by omega
 obtain ⟨d1,d2,d3⟩:=drop_full hq ht;have r2:=cR_norm hn2;have pp:Pair (takeW t (cR h:Nat) q) (dropW h q):=⟨r2.2,d1,by rw [r2.1];omega,fun i hi hi2=>by
  rw [d3 i hi];unfold setT;by_cases e:i=q
  ·rw [if_pos e]
  ·rw [if_neg e];rw [hs2 i hi] at hi2;unfold setT at hi2;rw [if_neg e] at hi2;exact p.dis i hi hi2⟩
 refine ⟨hok,pp,?_⟩;obtain ⟨e1,e2,e3⟩:=pp.both;obtain ⟨b1,b2,b3⟩:=p.both;refine word_eq2 e1 b1 ?_ fun i hi=>?_
 ·rw [e2,b2,r2.1,if_neg h0];split<;>omega
 ·rw [e3 i hi,b3 i hi,hs2 i hi,d3 i hi];unfold setT;by_cases e:i=q
  ·subst e;rw [if_pos rfl,if_pos rfl,ht];simp
  ·rw [if_neg e,if_neg e]
theorem Pair.dropH (p:Pair t h){q:Nat}(hq:q<16)(ht:tR h q=true):Pair t (dropW h q)∧t ||| dropW h q=dropW (t ||| h) q:=by
 obtain ⟨d1,d2,d3⟩:=drop_full hq ht;obtain ⟨b1,b2,b3⟩:=p.both;have hf:tR t q=false:=by
  cases e:tR t q
  ·rfl
  ·rw [p.dis q hq e] at ht;cases ht
 have htb:tR (t ||| h) q=true:=by rw [b3 q hq,ht,Bool.or_true]
 obtain ⟨f1,f2,f3⟩:=drop_full hq htb;have pp:Pair t (dropW h q):=⟨p.rt,d1,by rcases p.cls with e|e|e<;>omega,fun i hi hi2=>by
  rw [d3 i hi];unfold setT;by_cases e:i=q
  ·rw [if_pos e]
  ·rw [if_neg e];exact p.dis i hi hi2⟩
 refine ⟨pp,?_⟩;obtain ⟨e1,e2,e3⟩:=pp.both;have c1:=pp.cT;have c2:=p.cT;have c3:=p.cH;refine word_eq2 e1 f1 ?_ fun i hi=>?_
 ·rw [e2];split<;>omega
 ·rw [e3 i hi,f3 i hi,d3 i hi];unfold setT;by_cases e:i=q
  ·subst e;rw [if_pos rfl,if_pos rfl,hf];rfl
  ·rw [if_neg e,if_neg e,b3 i hi]
theorem Pair.dropT (p:Pair t h){q:Nat}(hq:q<16)(ht:tR t q=true):Pair (dropW t q) h∧dropW t q ||| h=dropW (t ||| h) q:=by
 obtain ⟨d1,d2,d3⟩:=drop_full hq ht;obtain ⟨b1,b2,b3⟩:=p.both;have hf:tR h q=false:=p.dis q hq ht;have htb:tR (t ||| h) q=true:=by rw [b3 q hq,ht,Bool.true_or]
 obtain ⟨f1,f2,f3⟩:=drop_full hq htb;have pp:Pair (dropW t q) h:=⟨d1,p.rh,by rcases p.cls with e|e|e<;>omega,fun i hi hi2=>by
  rw [d3 i hi] at hi2;unfold setT at hi2;by_cases e:i=q
  ·rw [if_pos e] at hi2;cases hi2
  ·rw [if_neg e] at hi2;exact p.dis i hi hi2⟩
 refine ⟨pp,?_⟩;obtain ⟨e1,e2,e3⟩:=pp.both;have c1:=pp.cT;have c2:=p.cT;have c3:=p.cH;refine word_eq2 e1 f1 ?_ fun i hi=>?_
 ·rw [e2];split<;>omega
 ·rw [e3 i hi,f3 i hi,d3 i hi];unfold setT;by_cases e:i=q
  ·subst e;rw [if_pos rfl,if_pos rfl,hf];rfl
  ·rw [if_neg e,if_neg e,b3 i hi]
end
end WM
namespace HP
def Heap (l:List Nat)(n:Nat):Prop:=∀ i,0<i→i<n→l.getD ((i-1)/2) 0≤l.getD i 0
def HeapEx (l:List Nat)(n i:Nat):Prop:=(∀ k,0<k→k<n→(k-1)/2≠i→l.getD ((k-1)/2) 0≤l.getD k 0)∧(0<i→∀ k,0<k→k<n→(k-1)/2=i→l.getD ((i-1)/2) 0≤l.getD k 0)
def swapL (l:List Nat)(i j:Nat):List Nat:=(l.set i (l.getD j 0)).set j (l.getD i 0)
theorem swapL_len (l:List Nat)(i j:Nat):(swapL l i j).length=l.length:=by simp [swapL]
theorem swapL_get {l:List Nat}{i j:Nat}(hi:i<l.length)(hj:j<l.length)(k:Nat):(swapL l i j).getD k 0=if k=j then l.getD i 0 else if k=i then l.getD j 0 else l.getD k 0:=by
 unfold swapL;simp only [List.getD_eq_getElem?_getD,List.getElem?_set,List.length_set];by_cases h1:k=j
 ·subst h1;rw [if_pos rfl];simp [hj]
 ·rw [if_neg h1,if_neg (fun e=>h1 e.symm)];by_cases h2:k=i
  ·subst h2;rw [if_pos rfl];simp [hi]
  ·rw [if_neg h2,if_neg (fun e=>h2 e.symm)]
theorem swapL_perm {l:List Nat}{i j:Nat}(hi:i<l.length)(hj:j<l.length):(swapL l i j).Perm l:=by
 have h:=Array.swap_perm (xs:=l.toArray) (i:=i) (j:=j) (h₁:=by simpa using hi) (h₂:=by simpa using hj);have e:(l.toArray.swap i j (by simpa using hi) (by simpa using hj)).toList=swapL l i j:=by
  rw [Array.swap_def];simp [swapL,List.getD,hi,hj]
 have h2:=Array.perm_iff_toList_perm.1 h;rw [e] at h2;simpa using h2
theorem heap_min {l:List Nat}{n:Nat}(h:Heap l n):∀ i,i<n→l.getD 0 0≤l.getD i 0:=by
 intro i
 induction i using Nat.strongRecOn with
 | _ i ih =>
  intro hi;by_cases h0:i=0
  ·subst h0;exact Nat.le_refl _
  ·exact Nat.le_trans (ih ((i-1)/2) (by omega) (by omega)) (h i (by omega) hi)
theorem heap_ex {l:List Nat}{n:Nat}(h:Heap l (n+1))(hl:n<l.length):HeapEx (swapL l 0 n) n 0:=by
 refine ⟨fun k hk hkn hp=>?_,fun h0=>by omega⟩;rw [swapL_get (by omega) hl,swapL_get (by omega) hl,if_neg (by omega),if_neg hp,if_neg (by omega),if_neg (by omega)];exact h k hk (by omega)
theorem ex_end {l:List Nat}{n i:Nat}(h:HeapEx l n i)(hc:∀ k,0<k→k<n→(k-1)/2=i→l.getD i 0≤l.getD k 0):Heap l n:=fun k hk hkn=>by
 by_cases e:(k-1)/2=i
 ·rw [e];exact hc k hk hkn e
 ·exact h.1 k hk hkn e
theorem ex_swap {l:List Nat}{n i j:Nat}(h:HeapEx l n i)(hln:n≤l.length)(hi:i<n)(hj:j<n)(hp:0<j)(hpar:(j-1)/2=i)(hlt:l.getD j 0<l.getD i 0)(hmin:∀ k,0<k→k<n→(k-1)/2=i→l.getD j 0≤l.getD k 0):HeapEx (swapL l i j) n j:=by
 have hij:i<j:=by omega
 have g:=swapL_get (l:=l) (i:=i) (j:=j) (by omega) (by omega);refine ⟨fun k hk hkn hne=>?_,fun _ k hk hkn hkp=>?_⟩
 ·rw [g,g,if_neg hne];by_cases e1:(k-1)/2=i
  ·rw [if_pos e1];by_cases e2:k=j
   ·rw [if_pos e2];omega
   ·rw [if_neg e2,if_neg (by omega)];exact hmin k hk hkn e1
  ·rw [if_neg e1];by_cases e2:k=j
   ·subst e2;exact absurd hpar e1
   ·rw [if_neg e2];by_cases e3:k=i
    ·rw [if_pos e3];subst e3;exact h.2 hk j hp hj hpar
    ·rw [if_neg e3];exact h.1 k hk hkn e1
 ·rw [hpar,g,g,if_neg (by omega),if_pos rfl,if_neg (by omega),if_neg (by omega)];have:=h.1 k hk hkn (by omega);rw [hkp] at this;exact this
structure Down (l l':List Nat) (n:Nat):Prop where
 perm:l'.Perm l
 heap:Heap l' n
 rest:∀ k,n≤k→l'.getD k 0=l.getD k 0
theorem pop_law {l l':List Nat}{n:Nat}(hl:l.length=n+1)(h:Heap l (n+1))(hd:Down (swapL l 0 n) l' n):l'.getD n 0=l.getD 0 0∧Heap (l'.take n) n∧(l.getD 0 0::l'.take n).Perm l∧(∀ y∈l,l.getD 0 0≤y)∧l'.length=n+1:=by
 have hlen:l'.length=n+1:=by rw [hd.perm.length_eq,swapL_len,hl]
 have e0:l'.getD n 0=l.getD 0 0:=by rw [hd.rest n (Nat.le_refl _),swapL_get (by omega) (by omega),if_pos rfl]
 refine ⟨e0,fun i hi hin=>?_,?_,fun y hy=>?_,hlen⟩
 ·have g:∀ k,k<n→(l'.take n).getD k 0=l'.getD k 0:=fun k hk=>by
   rw [List.getD_eq_getElem?_getD,List.getElem?_take,if_pos hk,← List.getD_eq_getElem?_getD]
  rw [g _ (by omega),g _ hin];exact hd.heap i hi hin
 ·have h1:l'=l'.take n++[l'.getD n 0]:=by
   have h2:=(List.take_append_drop n l').symm;rw [List.drop_eq_getElem_cons (by omega),List.drop_eq_nil_of_le (by omega)] at h2;have h3:l'.getD n 0=l'[n]:=by simp [List.getD,show n<l'.length by omega]
   rw [h3];exact h2
  have h2:(l'.take n++[l'.getD n 0]).Perm l:=by rw [← h1];exact hd.perm.trans (swapL_perm (by omega) (by omega))
  rw [e0] at h2;exact (List.perm_append_comm.symm.trans (List.Perm.refl _)).trans h2 |> fun h=>by simpa using h
 ·obtain ⟨i,hi,rfl⟩:=List.getElem_of_mem hy;have:=heap_min h i (by omega);have e:l.getD i 0=l[i]:=by simp [List.getD,hi]
  rw [e] at this;exact this
end HP
end Go.Proofs.YtaaihijkdhmcdaaGreatDoor
