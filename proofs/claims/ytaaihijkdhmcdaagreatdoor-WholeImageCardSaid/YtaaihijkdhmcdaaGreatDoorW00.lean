/- WholeImage, part 1 of 38: contracts and lemmas of its proof. Conditions: none. -/
import Derived.WalkKit
import Derived.WalkLawsBesides
import Derived.LoopN
import Derived.Still
import Derived.StillTail
import Derived.Deep.Quiet
set_option linter.unusedVariables false
set_option linter.unusedSimpArgs false
set_option maxRecDepth 100000
namespace Go.Proofs.YtaaihijkdhmcdaaGreatDoor
section
open Go
def uv {n:Nat}(x:BitVec n):Int:=(x.toNat:Int)
theorem uv_def {n:Nat}(x:BitVec n):uv x=(x.toNat:Int):=rfl
theorem uv_nonneg {n:Nat}(x:BitVec n):0≤uv x:=Int.natCast_nonneg _
theorem uv_inj {n:Nat}{x y:BitVec n}(h:uv x=uv y):x=y :=
 BitVec.eq_of_toNat_eq (by unfold uv at h;exact_mod_cast h)
def idx {n:Nat}(x:BitVec n):Nat:=x.toNat
theorem uv_toNat {n:Nat}(x:BitVec n):(uv x).toNat=idx x:=rfl
theorem ofInt_uv {n:Nat}(x:BitVec n):BitVec.ofInt n (uv x)=x:=by
 unfold uv;rw [BitVec.ofInt_natCast,BitVec.ofNat_toNat,BitVec.setWidth_eq]
theorem ofInt_uv' {n m:Nat}(x:BitVec n):BitVec.ofInt m (uv x)=x.setWidth m:=by
 unfold uv;rw [BitVec.ofInt_natCast,BitVec.ofNat_toNat]
theorem uv_ofInt {n:Nat}(z:Int)(h0:0≤z)(h1:z<(2:Int) ^ n):uv (BitVec.ofInt n z)=z:=by
 unfold uv;obtain ⟨k,rfl⟩:=Int.eq_ofNat_of_zero_le h0;have hk:k<2 ^ n:=by exact_mod_cast h1
 rw [BitVec.ofInt_natCast,BitVec.toNat_ofNat,Nat.mod_eq_of_lt hk]
theorem toNat_ofInt_eq (n:Nat)(z:Int):((BitVec.ofInt n z).toNat:Int)=z%(2:Int) ^ n:=by
 rw [BitVec.toNat_ofInt,Int.toNat_of_nonneg]
 ·norm_cast
 ·exact Int.emod_nonneg _ (by have:=Nat.two_pow_pos n;omega)
theorem wrap_u8 (z:Int):IntKind.u8.wrap z=uv (BitVec.ofInt 8 z):=by
 rw [uv_def,toNat_ofInt_eq];simp [IntKind.wrap,IntKind.bits,IntKind.signed]
theorem wrap_u32 (z:Int):IntKind.u32.wrap z=uv (BitVec.ofInt 32 z):=by
 rw [uv_def,toNat_ofInt_eq];simp [IntKind.wrap,IntKind.bits,IntKind.signed]
theorem wrap_u64 (z:Int):IntKind.u64.wrap z=uv (BitVec.ofInt 64 z):=by
 rw [uv_def,toNat_ofInt_eq];simp [IntKind.wrap,IntKind.bits,IntKind.signed]
theorem bits_and_u32 (x y:Int):bits .and .u32 x y=uv (BitVec.ofInt 32 x &&& BitVec.ofInt 32 y):=by
 show IntKind.u32.wrap _=_;rw [wrap_u32];exact congrArg uv (ofInt_uv _)
theorem bits_xor_u32 (x y:Int):bits .xor .u32 x y=uv (BitVec.ofInt 32 x ^^^ BitVec.ofInt 32 y):=by
 show IntKind.u32.wrap _=_;rw [wrap_u32];exact congrArg uv (ofInt_uv _)
theorem bits_and_u64 (x y:Int):bits .and .u64 x y=uv (BitVec.ofInt 64 x &&& BitVec.ofInt 64 y):=by
 show IntKind.u64.wrap _=_;rw [wrap_u64];exact congrArg uv (ofInt_uv _)
theorem bits_or_u64 (x y:Int):bits .or .u64 x y=uv (BitVec.ofInt 64 x ||| BitVec.ofInt 64 y):=by
 show IntKind.u64.wrap _=_;rw [wrap_u64];exact congrArg uv (ofInt_uv _)
theorem bits_andNot_u64 (x y:Int):bits .andNot .u64 x y=uv (BitVec.ofInt 64 x &&& ~~~ BitVec.ofInt 64 y):=by
 show IntKind.u64.wrap _=_;rw [wrap_u64];exact congrArg uv (ofInt_uv _)
theorem fdiv_uv {n:Nat}(x:BitVec n)(k:Nat):(uv x).fdiv (2 ^ k)=uv (x >>> k):=by
 unfold uv;rw [Int.fdiv_eq_ediv_of_nonneg _ (by exact_mod_cast Nat.zero_le (2 ^ k)),BitVec.toNat_ushiftRight,Nat.shiftRight_eq_div_pow]
 norm_cast
theorem ediv_uv {n:Nat}(x:BitVec n)(k:Nat):uv x/2 ^ k=uv (x >>> k):=by
 rw [← fdiv_uv,Int.fdiv_eq_ediv_of_nonneg _ (by exact_mod_cast Nat.zero_le (2 ^ k))]
theorem shr_min {n:Nat}(x:BitVec n)(k:Nat):x >>> (min k n)=x >>> k:=by
 rcases Nat.le_total k n with h|h
 ·rw [Nat.min_eq_left h]
 ·rw [Nat.min_eq_right h,BitVec.ushiftRight_eq_zero (Nat.le_refl n),BitVec.ushiftRight_eq_zero h]
theorem mul_pow_min {n:Nat}(x:Int)(k:Nat):BitVec.ofInt n (x*2 ^ (min k n))=BitVec.ofInt n x <<< k:=by
 rw [BitVec.ofInt_mul];have h2:∀ m:Nat,BitVec.ofInt n ((2:Int) ^ m)=BitVec.twoPow n m:=by
  intro m;have:((2:Int) ^ m)=((2 ^ m:Nat):Int):=by norm_cast
  rw [this,BitVec.ofInt_natCast];apply BitVec.eq_of_toNat_eq;simp [BitVec.toNat_twoPow]
 rw [h2,BitVec.mul_twoPow_eq_shiftLeft]
 rcases Nat.le_total k n with h|h
 ·rw [Nat.min_eq_left h]
 ·rw [Nat.min_eq_right h,BitVec.shiftLeft_eq_zero (Nat.le_refl n),BitVec.shiftLeft_eq_zero h]
theorem ofInt_mul_pow {n:Nat}(x:Int)(k:Nat):BitVec.ofInt n (x*2 ^ k)=BitVec.ofInt n x <<< k:=by
 rw [BitVec.ofInt_mul];have:((2:Int) ^ k)=((2 ^ k:Nat):Int):=by norm_cast
 rw [this,BitVec.ofInt_natCast];have e:BitVec.ofNat n (2 ^ k)=BitVec.twoPow n k:=by
  apply BitVec.eq_of_toNat_eq;simp [BitVec.toNat_twoPow]
 rw [e,BitVec.mul_twoPow_eq_shiftLeft]
theorem ofInt_pow {n:Nat}(k:Nat):BitVec.ofInt n (2 ^ k)=BitVec.ofInt n 1 <<< k:=by
 rw [← ofInt_mul_pow,Int.one_mul]
theorem shr_u8 (x:BitVec 8)(yk:IntKind)(y:Int)(h:0≤y):Op.shift .shr .u8 (uv x) yk y=pure (.int .u8 (uv (x >>> y.toNat))):=by
 unfold Op.shift;rw [if_neg (by omega)];show pure (Value.int .u8 ((uv x).fdiv (2 ^ (min y.toNat 8))))=_;rw [fdiv_uv,shr_min]
theorem shr_u32 (x:BitVec 32)(yk:IntKind)(y:Int)(h:0≤y):Op.shift .shr .u32 (uv x) yk y=pure (.int .u32 (uv (x >>> y.toNat))):=by
 unfold Op.shift;rw [if_neg (by omega)];show pure (Value.int .u32 ((uv x).fdiv (2 ^ (min y.toNat 32))))=_;rw [fdiv_uv,shr_min]
theorem not_u32 (x:BitVec 32):Op.unary .xor (.int .u32 (uv x))=pure (.int .u32 (uv (~~~x))):=by
 show Op.intBits .xor .u32 _ (uv x)=_;unfold Op.intBits;show pure (Value.int .u32 (IntKind.u32.wrap ((BitVec.ofInt 32 _ ^^^ BitVec.ofInt 32 (uv x)).toNat:Int)))=_;rw [wrap_u32,ofInt_uv];have e:(BitVec.ofInt 32 (if IntKind.u32.signed=true then -1 else IntKind.u32.max))=BitVec.allOnes 32:=by decide
 rw [e,BitVec.allOnes_xor];exact congrArg (fun z=>pure (Value.int .u32 z)) (congrArg uv (ofInt_uv _))
theorem shr_u64 (x:BitVec 64)(yk:IntKind)(y:Int)(h:0≤y):Op.shift .shr .u64 (uv x) yk y=pure (.int .u64 (uv (x >>> y.toNat))):=by
 unfold Op.shift;rw [if_neg (by omega)];show pure (Value.int .u64 ((uv x).fdiv (2 ^ (min y.toNat 64))))=_;rw [fdiv_uv,shr_min]
theorem shl_u64 (x:Int)(yk:IntKind)(y:Int)(h:0≤y):Op.shift .shl .u64 x yk y=pure (.int .u64 (uv (BitVec.ofInt 64 x <<< y.toNat))):=by
 unfold Op.shift;rw [if_neg (by omega)];show pure (Value.int .u64 (IntKind.u64.wrap (x*2 ^ (min y.toNat 64))))=_;rw [wrap_u64,mul_pow_min]
theorem not_u64 (x:BitVec 64):Op.unary .xor (.int .u64 (uv x))=pure (.int .u64 (uv (~~~x))):=by
 show Op.intBits .xor .u64 _ (uv x)=_;unfold Op.intBits;show pure (Value.int .u64 (IntKind.u64.wrap ((BitVec.ofInt 64 _ ^^^ BitVec.ofInt 64 (uv x)).toNat:Int)))=_;rw [wrap_u64,ofInt_uv];have e:(BitVec.ofInt 64 (if IntKind.u64.signed=true then -1 else IntKind.u64.max))=BitVec.allOnes 64:=by decide
 rw [e,BitVec.allOnes_xor];exact congrArg (fun z=>pure (Value.int .u64 z)) (congrArg uv (ofInt_uv _))
theorem add_ofInt {n:Nat}(x y:BitVec n):BitVec.ofInt n (uv x+uv y)=x+y:=by rw [BitVec.ofInt_add,ofInt_uv,ofInt_uv]
theorem uv_beq {n:Nat}(x y:BitVec n):(uv x==uv y)=(x==y):=by
 rw [Bool.eq_iff_iff,beq_iff_eq,beq_iff_eq];exact ⟨uv_inj,fun h=>by rw [h]⟩
theorem uv_bne {n:Nat}(x y:BitVec n):(uv x != uv y)=(x != y):=by unfold bne;rw [uv_beq]
theorem uv_eq_iff {n:Nat}(x y:BitVec n):uv x=uv y↔x=y:=⟨uv_inj,fun h=>by rw [h]⟩
theorem uv_lt_iff {n:Nat}(x y:BitVec n):uv x<uv y↔x<y:=by
 unfold uv;rw [BitVec.lt_def];omega
theorem uv_le_iff {n:Nat}(x y:BitVec n):uv x≤uv y↔x≤y:=by
 unfold uv;rw [BitVec.le_def];omega
theorem uv_beq_lit {n:Nat}(x:BitVec n)(z:Int)(h0:0≤z)(h1:z<(2:Int) ^ n):(uv x==z)=(x==BitVec.ofInt n z):=by
 rw [← uv_beq,uv_ofInt z h0 h1]
theorem uv_bne_lit {n:Nat}(x:BitVec n)(z:Int)(h0:0≤z)(h1:z<(2:Int) ^ n):(uv x != z)=(x != BitVec.ofInt n z):=by
 rw [← uv_bne,uv_ofInt z h0 h1]
theorem uv_eq_lit {n:Nat}(x:BitVec n)(z:Int)(h0:0≤z)(h1:z<(2:Int) ^ n):(uv x=z)↔(x=BitVec.ofInt n z) :=
 ⟨fun h=>by rw [← h,ofInt_uv],fun h=>by rw [h,uv_ofInt z h0 h1]⟩
theorem lit_lt_uv {n:Nat}(x:BitVec n)(z:Int)(h0:0≤z)(h1:z<(2:Int) ^ n):(z<uv x)↔(BitVec.ofInt n z<x):=by
 rw [← uv_lt_iff,uv_ofInt z h0 h1]
theorem lit_le_uv {n:Nat}(x:BitVec n)(z:Int)(h0:0≤z)(h1:z<(2:Int) ^ n):(z≤uv x)↔(BitVec.ofInt n z≤x):=by
 rw [← uv_le_iff,uv_ofInt z h0 h1]
theorem uv_tmod {n:Nat}(x:BitVec n)(z:Int)(h0:0<z)(h1:z<(2:Int) ^ n):(uv x).tmod z=uv (x%BitVec.ofInt n z):=by
 obtain ⟨k,rfl⟩:=Int.eq_ofNat_of_zero_le (Int.le_of_lt h0);have hk:k<2 ^ n:=by exact_mod_cast h1
 unfold uv;rw [BitVec.ofInt_natCast,BitVec.toNat_umod,BitVec.toNat_ofNat,Nat.mod_eq_of_lt hk];exact (Int.ofNat_tmod _ _).symm
theorem ofInt_tdiv {n:Nat}(x:BitVec n)(z:Int)(h0:0<z)(h1:z<(2:Int) ^ n):BitVec.ofInt n ((uv x).tdiv z)=x/BitVec.ofInt n z:=by
 obtain ⟨k,rfl⟩:=Int.eq_ofNat_of_zero_le (Int.le_of_lt h0);have hk:k<2 ^ n:=by exact_mod_cast h1
 have e:(uv x).tdiv (k:Int)=((x.toNat/k:Nat):Int):=Int.ofNat_tdiv _ _ |>.symm
 rw [e,BitVec.ofInt_natCast,BitVec.ofInt_natCast];apply BitVec.eq_of_toNat_eq;rw [BitVec.toNat_udiv,BitVec.toNat_ofNat,BitVec.toNat_ofNat,Nat.mod_eq_of_lt hk,Nat.mod_eq_of_lt];exact Nat.lt_of_le_of_lt (Nat.div_le_self _ _) x.isLt
theorem ofInt_add_lit {n:Nat}(x:BitVec n)(z:Int):BitVec.ofInt n (uv x+z)=x+BitVec.ofInt n z:=by rw [BitVec.ofInt_add,ofInt_uv]
theorem ofInt_mul_lit {n:Nat}(x:BitVec n)(z:Int):BitVec.ofInt n (uv x*z)=x*BitVec.ofInt n z:=by rw [BitVec.ofInt_mul,ofInt_uv]
theorem ofInt_lit_mul {n:Nat}(x:BitVec n)(z:Int):BitVec.ofInt n (z*uv x)=BitVec.ofInt n z*x:=by rw [BitVec.ofInt_mul,ofInt_uv]
theorem ofInt_sub_lit {n:Nat}(x:BitVec n)(z:Int):BitVec.ofInt n (uv x-z)=x-BitVec.ofInt n z:=by
 rw [Int.sub_eq_add_neg,BitVec.ofInt_add,BitVec.ofInt_neg,ofInt_uv,BitVec.sub_eq_add_neg]
attribute [go_sem high] wrap_u8 wrap_u32 wrap_u64 bits_and_u32 bits_xor_u32 bits_and_u64 bits_or_u64 bits_andNot_u64
attribute [go_sem high] shr_u8 shr_u32 shr_u64 shl_u64 not_u32 not_u64
attribute [go_sem] ofInt_uv ofInt_uv' add_ofInt uv_beq uv_bne uv_eq_iff uv_lt_iff uv_le_iff uv_toNat uv_nonneg ediv_uv ofInt_mul_pow ofInt_pow
attribute [go_sem low] uv_beq_lit uv_bne_lit uv_eq_lit lit_lt_uv lit_le_uv uv_tmod ofInt_tdiv ofInt_add_lit ofInt_mul_lit ofInt_lit_mul ofInt_sub_lit
end
section
open Go
structure Tag {α:Type} (x:α):Type where
 mk ::
theorem nr.{u} {α:Sort u}{a b:α}(h:a=b):a=b:=by cases h;exact Eq.refl _
abbrev Env:=Nat→Value
def upd (e:Env)(d:Nat)(v:Value):Env:=fun k=>if k=d then v else e k
theorem upd_at (e:Env)(d:Nat)(v:Value)(k:Nat):upd e d v k=if k=d then v else e k:=rfl
def ev (e:Env):Operand→Value
 | .tmp t=>e t
 | .const v=>v
 | .global g=>.pointer (some ⟨g,0,none⟩)
 | .func f=>.func (.func f) #[] #[]
theorem ev_tmp (e:Env)(t:Nat):ev e (.tmp t)=e t:=nr rfl
theorem ev_const (e:Env)(v:Value):ev e (.const v)=v:=nr rfl
theorem ev_global (e:Env)(g:Nat):ev e (.global g)=.pointer (some ⟨g,0,none⟩):=nr rfl
theorem ev_func (e:Env)(f:Nat):ev e (.func f)=.func (.func f) #[] #[]:=nr rfl
structure Fits (n:Nat) (e:Env) (a:Act):Prop where
 size:a.tmps.size=n
 get:∀ k,a.tmps.getD k undef=e k
 defers:a.defers=[]
theorem Fits.eval {n:Nat}{e:Env}{a:Act}(h:Fits n e a):a.eval=ev e:=by
 funext x
 cases x with
 | tmp t=>exact h.get t
 | const v=>rfl
 | global g=>rfl
 | func f=>rfl
def putE (e:Env):Option Tmp→Value→Env
 | some d,v=>upd e d v
 | none,_=>e
def okDst (n:Nat):Option Tmp→Bool
 | some d=>decide (d<n)
 | none=>true
theorem getD_set (t:Array Value)(d k:Nat)(v:Value)(hd:d<t.size):(t.setIfInBounds d v).getD k undef=if k=d then v else t.getD k undef:=by
 rw [Array.getD_eq_getD_getElem?,Array.getElem?_setIfInBounds,Array.getD_eq_getD_getElem?];by_cases h:k=d
 ·subst h;rw [if_pos rfl,if_pos hd,if_pos rfl];rfl
 ·rw [if_neg (fun e=>h e.symm),if_neg h]
theorem Fits.put {n:Nat}{e:Env}{a:Act}(h:Fits n e a)(d:Option Tmp)(v:Value)(hd:okDst n d=true):Fits n (putE e d v) (a.put d v):=by
 cases d with
 | none=>exact h
 | some d =>
  have hd':d<a.tmps.size:=by rw [h.size];simpa [okDst] using hd
  exact ⟨by simp [Act.put,h.size],fun k=>by
   show (a.tmps.setIfInBounds d v).getD k undef=upd e d v k;rw [getD_set _ _ _ _ hd',h.get];rfl,h.defers⟩
def argsE:List Value→Nat→Env→Env
 | [],_,e=>e
 | v::l,i,e=>argsE l (i+1) (upd e i v)
theorem argsE_at:∀ (l:List Value) (i:Nat) (e:Env) (k:Nat),argsE l i e k=if i≤k∧k<i+l.length then l.getD (k-i) undef else e k:=by
 intro l
 induction l with
 | nil=>intro i e k;rw [if_neg (by rintro ⟨_,h⟩;simp at h;omega)];rfl
 | cons v l ih =>
  intro i e k;show argsE l (i+1) (upd e i v) k=_;rw [ih];by_cases h1:k=i
  ·subst h1;rw [if_neg (by omega),upd_at,if_pos rfl,if_pos (by simp),Nat.sub_self];rfl
  ·by_cases h2:i≤k∧k<i+(v::l).length
   ·simp at h2;rw [if_pos (by omega),if_pos (by simp;omega)];obtain ⟨m,rfl⟩:∃ m,k=i+1+m:=⟨k-i-1,by omega⟩;have e1:i+1+m-(i+1)=m:=by omega
    have e2:i+1+m-i=m+1:=by omega
    rw [e1,e2];rfl
   ·simp at h2;rw [if_neg (by omega),if_neg (by simp;omega),upd_at,if_neg h1]
def Ret (P:Program)(f:FuncId)(args:Array Value)(w:World)(R:Value→World→Prop):Prop :=
 Calls P f args w fun e w'=>∃ v,e=.returned v∧R v w'
theorem Ret.mono {P:Program}{f:FuncId}{args:Array Value}{w:World}{R R':Value→World→Prop}(h:Ret P f args w R)(hr:∀ v w',R v w'→R' v w'):Ret P f args w R' :=
 Calls.mono h fun _ _ ⟨v,he,hv⟩=>⟨v,he,hr _ _ hv⟩
def callE (P:Program)(f:FuncId)(K:Value→World→Prop)(_:Tag (P,f,K))(args:Array Value)(w:World):Prop:=Ret P f args w K
theorem callE_of {P:Program}{f:FuncId}{K:Value→World→Prop}{t:Tag (P,f,K)}{args:Array Value}{w:World}{R:Value→World→Prop}(h:Ret P f args w R)(hr:∀ v w',R v w'→K v w'):callE P f K t args w:=h.mono hr
def xOp (P:Program)(e:Env)(o:Oper)(w:World):Result Next:=(execOp (ev e) o).run P w
theorem xOp_eq (P:Program)(e:Env)(o:Oper)(w:World):xOp P e o w=(execOp (ev e) o).run P w:=by rw [xOp]
def onRes (P:Program)(K:Value→World→Prop)(_:Tag (P,K))(r:Result Next):Prop :=
 match r with
 | .ok (.value v) w=>K v w
 | .ok .skip w=>K undef w
 | .ok (.enter f args) w=>Ret P f args w K
 | _=>False
section
variable (P:Program) (K:Value→World→Prop) (t:Tag (P,K)) (w:World)
theorem onRes_value (v:Value):onRes P K t (.ok (.value v) w)=K v w:=nr rfl
theorem onRes_skip:onRes P K t (.ok .skip w)=K undef w:=nr rfl
theorem onRes_enter (f:FuncId)(args:Array Value):onRes P K t (.ok (.enter f args) w)=callE P f K ⟨⟩ args w:=nr rfl
end
def wantE (ops:Array Oper)(e:Env):Option (Nat × Bool)→Bool
 | none=>true
 | some (j,want)=>(match (ops[j]?).bind (·.dst) with
  | some d=>(match e d with | .bool b=>some b|_=>none)
  | none=>none)==some want
def dstAt:List Oper→Nat→Option Tmp
 | [],_=>none
 | o::_,0=>o.dst
 | _::l,k+1=>dstAt l k
theorem dstAt_eq:∀ (l:List Oper) (k:Nat),dstAt l k=(l[k]?).bind (·.dst)
 | [],_=>rfl
 | _::_,0=>rfl
 | _::l,k+1=>dstAt_eq l k
theorem dstAt_zero (d:Option Tmp)(op:Op)(ty:TypeId)(pos:String)(af:Array Edge)(g:Option (Nat × Bool))(l:List Oper):dstAt (⟨d,op,ty,pos,af,g⟩::l) 0=d:=nr rfl
theorem dstAt_succ (o:Oper)(l:List Oper)(k:Nat):dstAt (o::l) (k+1)=dstAt l k:=nr rfl
def wantV (v:Value)(want:Bool):Bool:=(match v with | .bool b=>some b|_=>none)==some want
theorem wantV_true (b:Bool):wantV (.bool b) true=b:=by cases b<;>rfl
theorem wantV_false (b:Bool):wantV (.bool b) false=!b:=by cases b<;>rfl
theorem wantV_undef (b:Bool):wantV undef b=false:=by cases b<;>rfl
def wantO (e:Env)(want:Bool):Option Tmp→Bool
 | some d=>wantV (e d) want
 | none=>false
theorem wantO_some (e:Env)(want:Bool)(d:Tmp):wantO e want (some d)=wantV (e d) want:=nr rfl
def wantL (l:List Oper)(e:Env)(j:Nat)(want:Bool):Bool:=wantO e want (dstAt l j)
theorem wantL_eq (l:List Oper)(e:Env)(j:Nat)(want:Bool):wantL l e j want=wantO e want (dstAt l j):=nr rfl
theorem wantE_list (l:List Oper)(e:Env)(j:Nat)(want:Bool):wantE l.toArray e (some (j,want))=wantL l e j want:=by
 rw [wantL_eq,dstAt_eq];show ((match (l.toArray[j]?).bind (·.dst) with
  | some d=>(match e d with | .bool b=>some b|_=>none)
  | none=>none)==some want)=_
 rw [List.getElem?_toArray];cases (l[j]?).bind (·.dst)<;>rfl
theorem wantE_eq {n:Nat}{e:Env}{a:Act}(h:Fits n e a)(ops:Array Oper)(o:Oper):Region.wanted o (yielded ops a.tmps)=wantE ops e o.guard:=by
 unfold Region.wanted;cases hg:o.guard with
 | none=>rfl
 | some p =>
  obtain ⟨j,want⟩:=p;show (yielded ops a.tmps j==some want)=_;unfold wantE
  congr 1
  unfold yielded;cases hd:(ops[j]?).bind (·.dst) with
  | none=>rfl
  | some d =>
   show (match a.tmps[d]? with|some (.bool b)=>some b|_=>none)=_;have hk:=h.get d;rw [Array.getD_eq_getD_getElem?] at hk;show _=(match e d with | .bool b=>some b|_=>none);rw [← hk];cases ht:a.tmps[d]? with
   | none=>rfl
   | some v=>cases v<;>rfl
def opsR (P:Program)(n:Nat)(ops:Array Oper)(N:Env→World→Prop):List Oper→Env→World→Prop
 | [],e,w=>N e w
 | o::rest,e,w=>okDst n o.dst=true ∧
   (if wantE ops e o.guard=true then onRes P (fun v w'=>opsR P n ops N rest (putE e o.dst v) w') ⟨⟩ ((execOp (ev e) o).run P w)
    else opsR P n ops N rest (putE e o.dst undef) w)
def opsE (P:Program)(n:Nat)(ops:Array Oper)(N:Env→World→Prop)(l:List Oper)(_:Tag (P,n,ops,N,l))(e:Env)(w:World):Prop:=opsR P n ops N l e w
def lift (n:Nat)(Q:Exit→Env→World→Prop):Exit→Act→World→Prop:=fun x a w=>∃ e,Fits n e a∧Q x e w
theorem opsR_sound {P:Program}{n:Nat}{ops:Array Oper}{Q:Exit→Env→World→Prop}:∀ (l:List Oper) (e:Env) (w:World) (a:Act),Fits n e a →
  opsR P n ops (Q .normal) l e w→wpList P ops (lift n Q) l a w:=by
 intro l
 induction l with
 | nil=>intro e w a hf h;exact ⟨e,hf,h⟩
 | cons o rest ih =>
  intro e w a hf h;obtain ⟨hd,h⟩:=h;unfold wpList;rw [wantE_eq hf];split
  ·rename_i hw;rw [if_pos hw] at h;refine .inl ?_;unfold Oper.wp;rw [hf.eval];generalize (execOp (ev e) o).run P w=r at h;cases r with
   | halt x w'=>exact h.elim
   | ok x w' =>
    cases x with
    | value v=>exact ih _ _ _ (hf.put _ v hd) h
    | skip=>exact ih _ _ _ (hf.put _ undef hd) h
    | enter f args =>
     refine Calls.mono h ?_;rintro x w2 ⟨v,rfl,hv⟩;exact ih _ _ _ (hf.put _ v hd) hv
    | _=>exact h.elim
  ·rename_i hw;rw [if_neg hw] at h;exact ih _ _ _ (hf.put _ undef hd) h
def condE (A B:Prop)(_:Tag (A,B))(v:Value):Prop :=
 match v with
 | .bool true=>A
 | .bool false=>B
 | _=>False
theorem condE_true (A B:Prop)(t:Tag (A,B)):condE A B t (.bool true)=A:=nr rfl
theorem condE_false (A B:Prop)(t:Tag (A,B)):condE A B t (.bool false)=B:=nr rfl
def seqR (K:Env→World→Prop)(Q:Exit→Env→World→Prop):Exit→Env→World→Prop
 | .normal,e,w=>K e w
 | x,e,w=>Q x e w
def blockR (id:Nat)(Q:Exit→Env→World→Prop):Exit→Env→World→Prop
 | .exit id',e,w=>if id'=id then Q .normal e w else Q (.exit id') e w
 | x,e,w=>Q x e w
def wpR (P:Program)(n:Nat):Code→(Exit→Env→World→Prop)→Env→World→Prop
 | .skip,Q,e,w=>Q .normal e w
 | .region _ ops false,Q,e,w=>opsR P n ops (Q .normal) ops.toList e w
 | .seq x y,Q,e,w=>wpR P n x (seqR (wpR P n y Q) Q) e w
 | .cond c x y,Q,e,w=>condE (wpR P n x Q e w) (wpR P n y Q e w) ⟨⟩ (ev e c)
 | .block id x,Q,e,w=>wpR P n x (blockR id Q) e w
 | .exit id,Q,e,w=>Q (.exit id) e w
 | .ret,Q,e,w=>Q .ret e w
 | c,Q,e,w=>∀ a,Fits n e a→Code.wp P c (lift n Q) a w
def wpE (P:Program)(n:Nat)(c:Code)(Q:Exit→Env→World→Prop)(_:Tag (P,n,c,Q))(e:Env)(w:World):Prop:=wpR P n c Q e w
def goE (Q:Exit→Env→World→Prop)(x:Exit)(_:Tag (Q,x))(e:Env)(w:World):Prop:=Q x e w
section
variable (P:Program) (n:Nat) (Q:Exit→Env→World→Prop) (K:Env→World→Prop) (e:Env) (w:World)
theorem wpE_skip (t:Tag (P,n,Code.skip,Q)):wpE P n .skip Q t e w=goE Q .normal ⟨⟩ e w:=by simp only [wpE,wpR,goE]
theorem wpE_region (id:Nat)(l:List Oper)(t:Tag (P,n,Code.region id l.toArray false,Q)):wpE P n (.region id l.toArray false) Q t e w=opsE P n l.toArray (Q .normal) l ⟨⟩ e w:=by simp only [wpE,wpR,opsE]
theorem wpE_seq (x y:Code)(t:Tag (P,n,Code.seq x y,Q)):wpE P n (.seq x y) Q t e w=wpE P n x (seqR (wpR P n y Q) Q) ⟨⟩ e w:=by simp only [wpE,wpR]
theorem wpE_cond (c:Operand)(x y:Code)(t:Tag (P,n,Code.cond c x y,Q)):wpE P n (.cond c x y) Q t e w=condE (wpE P n x Q ⟨⟩ e w) (wpE P n y Q ⟨⟩ e w) ⟨⟩ (ev e c):=by simp only [wpE,wpR]
theorem wpE_block (id:Nat)(x:Code)(t:Tag (P,n,Code.block id x,Q)):wpE P n (.block id x) Q t e w=wpE P n x (blockR id Q) ⟨⟩ e w:=by simp only [wpE,wpR]
theorem wpE_exit (id:Nat)(t:Tag (P,n,Code.exit id,Q)):wpE P n (.exit id) Q t e w=goE Q (.exit id) ⟨⟩ e w:=by simp only [wpE,wpR,goE]
theorem wpE_ret (t:Tag (P,n,Code.ret,Q)):wpE P n .ret Q t e w=goE Q .ret ⟨⟩ e w:=by simp only [wpE,wpR,goE]
theorem goE_seq (y:Code)(t:Tag (seqR (wpR P n y Q) Q,Exit.normal)):goE (seqR (wpR P n y Q) Q) .normal t e w=wpE P n y Q ⟨⟩ e w:=nr rfl
theorem goE_seq_ret (t:Tag (seqR K Q,Exit.ret)):goE (seqR K Q) .ret t e w=goE Q .ret ⟨⟩ e w:=nr rfl
theorem goE_seq_exit (i:Nat)(t:Tag (seqR K Q,Exit.exit i)):goE (seqR K Q) (.exit i) t e w=goE Q (.exit i) ⟨⟩ e w:=nr rfl
theorem goE_block (id:Nat)(t:Tag (blockR id Q,Exit.normal)):goE (blockR id Q) .normal t e w=goE Q .normal ⟨⟩ e w:=nr rfl
theorem goE_block_ret (id:Nat)(t:Tag (blockR id Q,Exit.ret)):goE (blockR id Q) .ret t e w=goE Q .ret ⟨⟩ e w:=nr rfl
theorem goE_block_exit (id i:Nat)(t:Tag (blockR id Q,Exit.exit i)):goE (blockR id Q) (.exit i) t e w=if i=id then goE Q .normal ⟨⟩ e w else goE Q (.exit i) ⟨⟩ e w:=nr rfl
theorem opsE_nil (ops:Array Oper)(x:Exit)(t:Tag (P,n,ops,Q x,([]:List Oper))):opsE P n ops (Q x) [] t e w=goE Q x ⟨⟩ e w:=nr rfl
theorem opsE_one (ops:Array Oper)(d:Nat)(op:Op)(ty:TypeId)(pos:String)(af:Array Edge)(rest:List Oper)(t:Tag (P,n,ops,K,(⟨some d,op,ty,pos,af,none⟩::rest:List Oper)))(hd:d<n) :
  opsE P n ops K (⟨some d,op,ty,pos,af,none⟩::rest) t e w=onRes P (fun v w'=>opsE P n ops K rest ⟨⟩ (upd e d v) w') ⟨⟩ (xOp P e ⟨some d,op,ty,pos,af,none⟩ w):=by
 simp only [opsE,opsR,okDst,wantE,hd,decide_true,true_and,if_true,putE,xOp]
theorem opsE_one' (ops:Array Oper)(op:Op)(ty:TypeId)(pos:String)(af:Array Edge)(rest:List Oper)(t:Tag (P,n,ops,K,(⟨none,op,ty,pos,af,none⟩::rest:List Oper))) :
  opsE P n ops K (⟨none,op,ty,pos,af,none⟩::rest) t e w=onRes P (fun _ w'=>opsE P n ops K rest ⟨⟩ e w') ⟨⟩ (xOp P e ⟨none,op,ty,pos,af,none⟩ w):=by
 simp only [opsE,opsR,okDst,wantE,true_and,if_true,putE,xOp]
def guardE (A B:Prop)(_:Tag (A,B))(b:Bool):Prop:=if b=true then A else B
theorem guardE_true (A B:Prop)(t:Tag (A,B)):guardE A B t true=A:=nr rfl
theorem guardE_false (A B:Prop)(t:Tag (A,B)):guardE A B t false=B:=nr rfl
theorem opsE_two (l0:List Oper)(d:Option Tmp)(op:Op)(ty:TypeId)(pos:String)(af:Array Edge)(j:Nat)(want:Bool)(rest:List Oper)(t:Tag (P,n,l0.toArray,K,(⟨d,op,ty,pos,af,some (j,want)⟩::rest:List Oper)))(hd:okDst n d=true) :
  opsE P n l0.toArray K (⟨d,op,ty,pos,af,some (j,want)⟩::rest) t e w =
   guardE (onRes P (fun v w'=>opsE P n l0.toArray K rest ⟨⟩ (putE e d v) w') ⟨⟩ (xOp P e ⟨d,op,ty,pos,af,some (j,want)⟩ w))
    (opsE P n l0.toArray K rest ⟨⟩ (putE e d undef) w) ⟨⟩ (wantL l0 e j want):=by
 simp only [opsE,opsR,hd,true_and,guardE,wantE_list,xOp]
end
theorem wpR_sound {P:Program}{n:Nat}:∀ (c:Code) (Q:Exit→Env→World→Prop) (e:Env) (w:World) (a:Act),Fits n e a→wpR P n c Q e w→Code.wp P c (lift n Q) a w:=by
 intro c
 induction c with
 | skip=>intro Q e w a hf h;simp only [wpR] at h;exact wp_skip ⟨e,hf,h⟩
 | region id ops draw =>
  intro Q e w a hf h;cases draw with
  | true=>simp only [wpR] at h;exact h a hf
  | false =>
   obtain ⟨l⟩:=ops;simp only [wpR] at h;exact wp_region_lit (opsR_sound l e w a hf h)
 | seq x y ihx ihy =>
  intro Q e w a hf h;simp only [wpR] at h;refine wp_seq (Code.wp_mono ?_ (ihx _ e w a hf h));rintro z a' w' ⟨e',hf',hq⟩;cases z with
  | normal=>exact ihy Q e' w' a' hf' hq
  | _=>exact ⟨e',hf',hq⟩
 | cond c x y ihx ihy =>
  intro Q e w a hf h;simp only [wpR] at h;cases hv:ev e c with
  | bool b =>
   rw [hv] at h;have hc:a.eval c=.bool b:=by rw [hf.eval];exact hv
   cases b with
   | true=>exact wp_cond hc (ihx Q e w a hf h)
   | false=>exact wp_cond hc (ihy Q e w a hf h)
  | _=>rw [hv] at h;exact h.elim
 | block id x ih =>
  intro Q e w a hf h;simp only [wpR] at h;refine wp_block (Code.wp_mono ?_ (ih _ e w a hf h));rintro z a' w' ⟨e',hf',hq⟩;cases z with
  | exit i =>
   show if i=id then _ else _
   have hq':if i=id then Q .normal e' w' else Q (.exit i) e' w':=hq
   by_cases hi:i=id
   ·rw [if_pos hi] at hq' ⊢;exact ⟨e',hf',hq'⟩
   ·rw [if_neg hi] at hq' ⊢;exact ⟨e',hf',hq'⟩
  | _=>exact ⟨e',hf',hq⟩
 | exit id=>intro Q e w a hf h;simp only [wpR] at h;exact wp_exit ⟨e,hf,h⟩
 | ret=>intro Q e w a hf h;simp only [wpR] at h;exact wp_ret ⟨e,hf,h⟩
 | _=>intro Q e w a hf h;simp only [wpR] at h;exact h a hf
def roundR (I:Env→World→Prop)(μ:Env→World→Nat)(m:Nat)(Q:Exit→Env→World→Prop):Exit→Env→World→Prop
 | .normal,e,w=>I e w∧μ e w<m
 | x,e,w=>Q x e w
theorem goE_round {I:Env→World→Prop}{μ:Env→World→Nat}{m:Nat}{Q:Exit→Env→World→Prop}{t:Tag (roundR I μ m Q,Exit.normal)}{e:Env}{w:World}(h1:I e w)(h2:μ e w<m):goE (roundR I μ m Q) .normal t e w:=⟨h1,h2⟩
section
variable (I:Env→World→Prop) (μ:Env→World→Nat) (m:Nat) (Q:Exit→Env→World→Prop) (e:Env) (w:World)
theorem goE_round_ret (t:Tag (roundR I μ m Q,Exit.ret)):goE (roundR I μ m Q) .ret t e w=goE Q .ret ⟨⟩ e w:=nr rfl
theorem goE_round_exit (i:Nat)(t:Tag (roundR I μ m Q,Exit.exit i)):goE (roundR I μ m Q) (.exit i) t e w=goE Q (.exit i) ⟨⟩ e w:=nr rfl
end
theorem wpE_loop {P:Program}{n:Nat}{c:Code}{Q:Exit→Env→World→Prop}{t:Tag (P,n,Code.loop c,Q)}{e:Env}{w:World}(I:Env→World→Prop)(μ:Env→World→Nat)(h0:I e w)
  (round:∀ e w,I e w→wpE P n c (roundR I μ (μ e w) Q) ⟨⟩ e w):wpE P n (.loop c) Q t e w:=by
 simp only [wpE,wpR];intro a hf;refine wp_loop (fun a w=>∃ e,Fits n e a∧I e w) (fun a w=>μ (fun k=>a.tmps.getD k undef) w) ⟨e,hf,h0⟩ ?_;rintro a w ⟨e,hf,hI⟩;have he:(fun k=>a.tmps.getD k undef)=e:=funext hf.get;refine Code.wp_mono ?_ (wpR_sound _ _ e w a hf (round e w hI));rintro z a' w' ⟨e',hf',hq⟩;have he':(fun k=>a'.tmps.getD k undef)=e':=funext hf'.get;cases z with
 | normal=>exact ⟨⟨e',hf',hq.1⟩,by show μ _ _<μ _ _;rw [he,he'];exact hq.2⟩
 | _=>exact ⟨e',hf',hq⟩
def roundsR (P:Program)(n:Nat)(c:Code)(Q:Exit→Env→World→Prop):Nat→Env→World→Prop
 | 0,_,_=>False
 | k+1,e,w=>wpR P n c (seqR (roundsR P n c Q k) Q) e w
def roundsE (P:Program)(n:Nat)(c:Code)(Q:Exit→Env→World→Prop)(k:Nat)(_:Tag (P,n,c,Q))(e:Env)(w:World):Prop:=roundsR P n c Q k e w
theorem roundsE_succ (P:Program)(n:Nat)(c:Code)(Q:Exit→Env→World→Prop)(k:Nat)(t:Tag (P,n,c,Q))(e:Env)(w:World):roundsE P n c Q (k+1) t e w=wpE P n c (seqR (roundsR P n c Q k) Q) ⟨⟩ e w:=nr rfl
theorem wpE_rounds {P:Program}{n:Nat}{c:Code}{Q:Exit→Env→World→Prop}{t:Tag (P,n,Code.loop c,Q)}{e:Env}{w:World}(k:Nat)(h:roundsE P n c Q k ⟨⟩ e w):wpE P n (.loop c) Q t e w:=by
 simp only [wpE,wpR];intro a hf;refine wp_loop_rounds k ?_;unfold roundsE at h
 induction k generalizing e w a with
 | zero=>exact h.elim
 | succ k ih =>
  rw [rounds_succ];refine Code.wp_mono ?_ (wpR_sound c _ e w a hf h);rintro z a' w' ⟨e',hf',hq⟩;cases z with
  | normal=>exact ih hq a' hf'
  | _=>exact ⟨e',hf',hq⟩
def bodyR (P:Program)(fn:Func)(R:Value→World→Prop):Exit→Env→World→Prop
 | .normal,e,w | .ret,e,w=>∀ tmps:Array Value,(∀ k,tmps.getD k undef=e k)→∃ v,(results fn tmps).run P w=.ok v w∧R v w
 | _,_,_=>False
theorem ret_of {P:Program}{f:FuncId}{fn:Func}{c:Code}{args:List Value}{w:World}{R:Value→World→Prop}(n:Nat)
  (hf:P.funcs[f]?=some fn) (hb:fn.body=some c) (hn:fn.ntmps=n) (hl:args.length≤n)
  (h:wpE P n c (bodyR P fn R) ⟨⟩ (argsE args 0 (fun _=>undef)) w):Ret P f args.toArray w R:=by
 refine calls_of_wp hf hb (Code.wp_mono ?_ (wpR_sound c _ _ w _ ⟨?_,?_,rfl⟩ h))
 ·rintro z a w' ⟨e',hf',hq⟩;cases z with
  | normal =>
   obtain ⟨v,hr,hR⟩:=hq a.tmps hf'.get;exact ⟨hf'.defers,v,hr,v,rfl,hR⟩
  | ret =>
   obtain ⟨v,hr,hR⟩:=hq a.tmps hf'.get;exact ⟨hf'.defers,v,hr,v,rfl,hR⟩
  | _=>exact hq.elim
 ·simp [hn];omega
 ·intro k;rw [argsE_at];simp only [Nat.zero_le,true_and,Nat.zero_add,Nat.sub_zero];rw [Array.getD_eq_getD_getElem?,Array.getElem?_append];split
  ·rename_i h1;simp at h1;rw [if_pos h1];simp
  ·rename_i h1;simp at h1;rw [if_neg (by omega)];rw [Array.getElem?_replicate]
   split<;>rfl
section
variable {P:Program} {fn:Func} {R:Value→World→Prop} {e:Env} {w:World}
theorem body_tmp (u:Tmp){t:Tag (bodyR P fn R,Exit.ret)}(h:fn.results=#[.tmp u])(hR:R (e u) w):goE (bodyR P fn R) .ret t e w:=by
 intro tmps ht;exact ⟨_,results_tmp h tmps P w,by rw [ht];exact hR⟩
theorem body_tmp2 (u v:Tmp){t:Tag (bodyR P fn R,Exit.ret)}(h:fn.results=#[.tmp u,.tmp v])(hR:R (.tuple #[e u,e v]) w):goE (bodyR P fn R) .ret t e w:=by
 intro tmps ht;exact ⟨_,results_tmp2 h tmps P w,by rw [ht,ht];exact hR⟩
theorem body_none {t:Tag (bodyR P fn R,Exit.ret)}(h:fn.results=#[])(hR:R (.tuple #[]) w):goE (bodyR P fn R) .ret t e w:=by
 intro tmps _;exact ⟨_,results_none h tmps P w,hR⟩
theorem body_end {t:Tag (bodyR P fn R,Exit.normal)}(h:goE (bodyR P fn R) .ret ⟨⟩ e w):goE (bodyR P fn R) .normal t e w:=h
end
section
variable (e:Env) (dst:Option Tmp) (xs:Array Operand) (ats:Array TypeId) (ty:TypeId) (pos:String) (after:Array Edge) (guard:Option (Nat × Bool))
theorem execOp_callE (f:FuncId):execOp (ev e) { dst,op:=.call { callee:=.value (.func f),args:=xs,argTypes:=ats },type:=ty,pos,after,guard }=callFunc f (xs.map (ev e)):=by
 show callFunc f (#[]++xs.map (ev e)++#[])=_;simp
end
def appendB:Array TypeId→TypeId→Array Value→Sem Value:=Builtin.append_
def copyB:Array TypeId→TypeId→Array Value→Sem Value:=Builtin.copy_
theorem execOp_appendE (e:Env)(dst:Option Tmp)(xs:Array Operand)(ats:Array TypeId)(ty:TypeId)(pos:String)(after:Array Edge)(guard:Option (Nat × Bool)) :
  execOp (ev e) { dst,op:=.call { callee:=.builtin .append,args:=xs,argTypes:=ats },type:=ty,pos,after,guard }=(do pure (.value (← appendB ats ty (xs.map (ev e))))):=rfl
theorem execOp_copyE (e:Env)(dst:Option Tmp)(xs:Array Operand)(ats:Array TypeId)(ty:TypeId)(pos:String)(after:Array Edge)(guard:Option (Nat × Bool)) :
  execOp (ev e) { dst,op:=.call { callee:=.builtin .copy,args:=xs,argTypes:=ats },type:=ty,pos,after,guard }=(do pure (.value (← copyB ats ty (xs.map (ev e))))):=rfl
attribute [go_sem ↓] execOp_callE
attribute [go_sem ↓ high] execOp_appendE execOp_copyE
attribute [go_sem] xOp_eq upd_at ev_tmp ev_const ev_global ev_func argsE putE okDst onRes_value onRes_skip onRes_enter condE_true condE_false guardE_true guardE_false
attribute [go_sem ↓] dstAt_zero dstAt_succ wantL_eq
attribute [go_sem] wantO_some wantV_true wantV_false wantV_undef
attribute [go_sem] roundsE_succ goE_seq goE_seq_ret goE_seq_exit goE_block goE_block_ret goE_block_exit goE_round_ret goE_round_exit
attribute [go_sem] wpE_skip wpE_region wpE_seq wpE_cond wpE_block wpE_exit wpE_ret opsE_nil opsE_one opsE_one' opsE_two
end
section
open Go
def onStill (P:Program)(w:World)(K:Value→Prop)(_:Tag (P,w,K))(r:Result Next):Prop :=
 match r with
 | .ok (.value v) w'=>w'=w∧K v
 | .ok .skip w'=>w'=w∧K undef
 | .ok (.enter f args) w'=>w'=w∧∃ v,Ret P f args w (fun u w''=>u=v∧w''=w)∧K v
 | _=>False
theorem onStill_value (P:Program)(w:World)(v:Value)(K:Value→Prop)(t:Tag (P,w,K)):onStill P w K t (.ok (.value v) w)=K v:=by simp [onStill]
theorem onStill_call {P:Program}{w:World}{f:FuncId}{args:Array Value}{K:Value→Prop}{t:Tag (P,w,K)}(v:Value)(h:Ret P f args w (fun u w''=>u=v∧w''=w))(hK:K v):onStill P w K t (.ok (.enter f args) w):=⟨rfl,v,h,hK⟩
def stillR (P:Program)(n:Nat)(ops:Array Oper)(w:World)(N:Env→Prop):List Oper→Env→Prop
 | [],e=>N e
 | o::rest,e=>okDst n o.dst=true ∧
   (if wantE ops e o.guard=true then onStill P w (fun v=>stillR P n ops w N rest (putE e o.dst v)) ⟨⟩ ((execOp (ev e) o).run P w)
    else stillR P n ops w N rest (putE e o.dst undef))
def stillE (P:Program)(n:Nat)(ops:Array Oper)(w:World)(N:Env→Prop)(l:List Oper)(_:Tag (P,n,ops,w,N,l))(e:Env):Prop:=stillR P n ops w N l e
def endE (N:Env→Prop)(_:Tag N)(e:Env):Prop:=N e
section
variable (P:Program) (n:Nat) (ops:Array Oper) (w:World) (N:Env→Prop) (e:Env)
theorem stillE_nil (t:Tag (P,n,ops,w,N,([]:List Oper))):stillE P n ops w N [] t e=endE N ⟨⟩ e:=nr rfl
theorem stillE_one (d:Nat)(op:Op)(ty:TypeId)(pos:String)(af:Array Edge)(rest:List Oper)(t:Tag (P,n,ops,w,N,(⟨some d,op,ty,pos,af,none⟩::rest:List Oper)))(hd:d<n) :
  stillE P n ops w N (⟨some d,op,ty,pos,af,none⟩::rest) t e=onStill P w (fun v=>stillE P n ops w N rest ⟨⟩ (upd e d v)) ⟨⟩ (xOp P e ⟨some d,op,ty,pos,af,none⟩ w):=by
 simp only [stillE,stillR,okDst,wantE,hd,decide_true,true_and,if_true,putE,xOp]
theorem stillE_two (l0:List Oper)(d:Option Tmp)(op:Op)(ty:TypeId)(pos:String)(af:Array Edge)(j:Nat)(want:Bool)(rest:List Oper)(t:Tag (P,n,l0.toArray,w,N,(⟨d,op,ty,pos,af,some (j,want)⟩::rest:List Oper)))(hd:okDst n d=true) :
  stillE P n l0.toArray w N (⟨d,op,ty,pos,af,some (j,want)⟩::rest) t e =
   guardE (onStill P w (fun v=>stillE P n l0.toArray w N rest ⟨⟩ (putE e d v)) ⟨⟩ (xOp P e ⟨d,op,ty,pos,af,some (j,want)⟩ w))
    (stillE P n l0.toArray w N rest ⟨⟩ (putE e d undef)) ⟨⟩ (wantL l0 e j want):=by
 simp only [stillE,stillR,hd,true_and,guardE,wantE_list,xOp]
end
theorem stillR_sound {P:Program}{n:Nat}{ops:Array Oper}{w:World}{N:Env→Prop}{N':Act→Prop}(hN:∀ e a,Fits n e a→N e→N' a):∀ (l:List Oper) (e:Env) (a:Act),Fits n e a →
  stillR P n ops w N l e→wpStill P ops w N' l a:=by
 intro l
 induction l with
 | nil=>intro e a hf h;exact hN e a hf h
 | cons o rest ih =>
  intro e a hf h;obtain ⟨hd,h⟩:=h;unfold wpStill;rw [wantE_eq hf];split
  ·rename_i hw;rw [if_pos hw] at h;unfold Oper.still;rw [hf.eval];generalize (execOp (ev e) o).run P w=r at h;cases r with
   | halt x w'=>exact h.elim
   | ok x w' =>
    cases x with
    | value v=>exact ⟨h.1,ih _ _ (hf.put _ v hd) h.2⟩
    | skip=>exact ⟨h.1,ih _ _ (hf.put _ undef hd) h.2⟩
    | enter f args =>
     obtain ⟨h1,v,h2,h3⟩:=h;refine ⟨h1,v,Calls.mono h2 ?_,ih _ _ (hf.put _ v hd) h3⟩;rintro x w2 ⟨u,rfl,rfl,rfl⟩;exact ⟨rfl,rfl⟩
    | _=>exact h.elim
  ·rename_i hw;rw [if_neg hw] at h;exact ih _ _ (hf.put _ undef hd) h
theorem drawE_still {P:Program}{n id:Nat}{l:List Oper}{Q:Exit→Env→World→Prop}{t:Tag (P,n,Code.region id l.toArray true,Q)}{e:Env}{w:World}(hm:P.follows .mixedOrders=true)(hB:Region.lexB .any l.toArray=true)
  (h:stillE P n l.toArray w.drew (fun e'=>goE Q .normal ⟨⟩ e' w.drew) l ⟨⟩ e):wpE P n (.region id l.toArray true) Q t e w:=by
 simp only [wpE,wpR];intro a hf;exact wp_region_still_lit hm hB (stillR_sound (fun e a hf hq=>⟨e,hf,hq⟩) l e a hf h)
theorem drawE_tail {P:Program}{n id:Nat}{l l1 l2:List Oper}{Q:Exit→Env→World→Prop}{t:Tag (P,n,Code.region id l.toArray true,Q)}{e:Env}{w:World}(k:Nat)(hm:P.follows .mixedOrders=true)(hB:Region.lexTailB .any l.toArray k=true)
  (h1:l.take k=l1) (h2:l.drop k=l2)
  (h:stillE P n l.toArray w.drew (fun e'=>opsE P n l.toArray (Q .normal) l2 ⟨⟩ e' w.drew) l1 ⟨⟩ e):wpE P n (.region id l.toArray true) Q t e w:=by
 subst h1;subst h2;simp only [wpE,wpR];intro a hf;exact wp_region_still_tail k hm hB (stillR_sound (fun e a hf hq=>opsR_sound _ e _ a hf hq) _ e a hf h)
def Some1 (C:World→Prop):Prop:=∃ w,C w
attribute [go_sem] onStill_value stillE_nil stillE_one stillE_two
theorem wt:(∀ (a:Oper) (l:List Oper) (i:Nat),(a::l).take (i+1)=a::l.take i)∧(∀ l:List Oper,l.take 0=[])∧(∀ (a:Oper) (l:List Oper) (i:Nat),(a::l).drop (i+1)=l.drop i)∧(∀ l:List Oper,l.drop 0=l) :=
 ⟨fun _ _ _=>rfl,fun _=>rfl,fun _ _ _=>rfl,fun _=>rfl⟩
end
end Go.Proofs.YtaaihijkdhmcdaaGreatDoor
