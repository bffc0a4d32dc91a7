/- Words without sign: the number of a bit vector, behind a name of its own, and the walk's laws for it. -/
import Derived.WalkKit
import Derived.WalkLawsBesides
namespace Go.Proofs.YtejpophjiinijaaDoor
set_option linter.unusedVariables false
set_option linter.unusedSimpArgs false
set_option maxRecDepth 100000
open Go

/-- The number of a bit vector. Plain defs, so that simp does not open it. -/
def uv {n : Nat} (x : BitVec n) : Int := (x.toNat : Int)

theorem uv_def {n : Nat} (x : BitVec n) : uv x = (x.toNat : Int) := rfl
theorem uv_nonneg {n : Nat} (x : BitVec n) : 0 ≤ uv x := Int.natCast_nonneg _
theorem uv_lt {n : Nat} (x : BitVec n) : uv x < (2 : Int) ^ n := by
  have := x.isLt
  unfold uv
  exact_mod_cast this
theorem uv_inj {n : Nat} {x y : BitVec n} (h : uv x = uv y) : x = y :=
  BitVec.eq_of_toNat_eq (by unfold uv at h; exact_mod_cast h)
/-- The same number as a place. -/
def idx {n : Nat} (x : BitVec n) : Nat := x.toNat
theorem idx_def {n : Nat} (x : BitVec n) : idx x = x.toNat := rfl
theorem uv_toNat {n : Nat} (x : BitVec n) : (uv x).toNat = idx x := rfl
theorem uv_idx {n : Nat} (x : BitVec n) : uv x = (idx x : Int) := rfl

theorem ofInt_uv {n : Nat} (x : BitVec n) : BitVec.ofInt n (uv x) = x := by
  unfold uv; rw [BitVec.ofInt_natCast, BitVec.ofNat_toNat, BitVec.setWidth_eq]
theorem ofInt_uv' {n m : Nat} (x : BitVec n) : BitVec.ofInt m (uv x) = x.setWidth m := by
  unfold uv; rw [BitVec.ofInt_natCast, BitVec.ofNat_toNat]
theorem uv_ofInt {n : Nat} (z : Int) (h0 : 0 ≤ z) (h1 : z < (2 : Int) ^ n) : uv (BitVec.ofInt n z) = z := by
  unfold uv
  obtain ⟨k, rfl⟩ := Int.eq_ofNat_of_zero_le h0
  have hk : k < 2 ^ n := by exact_mod_cast h1
  rw [BitVec.ofInt_natCast, BitVec.toNat_ofNat, Nat.mod_eq_of_lt hk]

theorem toNat_ofInt_eq (n : Nat) (z : Int) : ((BitVec.ofInt n z).toNat : Int) = z % (2 : Int) ^ n := by
  rw [BitVec.toNat_ofInt, Int.toNat_of_nonneg]
  · norm_cast
  · exact Int.emod_nonneg _ (by have := Nat.two_pow_pos n; omega)

theorem wrap_u8 (z : Int) : IntKind.u8.wrap z = uv (BitVec.ofInt 8 z) := by
  rw [uv_def, toNat_ofInt_eq]; simp [IntKind.wrap, IntKind.bits, IntKind.signed]
theorem wrap_u16 (z : Int) : IntKind.u16.wrap z = uv (BitVec.ofInt 16 z) := by
  rw [uv_def, toNat_ofInt_eq]; simp [IntKind.wrap, IntKind.bits, IntKind.signed]
theorem wrap_u32 (z : Int) : IntKind.u32.wrap z = uv (BitVec.ofInt 32 z) := by
  rw [uv_def, toNat_ofInt_eq]; simp [IntKind.wrap, IntKind.bits, IntKind.signed]
theorem wrap_u64 (z : Int) : IntKind.u64.wrap z = uv (BitVec.ofInt 64 z) := by
  rw [uv_def, toNat_ofInt_eq]; simp [IntKind.wrap, IntKind.bits, IntKind.signed]

theorem bits_and_u8 (x y : Int) : bits .and .u8 x y = uv (BitVec.ofInt 8 x &&& BitVec.ofInt 8 y) := by
  show IntKind.u8.wrap _ = _; rw [wrap_u8]; exact congrArg uv (ofInt_uv _)
theorem bits_or_u8 (x y : Int) : bits .or .u8 x y = uv (BitVec.ofInt 8 x ||| BitVec.ofInt 8 y) := by
  show IntKind.u8.wrap _ = _; rw [wrap_u8]; exact congrArg uv (ofInt_uv _)
theorem bits_xor_u8 (x y : Int) : bits .xor .u8 x y = uv (BitVec.ofInt 8 x ^^^ BitVec.ofInt 8 y) := by
  show IntKind.u8.wrap _ = _; rw [wrap_u8]; exact congrArg uv (ofInt_uv _)
theorem bits_andNot_u8 (x y : Int) : bits .andNot .u8 x y = uv (BitVec.ofInt 8 x &&& ~~~ BitVec.ofInt 8 y) := by
  show IntKind.u8.wrap _ = _; rw [wrap_u8]; exact congrArg uv (ofInt_uv _)
theorem bits_and_u32 (x y : Int) : bits .and .u32 x y = uv (BitVec.ofInt 32 x &&& BitVec.ofInt 32 y) := by
  show IntKind.u32.wrap _ = _; rw [wrap_u32]; exact congrArg uv (ofInt_uv _)
theorem bits_or_u32 (x y : Int) : bits .or .u32 x y = uv (BitVec.ofInt 32 x ||| BitVec.ofInt 32 y) := by
  show IntKind.u32.wrap _ = _; rw [wrap_u32]; exact congrArg uv (ofInt_uv _)
theorem bits_xor_u32 (x y : Int) : bits .xor .u32 x y = uv (BitVec.ofInt 32 x ^^^ BitVec.ofInt 32 y) := by
  show IntKind.u32.wrap _ = _; rw [wrap_u32]; exact congrArg uv (ofInt_uv _)
theorem bits_andNot_u32 (x y : Int) : bits .andNot .u32 x y = uv (BitVec.ofInt 32 x &&& ~~~ BitVec.ofInt 32 y) := by
  show IntKind.u32.wrap _ = _; rw [wrap_u32]; exact congrArg uv (ofInt_uv _)
theorem bits_and_u64 (x y : Int) : bits .and .u64 x y = uv (BitVec.ofInt 64 x &&& BitVec.ofInt 64 y) := by
  show IntKind.u64.wrap _ = _; rw [wrap_u64]; exact congrArg uv (ofInt_uv _)
theorem bits_or_u64 (x y : Int) : bits .or .u64 x y = uv (BitVec.ofInt 64 x ||| BitVec.ofInt 64 y) := by
  show IntKind.u64.wrap _ = _; rw [wrap_u64]; exact congrArg uv (ofInt_uv _)
theorem bits_xor_u64 (x y : Int) : bits .xor .u64 x y = uv (BitVec.ofInt 64 x ^^^ BitVec.ofInt 64 y) := by
  show IntKind.u64.wrap _ = _; rw [wrap_u64]; exact congrArg uv (ofInt_uv _)
theorem bits_andNot_u64 (x y : Int) : bits .andNot .u64 x y = uv (BitVec.ofInt 64 x &&& ~~~ BitVec.ofInt 64 y) := by
  show IntKind.u64.wrap _ = _; rw [wrap_u64]; exact congrArg uv (ofInt_uv _)

theorem fdiv_uv {n : Nat} (x : BitVec n) (k : Nat) : (uv x).fdiv (2 ^ k) = uv (x >>> k) := by
  unfold uv
  rw [Int.fdiv_eq_ediv_of_nonneg _ (by exact_mod_cast Nat.zero_le (2 ^ k)), BitVec.toNat_ushiftRight, Nat.shiftRight_eq_div_pow]
  norm_cast

theorem ediv_uv {n : Nat} (x : BitVec n) (k : Nat) : uv x / 2 ^ k = uv (x >>> k) := by
  rw [← fdiv_uv, Int.fdiv_eq_ediv_of_nonneg _ (by exact_mod_cast Nat.zero_le (2 ^ k))]

theorem shr_min {n : Nat} (x : BitVec n) (k : Nat) : x >>> (min k n) = x >>> k := by
  rcases Nat.le_total k n with h | h
  · rw [Nat.min_eq_left h]
  · rw [Nat.min_eq_right h, BitVec.ushiftRight_eq_zero (Nat.le_refl n), BitVec.ushiftRight_eq_zero h]

theorem mul_pow_min {n : Nat} (x : Int) (k : Nat) : BitVec.ofInt n (x * 2 ^ (min k n)) = BitVec.ofInt n x <<< k := by
  rw [BitVec.ofInt_mul]
  have h2 : ∀ m : Nat, BitVec.ofInt n ((2 : Int) ^ m) = BitVec.twoPow n m := by
    intro m
    have : ((2 : Int) ^ m) = ((2 ^ m : Nat) : Int) := by norm_cast
    rw [this, BitVec.ofInt_natCast]
    apply BitVec.eq_of_toNat_eq
    simp [BitVec.toNat_twoPow]
  rw [h2, BitVec.mul_twoPow_eq_shiftLeft]
  rcases Nat.le_total k n with h | h
  · rw [Nat.min_eq_left h]
  · rw [Nat.min_eq_right h, BitVec.shiftLeft_eq_zero (Nat.le_refl n), BitVec.shiftLeft_eq_zero h]

theorem ofInt_mul_pow {n : Nat} (x : Int) (k : Nat) : BitVec.ofInt n (x * 2 ^ k) = BitVec.ofInt n x <<< k := by
  rw [BitVec.ofInt_mul]
  have : ((2 : Int) ^ k) = ((2 ^ k : Nat) : Int) := by norm_cast
  rw [this, BitVec.ofInt_natCast]
  have e : BitVec.ofNat n (2 ^ k) = BitVec.twoPow n k := by
    apply BitVec.eq_of_toNat_eq
    simp [BitVec.toNat_twoPow]
  rw [e, BitVec.mul_twoPow_eq_shiftLeft]
theorem ofInt_pow {n : Nat} (k : Nat) : BitVec.ofInt n (2 ^ k) = BitVec.ofInt n 1 <<< k := by
  rw [← ofInt_mul_pow, Int.one_mul]

theorem shr_u8 (x : BitVec 8) (yk : IntKind) (y : Int) (h : 0 ≤ y) : Op.shift .shr .u8 (uv x) yk y = pure (.int .u8 (uv (x >>> y.toNat))) := by
  unfold Op.shift
  rw [if_neg (by omega)]
  show pure (Value.int .u8 ((uv x).fdiv (2 ^ (min y.toNat 8)))) = _
  rw [fdiv_uv, shr_min]
theorem shl_u8 (x : Int) (yk : IntKind) (y : Int) (h : 0 ≤ y) : Op.shift .shl .u8 x yk y = pure (.int .u8 (uv (BitVec.ofInt 8 x <<< y.toNat))) := by
  unfold Op.shift
  rw [if_neg (by omega)]
  show pure (Value.int .u8 (IntKind.u8.wrap (x * 2 ^ (min y.toNat 8)))) = _
  rw [wrap_u8, mul_pow_min]
theorem not_u8 (x : BitVec 8) : Op.unary .xor (.int .u8 (uv x)) = pure (.int .u8 (uv (~~~x))) := by
  show Op.intBits .xor .u8 _ (uv x) = _
  unfold Op.intBits
  show pure (Value.int .u8 (IntKind.u8.wrap ((BitVec.ofInt 8 _ ^^^ BitVec.ofInt 8 (uv x)).toNat : Int))) = _
  rw [wrap_u8, ofInt_uv]
  have e : (BitVec.ofInt 8 (if IntKind.u8.signed = true then -1 else IntKind.u8.max)) = BitVec.allOnes 8 := by decide
  rw [e, BitVec.allOnes_xor]
  exact congrArg (fun z => pure (Value.int .u8 z)) (congrArg uv (ofInt_uv _))
theorem shr_u16 (x : BitVec 16) (yk : IntKind) (y : Int) (h : 0 ≤ y) : Op.shift .shr .u16 (uv x) yk y = pure (.int .u16 (uv (x >>> y.toNat))) := by
  unfold Op.shift
  rw [if_neg (by omega)]
  show pure (Value.int .u16 ((uv x).fdiv (2 ^ (min y.toNat 16)))) = _
  rw [fdiv_uv, shr_min]
theorem shl_u16 (x : Int) (yk : IntKind) (y : Int) (h : 0 ≤ y) : Op.shift .shl .u16 x yk y = pure (.int .u16 (uv (BitVec.ofInt 16 x <<< y.toNat))) := by
  unfold Op.shift
  rw [if_neg (by omega)]
  show pure (Value.int .u16 (IntKind.u16.wrap (x * 2 ^ (min y.toNat 16)))) = _
  rw [wrap_u16, mul_pow_min]
theorem not_u16 (x : BitVec 16) : Op.unary .xor (.int .u16 (uv x)) = pure (.int .u16 (uv (~~~x))) := by
  show Op.intBits .xor .u16 _ (uv x) = _
  unfold Op.intBits
  show pure (Value.int .u16 (IntKind.u16.wrap ((BitVec.ofInt 16 _ ^^^ BitVec.ofInt 16 (uv x)).toNat : Int))) = _
  rw [wrap_u16, ofInt_uv]
  have e : (BitVec.ofInt 16 (if IntKind.u16.signed = true then -1 else IntKind.u16.max)) = BitVec.allOnes 16 := by decide
  rw [e, BitVec.allOnes_xor]
  exact congrArg (fun z => pure (Value.int .u16 z)) (congrArg uv (ofInt_uv _))
theorem shr_u32 (x : BitVec 32) (yk : IntKind) (y : Int) (h : 0 ≤ y) : Op.shift .shr .u32 (uv x) yk y = pure (.int .u32 (uv (x >>> y.toNat))) := by
  unfold Op.shift
  rw [if_neg (by omega)]
  show pure (Value.int .u32 ((uv x).fdiv (2 ^ (min y.toNat 32)))) = _
  rw [fdiv_uv, shr_min]
theorem shl_u32 (x : Int) (yk : IntKind) (y : Int) (h : 0 ≤ y) : Op.shift .shl .u32 x yk y = pure (.int .u32 (uv (BitVec.ofInt 32 x <<< y.toNat))) := by
  unfold Op.shift
  rw [if_neg (by omega)]
  show pure (Value.int .u32 (IntKind.u32.wrap (x * 2 ^ (min y.toNat 32)))) = _
  rw [wrap_u32, mul_pow_min]
theorem not_u32 (x : BitVec 32) : Op.unary .xor (.int .u32 (uv x)) = pure (.int .u32 (uv (~~~x))) := by
  show Op.intBits .xor .u32 _ (uv x) = _
  unfold Op.intBits
  show pure (Value.int .u32 (IntKind.u32.wrap ((BitVec.ofInt 32 _ ^^^ BitVec.ofInt 32 (uv x)).toNat : Int))) = _
  rw [wrap_u32, ofInt_uv]
  have e : (BitVec.ofInt 32 (if IntKind.u32.signed = true then -1 else IntKind.u32.max)) = BitVec.allOnes 32 := by decide
  rw [e, BitVec.allOnes_xor]
  exact congrArg (fun z => pure (Value.int .u32 z)) (congrArg uv (ofInt_uv _))
theorem shr_u64 (x : BitVec 64) (yk : IntKind) (y : Int) (h : 0 ≤ y) : Op.shift .shr .u64 (uv x) yk y = pure (.int .u64 (uv (x >>> y.toNat))) := by
  unfold Op.shift
  rw [if_neg (by omega)]
  show pure (Value.int .u64 ((uv x).fdiv (2 ^ (min y.toNat 64)))) = _
  rw [fdiv_uv, shr_min]
theorem shl_u64 (x : Int) (yk : IntKind) (y : Int) (h : 0 ≤ y) : Op.shift .shl .u64 x yk y = pure (.int .u64 (uv (BitVec.ofInt 64 x <<< y.toNat))) := by
  unfold Op.shift
  rw [if_neg (by omega)]
  show pure (Value.int .u64 (IntKind.u64.wrap (x * 2 ^ (min y.toNat 64)))) = _
  rw [wrap_u64, mul_pow_min]
theorem not_u64 (x : BitVec 64) : Op.unary .xor (.int .u64 (uv x)) = pure (.int .u64 (uv (~~~x))) := by
  show Op.intBits .xor .u64 _ (uv x) = _
  unfold Op.intBits
  show pure (Value.int .u64 (IntKind.u64.wrap ((BitVec.ofInt 64 _ ^^^ BitVec.ofInt 64 (uv x)).toNat : Int))) = _
  rw [wrap_u64, ofInt_uv]
  have e : (BitVec.ofInt 64 (if IntKind.u64.signed = true then -1 else IntKind.u64.max)) = BitVec.allOnes 64 := by decide
  rw [e, BitVec.allOnes_xor]
  exact congrArg (fun z => pure (Value.int .u64 z)) (congrArg uv (ofInt_uv _))

theorem add_ofInt {n : Nat} (x y : BitVec n) : BitVec.ofInt n (uv x + uv y) = x + y := by rw [BitVec.ofInt_add, ofInt_uv, ofInt_uv]
theorem mul_ofInt {n : Nat} (x y : BitVec n) : BitVec.ofInt n (uv x * uv y) = x * y := by rw [BitVec.ofInt_mul, ofInt_uv, ofInt_uv]
theorem sub_ofInt {n : Nat} (x y : BitVec n) : BitVec.ofInt n (uv x - uv y) = x - y := by
  rw [Int.sub_eq_add_neg, BitVec.ofInt_add, BitVec.ofInt_neg, ofInt_uv, ofInt_uv, BitVec.sub_eq_add_neg]

theorem uv_beq {n : Nat} (x y : BitVec n) : (uv x == uv y) = (x == y) := by
  rw [Bool.eq_iff_iff, beq_iff_eq, beq_iff_eq]
  exact ⟨uv_inj, fun h => by rw [h]⟩
theorem uv_bne {n : Nat} (x y : BitVec n) : (uv x != uv y) = (x != y) := by unfold bne; rw [uv_beq]
theorem uv_eq_iff {n : Nat} (x y : BitVec n) : uv x = uv y ↔ x = y := ⟨uv_inj, fun h => by rw [h]⟩
theorem uv_lt_iff {n : Nat} (x y : BitVec n) : uv x < uv y ↔ x < y := by
  unfold uv; rw [BitVec.lt_def]; omega
theorem uv_le_iff {n : Nat} (x y : BitVec n) : uv x ≤ uv y ↔ x ≤ y := by
  unfold uv; rw [BitVec.le_def]; omega

/-! ### Against a number that is written out -/
theorem uv_beq_lit {n : Nat} (x : BitVec n) (z : Int) (h0 : 0 ≤ z) (h1 : z < (2 : Int) ^ n) : (uv x == z) = (x == BitVec.ofInt n z) := by
  rw [← uv_beq, uv_ofInt z h0 h1]
theorem uv_bne_lit {n : Nat} (x : BitVec n) (z : Int) (h0 : 0 ≤ z) (h1 : z < (2 : Int) ^ n) : (uv x != z) = (x != BitVec.ofInt n z) := by
  rw [← uv_bne, uv_ofInt z h0 h1]
theorem uv_eq_lit {n : Nat} (x : BitVec n) (z : Int) (h0 : 0 ≤ z) (h1 : z < (2 : Int) ^ n) : (uv x = z) ↔ (x = BitVec.ofInt n z) :=
  ⟨fun h => by rw [← h, ofInt_uv], fun h => by rw [h, uv_ofInt z h0 h1]⟩
theorem uv_lt_lit {n : Nat} (x : BitVec n) (z : Int) (h0 : 0 ≤ z) (h1 : z < (2 : Int) ^ n) : (uv x < z) ↔ (x < BitVec.ofInt n z) := by
  rw [← uv_lt_iff, uv_ofInt z h0 h1]
theorem lit_lt_uv {n : Nat} (x : BitVec n) (z : Int) (h0 : 0 ≤ z) (h1 : z < (2 : Int) ^ n) : (z < uv x) ↔ (BitVec.ofInt n z < x) := by
  rw [← uv_lt_iff, uv_ofInt z h0 h1]
theorem uv_le_lit {n : Nat} (x : BitVec n) (z : Int) (h0 : 0 ≤ z) (h1 : z < (2 : Int) ^ n) : (uv x ≤ z) ↔ (x ≤ BitVec.ofInt n z) := by
  rw [← uv_le_iff, uv_ofInt z h0 h1]
theorem lit_le_uv {n : Nat} (x : BitVec n) (z : Int) (h0 : 0 ≤ z) (h1 : z < (2 : Int) ^ n) : (z ≤ uv x) ↔ (BitVec.ofInt n z ≤ x) := by
  rw [← uv_le_iff, uv_ofInt z h0 h1]

theorem uv_tmod {n : Nat} (x : BitVec n) (z : Int) (h0 : 0 < z) (h1 : z < (2 : Int) ^ n) : (uv x).tmod z = uv (x % BitVec.ofInt n z) := by
  obtain ⟨k, rfl⟩ := Int.eq_ofNat_of_zero_le (Int.le_of_lt h0)
  have hk : k < 2 ^ n := by exact_mod_cast h1
  unfold uv
  rw [BitVec.ofInt_natCast, BitVec.toNat_umod, BitVec.toNat_ofNat, Nat.mod_eq_of_lt hk]
  exact (Int.ofNat_tmod _ _).symm
theorem ofInt_tdiv {n : Nat} (x : BitVec n) (z : Int) (h0 : 0 < z) (h1 : z < (2 : Int) ^ n) : BitVec.ofInt n ((uv x).tdiv z) = x / BitVec.ofInt n z := by
  obtain ⟨k, rfl⟩ := Int.eq_ofNat_of_zero_le (Int.le_of_lt h0)
  have hk : k < 2 ^ n := by exact_mod_cast h1
  have e : (uv x).tdiv (k : Int) = ((x.toNat / k : Nat) : Int) := Int.ofNat_tdiv _ _ |>.symm
  rw [e, BitVec.ofInt_natCast, BitVec.ofInt_natCast]
  apply BitVec.eq_of_toNat_eq
  rw [BitVec.toNat_udiv, BitVec.toNat_ofNat, BitVec.toNat_ofNat, Nat.mod_eq_of_lt hk, Nat.mod_eq_of_lt]
  exact Nat.lt_of_le_of_lt (Nat.div_le_self _ _) x.isLt

theorem ofInt_add_lit {n : Nat} (x : BitVec n) (z : Int) : BitVec.ofInt n (uv x + z) = x + BitVec.ofInt n z := by rw [BitVec.ofInt_add, ofInt_uv]
theorem ofInt_lit_add {n : Nat} (x : BitVec n) (z : Int) : BitVec.ofInt n (z + uv x) = BitVec.ofInt n z + x := by rw [BitVec.ofInt_add, ofInt_uv]
theorem ofInt_mul_lit {n : Nat} (x : BitVec n) (z : Int) : BitVec.ofInt n (uv x * z) = x * BitVec.ofInt n z := by rw [BitVec.ofInt_mul, ofInt_uv]
theorem ofInt_lit_mul {n : Nat} (x : BitVec n) (z : Int) : BitVec.ofInt n (z * uv x) = BitVec.ofInt n z * x := by rw [BitVec.ofInt_mul, ofInt_uv]
theorem ofInt_sub_lit {n : Nat} (x : BitVec n) (z : Int) : BitVec.ofInt n (uv x - z) = x - BitVec.ofInt n z := by
  rw [Int.sub_eq_add_neg, BitVec.ofInt_add, BitVec.ofInt_neg, ofInt_uv, BitVec.sub_eq_add_neg]

attribute [go_sem high] wrap_u8 wrap_u16 wrap_u32 wrap_u64 bits_and_u8 bits_or_u8 bits_xor_u8 bits_andNot_u8 bits_and_u32 bits_or_u32 bits_xor_u32 bits_andNot_u32 bits_and_u64 bits_or_u64 bits_xor_u64 bits_andNot_u64
attribute [go_sem high] shr_u8 shr_u16 shr_u32 shr_u64 shl_u8 shl_u16 shl_u32 shl_u64 not_u8 not_u16 not_u32 not_u64
attribute [go_sem] ofInt_uv ofInt_uv' add_ofInt mul_ofInt sub_ofInt uv_beq uv_bne uv_eq_iff uv_lt_iff uv_le_iff uv_toNat uv_nonneg ediv_uv ofInt_mul_pow ofInt_pow
attribute [go_sem low] uv_beq_lit uv_bne_lit uv_eq_lit uv_lt_lit lit_lt_uv uv_le_lit lit_le_uv uv_tmod ofInt_tdiv ofInt_add_lit ofInt_lit_add ofInt_mul_lit ofInt_lit_mul ofInt_sub_lit
end Go.Proofs.YtejpophjiinijaaDoor
