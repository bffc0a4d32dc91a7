/- CRC-32C on bit vectors: four bits at once by the table are four single steps; the step is linear and injective; what follows for pieces, differences and turned bits. No program in sight. -/
import Derived.WalkKit
namespace Go.Proofs.YtejpophjiinijaaDoor.Crc
set_option linter.unusedVariables false
set_option linter.unusedSimpArgs false
set_option maxRecDepth 100000

def poly : BitVec 32 := 2197175160#32
/-- One step of one bit. -/
def r1 (x : BitVec 32) : BitVec 32 := x >>> 1 ^^^ (if x.getLsbD 0 then poly else 0#32)
def four (k : BitVec 32) : BitVec 32 := r1 (r1 (r1 (r1 k)))
def step4 (x : BitVec 32) : BitVec 32 := x >>> 4 ^^^ four (x &&& 15#32)

theorem r1_xor (x y : BitVec 32) : r1 (x ^^^ y) = r1 x ^^^ r1 y := by
  unfold r1
  rw [BitVec.ushiftRight_xor_distrib, BitVec.getLsbD_xor]
  cases hx : x.getLsbD 0 <;> cases hy : y.getLsbD 0 <;> simp
  · ac_rfl
  · ac_rfl
  · have e : x >>> 1 ^^^ poly ^^^ (y >>> 1 ^^^ poly) = x >>> 1 ^^^ y >>> 1 ^^^ (poly ^^^ poly) := by ac_rfl
    rw [e, BitVec.xor_self, BitVec.xor_zero]

theorem r1_zero : r1 0#32 = 0#32 := by decide

theorem r1_even (x : BitVec 32) (h : x.getLsbD 0 = false) : r1 x = x >>> 1 := by
  unfold r1; rw [h]; simp

theorem r1_eq_zero {x : BitVec 32} (h : r1 x = 0#32) : x = 0#32 := by
  cases h0 : x.getLsbD 0 with
  | true =>
    exfalso
    have h31 := congrArg (fun z : BitVec 32 => z.getLsbD 31) h
    simp only [r1, h0, if_true, BitVec.getLsbD_xor, BitVec.getLsbD_ushiftRight] at h31
    have e1 : x.getLsbD (1 + 31) = false := BitVec.getLsbD_of_ge _ _ (by decide)
    rw [e1] at h31
    exact absurd h31 (by decide)
  | false =>
    rw [r1_even x h0] at h
    apply BitVec.eq_of_getLsbD_eq
    intro i hi
    rw [BitVec.getLsbD_zero]
    cases i with
    | zero => exact h0
    | succ i =>
      have := congrArg (fun z : BitVec 32 => z.getLsbD i) h
      simp only [BitVec.getLsbD_ushiftRight, BitVec.getLsbD_zero] at this
      rw [Nat.add_comm] at this
      exact this

theorem r1_div (x : BitVec 32) : r1 x = if (x % 2#32 == 1#32) = true then x / 2#32 ^^^ 2197175160#32 else x / 2#32 := by
  have e1 : x >>> 1 = x / 2#32 := by
    apply BitVec.eq_of_toNat_eq
    rw [BitVec.toNat_ushiftRight, BitVec.toNat_udiv, Nat.shiftRight_eq_div_pow]; rfl
  have e2 : x.getLsbD 0 = (x % 2#32 == 1#32) := by
    rw [Bool.eq_iff_iff, beq_iff_eq, ← BitVec.toNat_inj, BitVec.toNat_umod]
    show x.toNat.testBit 0 = true ↔ x.toNat % 2 = 1
    rw [Nat.testBit_zero, decide_eq_true_eq]
  unfold r1
  rw [e1, e2]
  split
  · rfl
  · rw [BitVec.xor_zero]

/-- n steps. -/
def rn : Nat → BitVec 32 → BitVec 32
  | 0, x => x
  | n + 1, x => rn n (r1 x)

theorem rn_xor (n : Nat) : ∀ x y : BitVec 32, rn n (x ^^^ y) = rn n x ^^^ rn n y := by
  induction n with
  | zero => intro x y; rfl
  | succ n ih => intro x y; rw [rn, r1_xor, ih]; rfl
theorem rn_zero (n : Nat) : rn n 0#32 = 0#32 := by
  induction n with
  | zero => rfl
  | succ n ih => rw [rn, r1_zero, ih]
theorem rn_eq_zero (n : Nat) : ∀ {x : BitVec 32}, rn n x = 0#32 → x = 0#32 := by
  induction n with
  | zero => intro x h; exact h
  | succ n ih => intro x h; exact r1_eq_zero (ih h)
theorem rn_inj (n : Nat) {x y : BitVec 32} (h : rn n x = rn n y) : x = y := by
  have : rn n (x ^^^ y) = 0#32 := by rw [rn_xor, h, BitVec.xor_self]
  exact BitVec.xor_eq_zero_iff.1 (rn_eq_zero n this)
theorem rn_add (m n : Nat) : ∀ x, rn (m + n) x = rn n (rn m x) := by
  induction m with
  | zero => intro x; rw [Nat.zero_add]; rfl
  | succ m ih => intro x; rw [Nat.add_right_comm]; exact ih (r1 x)

theorem rn_succ (n : Nat) (x : BitVec 32) : rn (n + 1) x = r1 (rn n x) := by rw [rn_add]; rfl
theorem xor_ones (x : BitVec 32) : x ^^^ 4294967295#32 = ~~~x := by
  have e : (4294967295#32) = BitVec.allOnes 32 := by decide
  rw [e, BitVec.xor_allOnes]

/-- n steps of a number whose lowest n bits are 0. -/
theorem rn_shift (n : Nat) : ∀ x : BitVec 32, (∀ i, i < n → x.getLsbD i = false) → rn n x = x >>> n := by
  induction n with
  | zero => intro x _; simp [rn]
  | succ n ih =>
    intro x h
    rw [rn, r1_even x (h 0 (by omega)), ih _ (fun i hi => by rw [BitVec.getLsbD_ushiftRight]; exact h _ (by omega)), ← BitVec.shiftRight_add, Nat.add_comm]

theorem split4 (x : BitVec 32) : x = (x &&& ~~~15#32) ^^^ (x &&& 15#32) := by
  apply BitVec.eq_of_getLsbD_eq
  intro i hi
  simp only [BitVec.getLsbD_xor, BitVec.getLsbD_and, BitVec.getLsbD_not, hi, decide_true, Bool.true_and]
  cases x.getLsbD i <;> cases (15#32).getLsbD i <;> rfl

theorem hi4 (x : BitVec 32) : (x &&& ~~~15#32) >>> 4 = x >>> 4 := by
  rw [BitVec.ushiftRight_and_distrib]
  have e : (~~~15#32 : BitVec 32) >>> 4 = (BitVec.allOnes 32) >>> 4 := by decide
  rw [e, ← BitVec.ushiftRight_and_distrib, BitVec.and_allOnes]

theorem low4 (i : Nat) (h : i < 4) : (15#32).getLsbD i = true := by
  match i, h with
  | 0, _ => rfl
  | 1, _ => rfl
  | 2, _ => rfl
  | 3, _ => rfl

theorem step4_eq (x : BitVec 32) : step4 x = rn 4 x := by
  have h4 : rn 4 (x &&& ~~~15#32) = x >>> 4 := by
    rw [rn_shift 4 _ (fun i hi => by rw [BitVec.getLsbD_and, BitVec.getLsbD_not, low4 i hi]; simp), hi4]
  conv => rhs; rw [split4 x, rn_xor, h4]
  rfl

/-- A byte. -/
def byte (x : BitVec 32) (c : BitVec 8) : BitVec 32 := rn 8 (x ^^^ c.setWidth 32)
/-- Bytes. -/
def bytes (x : BitVec 32) (l : List (BitVec 8)) : BitVec 32 := l.foldl byte x
def next (s : BitVec 32) (l : List (BitVec 8)) : BitVec 32 := ~~~ bytes (~~~ s) l

theorem bytes_nil (x : BitVec 32) : bytes x [] = x := rfl
theorem bytes_append (x : BitVec 32) (a b : List (BitVec 8)) : bytes x (a ++ b) = bytes (bytes x a) b := List.foldl_append
theorem bytes_snoc (x : BitVec 32) (a : List (BitVec 8)) (c : BitVec 8) : bytes x (a ++ [c]) = byte (bytes x a) c := by rw [bytes_append]; rfl
theorem next_append (s : BitVec 32) (a b : List (BitVec 8)) : next (next s a) b = next s (a ++ b) := by
  unfold next; rw [BitVec.not_not, bytes_append]
theorem next_nil (s : BitVec 32) : next s [] = s := by unfold next; rw [bytes_nil, BitVec.not_not]

theorem byte_steps (x : BitVec 32) (c : BitVec 8) : byte x c = step4 (step4 (x ^^^ c.setWidth 32)) := by
  rw [step4_eq, step4_eq, ← rn_add]; rfl

theorem bytes_take (x : BitVec 32) (l : List (BitVec 8)) (k : Nat) (h : k < l.length) : bytes x (l.take (k + 1)) = step4 (step4 (bytes x (l.take k) ^^^ l[k].setWidth 32)) := by
  rw [← byte_steps, ← bytes_snoc, List.take_succ_eq_append_getElem h]

theorem byte_xor (x y : BitVec 32) (c d : BitVec 8) : byte (x ^^^ y) (c ^^^ d) = byte x c ^^^ byte y d := by
  unfold byte
  rw [BitVec.setWidth_xor, ← rn_xor]
  congr 1; ac_rfl
theorem byte_eq_zero {x : BitVec 32} (h : byte x 0#8 = 0#32) : x = 0#32 := by
  unfold byte at h
  have := rn_eq_zero 8 h
  simpa using this
theorem byte_zero : byte 0#32 0#8 = 0#32 := by decide

/-- Texts of one length, exclusive or. -/
def xors : List (BitVec 8) → List (BitVec 8) → List (BitVec 8) := List.zipWith (· ^^^ ·)

theorem bytes_xor : ∀ (a b : List (BitVec 8)) (x y : BitVec 32), a.length = b.length → bytes (x ^^^ y) (xors a b) = bytes x a ^^^ bytes y b := by
  intro a
  induction a with
  | nil => intro b x y h; cases b with
    | nil => rfl
    | cons _ _ => cases h
  | cons c a ih => intro b x y h; cases b with
    | nil => cases h
    | cons d b =>
      show bytes (byte (x ^^^ y) (c ^^^ d)) (xors a b) = bytes (byte x c) a ^^^ bytes (byte y d) b
      rw [byte_xor]
      exact ih b _ _ (by simpa using h)

theorem bytes_zeros (n : Nat) : ∀ x : BitVec 32, bytes x (List.replicate n 0#8) = 0#32 → x = 0#32 := by
  induction n with
  | zero => intro x h; exact h
  | succ n ih => intro x h; rw [List.replicate_succ] at h; exact byte_eq_zero (ih _ h)
theorem bytes_zeros_zero (n : Nat) : bytes 0#32 (List.replicate n 0#8) = 0#32 := by
  induction n with
  | zero => rfl
  | succ n ih => rw [List.replicate_succ]; show bytes (byte 0#32 0#8) _ = _; rw [byte_zero]; exact ih

theorem xors_self : ∀ c : List (BitVec 8), xors c c = List.replicate c.length 0#8 := by
  intro c
  induction c with
  | nil => rfl
  | cons a c ih => show (a ^^^ a) :: xors c c = _; rw [ih, BitVec.xor_self]; rfl

/-- Two sums behind like bytes differ as behind zeros. -/
theorem bytes_same (x y : BitVec 32) (c : List (BitVec 8)) : bytes x c ^^^ bytes y c = bytes (x ^^^ y) (List.replicate c.length 0#8) := by
  rw [← xors_self, bytes_xor _ _ _ _ rfl]

theorem not_xor_not (a b : BitVec 32) : ~~~a ^^^ ~~~b = a ^^^ b := by
  apply BitVec.eq_of_getLsbD_eq
  intro i hi
  simp only [BitVec.getLsbD_xor, BitVec.getLsbD_not, hi, decide_true, Bool.true_and]
  cases a.getLsbD i <;> cases b.getLsbD i <;> rfl
theorem not_xor_one (a b : BitVec 32) : ~~~(a ^^^ b) = ~~~a ^^^ b := by
  apply BitVec.eq_of_getLsbD_eq
  intro i hi
  simp only [BitVec.getLsbD_xor, BitVec.getLsbD_not, hi, decide_true, Bool.true_and]
  cases a.getLsbD i <;> cases b.getLsbD i <;> rfl

theorem next_same (x y : BitVec 32) (c : List (BitVec 8)) : next x c ^^^ next y c = bytes (x ^^^ y) (List.replicate c.length 0#8) := by
  unfold next
  rw [not_xor_not, bytes_same, not_xor_not]
theorem next_inj {x y : BitVec 32} {c : List (BitVec 8)} (h : next x c = next y c) : x = y := by
  have e := next_same x y c
  rw [h, BitVec.xor_self] at e
  exact BitVec.xor_eq_zero_iff.1 (bytes_zeros _ _ e.symm)

/-- CrcZeros. -/
theorem zeros_law (x y : BitVec 32) (c : List (BitVec 8)) : next x c ^^^ next y c = next x (List.replicate c.length 0#8) ^^^ next y (List.replicate c.length 0#8) := by
  rw [next_same, next_same, List.length_replicate]
/-- CrcSums. -/
theorem sums_law (x y z : BitVec 32) (a b c : List (BitVec 8)) (h1 : a.length = b.length) (h2 : b.length = c.length) :
    next (x ^^^ y ^^^ z) (xors (xors a b) c) = next x a ^^^ next y b ^^^ next z c := by
  unfold next
  have e1 : ~~~(x ^^^ y ^^^ z) = (~~~x ^^^ ~~~y) ^^^ ~~~z := by rw [not_xor_not, BitVec.xor_comm, not_xor_one, BitVec.xor_comm]
  rw [e1, bytes_xor _ _ _ _ (by simp [xors, h1, h2]), bytes_xor _ _ _ _ h1]
  rw [BitVec.xor_comm _ (bytes (~~~z) c), not_xor_one, BitVec.xor_comm (~~~bytes (~~~z) c), not_xor_not]
/-- CrcByte. -/
theorem byte_law (s : BitVec 32) (c d : BitVec 8) : next s [c] = next s [d] ↔ c = d := by
  constructor
  · intro h
    have h' : byte (~~~s) c = byte (~~~s) d := by
      have := congrArg (~~~ ·) h
      simpa [next, bytes] using this
    have := rn_inj 8 h'
    have h3 : c.setWidth 32 = d.setWidth 32 := by
      have := congrArg (~~~s ^^^ ·) this
      simpa [← BitVec.xor_assoc] using this
    have := congrArg (BitVec.setWidth 8) h3
    simpa using this
  · intro h; rw [h]

/-! ### Bits, one behind the other -/
def bitw (b : Bool) : BitVec 32 := if b then 1#32 else 0#32
def feed (x : BitVec 32) (l : List Bool) : BitVec 32 := l.foldl (fun x b => r1 (x ^^^ bitw b)) x
theorem feed_append (x : BitVec 32) (a b : List Bool) : feed x (a ++ b) = feed (feed x a) b := List.foldl_append

theorem feed_zeros (n : Nat) : ∀ x, feed x (List.replicate n false) = rn n x := by
  induction n with
  | zero => intro x; rfl
  | succ n ih => intro x; rw [List.replicate_succ]; show feed (r1 (x ^^^ 0#32)) _ = _; rw [BitVec.xor_zero, ih]; rfl

/-- The lowest n bits of a word. -/
def lows (y : BitVec 32) (n : Nat) : List Bool := (List.range n).map y.getLsbD

theorem r1_low (z : BitVec 32) : r1 (z >>> 1 <<< 1) = z >>> 1 := by
  rw [r1_even _ (by simp)]
  apply BitVec.eq_of_getLsbD_eq
  intro i hi
  simp only [BitVec.getLsbD_ushiftRight, BitVec.getLsbD_shiftLeft]
  by_cases h : 1 + i < 32
  · simp [h]
  · have : z.getLsbD (1 + i) = false := BitVec.getLsbD_of_ge _ _ (by omega)
    simp [h, this]

theorem low_split (y : BitVec 32) : y = bitw (y.getLsbD 0) ^^^ (y >>> 1 <<< 1) := by
  apply BitVec.eq_of_getLsbD_eq
  intro i hi
  rw [BitVec.getLsbD_xor, BitVec.getLsbD_shiftLeft, BitVec.getLsbD_ushiftRight]
  cases i with
  | zero => cases h : y.getLsbD 0 <;> simp [bitw]
  | succ i =>
    have e : 1 + (i + 1 - 1) = i + 1 := by omega
    rw [e]
    have h1 : (bitw (y.getLsbD 0)).getLsbD (i + 1) = false := by
      unfold bitw; split
      · simp
      · simp
    rw [h1]; simp [hi]

theorem feed_lows (n : Nat) : ∀ (x y : BitVec 32), (∀ i, n ≤ i → y.getLsbD i = false) → feed x (lows y n) = rn n (x ^^^ y) := by
  induction n with
  | zero =>
    intro x y h
    have : y = 0#32 := by apply BitVec.eq_of_getLsbD_eq; intro i _; rw [h i (by omega), BitVec.getLsbD_zero]
    rw [this]; simp [lows, feed, rn]
  | succ n ih =>
    intro x y h
    have e : lows y (n + 1) = y.getLsbD 0 :: lows (y >>> 1) n := by
      unfold lows
      rw [List.range_succ_eq_map, List.map_cons, List.map_map]
      congr 1
      apply List.map_congr_left
      intro i _
      simp [BitVec.getLsbD_ushiftRight, Nat.add_comm]
    rw [e]
    show feed (r1 (x ^^^ bitw (y.getLsbD 0))) (lows (y >>> 1) n) = rn n (r1 (x ^^^ y))
    rw [ih _ _ (fun i hi => by rw [BitVec.getLsbD_ushiftRight]; exact h _ (by omega))]
    congr 1
    conv => rhs; rw [low_split y, ← BitVec.xor_assoc, r1_xor, r1_low]

def bits8 (c : BitVec 8) : List Bool := (List.range 8).map c.getLsbD

theorem byte_feed (x : BitVec 32) (c : BitVec 8) : byte x c = feed x (bits8 c) := by
  have e : bits8 c = lows (c.setWidth 32) 8 := by
    unfold bits8 lows
    apply List.map_congr_left
    intro i hi
    have : i < 8 := by simpa using hi
    rw [BitVec.getLsbD_setWidth]; simp; omega
  rw [e, feed_lows 8 _ _ (fun i hi => by rw [BitVec.getLsbD_setWidth, BitVec.getLsbD_of_ge _ _ hi]; simp)]
  rfl

def bitsOf (l : List (BitVec 8)) : List Bool := l.flatMap bits8
theorem bytes_feed : ∀ (l : List (BitVec 8)) (x : BitVec 32), bytes x l = feed x (bitsOf l) := by
  intro l
  induction l with
  | nil => intro x; rfl
  | cons c l ih =>
    intro x
    show bytes (byte x c) l = feed x (bits8 c ++ bitsOf l)
    rw [feed_append, ← byte_feed, ih]

/-- A stream of bits with just the 32 bits of a word other than 0 somewhere in it, has a sum other than 0. -/
theorem feed_word (k m : Nat) (y : BitVec 32) (h : y ≠ 0#32) : feed 0#32 (List.replicate k false ++ lows y 32 ++ List.replicate m false) ≠ 0#32 := by
  intro e
  rw [feed_append, feed_append, feed_zeros, feed_zeros, rn_zero, feed_lows 32 _ _ (fun i hi => BitVec.getLsbD_of_ge _ _ hi), BitVec.zero_xor] at e
  exact h (rn_eq_zero _ (rn_eq_zero _ e))

/-- CrcTurned: two texts of one length that differ by the bits of a word other than 0, from a bit on. -/
theorem turned_law (a b : List (BitVec 8)) (k : Nat) (y : BitVec 32) (hy : y ≠ 0#32) (hl : a.length = b.length) (hk : k + 32 ≤ 8 * a.length)
    (hd : ∀ i, (bitsOf (xors a b)).getD i false = (decide (k ≤ i) && decide (i < k + 32) && y.getLsbD (i - k))) (s : BitVec 32) : next s a ≠ next s b := by
  intro e
  have e2 : bytes 0#32 (xors a b) = 0#32 := by
    have := bytes_xor a b (~~~s) (~~~s) hl
    rw [BitVec.xor_self] at this
    rw [this]
    have e3 : bytes (~~~s) a = bytes (~~~s) b := by
      have := congrArg (~~~ ·) e
      simpa [next] using this
    rw [e3, BitVec.xor_self]
  rw [bytes_feed] at e2
  have hlen : ∀ l : List (BitVec 8), (bitsOf l).length = 8 * l.length := by
    intro l
    induction l with
    | nil => rfl
    | cons c l ih => show (bits8 c ++ bitsOf l).length = _; rw [List.length_append, ih]; simp [bits8]; omega
  have hx : (xors a b).length = a.length := by simp [xors, hl]
  have e4 : bitsOf (xors a b) = List.replicate k false ++ lows y 32 ++ List.replicate (8 * a.length - (k + 32)) false := by
    apply List.ext_getElem
    · rw [hlen, hx]; simp [lows]; omega
    · intro i h1 h2
      have h3 := hd i
      rw [List.getD_eq_getElem?_getD, List.getElem?_eq_getElem h1, Option.getD_some] at h3
      rw [h3]
      rw [hlen, hx] at h1
      rw [List.getElem_append]
      split
      · rename_i hi
        rw [List.getElem_append]
        split
        · rename_i hi2
          simp at hi2
          simp; omega
        · rename_i hi2
          simp at hi2 hi
          simp [lows] at hi ⊢
          have h5 : k ≤ i := hi2
          have h6 : i < k + 32 := by omega
          simp [h5, h6]
      · rename_i hi
        simp [lows] at hi
        simp; omega
  rw [e4] at e2
  exact feed_word _ _ _ hy e2

/-! ### Turning the bits of a word, one after the other -/
def turn (l : List (BitVec 8)) (k : Nat) (y : BitVec 32) : Nat → List (BitVec 8)
  | 0 => l
  | m + 1 => if y.getLsbD m then (turn l k y m).set ((k + m) / 8) ((turn l k y m).getD ((k + m) / 8) 0#8 ^^^ (1#8 <<< ((k + m) % 8))) else turn l k y m

theorem turn_length (l : List (BitVec 8)) (k : Nat) (y : BitVec 32) (m : Nat) : (turn l k y m).length = l.length := by
  induction m with
  | zero => rfl
  | succ m ih => unfold turn; split <;> simp [ih]

theorem one_shl (i r : Nat) (hi : i < 8) (hr : r < 8) : (1#8 <<< i).getLsbD r = decide (r = i) := by
  have h : ∀ i, i < 8 → ∀ r, r < 8 → (1#8 <<< i).getLsbD r = decide (r = i) := by decide
  exact h i hi r hr

theorem turn_bit (l : List (BitVec 8)) (k : Nat) (y : BitVec 32) (m : Nat) (hk : k + m ≤ 8 * l.length) (q r : Nat) (hr : r < 8) :
    ((turn l k y m).getD q 0#8).getLsbD r = ((l.getD q 0#8).getLsbD r ^^ (decide (k ≤ 8 * q + r) && decide (8 * q + r < k + m) && y.getLsbD (8 * q + r - k))) := by
  induction m with
  | zero =>
    have : (decide (k ≤ 8 * q + r) && decide (8 * q + r < k + 0)) = false := by
      rw [Bool.and_eq_false_iff, decide_eq_false_iff_not, decide_eq_false_iff_not]; omega
    rw [this]; simp [turn]
  | succ m ih =>
    have ih := ih (by omega)
    have hq8 : (k + m) / 8 < l.length := by omega
    unfold turn
    by_cases hy : y.getLsbD m = true
    · rw [if_pos hy]
      by_cases hq : q = (k + m) / 8
      · have e1 : ((turn l k y m).set ((k + m) / 8) ((turn l k y m).getD ((k + m) / 8) 0#8 ^^^ (1#8 <<< ((k + m) % 8)))).getD q 0#8 = (turn l k y m).getD q 0#8 ^^^ (1#8 <<< ((k + m) % 8)) := by
          subst hq
          rw [List.getD_eq_getElem?_getD, List.getElem?_set_self (by rw [turn_length]; exact hq8)]
          rfl
        rw [e1, BitVec.getLsbD_xor, ih, one_shl _ _ (Nat.mod_lt _ (by decide)) hr, Bool.xor_assoc]
        congr 1
        by_cases hrm : r = (k + m) % 8
        · have e2 : 8 * q + r = k + m := by omega
          rw [e2]
          have e3 : k + m - k = m := by omega
          rw [e3, hy]
          simp [hrm]
        · have e2 : 8 * q + r ≠ k + m := by omega
          rw [decide_eq_false hrm, Bool.xor_false]
          congr 2
          rw [decide_eq_decide]; omega
      · have e1 : ((turn l k y m).set ((k + m) / 8) ((turn l k y m).getD ((k + m) / 8) 0#8 ^^^ (1#8 <<< ((k + m) % 8)))).getD q 0#8 = (turn l k y m).getD q 0#8 := by
          rw [List.getD_eq_getElem?_getD, List.getElem?_set_ne (fun h => hq h.symm), List.getD_eq_getElem?_getD]
        rw [e1, ih]
        congr 3
        rw [decide_eq_decide]; omega
    · rw [if_neg hy, ih]
      congr 1
      by_cases e2 : 8 * q + r = k + m
      · rw [e2]
        have e3 : k + m - k = m := by omega
        rw [e3]
        simp [hy]
      · congr 2
        rw [decide_eq_decide]; omega

theorem bitsOf_getD : ∀ (l : List (BitVec 8)) (j : Nat), (bitsOf l).getD j false = (l.getD (j / 8) 0#8).getLsbD (j % 8) := by
  intro l
  induction l with
  | nil => intro j; simp [bitsOf]
  | cons c l ih =>
    intro j
    show (bits8 c ++ bitsOf l).getD j false = _
    rw [List.getD_eq_getElem?_getD, List.getElem?_append]
    have h8 : (bits8 c).length = 8 := by simp [bits8]
    rw [h8]
    split
    · rename_i h
      have e1 : j / 8 = 0 := by omega
      have e2 : j % 8 = j := by omega
      rw [e1, e2]
      simp [bits8, h]
    · rename_i h
      have e1 : j / 8 = (j - 8) / 8 + 1 := by omega
      have e2 : j % 8 = (j - 8) % 8 := by omega
      have h2 := ih (j - 8)
      rw [List.getD_eq_getElem?_getD] at h2
      rw [h2, e1, e2]
      simp

theorem xors_getD (a b : List (BitVec 8)) (h : a.length = b.length) (q : Nat) : (xors a b).getD q 0#8 = a.getD q 0#8 ^^^ b.getD q 0#8 := by
  rcases Nat.lt_or_ge q a.length with h' | h'
  · have hb : q < b.length := by omega
    have e : q < (List.zipWith (· ^^^ ·) a b).length := by simp; omega
    simp [xors, List.getD_eq_getElem?_getD, h', hb, List.getElem?_eq_getElem e]
  · have hb : b.length ≤ q := by omega
    have e : (List.zipWith (· ^^^ ·) a b).length ≤ q := by simp; omega
    simp [xors, List.getD_eq_getElem?_getD, List.getElem?_eq_none h', List.getElem?_eq_none hb, List.getElem?_eq_none e]

/-- CrcTurned, of the bits turned one after the other. -/
theorem turned (l : List (BitVec 8)) (k : Nat) (y : BitVec 32) (hy : y ≠ 0#32) (hk : k + 32 ≤ 8 * l.length) (s : BitVec 32) : next s l ≠ next s (turn l k y 32) := by
  refine turned_law l (turn l k y 32) k y hy (turn_length _ _ _ _).symm hk (fun j => ?_) s
  rw [bitsOf_getD, xors_getD _ _ (turn_length _ _ _ _).symm, BitVec.getLsbD_xor, turn_bit l k y 32 hk _ _ (Nat.mod_lt _ (by decide))]
  have e : 8 * (j / 8) + j % 8 = j := by omega
  rw [e]
  cases (l.getD (j / 8) 0#8).getLsbD (j % 8) <;> simp
end Go.Proofs.YtejpophjiinijaaDoor.Crc
