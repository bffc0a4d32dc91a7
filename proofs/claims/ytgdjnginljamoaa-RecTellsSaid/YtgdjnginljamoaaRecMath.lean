/- Versions as words, without the program. -/
namespace Go.Proofs.Ytgdjnginljamoaa.RM

/-- Word k of a text, n bytes of which are there. -/
def tw (f : Nat → BitVec 8) : Nat → Nat → BitVec 64
  | 0, _ => 0#64
  | n+1, k => if n / 8 = k then tw f n k ||| (f n).setWidth 64 <<< (n % 8 * 8) else tw f n k

theorem tw_bit (f : Nat → BitVec 8) (n k b : Nat) : (tw f n k).getLsbD b = (decide (b < 64) && decide (8 * k + b / 8 < n) && (f (8 * k + b / 8)).getLsbD (b % 8)) := by
  induction n with
  | zero => simp [tw]
  | succ n ih =>
    rw [tw]
    by_cases hb : b < 64
    · split
      · rename_i hk
        rw [BitVec.getLsbD_or, ih, BitVec.getLsbD_shiftLeft, BitVec.getLsbD_setWidth]
        by_cases h1 : b / 8 = n % 8
        · have e1 : 8 * k + b / 8 = n := by omega
          have e2 : b - n % 8 * 8 = b % 8 := by omega
          have e3 : ¬ b < n % 8 * 8 := by omega
          have e4 : b % 8 < 64 := by omega
          simp [e1, e2, e3, e4, hb]
        · rcases Nat.lt_or_ge b (n % 8 * 8) with h2 | h2
          · have e1 : 8 * k + b / 8 < n := by omega
            have e2 : 8 * k + b / 8 < n + 1 := by omega
            simp [h2, e1, e2, hb]
          · have e1 : ¬ 8 * k + b / 8 < n := by omega
            have e2 : ¬ 8 * k + b / 8 < n + 1 := by omega
            have e3 : (f n).getLsbD (b - n % 8 * 8) = false := BitVec.getLsbD_of_ge _ _ (by omega)
            simp [e1, e2, e3]
      · rename_i hk
        rw [ih]
        by_cases h1 : 8 * k + b / 8 = n
        · omega
        · have e : (8 * k + b / 8 < n) ↔ (8 * k + b / 8 < n + 1) := by omega
          simp only [e]
    · simp [hb, BitVec.getLsbD_of_ge _ b (by omega : 64 ≤ b)]

/-- Bytes that are not there are not asked. -/
theorem tw_congr {f g : Nat → BitVec 8} {n : Nat} (h : ∀ i, i < n → f i = g i) (k : Nat) : tw f n k = tw g n k := by
  apply BitVec.eq_of_getLsbD_eq
  intro b _
  rw [tw_bit, tw_bit]
  by_cases h1 : 8 * k + b / 8 < n
  · rw [h _ h1]
  · simp [h1]

/-- A byte is got back from its word. -/
theorem tw_byte (f : Nat → BitVec 8) (n i : Nat) : ((tw f n (i / 8)) >>> (i % 8 * 8)).setWidth 8 = if i < n then f i else 0#8 := by
  apply BitVec.eq_of_getLsbD_eq
  intro b hb
  rw [BitVec.getLsbD_setWidth, BitVec.getLsbD_ushiftRight, tw_bit]
  have e1 : (i % 8 * 8 + b) / 8 = i % 8 := by omega
  have e2 : 8 * (i / 8) + i % 8 = i := by omega
  have e3 : (i % 8 * 8 + b) % 8 = b := by omega
  have e4 : i % 8 * 8 + b < 64 := by omega
  rw [e1, e2, e3]
  split
  · simp_all
  · rename_i h
    simp [h]

/-- The document's word: from its last byte down. -/
def horner (f : Nat → BitVec 8) (n k : Nat) : Nat → BitVec 64
  | 0 => 0#64
  | j+1 => horner f n k j * 256#64 + (if 8 * k + (7 - j) < n then (f (8 * k + (7 - j))).setWidth 64 else 0#64)

theorem horner_eq (f : Nat → BitVec 8) (n k j : Nat) (hj : j ≤ 8) : horner f n k j = (tw f n k) >>> (8 * (8 - j)) := by
  induction j with
  | zero =>
    apply BitVec.eq_of_getLsbD_eq
    intro b hb
    rw [BitVec.getLsbD_ushiftRight, BitVec.getLsbD_of_ge (tw f n k) _ (by omega)]
    simp [horner]
  | succ j ih =>
    rw [horner, ih (by omega)]
    have e0 : ∀ x c : BitVec 64, c.toNat < 256 → x * 256#64 + c = x <<< 8 ||| c := by
      intro x c hc
      have h1 : x * 256#64 = x <<< 8 := by
        apply BitVec.eq_of_toNat_eq
        simp [BitVec.toNat_mul, BitVec.toNat_shiftLeft, Nat.shiftLeft_eq]
      have h2 : x <<< 8 &&& c = 0#64 := by
        apply BitVec.eq_of_getLsbD_eq
        intro b hb
        rw [BitVec.getLsbD_and, BitVec.getLsbD_shiftLeft]
        by_cases h8 : b < 8
        · simp [h8]
        · have : c.getLsbD b = false := by
            rw [BitVec.getLsbD, Nat.testBit_lt_two_pow]
            exact Nat.lt_of_lt_of_le hc (Nat.pow_le_pow_right (n := 2) (by decide) (by omega : 8 ≤ b))
          simp [this]
      rw [h1, BitVec.add_eq_or_of_and_eq_zero _ _ h2]
    rw [e0 _ _ (by split <;> simp [BitVec.toNat_setWidth]; have := (f (8 * k + (7 - j))).isLt; omega)]
    apply BitVec.eq_of_getLsbD_eq
    intro b hb
    rw [BitVec.getLsbD_or, BitVec.getLsbD_shiftLeft, BitVec.getLsbD_ushiftRight, BitVec.getLsbD_ushiftRight, tw_bit, tw_bit]
    by_cases h8 : b < 8
    · have e1 : (8 * (8 - (j + 1)) + b) / 8 = 7 - j := by omega
      have e2 : (8 * (8 - (j + 1)) + b) % 8 = b := by omega
      have e3 : 8 * (8 - (j + 1)) + b < 64 := by omega
      rw [e1, e2]
      split <;> simp_all
      omega
    · have e1 : 8 * (8 - j) + (b - 8) = 8 * (8 - (j + 1)) + b := by omega
      have e4 : (if 8 * k + (7 - j) < n then (f (8 * k + (7 - j))).setWidth 64 else 0#64).getLsbD b = false := by
        split
        · rw [BitVec.getLsbD_setWidth, BitVec.getLsbD_of_ge _ b (by omega)]; simp
        · simp
      rw [e1, e4]
      simp [h8, hb]
theorem horner_all (f : Nat → BitVec 8) (n k : Nat) : horner f n k 8 = tw f n k := by
  rw [horner_eq f n k 8 (Nat.le_refl _)]; simp

/-- The first word. -/
def w0 (n : Nat) (gone : Bool) : BitVec 64 := 3#64 ||| BitVec.ofNat 64 n <<< 16 ||| (if gone then 256#64 else 0#64)
/-- All words, n bytes of the text being there. -/
def ws (h st nx : BitVec 64) (f : Nat → BitVec 8) (n : Nat) : List (BitVec 64) := [h, st, nx, tw f n 0, tw f n 1, tw f n 2, tw f n 3, tw f n 4]
theorem ws_set (h st nx : BitVec 64) (f : Nat → BitVec 8) (n : Nat) (hn : n < 40) :
    (ws h st nx f n).set (3 + n / 8) ((ws h st nx f n).getD (3 + n / 8) 0#64 ||| (f n).setWidth 64 <<< (n % 8 * 8)) = ws h st nx f (n + 1) := by
  have : n / 8 = 0 ∨ n / 8 = 1 ∨ n / 8 = 2 ∨ n / 8 = 3 ∨ n / 8 = 4 := by omega
  rcases this with h1 | h1 | h1 | h1 | h1 <;> simp [ws, tw, h1]
theorem w0_facts (n : Nat) (hn : n ≤ 40) (g : Bool) : (w0 n g) >>> 16 = BitVec.ofNat 64 n ∧ ((w0 n g &&& 256#64) != 0#64) = g ∧ (w0 n g / 256#64 % 256#64 == 1#64) = g := by
  have : ∀ n, n < 41 → ∀ g : Bool, (w0 n g) >>> 16 = BitVec.ofNat 64 n ∧ ((w0 n g &&& 256#64) != 0#64) = g ∧ (w0 n g / 256#64 % 256#64 == 1#64) = g := by decide +kernel
  exact this n (by omega) g
theorem w0_ref (n : Nat) (hn : n ≤ 40) : 3#64 + 65536#64 * BitVec.ofNat 64 n = w0 n false ∧ w0 n false + 256#64 = w0 n true := by
  have : ∀ n, n < 41 → 3#64 + 65536#64 * BitVec.ofNat 64 n = w0 n false ∧ w0 n false + 256#64 = w0 n true := by decide +kernel
  exact this n (by omega)
theorem ws_take (h st nx : BitVec 64) (f : Nat → BitVec 8) (n k : Nat) (hk : k < 5) : (ws h st nx f n).take (3 + k) ++ [tw f n k] = (ws h st nx f n).take (3 + (k + 1)) := by
  have : k = 0 ∨ k = 1 ∨ k = 2 ∨ k = 3 ∨ k = 4 := by omega
  rcases this with h1 | h1 | h1 | h1 | h1 <;> subst h1 <;> rfl
end Go.Proofs.Ytgdjnginljamoaa.RM
