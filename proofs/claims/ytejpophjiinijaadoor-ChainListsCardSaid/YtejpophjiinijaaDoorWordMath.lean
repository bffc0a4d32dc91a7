/- Bits of words: the plain law, no program in sight. -/
import Derived.WalkKit
namespace Go.Proofs.YtejpophjiinijaaDoor.WM
set_option linter.unusedVariables false
set_option linter.unusedSimpArgs false
set_option maxRecDepth 100000

/-- As many bits 1. -/
def ones (s : Nat) : BitVec 64 := (1#64 <<< s) - 1#64
theorem ones_bit (s i : Nat) (hs : s ≤ 64) (hi : i < 64) : (ones s).getLsbD i = decide (i < s) := by
  have h1 : ones s = BitVec.ofNat 64 (2 ^ s - 1) := by
    apply BitVec.eq_of_toNat_eq
    unfold ones
    rw [BitVec.toNat_sub, BitVec.toNat_shiftLeft, BitVec.toNat_ofNat, BitVec.toNat_ofNat, Nat.shiftLeft_eq]
    rcases Nat.lt_or_ge s 64 with h | h
    · have hp : 2 ^ s < 2 ^ 64 := Nat.pow_lt_pow_right (by decide) h
      have h0 : 0 < 2 ^ s := Nat.two_pow_pos s
      simp only [Nat.reducePow] at hp ⊢
      omega
    · have : s = 64 := by omega
      subst this; decide
  rw [h1, BitVec.getLsbD_ofNat, Nat.testBit_two_pow_sub_one]
  simp [hi]

/-- Where some bits begin, and how many there are of them. -/
def lowM (low : Int) : Nat := (min (max low 0) 64).toNat
def sizeM (low size : Int) : Nat := (min (max size 0) (64 - lowM low)).toNat
def fieldM (n : BitVec 64) (low size : Int) : BitVec 64 := (n >>> lowM low) &&& ones (sizeM low size)
def withM (n : BitVec 64) (low size : Int) (v : BitVec 64) : BitVec 64 := (n &&& ~~~(ones (sizeM low size) <<< lowM low)) ||| ((v &&& ones (sizeM low size)) <<< lowM low)
theorem lowM_le (low : Int) : lowM low ≤ 64 := by unfold lowM; omega
theorem sizeM_le (low size : Int) : lowM low + sizeM low size ≤ 64 := by have := lowM_le low; unfold sizeM; omega
theorem lowM_nat (l : Nat) (h : l ≤ 64) : lowM l = l := by unfold lowM; omega
theorem sizeM_nat (l s : Nat) (h : l + s ≤ 64) : sizeM l s = s := by
  have : lowM l = l := lowM_nat l (by omega)
  unfold sizeM; rw [this]; omega

theorem field_bit (n : BitVec 64) (low size : Int) (i : Nat) : (fieldM n low size).getLsbD i = (decide (i < sizeM low size) && n.getLsbD (lowM low + i)) := by
  have := sizeM_le low size
  rcases Nat.lt_or_ge i 64 with hi | hi
  · unfold fieldM
    rw [BitVec.getLsbD_and, BitVec.getLsbD_ushiftRight, ones_bit _ _ (by omega) hi, Bool.and_comm]
  · rw [BitVec.getLsbD_of_ge _ _ hi, decide_eq_false (by omega), Bool.false_and]
theorem with_bit (n : BitVec 64) (low size : Int) (v : BitVec 64) (i : Nat) : (withM n low size v).getLsbD i = if lowM low ≤ i ∧ i < lowM low + sizeM low size then v.getLsbD (i - lowM low) else n.getLsbD i := by
  have h64 := sizeM_le low size
  rcases Nat.lt_or_ge i 64 with hi | hi
  · unfold withM
    rw [BitVec.getLsbD_or, BitVec.getLsbD_and, BitVec.getLsbD_not, BitVec.getLsbD_shiftLeft, BitVec.getLsbD_shiftLeft, BitVec.getLsbD_and]
    by_cases h1 : lowM low ≤ i
    · rw [ones_bit _ _ (by omega) (by omega)]
      have e1 : decide (i < lowM low) = false := by simpa using h1
      have e2 : decide (i < 64) = true := by simpa using hi
      rw [e1, e2]
      by_cases h2 : i < lowM low + sizeM low size
      · have e3 : decide (i - lowM low < sizeM low size) = true := by simp; omega
        rw [if_pos ⟨h1, h2⟩, e3]; simp
      · have e3 : decide (i - lowM low < sizeM low size) = false := by simp; omega
        rw [if_neg (fun h => h2 h.2), e3]; simp
    · have e1 : decide (i < lowM low) = true := by simp; omega
      rw [if_neg (fun h => h1 h.1), e1]; simp [hi]
  · rw [BitVec.getLsbD_of_ge _ _ hi, if_neg (by omega), BitVec.getLsbD_of_ge _ _ hi]

theorem ext {x y : BitVec 64} (h : ∀ i, i < 64 → x.getLsbD i = y.getLsbD i) : x = y := BitVec.eq_of_getLsbD_eq fun i hi => h i hi

/-! ### The reference's: bit by bit -/
def bitM (n : BitVec 64) (i : Int) : Bool := if i < 0 ∨ 63 < i then false else n.getLsbD i.toNat
theorem two_bit (k i : Nat) (hk : k < 64) : (BitVec.twoPow 64 k).getLsbD i = decide (k = i) := by
  rw [BitVec.getLsbD_twoPow]; simp [hk]
/-- A bit more. -/
theorem add_two (x : BitVec 64) (k : Nat) (hk : k < 64) (h : x.getLsbD k = false) (i : Nat) : (x + BitVec.twoPow 64 k).getLsbD i = (x.getLsbD i || decide (k = i)) := by
  rw [BitVec.add_eq_or_of_and_eq_zero _ _ (by
    apply ext; intro j hj
    rw [BitVec.getLsbD_and, two_bit k j hk]
    by_cases e : k = j
    · subst e; simp [h]
    · simp [e]), BitVec.getLsbD_or, two_bit k i hk]
/-- A bit less. -/
theorem sub_two (x : BitVec 64) (k : Nat) (hk : k < 64) (h : x.getLsbD k = true) (i : Nat) : (x - BitVec.twoPow 64 k).getLsbD i = (x.getLsbD i && !decide (k = i)) := by
  have e : x = (x &&& ~~~(BitVec.twoPow 64 k)) + BitVec.twoPow 64 k := by
    apply ext; intro j hj
    rw [add_two _ k hk (by simp [hk])]
    rw [BitVec.getLsbD_and, BitVec.getLsbD_not, two_bit k j hk]
    by_cases e : k = j
    · subst e; simp [h]
    · simp [e, hj]
  have e2 : x - BitVec.twoPow 64 k = x &&& ~~~(BitVec.twoPow 64 k) := by
    conv => lhs; rw [e]
    rw [BitVec.add_sub_cancel]
  rw [e2, BitVec.getLsbD_and, BitVec.getLsbD_not, two_bit k i hk]
  rcases Nat.lt_or_ge i 64 with hi | hi
  · simp [hi]
  · simp [BitVec.getLsbD_of_ge _ _ hi]
theorem bit_eq (n : BitVec 64) (k : Nat) (hk : k < 64) : (n / (BitVec.twoPow 64 k) % 2#64 == 1#64) = n.getLsbD k := by
  have h1 : (n / (BitVec.twoPow 64 k) % 2#64).toNat = n.toNat / 2 ^ k % 2 := by
    rw [BitVec.toNat_umod, BitVec.toNat_udiv, BitVec.toNat_twoPow, Nat.mod_eq_of_lt (Nat.pow_lt_pow_right (by decide) hk)]; rfl
  have h2 : n.getLsbD k = n.toNat.testBit k := rfl
  rw [h2, Nat.testBit_eq_decide_div_mod_eq, ← h1]
  rw [Bool.eq_iff_iff, beq_iff_eq, decide_eq_true_iff]
  exact ⟨fun h => by rw [h]; rfl, fun h => BitVec.eq_of_toNat_eq h⟩

/-- The reference's bits, the first k of them. -/
def refField (n : BitVec 64) (low : Nat) : Nat → BitVec 64
  | 0 => 0#64
  | k + 1 => if bitM n (low + k : Nat) then refField n low k + BitVec.twoPow 64 k else refField n low k
theorem bitM_nat (n : BitVec 64) (i : Nat) : bitM n (i : Nat) = n.getLsbD i := by
  unfold bitM
  split
  · rw [BitVec.getLsbD_of_ge _ _ (by omega)]
  · rfl
theorem refField_bit (n : BitVec 64) (low : Nat) : ∀ k, k ≤ 64 → ∀ i, (refField n low k).getLsbD i = (decide (i < k) && n.getLsbD (low + i)) := by
  intro k
  induction k with
  | zero => intro _ i; simp [refField]
  | succ k ih =>
    intro hk i
    have ih := ih (by omega)
    unfold refField
    rw [bitM_nat]
    split
    · rename_i hb
      rw [add_two _ _ (by omega) (by rw [ih]; simp), ih]
      by_cases e : k = i
      · subst e; simp [hb]
      · have : decide (i < k + 1) = decide (i < k) := decide_eq_decide.2 (by omega)
        rw [this]; simp [e]
    · rename_i hb
      rw [ih]
      by_cases e : k = i
      · subst e; simp [hb]
      · have : decide (i < k + 1) = decide (i < k) := decide_eq_decide.2 (by omega)
        rw [this]
/-- How many rounds the reference's loop makes. -/
def rounds (low size : Int) : Nat := if low < 64 then (min (max size 0) 64).toNat else 0
theorem refField_eq (n : BitVec 64) (low size : Int) : refField n (max low 0).toNat (rounds low size) = fieldM n low size := by
  apply ext; intro i hi
  rw [refField_bit _ _ _ (by unfold rounds; split <;> omega), field_bit]
  unfold rounds sizeM lowM
  by_cases h : low < 64
  · rw [if_pos h]
    have e : ((min (max low 0) 64).toNat) = (max low 0).toNat := by omega
    rw [e]
    by_cases h2 : (max low 0).toNat + i < 64
    · congr 1
      apply decide_eq_decide.2; omega
    · rw [BitVec.getLsbD_of_ge _ _ (by omega)]; simp
  · have h0 : (min (max size 0) (64 - ((min (max low 0) 64).toNat : Int))).toNat = 0 := by omega
    rw [if_neg h, h0]; simp

def withStep (n : BitVec 64) (at_ : Nat) (v : BitVec 64) (i : Nat) : BitVec 64 :=
  let n1 := if bitM n (at_ : Nat) then n - BitVec.twoPow 64 at_ else n
  if bitM v (i : Nat) then n1 + BitVec.twoPow 64 at_ else n1
def refWith (n : BitVec 64) (low : Nat) (v : BitVec 64) : Nat → BitVec 64
  | 0 => n
  | k + 1 => withStep (refWith n low v k) (low + k) v k
theorem withStep_bit (n : BitVec 64) (p : Nat) (hp : p < 64) (v : BitVec 64) (k i : Nat) : (withStep n p v k).getLsbD i = if p = i then v.getLsbD k else n.getLsbD i := by
  have h1 : ∀ i, (if bitM n (p : Nat) then n - BitVec.twoPow 64 p else n).getLsbD i = (n.getLsbD i && !decide (p = i)) := by
    intro i
    rw [bitM_nat]
    split
    · rename_i h; exact sub_two n p hp h i
    · rename_i h
      by_cases e : p = i
      · subst e; simp [h]
      · simp [e]
  unfold withStep
  simp only
  rw [bitM_nat]
  split
  · rename_i h
    rw [add_two _ p hp (by rw [h1]; simp), h1]
    by_cases e : p = i
    · subst e; simp [h]
    · simp [e]
  · rename_i h
    rw [h1]
    by_cases e : p = i
    · subst e; simp [h]
    · simp [e]
theorem refWith_bit (n : BitVec 64) (low : Nat) (v : BitVec 64) : ∀ k, low + k ≤ 64 → ∀ i, (refWith n low v k).getLsbD i = if low ≤ i ∧ i < low + k then v.getLsbD (i - low) else n.getLsbD i := by
  intro k
  induction k with
  | zero => intro _ i; rw [if_neg (by omega)]; rfl
  | succ k ih =>
    intro hk i
    unfold refWith
    rw [withStep_bit _ _ (by omega), ih (by omega)]
    by_cases e : low + k = i
    · subst e; rw [if_pos rfl, if_pos (by omega)]; congr 1; omega
    · rw [if_neg e]
      by_cases h : low ≤ i ∧ i < low + k
      · rw [if_pos h, if_pos (by omega)]
      · rw [if_neg h, if_neg (by omega)]
def roundsW (low size : Int) : Nat := if low < 64 then (min (max size 0) (64 - (max low 0))).toNat else 0
theorem refWith_eq (n : BitVec 64) (low size : Int) (v : BitVec 64) : refWith n (max low 0).toNat v (roundsW low size) = withM n low size v := by
  apply ext; intro i hi
  by_cases h : low < 64
  · have h1 : roundsW low size = (min (max size 0) (64 - (max low 0))).toNat := by unfold roundsW; rw [if_pos h]
    rw [refWith_bit _ _ _ _ (by rw [h1]; omega), with_bit, h1]
    unfold sizeM lowM
    have e : ((min (max low 0) 64).toNat) = (max low 0).toNat := by omega
    have e2 : (min (max size 0) (64 - (((max low 0).toNat : Nat) : Int))) = (min (max size 0) (64 - (max low 0))) := by omega
    rw [e, e2]
  · have h1 : roundsW low size = 0 := by unfold roundsW; rw [if_neg h]
    rw [h1, with_bit]
    unfold sizeM lowM
    rw [if_neg (by omega)]; rfl

/-! ### The lowest bit that is not set -/
/-- The first bit from k on, of so many more, that is not set. -/
def firstOff (n : BitVec 64) : Nat → Nat → Int
  | _, 0 => -1
  | k, m + 1 => if n.getLsbD k then firstOff n (k + 1) m else k
def lowOff (n : BitVec 64) (many : Int) : Int := firstOff n 0 (min (max many 0) 64).toNat
theorem firstOff_none (n : BitVec 64) : ∀ (m k : Nat), (∀ j, k ≤ j → j < k + m → n.getLsbD j = true) → firstOff n k m = -1
  | 0, _, _ => rfl
  | m + 1, k, h => by
    unfold firstOff
    rw [if_pos (h k (Nat.le_refl _) (by omega))]
    exact firstOff_none n m (k + 1) fun j h1 h2 => h j (by omega) (by omega)
theorem firstOff_some (n : BitVec 64) : ∀ (m k t : Nat), k ≤ t → t < k + m → (∀ j, k ≤ j → j < t → n.getLsbD j = true) → n.getLsbD t = false → firstOff n k m = t
  | 0, k, t, h1, h2, _, _ => by omega
  | m + 1, k, t, h1, h2, h3, h4 => by
    unfold firstOff
    by_cases e : k = t
    · subst e; rw [if_neg (by simp [h4])]
    · rw [if_pos (h3 k (Nat.le_refl _) (by omega))]
      exact firstOff_some n m (k + 1) t (by omega) (by omega) (fun j h5 h6 => h3 j (by omega) h6) h4
theorem firstOff_cases (n : BitVec 64) : ∀ (m k : Nat), (firstOff n k m = -1 ∧ ∀ j, k ≤ j → j < k + m → n.getLsbD j = true) ∨ ∃ t : Nat, firstOff n k m = t ∧ k ≤ t ∧ t < k + m ∧ n.getLsbD t = false ∧ ∀ j, k ≤ j → j < t → n.getLsbD j = true
  | 0, k => .inl ⟨rfl, fun j h1 h2 => by omega⟩
  | m + 1, k => by
    unfold firstOff
    by_cases h : n.getLsbD k = true
    · rw [if_pos h]
      rcases firstOff_cases n m (k + 1) with ⟨h1, h2⟩ | ⟨t, h1, h2, h3, h4, h5⟩
      · refine .inl ⟨h1, fun j h3 h4 => ?_⟩
        by_cases e : k = j
        · subst e; exact h
        · exact h2 j (by omega) (by omega)
      · refine .inr ⟨t, h1, by omega, by omega, h4, fun j h6 h7 => ?_⟩
        by_cases e : k = j
        · subst e; exact h
        · exact h5 j (by omega) h7
    · rw [if_neg h]
      exact .inr ⟨k, rfl, Nat.le_refl _, by omega, by simpa using h, fun j h1 h2 => by omega⟩
/-- What zeros behind the last bit that is set tell. -/
structure Zeros (x : BitVec 64) (t : Nat) : Prop where
  le : t ≤ 64
  low : ∀ j, j < t → x.getLsbD j = false
  at_ : t < 64 → x.getLsbD t = true
theorem lowOff_zeros (n : BitVec 64) (many : Int) (t : Nat) (h : Zeros (~~~n) t) : (if (t : Int) < min many 64 then (t : Int) else -1) = lowOff n many := by
  have hn : ∀ j, j < 64 → (~~~n).getLsbD j = !n.getLsbD j := fun j hj => by rw [BitVec.getLsbD_not]; simp [hj]
  unfold lowOff
  split
  · rename_i h1
    refine (firstOff_some n _ 0 t (by omega) (by omega) (fun j _ hj => ?_) ?_).symm
    · have := h.low j hj; rw [hn j (by have := h.le; omega)] at this; simpa using this
    · have := h.at_ (by omega); rw [hn t (by omega)] at this; simpa using this
  · rename_i h1
    refine (firstOff_none n _ 0 fun j _ hj => ?_).symm
    have := h.low j (by omega); rw [hn j (by omega)] at this; simpa using this

theorem two_mul (k : Nat) : BitVec.twoPow 64 k * 2#64 = BitVec.twoPow 64 (k + 1) := by
  have h : (2#64 : BitVec 64) = BitVec.twoPow 64 1 := by decide
  rw [h, BitVec.mul_twoPow_eq_shiftLeft]
  apply ext; intro i hi
  rw [BitVec.getLsbD_shiftLeft, BitVec.getLsbD_twoPow, BitVec.getLsbD_twoPow]
  by_cases h1 : i = k + 1
  · subst h1; simp [hi]; omega
  · have : ¬ k + 1 = i := by omega
    simp [this]; omega

/-! ### de Bruijn's table -/
def tab : List (BitVec 8) := [0, 1, 56, 2, 57, 49, 28, 3, 61, 58, 42, 50, 38, 29, 17, 4, 62, 47, 59, 36, 45, 43, 51, 22, 53, 39, 33, 30, 24, 18, 12, 5, 63, 55, 48, 27, 60, 41, 37, 16, 46, 35, 44, 21, 52, 32, 23, 11, 54, 26, 40, 15, 34, 20, 31, 10, 25, 14, 19, 9, 13, 8, 7, 6]
def tabAt (x : BitVec 64) : Nat := (tab.getD (((x &&& -x) * 285870213051353865#64) >>> 58).toNat 0#8).toNat
theorem low_exists (x : BitVec 64) (hx : x ≠ 0#64) : ∃ t, t < 64 ∧ x.getLsbD t = true ∧ ∀ j, j < t → x.getLsbD j = false := by
  have : ∃ t, t < 64 ∧ x.getLsbD t = true := by
    apply Classical.byContradiction
    intro h
    apply hx
    apply ext; intro i hi
    rw [BitVec.getLsbD_zero]
    cases hb : x.getLsbD i
    · rfl
    · exact absurd ⟨i, hi, hb⟩ h
  obtain ⟨t, ht, hb⟩ := this
  induction t using Nat.strongRecOn with
  | _ t ih =>
    by_cases h : ∃ j, j < t ∧ x.getLsbD j = true
    · obtain ⟨j, hj, hjb⟩ := h
      exact ih j hj (by omega) hjb
    · refine ⟨t, ht, hb, fun j hj => ?_⟩
      cases hjb : x.getLsbD j
      · rfl
      · exact absurd ⟨j, hj, hjb⟩ h
theorem and_neg (x : BitVec 64) (t : Nat) (ht : t < 64) (hb : x.getLsbD t = true) (hl : ∀ j, j < t → x.getLsbD j = false) : x &&& -x = BitVec.twoPow 64 t := by
  apply ext; intro i hi
  rw [BitVec.getLsbD_and, BitVec.getLsbD_neg, two_bit t i ht]
  rcases Nat.lt_trichotomy i t with h | h | h
  · rw [hl i h]; simp; omega
  · subst h
    have : ¬ ∃ j, j < i ∧ x.getLsbD j = true := by rintro ⟨j, hj, hjb⟩; rw [hl j hj] at hjb; cases hjb
    simp [hb, this]
  · have h2 : ∃ j, j < i ∧ x.getLsbD j = true := ⟨t, h, hb⟩
    have h3 : ¬ t = i := by omega
    simp [h2, h3, hi]
theorem tab_all : ∀ t, t < 64 → (tab.getD ((BitVec.twoPow 64 t * 285870213051353865#64) >>> 58).toNat 0#8).toNat = t := by decide +kernel
theorem tab_zeros (x : BitVec 64) (hx : x ≠ 0#64) : Zeros x (tabAt x) := by
  obtain ⟨t, ht, hb, hl⟩ := low_exists x hx
  have : tabAt x = t := by unfold tabAt; rw [and_neg x t ht hb hl]; exact tab_all t ht
  rw [this]
  exact ⟨by omega, hl, fun _ => hb⟩
theorem zeros_zero : Zeros 0#64 64 := ⟨Nat.le_refl _, fun j _ => by simp, fun h => by omega⟩

/-! ### Bytes and words -/
def wd (f : Nat → BitVec 8) : Nat → BitVec 64
  | 0 => 0#64
  | k + 1 => wd f k ||| (f k).setWidth 64 <<< (8 * k)
theorem wd_bit (f : Nat → BitVec 8) : ∀ k, k ≤ 8 → ∀ b, (wd f k).getLsbD b = (decide (b / 8 < k) && (f (b / 8)).getLsbD (b % 8)) := by
  intro k
  induction k with
  | zero => intro _ b; simp [wd]
  | succ k ih =>
    intro hk b
    rw [wd, BitVec.getLsbD_or, ih (by omega), BitVec.getLsbD_shiftLeft, BitVec.getLsbD_setWidth]
    by_cases h1 : b / 8 = k
    · have e1 : ¬ b < 8 * k := by omega
      have e2 : b - 8 * k = b % 8 := by omega
      have e3 : b < 64 := by omega
      have e4 : b % 8 < 64 := by omega
      have e5 : ¬ b / 8 < k := by omega
      have e6 : b / 8 < k + 1 := by omega
      have e7 : f (b / 8) = f k := by rw [h1]
      rw [e2, e7]
      simp [e1, e3, e4, e5, e6]
    · rcases Nat.lt_or_ge b (8 * k) with h2 | h2
      · have e1 : b / 8 < k := by omega
        have e2 : b / 8 < k + 1 := by omega
        simp [h2, e1, e2]
      · have e1 : ¬ b / 8 < k := by omega
        have e2 : ¬ b / 8 < k + 1 := by omega
        have e3 : (f k).getLsbD (b - 8 * k) = false := BitVec.getLsbD_of_ge _ _ (by omega)
        simp [e1, e2, e3]
theorem wd_congr {f g : Nat → BitVec 8} (h : ∀ i, i < 8 → f i = g i) : wd f 8 = wd g 8 := by
  apply ext; intro b hb
  rw [wd_bit _ 8 (Nat.le_refl _), wd_bit _ 8 (Nat.le_refl _), h (b / 8) (by omega)]
/-- A byte of a word. -/
def byteOf (n : BitVec 64) (i : Nat) : BitVec 8 := (n >>> (8 * i)).setWidth 8
theorem byteOf_bit (n : BitVec 64) (i b : Nat) : (byteOf n i).getLsbD b = (decide (b < 8) && n.getLsbD (8 * i + b)) := by
  unfold byteOf; rw [BitVec.getLsbD_setWidth, BitVec.getLsbD_ushiftRight]
theorem wd_byteOf (n : BitVec 64) : wd (byteOf n) 8 = n := by
  apply ext; intro b hb
  rw [wd_bit _ 8 (Nat.le_refl _), byteOf_bit]
  have e1 : b / 8 < 8 := by omega
  have e2 : b % 8 < 8 := by omega
  have e3 : 8 * (b / 8) + b % 8 = b := by omega
  simp [e1, e2, e3]
theorem byteOf_wd (f : Nat → BitVec 8) (i : Nat) (hi : i < 8) : byteOf (wd f 8) i = f i := by
  apply BitVec.eq_of_getLsbD_eq; intro b hb
  rw [byteOf_bit, wd_bit _ 8 (Nat.le_refl _)]
  have e1 : (8 * i + b) / 8 = i := by omega
  have e2 : (8 * i + b) % 8 = b := by omega
  rw [e1, e2]; simp [hb, hi]
/-- Is there a whole word at a place? -/
def hasB (n : Nat) (p : Int) : Bool := decide (0 ≤ p ∧ p % 8 = 0 ∧ p ≤ (n : Int) - 8)
theorem hasB_iff {n : Nat} {p : Int} : hasB n p = true ↔ ∃ q : Nat, p = (8 * q : Nat) ∧ 8 * q + 8 ≤ n := by
  unfold hasB
  rw [decide_eq_true_iff]
  constructor
  · rintro ⟨h1, h2, h3⟩
    exact ⟨(p / 8).toNat, by omega, by omega⟩
  · rintro ⟨q, rfl, h⟩
    exact ⟨by omega, by omega, by omega⟩
/-- The word at a place. -/
def getM (l : List (BitVec 8)) (p : Nat) : BitVec 64 := wd (fun i => l.getD (p + i) 0#8) 8
/-- The first k bytes of a word put. -/
def putK (l : List (BitVec 8)) (p : Nat) (n : BitVec 64) : Nat → List (BitVec 8)
  | 0 => l
  | k + 1 => (putK l p n k).set (p + k) (byteOf n k)
def putM (l : List (BitVec 8)) (p : Nat) (n : BitVec 64) : List (BitVec 8) := putK l p n 8
theorem putK_length (l : List (BitVec 8)) (p : Nat) (n : BitVec 64) (k : Nat) : (putK l p n k).length = l.length := by
  induction k with
  | zero => rfl
  | succ k ih => simp [putK, ih]
theorem putM_length (l : List (BitVec 8)) (p : Nat) (n : BitVec 64) : (putM l p n).length = l.length := putK_length l p n 8
theorem putK_getD (l : List (BitVec 8)) (p : Nat) (n : BitVec 64) (k j : Nat) (hp : p + k ≤ l.length) : (putK l p n k).getD j 0#8 = if p ≤ j ∧ j < p + k then byteOf n (j - p) else l.getD j 0#8 := by
  induction k with
  | zero => rw [if_neg (by omega)]; rfl
  | succ k ih =>
    have ih := ih (by omega)
    have hl := putK_length l p n k
    simp only [List.getD_eq_getElem?_getD] at ih ⊢
    rw [putK, List.getElem?_set]
    by_cases h : p + k = j
    · subst h
      rw [if_pos rfl, if_pos (by omega), if_pos (by omega)]
      simp
    · rw [if_neg h, ih]
      by_cases h2 : p ≤ j ∧ j < p + k
      · rw [if_pos h2, if_pos (by omega)]
      · rw [if_neg h2, if_neg (by omega)]
theorem putM_getD (l : List (BitVec 8)) (p : Nat) (n : BitVec 64) (j : Nat) (hp : p + 8 ≤ l.length) : (putM l p n).getD j 0#8 = if p ≤ j ∧ j < p + 8 then byteOf n (j - p) else l.getD j 0#8 := putK_getD l p n 8 j hp
/-- What was put is got; other words stay. -/
theorem get_put (l : List (BitVec 8)) (q r : Nat) (n : BitVec 64) (hq : 8 * q + 8 ≤ l.length) : getM (putM l (8 * q) n) (8 * r) = if q = r then n else getM l (8 * r) := by
  unfold getM
  by_cases h : q = r
  · subst h
    rw [if_pos rfl]
    refine Eq.trans (wd_congr fun i hi => ?_) (wd_byteOf n)
    rw [putM_getD _ _ _ _ hq, if_pos (by omega)]; congr 1; omega
  · rw [if_neg h]
    refine wd_congr fun i hi => ?_
    rw [putM_getD _ _ _ _ hq, if_neg (by omega)]
end Go.Proofs.YtejpophjiinijaaDoor.WM
