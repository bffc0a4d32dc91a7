/- Slabs as words: the plain law, no program in sight. -/
import Derived.Test.YtcaekgkogiggoaaDoorWordMath
import Derived.Test.YtcaekgkogiggoaaDoorUv
namespace Go.Proofs.YtcaekgkogiggoaaDoor.WM

def blocksI (c : Int) : Int := if c = 1 then 16 else if c = 2 then 4 else 0
def bl (c : Nat) : Nat := if c = 1 then 16 else if c = 2 then 4 else 0
theorem blocksI_nat (c : Nat) : blocksI c = bl c := by
  unfold blocksI bl
  by_cases h1 : c = 1
  · subst h1; rfl
  · by_cases h2 : c = 2
    · subst h2; rfl
    · rw [if_neg (by omega), if_neg (by omega), if_neg h1, if_neg h2]; rfl
theorem bl_le (c : Nat) : bl c ≤ 16 := by unfold bl; split <;> (try split) <;> omega
theorem blocksI_pos {c : Int} (h : 0 < blocksI c) : ∃ k : Nat, c = k ∧ (k = 1 ∨ k = 2) := by
  unfold blocksI at h
  split at h
  · exact ⟨1, by omega, .inl rfl⟩
  · split at h
    · exact ⟨2, by omega, .inr rfl⟩
    · omega
def kindW (w : BitVec 64) : BitVec 64 := fieldM w 16 2
def kindM (w : BitVec 64) : Int := uv (kindW w)
def takenM (w : BitVec 64) : BitVec 64 := fieldM w 0 16
def rightM (w : BitVec 64) : Bool := (w == 0#64) || ((fieldM w 0 (blocksI (kindM w)) != 0#64) && (withM (withM w 0 (blocksI (kindM w)) 0#64) 16 2 0#64 == 0#64))
def classM (w : BitVec 64) : Int := if rightM w then kindM w else 0
def hasM (w : BitVec 64) (p : Int) : Bool := decide (0 ≤ p) && (decide (p < blocksI (classM w)) && (fieldM w p 1 == 1#64))
def meetsM (w : BitVec 64) (c : Int) : Bool := rightM w && (decide (0 < blocksI c) && ((w == 0#64) || (kindM w == c)))
def nextM (w : BitVec 64) (c : Int) : Int := if meetsM w c then lowOff (takenM w) (blocksI c) else -1
def takeOk (w : BitVec 64) (c p : Int) : Bool := meetsM w c && decide (0 ≤ p) && decide (p < blocksI c) && !hasM w p
def takeW (w : BitVec 64) (c p : Int) : BitVec 64 := if takeOk w c p then withM (withM w p 1 1#64) 16 2 (BitVec.ofInt 64 c) else w
def lessM (w : BitVec 64) (p : Int) : BitVec 64 := withM w p 1 0#64
def dropW (w : BitVec 64) (p : Int) : BitVec 64 := if hasM w p then (if takenM (lessM w p) == 0#64 then 0#64 else lessM w p) else w
def listM (w : BitVec 64) : List Nat := (List.range (bl (classM w).toNat)).filter fun i => hasM w i

/-- A word that has blocks of a class. -/
structure Norm (w : BitVec 64) (c : Nat) : Prop where
  cls : c = 1 ∨ c = 2
  hi : w >>> 16 = BitVec.ofNat 64 c
  some : ∃ i, i < bl c ∧ w.getLsbD i = true
  none : ∀ i, bl c ≤ i → i < 16 → w.getLsbD i = false

theorem nat_bits {l s : Nat} (n : BitVec 64) (h : l + s ≤ 64) (i : Nat) : (fieldM n l s).getLsbD i = (decide (i < s) && n.getLsbD (l + i)) := by
  rw [field_bit, sizeM_nat l s h, lowM_nat l (by omega)]
theorem nat_with {l s : Nat} (n v : BitVec 64) (h : l + s ≤ 64) (i : Nat) : (withM n l s v).getLsbD i = if l ≤ i ∧ i < l + s then v.getLsbD (i - l) else n.getLsbD i := by
  rw [with_bit, sizeM_nat l s h, lowM_nat l (by omega)]
theorem hi_bit {w : BitVec 64} {c : Nat} (h : w >>> 16 = BitVec.ofNat 64 c) (i : Nat) (hi : 16 ≤ i) : w.getLsbD i = (BitVec.ofNat 64 c).getLsbD (i - 16) := by
  rw [← h, BitVec.getLsbD_ushiftRight]; congr 1; omega
theorem hi_of {w : BitVec 64} {c : Nat} (h : ∀ i, 16 ≤ i → i < 64 → w.getLsbD i = (BitVec.ofNat 64 c).getLsbD (i - 16)) (hc : c < 4) : w >>> 16 = BitVec.ofNat 64 c := by
  apply ext; intro i hi
  rw [BitVec.getLsbD_ushiftRight]
  by_cases h2 : 16 + i < 64
  · rw [h _ (by omega) h2]; congr 1; omega
  · rw [BitVec.getLsbD_of_ge _ _ (by omega)]
    have : ∀ c, c < 4 → ∀ i, i < 64 → 48 ≤ i → false = (BitVec.ofNat 64 c).getLsbD i := by decide +kernel
    exact this c hc i hi (by omega)
theorem c_high {c : Nat} (hc : c < 4) {i : Nat} (hi : 2 ≤ i) : (BitVec.ofNat 64 c).getLsbD i = false := by
  rcases Nat.lt_or_ge i 64 with h | h
  · have : ∀ c, c < 4 → ∀ i, i < 64 → 2 ≤ i → (BitVec.ofNat 64 c).getLsbD i = false := by decide +kernel
    exact this c hc i h hi
  · exact BitVec.getLsbD_of_ge _ _ h

theorem kind_hi {w : BitVec 64} {c : Nat} (hc : c < 4) (h : w >>> 16 = BitVec.ofNat 64 c) : kindW w = BitVec.ofNat 64 c := by
  apply ext; intro i hi
  have := nat_bits (l := 16) (s := 2) w (by omega) i
  unfold kindW
  rw [show ((16 : Int)) = ((16 : Nat) : Int) from rfl, show ((2 : Int)) = ((2 : Nat) : Int) from rfl, this]
  by_cases h2 : i < 2
  · rw [hi_bit h _ (by omega), show 16 + i - 16 = i by omega]; simp [h2]
  · rw [c_high hc (by omega)]; simp [h2]
theorem uv_ofNat4 {c : Nat} (hc : c < 4) : uv (BitVec.ofNat 64 c) = (c : Int) := by
  unfold uv; rw [BitVec.toNat_ofNat, Nat.mod_eq_of_lt (by omega)]
theorem kind_lt (w : BitVec 64) : ∃ k, k < 4 ∧ kindW w = BitVec.ofNat 64 k := by
  refine ⟨(kindW w).toNat, ?_, by simp⟩
  have h : (kindW w).toNat < 2 ^ 2 := by
    apply Nat.lt_of_not_le; intro h
    obtain ⟨i, h1, h2⟩ := Nat.exists_ge_and_testBit_of_ge_two_pow h
    have h3 : (kindW w).getLsbD i = true := h2
    have := nat_bits (l := 16) (s := 2) w (by omega) i
    unfold kindW at h3
    rw [show ((16 : Int)) = ((16 : Nat) : Int) from rfl, show ((2 : Int)) = ((2 : Nat) : Int) from rfl, this] at h3
    simp at h3; omega
  exact h
theorem norm_right {w : BitVec 64} {c : Nat} (h : Norm w c) : rightM w = true ∧ kindM w = c := by
  have hc : c < 4 := by rcases h.cls with h | h <;> omega
  have hk : kindM w = c := by unfold kindM; rw [kind_hi hc h.hi, uv_ofNat4 hc]
  have hb := bl_le c
  refine ⟨?_, hk⟩
  unfold rightM
  rw [hk, blocksI_nat, Bool.or_eq_true, Bool.and_eq_true]
  refine .inr ⟨?_, ?_⟩
  · obtain ⟨i, h1, h2⟩ := h.some
    rw [bne_iff_ne]
    intro h0
    have h3 := nat_bits (l := 0) (s := bl c) w (by omega) i
    rw [show ((0 : Nat) : Int) = 0 from rfl, h0, Nat.zero_add, h2] at h3
    simp [h1] at h3
  · rw [beq_iff_eq]
    apply ext; intro i hi
    rw [show ((16 : Int)) = ((16 : Nat) : Int) from rfl, show ((2 : Int)) = ((2 : Nat) : Int) from rfl, nat_with _ _ (by omega)]
    by_cases h1 : 16 ≤ i ∧ i < 16 + 2
    · rw [if_pos h1]; simp
    · rw [if_neg h1, show ((0 : Int)) = ((0 : Nat) : Int) from rfl, nat_with _ _ (by omega)]
      by_cases h2 : 0 ≤ i ∧ i < 0 + bl c
      · rw [if_pos h2]; simp
      · rw [if_neg h2, BitVec.getLsbD_zero]
        by_cases h3 : i < 16
        · exact h.none i (by omega) h3
        · rw [hi_bit h.hi i (by omega)]; exact c_high hc (by omega)
theorem right_zero : rightM 0#64 = true := by decide +kernel
theorem right_cases {w : BitVec 64} (h : rightM w = true) : w = 0#64 ∨ ∃ c, Norm w c := by
  unfold rightM at h
  rw [Bool.or_eq_true, beq_iff_eq] at h
  rcases h with h | h
  · exact .inl h
  obtain ⟨k, hk4, hk⟩ := kind_lt w
  have hkM : kindM w = k := by unfold kindM; rw [hk, uv_ofNat4 hk4]
  rw [hkM, blocksI_nat, Bool.and_eq_true, bne_iff_ne, beq_iff_eq] at h
  obtain ⟨h1, h2⟩ := h
  have hb := bl_le k
  have hbit : ∀ i, bl k ≤ i → ¬ (16 ≤ i ∧ i < 18) → i < 64 → w.getLsbD i = false := by
    intro i h3 h4 h5
    have h6 : (withM (withM w 0 (bl k) 0#64) 16 2 0#64).getLsbD i = (0#64).getLsbD i := by rw [h2]
    rw [show ((16 : Int)) = ((16 : Nat) : Int) from rfl, show ((2 : Int)) = ((2 : Nat) : Int) from rfl, nat_with _ _ (by omega), if_neg (by omega), show ((0 : Int)) = ((0 : Nat) : Int) from rfl, nat_with _ _ (by omega), if_neg (by omega)] at h6
    rw [h6]; simp
  have hsome : ∃ i, i < bl k ∧ w.getLsbD i = true := by
    apply Classical.byContradiction
    intro hno
    apply h1
    apply ext; intro i hi
    rw [show ((0 : Int)) = ((0 : Nat) : Int) from rfl, nat_bits _ (by omega), BitVec.getLsbD_zero, Nat.zero_add]
    by_cases h3 : i < bl k
    · cases h4 : w.getLsbD i
      · simp
      · exact absurd ⟨i, h3, h4⟩ hno
    · simp [h3]
  have hkc : k = 1 ∨ k = 2 := by
    obtain ⟨i, h3, _⟩ := hsome
    unfold bl at h3
    split at h3
    · exact .inl ‹_›
    · split at h3
      · exact .inr ‹_›
      · omega
  refine .inr ⟨k, hkc, ?_, hsome, fun i h3 h4 => hbit i h3 (by omega) (by omega)⟩
  refine hi_of (fun i h3 h4 => ?_) hk4
  by_cases h5 : i < 18
  · have h6 := nat_bits (l := 16) (s := 2) w (by omega) (i - 16)
    rw [show ((16 : Nat) : Int) = 16 from rfl, show ((2 : Nat) : Int) = 2 from rfl] at h6
    have h7 : fieldM w 16 2 = BitVec.ofNat 64 k := hk
    rw [h7, show 16 + (i - 16) = i by omega] at h6
    rw [h6]; simp; intro; omega
  · rw [hbit i (by omega) (by omega) h4, c_high hk4 (by omega)]
theorem class_norm {w : BitVec 64} {c : Nat} (h : Norm w c) : classM w = c := by unfold classM; rw [(norm_right h).1, if_pos rfl, (norm_right h).2]
theorem class_zero : classM 0#64 = 0 := by decide +kernel
theorem class_wrong {w : BitVec 64} (h : rightM w = false) : classM w = 0 := by unfold classM; rw [h]; rfl
theorem norm_ne {w : BitVec 64} {c : Nat} (h : Norm w c) : w ≠ 0#64 := by
  rintro rfl
  obtain ⟨i, _, h2⟩ := h.some
  simp at h2
theorem norm_inj {v w : BitVec 64} {c : Nat} (hv : Norm v c) (hw : Norm w c) (h : ∀ i, i < bl c → v.getLsbD i = w.getLsbD i) : v = w := by
  apply ext; intro i hi
  by_cases h1 : i < bl c
  · exact h i h1
  · by_cases h2 : i < 16
    · rw [hv.none i (by omega) h2, hw.none i (by omega) h2]
    · rw [hi_bit hv.hi i (by omega), hi_bit hw.hi i (by omega)]
theorem one_bit (w : BitVec 64) (i : Nat) (hi : i < 64) : (fieldM w i 1 == 1#64) = w.getLsbD i := by
  have h := nat_bits (l := i) (s := 1) w (by omega) 0
  rw [show ((1 : Nat) : Int) = 1 from rfl] at h
  have h2 : ∀ j, 0 < j → (fieldM w i 1).getLsbD j = false := fun j hj => by
    have := nat_bits (l := i) (s := 1) w (by omega) j
    rw [show ((1 : Nat) : Int) = 1 from rfl] at this
    rw [this]; simp; omega
  cases hb : w.getLsbD i
  · rw [beq_eq_false_iff_ne]
    intro h1
    rw [h1, Nat.add_zero, hb] at h
    simp at h
  · rw [beq_iff_eq]
    apply ext; intro j hj
    by_cases h3 : j = 0
    · subst h3; rw [h, Nat.add_zero, hb]; simp
    · rw [h2 j (by omega), show (1#64) = BitVec.twoPow 64 0 by decide, two_bit 0 j (by decide)]
      simp; omega
/-- Which blocks are taken. -/
theorem has_norm {w : BitVec 64} {c : Nat} (h : Norm w c) (i : Nat) : hasM w i = (decide (i < bl c) && w.getLsbD i) := by
  unfold hasM
  rw [class_norm h, blocksI_nat]
  by_cases h1 : i < bl c
  · have hb := bl_le c
    rw [one_bit w i (by omega)]
    simp [h1]
  · have : ¬ (i : Int) < bl c := by omega
    simp [h1, this]
theorem has_zero (p : Int) : hasM 0#64 p = false := by
  unfold hasM; rw [class_zero]
  by_cases h : 0 ≤ p
  · have : ¬ p < blocksI 0 := by unfold blocksI; simp; omega
    simp [this]
  · simp [h]
theorem has_wrong {w : BitVec 64} (h : rightM w = false) (p : Int) : hasM w p = false := by
  unfold hasM; rw [class_wrong h]
  by_cases h : 0 ≤ p
  · have : ¬ p < blocksI 0 := by unfold blocksI; simp; omega
    simp [this]
  · simp [h]
theorem has_true {w : BitVec 64} {p : Int} (h : hasM w p = true) : ∃ c i, Norm w c ∧ p = ((i : Nat) : Int) ∧ i < bl c ∧ w.getLsbD i = true := by
  have h0 : 0 ≤ p := by unfold hasM at h; simp at h; exact h.1
  obtain ⟨i, rfl⟩ := Int.eq_ofNat_of_zero_le h0
  cases hr : rightM w
  · rw [has_wrong hr] at h; cases h
  · rcases right_cases hr with rfl | ⟨c, hn⟩
    · rw [has_zero] at h; cases h
    · rw [has_norm hn] at h
      simp at h
      exact ⟨c, i, hn, rfl, h.1, h.2⟩
end Go.Proofs.YtcaekgkogiggoaaDoor.WM
