/- Slabs as words: the reference's way, no program in sight. -/
import Derived.Test.YtcaekgkogiggoaaDoorSlabMath
namespace Go.Proofs.YtcaekgkogiggoaaDoor.WM

def kR (x : BitVec 64) : Nat := x.toNat / 65536
def bitsOf (x : BitVec 64) (i : Nat) : Bool := x.getLsbD i
def rB (x : BitVec 64) : Bool := decide (x.toNat < 196608) && (((List.range 16).all fun i => !x.getLsbD i || decide (i < bl (kR x))) && (((List.range 16).all fun i => !x.getLsbD i) == decide (kR x = 0)))
theorem rB_iff (x : BitVec 64) : rB x = true ↔ (x.toNat < 196608 ∧ (∀ i, i < 16 → x.getLsbD i = true → i < bl (kR x)) ∧ ((∀ i, i < 16 → x.getLsbD i = false) ↔ kR x = 0)) := by
  unfold rB
  rw [Bool.and_eq_true, Bool.and_eq_true, decide_eq_true_iff, List.all_eq_true, beq_iff_eq, Bool.eq_iff_iff, List.all_eq_true, decide_eq_true_iff]
  have e1 : (∀ i, i ∈ List.range 16 → (!x.getLsbD i || decide (i < bl (kR x))) = true) ↔ (∀ i, i < 16 → x.getLsbD i = true → i < bl (kR x)) :=
    ⟨fun h i hi hb => by have := h i (List.mem_range.2 hi); simpa [hb] using this, fun h i hi => by
      cases hb : x.getLsbD i
      · rfl
      · simpa using h i (List.mem_range.1 hi) hb⟩
  have e2 : (∀ i, i ∈ List.range 16 → (!x.getLsbD i) = true) ↔ (∀ i, i < 16 → x.getLsbD i = false) :=
    ⟨fun h i hi => by simpa using h i (List.mem_range.2 hi), fun h i hi => by simpa using h i (List.mem_range.1 hi)⟩
  rw [e1, e2]
theorem shr_toNat (x : BitVec 64) : (x >>> 16).toNat = kR x := by
  rw [BitVec.toNat_ushiftRight, Nat.shiftRight_eq_div_pow]; rfl
theorem hi_iff (x : BitVec 64) (c : Nat) (hc : c < 4) : x >>> 16 = BitVec.ofNat 64 c ↔ kR x = c := by
  rw [← shr_toNat]
  constructor
  · intro h; rw [h, BitVec.toNat_ofNat, Nat.mod_eq_of_lt (by omega)]
  · intro h; apply BitVec.eq_of_toNat_eq; rw [BitVec.toNat_ofNat, Nat.mod_eq_of_lt (by omega)]; exact h
theorem zero_of (x : BitVec 64) (h0 : kR x = 0) (h : ∀ i, i < 16 → x.getLsbD i = false) : x = 0#64 := by
  have h1 := (hi_iff x 0 (by omega)).2 h0
  apply ext; intro i hi
  rw [BitVec.getLsbD_zero]
  by_cases h2 : i < 16
  · exact h i h2
  · rw [hi_bit h1 i (by omega)]; simp
theorem rB_norm {x : BitVec 64} {c : Nat} (h : Norm x c) : kR x = c ∧ rB x = true := by
  have hc : c < 4 := by rcases h.cls with h | h <;> omega
  have hk := (hi_iff x c hc).1 h.hi
  refine ⟨hk, ?_⟩
  rw [rB_iff, hk]
  refine ⟨by have h1 := h.cls; have h2 := hk; unfold kR at h2; omega, fun i h1 h2 => ?_, ?_⟩
  · apply Nat.lt_of_not_le; intro h3
    rw [h.none i h3 h1] at h2; cases h2
  · constructor
    · intro h1
      obtain ⟨i, h2, h3⟩ := h.some
      have := bl_le c
      rw [h1 i (by omega)] at h3; cases h3
    · intro h1; rcases h.cls with h | h <;> omega
theorem rB_eq (x : BitVec 64) : rB x = rightM x := by
  cases hr : rightM x
  · cases hb : rB x
    · rfl
    · exfalso
      rw [rB_iff] at hb
      obtain ⟨h1, h2, h3⟩ := hb
      have hk : kR x < 3 := by unfold kR; omega
      by_cases h0 : kR x = 0
      · rw [zero_of x h0 (h3.2 h0), right_zero] at hr; cases hr
      · have hn : Norm x (kR x) := by
          refine ⟨by omega, (hi_iff x (kR x) (by omega)).2 rfl, ?_, fun i h4 h5 => ?_⟩
          · apply Classical.byContradiction
            intro hno
            apply h0
            apply h3.1
            intro i hi
            cases hbi : x.getLsbD i
            · rfl
            · exact absurd ⟨i, h2 i hi hbi, hbi⟩ hno
          · cases hbi : x.getLsbD i
            · rfl
            · have := h2 i h5 hbi; omega
        rw [(norm_right hn).1] at hr; cases hr
  · rcases right_cases hr with rfl | ⟨c, hn⟩
    · decide +kernel
    · exact (rB_norm hn).2
theorem kR_class {x : BitVec 64} (h : rB x = true) : classM x = kR x := by
  rw [rB_eq] at h
  rcases right_cases h with rfl | ⟨c, hn⟩
  · decide +kernel
  · rw [class_norm hn, (rB_norm hn).1]

/-- What is left of a word behind k bits. -/
def nK (x : BitVec 64) (k : Nat) : BitVec 64 := (x % 65536#64) >>> k
theorem nK_zero (x : BitVec 64) : x % 65536#64 = nK x 0 := by unfold nK; simp
theorem nK_succ (x : BitVec 64) (k : Nat) : nK x k / 2#64 = nK x (k + 1) := by
  apply BitVec.eq_of_toNat_eq
  unfold nK
  rw [BitVec.toNat_udiv, BitVec.toNat_ushiftRight, BitVec.toNat_ushiftRight, Nat.shiftRight_eq_div_pow, Nat.shiftRight_eq_div_pow, Nat.pow_succ, ← Nat.div_div_eq_div_mul]; rfl
theorem nK_bit (x : BitVec 64) (k : Nat) (hk : k < 16) : (nK x k % 2#64 == 1#64) = x.getLsbD k := by
  have h1 : (nK x k % 2#64).toNat = x.toNat % 65536 / 2 ^ k % 2 := by
    unfold nK
    rw [BitVec.toNat_umod, BitVec.toNat_ushiftRight, Nat.shiftRight_eq_div_pow, BitVec.toNat_umod]; rfl
  have h2 : (x.toNat % 65536).testBit k = x.toNat.testBit k := by
    rw [show 65536 = 2 ^ 16 from rfl, Nat.testBit_mod_two_pow]; simp [hk]
  have h3 : x.getLsbD k = x.toNat.testBit k := rfl
  rw [h3, ← h2, Nat.testBit_eq_decide_div_mod_eq, ← h1]
  rw [Bool.eq_iff_iff, beq_iff_eq, decide_eq_true_iff]
  exact ⟨fun h => by rw [h]; rfl, fun h => BitVec.eq_of_toNat_eq h⟩

/-- How many are taken of the first k. -/
def cnt (T : Nat → Bool) : Nat → Nat
  | 0 => 0
  | k + 1 => if T k then cnt T k + 1 else cnt T k
theorem cnt_le (T : Nat → Bool) : ∀ k, cnt T k ≤ k
  | 0 => Nat.le_refl _
  | k + 1 => by have := cnt_le T k; unfold cnt; split <;> omega
theorem cnt_zero (T : Nat → Bool) : ∀ k, cnt T k = 0 ↔ ∀ i, i < k → T i = false
  | 0 => ⟨fun _ i h => by omega, fun _ => rfl⟩
  | k + 1 => by
    unfold cnt
    constructor
    · intro h i hi
      split at h
      · omega
      · rename_i hT
        by_cases e : i = k
        · subst e; simpa using hT
        · exact (cnt_zero T k).1 h i (by omega)
    · intro h
      rw [h k (by omega)]
      exact (cnt_zero T k).2 fun i hi => h i (by omega)

/-- The document's word of a class and what is taken. -/
def wordK (c : Nat) (T : Nat → Bool) : Nat → BitVec 64
  | 0 => BitVec.ofNat 64 c * 65536#64
  | k + 1 => if T k then wordK c T k + BitVec.twoPow 64 k else wordK c T k
theorem wordK_bit (c : Nat) (T : Nat → Bool) : ∀ k, k ≤ 16 → ∀ i, (wordK c T k).getLsbD i = if i < 16 then (decide (i < k) && T i) else ((BitVec.ofNat 64 c) <<< 16).getLsbD i
  | 0, _, i => by
    have h : wordK c T 0 = (BitVec.ofNat 64 c) <<< 16 := by
      unfold wordK
      rw [show (65536#64 : BitVec 64) = BitVec.twoPow 64 16 by decide, BitVec.mul_twoPow_eq_shiftLeft]
    rw [h, BitVec.getLsbD_shiftLeft]
    by_cases h2 : i < 16
    · simp [h2]
    · rw [if_neg h2]
  | k + 1, hk, i => by
    have ih := wordK_bit c T k (by omega)
    unfold wordK
    split
    · rename_i hT
      rw [add_two _ k (by omega) (by rw [ih, if_pos (by omega)]; simp), ih]
      by_cases h2 : i < 16
      · rw [if_pos h2, if_pos h2]
        by_cases e : k = i
        · subst e; simp [hT]
        · have : decide (i < k + 1) = decide (i < k) := decide_eq_decide.2 (by omega)
          rw [this]; simp [e]
      · rw [if_neg h2, if_neg h2]
        have e : ¬ k = i := by omega
        simp [e]
    · rename_i hT
      rw [ih]
      by_cases h2 : i < 16
      · rw [if_pos h2, if_pos h2]
        by_cases e : k = i
        · subst e; simp [hT]
        · have : decide (i < k + 1) = decide (i < k) := decide_eq_decide.2 (by omega)
          rw [this]
      · rw [if_neg h2, if_neg h2]
def wordR (c : Nat) (T : Nat → Bool) : BitVec 64 := wordK c T 16
theorem wordR_low (c : Nat) (T : Nat → Bool) (i : Nat) (hi : i < 16) : (wordR c T).getLsbD i = T i := by
  unfold wordR; rw [wordK_bit c T 16 (Nat.le_refl _), if_pos hi]; simp [hi]
theorem wordR_high (c : Nat) (T : Nat → Bool) (i : Nat) (hi : 16 ≤ i) (hi2 : i < 64) : (wordR c T).getLsbD i = (BitVec.ofNat 64 c).getLsbD (i - 16) := by
  unfold wordR; rw [wordK_bit c T 16 (Nat.le_refl _), if_neg (by omega), BitVec.getLsbD_shiftLeft]; simp [hi2]; omega

def setT (T : Nat → Bool) (p : Nat) (b : Bool) : Nat → Bool := fun i => if i = p then b else T i
theorem lit16 : (16 : Int) = ((16 : Nat) : Int) := rfl
theorem lit2 : (2 : Int) = ((2 : Nat) : Int) := rfl
theorem lit1 : (1 : Int) = ((1 : Nat) : Int) := rfl
theorem take_bit (x : BitVec 64) (c p i : Nat) (hp : p < 16) : (withM (withM x p 1 1#64) 16 2 (BitVec.ofNat 64 c)).getLsbD i = if 16 ≤ i ∧ i < 18 then (BitVec.ofNat 64 c).getLsbD (i - 16) else if i = p then true else x.getLsbD i := by
  rw [lit16, lit2, nat_with _ _ (by omega), lit1, nat_with _ _ (by omega)]
  by_cases h : 16 ≤ i ∧ i < 18
  · rw [if_pos h, if_pos (show 16 ≤ i ∧ i < 16 + 2 by omega)]
  · rw [if_neg h, if_neg (show ¬ (16 ≤ i ∧ i < 16 + 2) by omega)]
    by_cases h2 : i = p
    · subst h2; rw [if_pos (show i ≤ i ∧ i < i + 1 by omega), if_pos rfl]; simp
    · rw [if_neg (show ¬ (p ≤ i ∧ i < p + 1) by omega), if_neg h2]
theorem take_eq {x : BitVec 64} {c p : Nat} (hr : rightM x = true) (hc : c = 1 ∨ c = 2) (hk : x = 0#64 ∨ kindM x = c) (hp : p < bl c) :
    withM (withM x p 1 1#64) 16 2 (BitVec.ofNat 64 c) = wordR c (setT (bitsOf x) p true) := by
  have hb := bl_le c
  apply ext; intro i hi
  rw [take_bit x c p i (by omega)]
  by_cases h1 : i < 16
  · rw [if_neg (by omega), wordR_low _ _ _ h1]; rfl
  · rw [wordR_high _ _ _ (by omega) hi]
    by_cases h2 : i < 18
    · rw [if_pos (by omega)]
    · rw [if_neg (by omega), if_neg (by omega), c_high (by omega) (by omega)]
      rcases hk with rfl | hk
      · simp
      · rcases right_cases hr with rfl | ⟨d, hn⟩
        · simp
        · have hd := hn.cls
          rw [hi_bit hn.hi i (by omega), c_high (by omega) (by omega)]
/-- Behind a Take. -/
theorem take_norm {x : BitVec 64} {c p : Nat} (hr : rightM x = true) (hc : c = 1 ∨ c = 2) (hk : x = 0#64 ∨ kindM x = c) (hp : p < bl c) : Norm (withM (withM x p 1 1#64) 16 2 (BitVec.ofNat 64 c)) c := by
  have hb := bl_le c
  have he := take_eq hr hc hk hp
  refine ⟨hc, ?_, ⟨p, hp, ?_⟩, fun i h1 h2 => ?_⟩
  · rw [he]; exact hi_of (fun i h1 h2 => wordR_high _ _ _ h1 h2) (by omega)
  · rw [take_bit _ _ _ _ (by omega), if_neg (by omega), if_pos rfl]
  · rw [take_bit _ _ _ _ (by omega), if_neg (by omega), if_neg (by omega)]
    rcases hk with rfl | hk
    · simp
    · rcases right_cases hr with rfl | ⟨d, hn⟩
      · simp
      · have : d = c := by have := (norm_right hn).2; omega
        subst this
        exact hn.none i h1 h2
theorem less_bit (x : BitVec 64) (p i : Nat) (hp : p < 16) : (lessM x p).getLsbD i = if i = p then false else x.getLsbD i := by
  unfold lessM
  rw [lit1, nat_with _ _ (by omega)]
  by_cases h2 : i = p
  · subst h2; rw [if_pos (show i ≤ i ∧ i < i + 1 by omega), if_pos rfl]; simp
  · rw [if_neg (show ¬ (p ≤ i ∧ i < p + 1) by omega), if_neg h2]
theorem taken_zero (x : BitVec 64) : takenM x = 0#64 ↔ ∀ i, i < 16 → x.getLsbD i = false := by
  unfold takenM
  constructor
  · intro h i hi
    have := nat_bits (l := 0) (s := 16) x (by omega) i
    rw [show ((0 : Nat) : Int) = 0 from rfl, show ((16 : Nat) : Int) = 16 from rfl, h, Nat.zero_add] at this
    simpa [hi] using this.symm
  · intro h
    apply ext; intro i hi
    have := nat_bits (l := 0) (s := 16) x (by omega) i
    rw [show ((0 : Nat) : Int) = 0 from rfl, show ((16 : Nat) : Int) = 16 from rfl, Nat.zero_add] at this
    rw [this, BitVec.getLsbD_zero]
    by_cases h2 : i < 16
    · rw [h i h2]; simp
    · simp [h2]
/-- Behind a Drop: nothing, or a word of the same class. -/
theorem drop_cases {x : BitVec 64} {c p : Nat} (hn : Norm x c) (hp : p < bl c) (hb : x.getLsbD p = true) :
    dropW x p = wordR (if cnt (setT (bitsOf x) p false) 16 = 0 then 0 else c) (setT (bitsOf x) p false) ∧
    ((dropW x p = 0#64 ∧ cnt (setT (bitsOf x) p false) 16 = 0) ∨ (Norm (dropW x p) c ∧ dropW x p = lessM x p ∧ cnt (setT (bitsOf x) p false) 16 ≠ 0)) := by
  have hbl := bl_le c
  have hc4 : c < 4 := by rcases hn.cls with h | h <;> omega
  have hh : hasM x p = true := by rw [has_norm hn]; simp [hp, hb]
  have hlow : ∀ i, i < 16 → (lessM x p).getLsbD i = setT (bitsOf x) p false i := fun i hi => by
    rw [less_bit x p i (by omega)]; rfl
  have hz : takenM (lessM x p) = 0#64 ↔ cnt (setT (bitsOf x) p false) 16 = 0 := by
    rw [taken_zero, cnt_zero]
    exact ⟨fun h i hi => by rw [← hlow i hi]; exact h i hi, fun h i hi => by rw [hlow i hi]; exact h i hi⟩
  by_cases h0 : takenM (lessM x p) = 0#64
  · have hd : dropW x p = 0#64 := by unfold dropW; rw [if_pos hh, if_pos (by rw [h0]; rfl)]
    have hc := hz.1 h0
    refine ⟨?_, .inl ⟨hd, hc⟩⟩
    rw [hd, if_pos hc]
    apply ext; intro i hi
    rw [BitVec.getLsbD_zero]
    by_cases h1 : i < 16
    · rw [wordR_low _ _ _ h1]; exact ((cnt_zero _ 16).1 hc i h1).symm
    · rw [wordR_high _ _ _ (by omega) hi]; simp
  · have hd : dropW x p = lessM x p := by unfold dropW; rw [if_pos hh, if_neg (by simpa using h0)]
    have hc : cnt (setT (bitsOf x) p false) 16 ≠ 0 := fun h => h0 (hz.2 h)
    have hhigh : ∀ i, 16 ≤ i → (lessM x p).getLsbD i = x.getLsbD i := fun i hi => by rw [less_bit x p i (by omega), if_neg (by omega)]
    refine ⟨?_, .inr ⟨⟨hn.cls, ?_, ?_, fun i h1 h2 => ?_⟩, hd, hc⟩⟩
    · rw [hd, if_neg hc]
      apply ext; intro i hi
      by_cases h1 : i < 16
      · rw [wordR_low _ _ _ h1, hlow i h1]
      · rw [wordR_high _ _ _ (by omega) hi, hhigh i (by omega), hi_bit hn.hi i (by omega)]
    · rw [hd]; exact hi_of (fun i h1 h2 => by rw [hhigh i h1, hi_bit hn.hi i h1]) hc4
    · rw [hd]
      apply Classical.byContradiction
      intro hno
      apply h0
      rw [taken_zero]
      intro i hi
      cases hbi : (lessM x p).getLsbD i
      · rfl
      · refine absurd ⟨i, ?_, hbi⟩ hno
        rw [less_bit x p i (by omega)] at hbi
        split at hbi
        · cases hbi
        · apply Nat.lt_of_not_le; intro h3
          rw [hn.none i h3 hi] at hbi; cases hbi
    · rw [hd, less_bit x p i (by omega)]
      split
      · rfl
      · exact hn.none i h1 h2
/-- The list, over all sixteen. -/
theorem filter_more (f : Nat → Bool) (b : Nat) (hb : b ≤ 16) (h : ∀ i, b ≤ i → i < 16 → f i = false) : (List.range 16).filter f = (List.range b).filter f := by
  obtain ⟨d, hd⟩ : ∃ d, 16 = b + d := ⟨16 - b, by omega⟩
  rw [hd, List.range_add, List.filter_append]
  have : ((List.range d).map (b + ·)).filter f = [] := by
    rw [List.filter_eq_nil_iff]
    intro i hi
    simp at hi
    obtain ⟨j, hj, rfl⟩ := hi
    rw [h (b + j) (by omega) (by omega)]; simp
  rw [this, List.append_nil]
theorem list_norm {x : BitVec 64} {c : Nat} (hn : Norm x c) : listM x = (List.range 16).filter (bitsOf x) := by
  unfold listM
  rw [class_norm hn, Int.toNat_natCast, filter_more (bitsOf x) (bl c) (bl_le c) (fun i h1 h2 => hn.none i h1 h2)]
  apply List.filter_congr
  intro i hi
  rw [List.mem_range] at hi
  rw [has_norm hn]; simp [hi, bitsOf]
theorem list_nil {x : BitVec 64} (h : classM x = 0) : listM x = [] := by
  unfold listM; rw [h]; rfl
/-- What the reference lists: with its slab's blocks, or with none. -/
def tR (x : BitVec 64) (i : Nat) : Bool := rB x && x.getLsbD i
def cR (x : BitVec 64) : Nat := if rB x then kR x else 0
theorem list_ref (x : BitVec 64) : listM x = (List.range 16).filter (tR x) := by
  cases hb : rB x
  · rw [list_nil (class_wrong (by rw [← rB_eq]; exact hb))]
    rw [eq_comm, List.filter_eq_nil_iff]; intro i _; simp [tR, hb]
  · rcases right_cases (by rw [← rB_eq]; exact hb) with rfl | ⟨c, hn⟩
    · rw [list_nil class_zero]; rw [eq_comm, List.filter_eq_nil_iff]; intro i _; simp [tR]
    · rw [list_norm hn]; congr 1; funext i; simp [tR, hb, bitsOf]
theorem cR_class (x : BitVec 64) : classM x = cR x := by
  unfold cR
  cases hb : rB x
  · exact class_wrong (by rw [← rB_eq]; exact hb)
  · exact kR_class hb
theorem has_ref (x : BitVec 64) (i : Nat) (hi : i < 16) : hasM x i = tR x i := by
  unfold tR
  cases hb : rB x
  · rw [has_wrong (by rw [← rB_eq]; exact hb)]; rfl
  · rcases right_cases (by rw [← rB_eq]; exact hb) with rfl | ⟨c, hn⟩
    · rw [has_zero]; simp
    · rw [has_norm hn]
      by_cases h : i < bl c
      · simp [h]
      · rw [hn.none i (by omega) hi]; simp
theorem has_out (x : BitVec 64) (p : Int) (h : p < 0 ∨ 16 ≤ p) : hasM x p = false := by
  cases hh : hasM x p
  · rfl
  · obtain ⟨c, i, _, rfl, h1, _⟩ := has_true hh
    have := bl_le c; omega
theorem firstOff_congr (x y : BitVec 64) : ∀ (m k : Nat), (∀ j, k ≤ j → j < k + m → x.getLsbD j = y.getLsbD j) → firstOff x k m = firstOff y k m
  | 0, _, _ => rfl
  | m + 1, k, h => by
    unfold firstOff
    rw [h k (Nat.le_refl _) (by omega), firstOff_congr x y m (k + 1) fun j h1 h2 => h j (by omega) (by omega)]
theorem blocksI_le (c : Int) : 0 ≤ blocksI c ∧ blocksI c ≤ 16 := by unfold blocksI; split <;> (try split) <;> omega
theorem cR_zero {x : BitVec 64} (h : rB x = true) : cR x = 0 ↔ x = 0#64 := by
  unfold cR
  rw [h, if_pos rfl]
  constructor
  · intro h0; exact zero_of x h0 (((rB_iff x).1 h).2.2.2 h0)
  · rintro rfl; decide
theorem meets_ref (x : BitVec 64) (c : Int) (hp : 0 < blocksI c) : meetsM x c = (rB x && (decide ((cR x : Int) = 0) || decide ((cR x : Int) = c))) := by
  unfold meetsM
  rw [← rB_eq, decide_eq_true hp, Bool.true_and]
  cases hb : rB x
  · rfl
  · rw [Bool.true_and, Bool.true_and]
    congr 1
    · rw [Bool.eq_iff_iff, beq_iff_eq, decide_eq_true_iff, ← cR_zero hb]; omega
    · have hc := cR_class x
      unfold classM at hc
      rw [← rB_eq, hb, if_pos rfl] at hc
      rw [hc, Bool.eq_iff_iff, beq_iff_eq, decide_eq_true_iff]
theorem next_ref (x : BitVec 64) (c : Int) : nextM x c = if rB x = true ∧ ((cR x : Int) = 0 ∨ (cR x : Int) = c) then firstOff x 0 (blocksI c).toNat else -1 := by
  have hbl := blocksI_le c
  unfold nextM
  by_cases hp : 0 < blocksI c
  · rw [meets_ref x c hp]
    have hlow : lowOff (takenM x) (blocksI c) = firstOff x 0 (blocksI c).toNat := by
      unfold lowOff
      rw [show (min (max (blocksI c) 0) 64).toNat = (blocksI c).toNat by omega]
      refine firstOff_congr _ _ _ _ fun j _ hj => ?_
      have := nat_bits (l := 0) (s := 16) x (by omega) j
      rw [show ((0 : Nat) : Int) = 0 from rfl, show ((16 : Nat) : Int) = 16 from rfl, Nat.zero_add] at this
      unfold takenM; rw [this]; simp; intro; omega
    rw [hlow]
    by_cases h : rB x = true ∧ ((cR x : Int) = 0 ∨ (cR x : Int) = c)
    · rw [if_pos h, if_pos (by rw [h.1, Bool.true_and, Bool.or_eq_true, decide_eq_true_iff, decide_eq_true_iff]; exact h.2)]
    · rw [if_neg h, if_neg]
      intro h2
      rw [Bool.and_eq_true, Bool.or_eq_true, decide_eq_true_iff, decide_eq_true_iff] at h2
      exact h h2
  · have h0 : blocksI c = 0 := by omega
    have hm : meetsM x c = false := by unfold meetsM; rw [h0]; simp
    rw [hm, h0, if_neg (by simp)]
    by_cases h : rB x = true ∧ ((cR x : Int) = 0 ∨ (cR x : Int) = c)
    · rw [if_pos h]; rfl
    · rw [if_neg h]
/-- What the reference asks of a Take. -/
theorem take_ref (x : BitVec 64) (c : Int) (p : Nat) (hp : (p : Int) < blocksI c) : takeOk x c p = ((rB x && (decide ((cR x : Int) = 0) || decide ((cR x : Int) = c))) && !tR x p) := by
  have hbl := blocksI_le c
  unfold takeOk
  rw [meets_ref x c (by omega), decide_eq_true (by omega : (0 : Int) ≤ p), decide_eq_true hp, has_ref x p (by omega)]
  simp
theorem take_no {x : BitVec 64} {c p : Int} (h : takeOk x c p = false) : takeW x c p = x := by unfold takeW; rw [h]; rfl
theorem take_yes {x : BitVec 64} {c p : Nat} (hc : c = 1 ∨ c = 2) (hp : p < bl c) (h : takeOk x c p = true) : takeW x c p = wordR c (setT (tR x) p true) := by
  have hpI : (p : Int) < blocksI c := by rw [blocksI_nat]; omega
  have h2 := h
  rw [take_ref x c p hpI, Bool.and_eq_true, Bool.and_eq_true, Bool.or_eq_true, decide_eq_true_iff, decide_eq_true_iff] at h2
  obtain ⟨⟨hb, hk⟩, _⟩ := h2
  have hr : rightM x = true := by rw [← rB_eq]; exact hb
  unfold takeW
  rw [if_pos h, BitVec.ofInt_natCast, take_eq hr hc ?_ hp]
  · congr 1; funext i; simp [setT, tR, hb, bitsOf]
  · rcases hk with hk | hk
    · exact .inl ((cR_zero hb).1 (by omega))
    · refine .inr ?_
      have hcl := cR_class x
      unfold classM at hcl
      rw [hr, if_pos rfl] at hcl
      omega
theorem drop_no {x : BitVec 64} {p : Int} (h : hasM x p = false) : dropW x p = x := by unfold dropW; rw [h]; rfl
theorem drop_yes {x : BitVec 64} {p : Nat} (hp : p < 16) (h : tR x p = true) : hasM x p = true ∧ cR x < 4 ∧ dropW x p = wordR (if cnt (setT (tR x) p false) 16 = 0 then 0 else cR x) (setT (tR x) p false) := by
  have hh : hasM x p = true := by rw [has_ref x p hp, h]
  obtain ⟨c, i, hn, he, h1, h2⟩ := has_true hh
  obtain rfl : p = i := by omega
  have hb := (rB_norm hn).2
  have hcR : cR x = c := by unfold cR; rw [hb, if_pos rfl, (rB_norm hn).1]
  have hT : tR x = bitsOf x := by funext i; simp [tR, hb, bitsOf]
  refine ⟨hh, by rw [hcR]; rcases hn.cls with h | h <;> omega, ?_⟩
  rw [hT, hcR]; exact (drop_cases hn h1 h2).1
end Go.Proofs.YtcaekgkogiggoaaDoor.WM
