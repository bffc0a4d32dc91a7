/- Slabs as words: what SlabFills asks, no program in sight. -/
import Derived.Test.YtcaekgkogiggoaaDoorSlabMath3
namespace Go.Proofs.YtcaekgkogiggoaaDoor

/-- The word of a class with its first k blocks. -/
def fillW (c : Int) : Nat → BitVec 64
  | 0 => 0#64
  | k + 1 => WM.takeW (fillW c k) c k
/-- What is known of it. -/
theorem fill_state {c : Nat} (hc : c = 1 ∨ c = 2) : ∀ k, k ≤ WM.bl c → (WM.rB (fillW c k) = true ∧ WM.cR (fillW c k) = (if k = 0 then 0 else c)) ∧ (∀ i, i < 16 → WM.tR (fillW c k) i = decide (i < k)) ∧ (k < WM.bl c → WM.takeOk (fillW c k) c k = true)
  | 0, _ => by
    have h1 : WM.rB (fillW c 0) = true := (by decide +kernel : WM.rB 0#64 = true)
    have h2 : WM.cR (fillW c 0) = 0 := (by decide +kernel : WM.cR 0#64 = 0)
    have h3 : ∀ i, i < 16 → WM.tR (fillW c 0) i = decide (i < 0) := fun i hi => by show (WM.rB 0#64 && (0#64).getLsbD i) = _; simp
    refine ⟨⟨h1, by rw [h2]; rfl⟩, h3, fun hb => ?_⟩
    have hbI : ((0 : Nat) : Int) < WM.blocksI c := by rw [WM.blocksI_nat]; omega
    rw [WM.take_ref _ _ _ hbI, h1, h2, h3 0 (by omega)]; rfl
  | k + 1, hk => by
    obtain ⟨_, _, hok⟩ := fill_state hc k (by omega)
    have hok := hok (by omega)
    have hbl := WM.bl_le c
    obtain ⟨cn, q, hcn, hq, _, _, _, _, hn, ht⟩ := WM.take_state hok
    obtain rfl : c = cn := by omega
    obtain rfl : k = q := by omega
    obtain ⟨_, hT, _⟩ := fill_state hc k (by omega)
    have h1 := WM.cR_norm hn
    have h3 : ∀ i, i < 16 → WM.tR (fillW c (k + 1)) i = decide (i < k + 1) := fun i hi => by
      show WM.tR (WM.takeW (fillW c k) c k) i = _
      rw [ht i hi]
      unfold WM.setT
      by_cases h : i = k
      · subst h; simp
      · rw [if_neg h, hT i hi]; apply decide_eq_decide.2; omega
    refine ⟨⟨h1.2, by rw [if_neg (by omega)]; exact h1.1⟩, h3, fun hb => ?_⟩
    have hbI : ((k + 1 : Nat) : Int) < WM.blocksI c := by rw [WM.blocksI_nat]; omega
    have h1' : WM.cR (fillW c (k + 1)) = c ∧ WM.rB (fillW c (k + 1)) = true := h1
    rw [WM.take_ref _ _ _ hbI, h1'.1, h1'.2, h3 (k + 1) (by omega)]
    simp
/-- The first one that is free. -/
theorem next_first {x : BitVec 64} {c : Nat} (hb : WM.rB x = true) (hk : WM.cR x = 0 ∨ WM.cR x = c) (t : Nat) (ht : t < WM.bl c) (hf : WM.tR x t = false) (hl : ∀ i, i < t → WM.tR x i = true) : WM.nextM x c = t := by
  rw [WM.next_ref, if_pos ⟨hb, by omega⟩, WM.blocksI_nat, Int.toNat_natCast]
  have hbit : ∀ i, WM.tR x i = x.getLsbD i := fun i => by unfold WM.tR; rw [hb, Bool.true_and]
  exact WM.firstOff_some x _ 0 t (by omega) (by omega) (fun j _ hj => by rw [← hbit]; exact hl j hj) (by rw [← hbit]; exact hf)
theorem next_le {x : BitVec 64} {c : Nat} (t : Nat) (hf : WM.tR x t = false) (hb : WM.rB x = true) : WM.nextM x c ≤ t ∨ WM.bl c ≤ t := by
  rw [WM.next_ref]
  by_cases h : WM.rB x = true ∧ ((WM.cR x : Int) = 0 ∨ (WM.cR x : Int) = c)
  · rw [if_pos h, WM.blocksI_nat, Int.toNat_natCast]
    have hbit : ∀ i, WM.tR x i = x.getLsbD i := fun i => by unfold WM.tR; rw [hb, Bool.true_and]
    rcases WM.firstOff_cases x (WM.bl c) 0 with ⟨h1, h2⟩ | ⟨s, h1, h2, h3, h4, h5⟩
    · left; rw [h1]; omega
    · rcases Nat.lt_or_ge t (WM.bl c) with h6 | h6
      · left
        rw [h1]
        rcases Nat.lt_or_ge t s with h7 | h7
        · have := h5 t (by omega) h7; rw [← hbit, hf] at this; cases this
        · omega
      · right; exact h6
  · rw [if_neg h]; left; omega
theorem next_none {x : BitVec 64} {c : Nat} (hb : WM.rB x = true) (hl : ∀ i, i < WM.bl c → WM.tR x i = true) : WM.nextM x c = -1 := by
  rw [WM.next_ref]
  by_cases h : WM.rB x = true ∧ ((WM.cR x : Int) = 0 ∨ (WM.cR x : Int) = c)
  · rw [if_pos h, WM.blocksI_nat, Int.toNat_natCast]
    have hbit : ∀ i, WM.tR x i = x.getLsbD i := fun i => by unfold WM.tR; rw [hb, Bool.true_and]
    exact WM.firstOff_none x _ 0 fun j _ hj => by rw [← hbit]; exact hl j (by omega)
  · rw [if_neg h]
/-- A Drop's state: fewer by one, of the same class, or nothing. -/
theorem drop_state {x : BitVec 64} {c p : Nat} (hb : WM.rB x = true) (hk : WM.cR x = 0 ∨ WM.cR x = c) (hp : p < 16) (hh : WM.hasM x p = true) :
    WM.rB (WM.dropW x p) = true ∧ (WM.cR (WM.dropW x p) = 0 ∨ WM.cR (WM.dropW x p) = c) ∧ WM.tR (WM.dropW x p) p = false ∧ WM.cnt (WM.tR (WM.dropW x p)) 16 + 1 = WM.cnt (WM.tR x) 16 ∧ p < WM.bl c := by
  obtain ⟨d, i, hn, he, h1, h2⟩ := WM.has_true hh
  obtain rfl : p = i := by omega
  have hd : d = c := by
    have := (WM.cR_norm hn).1; have := hn.cls; omega
  subst hd
  have hTx : WM.tR x = WM.bitsOf x := by funext i; simp [WM.tR, hb, WM.bitsOf]
  have hTp : WM.tR x p = true := by rw [hTx]; exact h2
  have hoff := WM.cnt_off (WM.tR x) p hTp 16
  rw [if_pos hp] at hoff
  rcases (WM.drop_cases hn h1 h2).2 with ⟨h3, h4⟩ | ⟨h3, h4, h5⟩
  · rw [h3]
    have e0 : ∀ i, i < 16 → WM.tR 0#64 i = WM.setT (WM.tR x) p false i := fun i hi => by
      rw [hTx, (WM.cnt_zero _ 16).1 h4 i hi]; simp [WM.tR]
    refine ⟨by decide +kernel, .inl (by decide +kernel), by simp [WM.tR], ?_, h1⟩
    rw [WM.cnt_congr 16 e0]; exact hoff
  · have h6 := WM.cR_norm h3
    have e0 : ∀ i, i < 16 → WM.tR (WM.dropW x p) i = WM.setT (WM.tR x) p false i := fun i hi => by
      unfold WM.tR WM.setT
      rw [h6.2, hb, h4, WM.less_bit x p i hp]; simp
    refine ⟨h6.2, .inr h6.1, ?_, ?_, h1⟩
    · rw [e0 p hp]; simp [WM.setT]
    · rw [WM.cnt_congr 16 e0]; exact hoff
theorem zero_iff {x : BitVec 64} (hb : WM.rB x = true) : x = 0#64 ↔ WM.cnt (WM.tR x) 16 = 0 := by
  rw [WM.cnt_zero]
  constructor
  · rintro rfl i _; simp [WM.tR]
  · intro h
    rw [WM.rB_eq] at hb
    rcases WM.right_cases hb with h0 | ⟨c, hn⟩
    · exact h0
    · obtain ⟨i, h1, h2⟩ := hn.some
      have hbl := WM.bl_le c
      have h3 := h i (by omega)
      unfold WM.tR at h3
      rw [(WM.cR_norm hn).2, h2] at h3; cases h3
theorem next_noclass {x : BitVec 64} {c : Int} (h : WM.blocksI c = 0) : WM.nextM x c = -1 := by
  rw [WM.next_ref, h]
  by_cases h2 : WM.rB x = true ∧ ((WM.cR x : Int) = 0 ∨ (WM.cR x : Int) = c)
  · rw [if_pos h2]; rfl
  · rw [if_neg h2]
theorem cnt_first {T : Nat → Bool} {n : Nat} (hn : n ≤ 16) (h : ∀ i, i < 16 → T i = decide (i < n)) : WM.cnt T 16 = n := by
  have : ∀ k, k ≤ 16 → WM.cnt T k = min k n := by
    intro k
    induction k with
    | zero => intro _; simp [WM.cnt]
    | succ k ih =>
      intro hk
      rw [WM.cnt_succ, ih (by omega), h k (by omega)]
      by_cases h2 : k < n
      · rw [decide_eq_true h2, if_pos rfl]; omega
      · rw [decide_eq_false h2, if_neg (by simp)]; omega
  rw [this 16 (Nat.le_refl _)]; omega
/-- All blocks of a class taken. -/
theorem fill_all (c : Int) : ∃ n : Nat, WM.blocksI c = n ∧ n ≤ 16 ∧ WM.rB (fillW c n) = true ∧ (WM.cR (fillW c n) = 0 ∨ (WM.cR (fillW c n) : Int) = c) ∧ WM.cnt (WM.tR (fillW c n)) 16 = n ∧ WM.nextM (fillW c n) c = -1 ∧
    ∀ k, k < n → WM.nextM (fillW c k) c = k ∧ WM.takeOk (fillW c k) c k = true := by
  by_cases hp : 0 < WM.blocksI c
  · obtain ⟨cn, rfl, hcn⟩ := WM.blocksI_pos hp
    have hbl := WM.bl_le cn
    obtain ⟨⟨h1, h2⟩, h3, _⟩ := fill_state hcn (WM.bl cn) (Nat.le_refl _)
    refine ⟨WM.bl cn, WM.blocksI_nat cn, hbl, h1, ?_, cnt_first hbl h3, ?_, fun k hk => ?_⟩
    · rw [h2]; split
      · exact .inl rfl
      · exact .inr rfl
    · exact next_none h1 fun i hi => by rw [h3 i (by omega)]; exact decide_eq_true hi
    · obtain ⟨⟨g1, g2⟩, g3, g4⟩ := fill_state hcn k (by omega)
      refine ⟨next_first g1 ?_ k hk ?_ fun i hi => ?_, g4 hk⟩
      · rw [g2]; split
        · exact .inl rfl
        · exact .inr rfl
      · rw [g3 k (by omega)]; simp
      · rw [g3 i (by omega)]; exact decide_eq_true hi
  · have h0 : WM.blocksI c = 0 := by have := WM.blocksI_le c; omega
    exact ⟨0, h0, by omega, (by decide +kernel : WM.rB 0#64 = true), .inl (by decide +kernel : WM.cR 0#64 = 0), (by decide +kernel : WM.cnt (WM.tR 0#64) 16 = 0), next_noclass h0, fun k hk => by omega⟩
end Go.Proofs.YtcaekgkogiggoaaDoor
