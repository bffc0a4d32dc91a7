/- Slabs as words: what the laws say, no program in sight. -/
import Derived.Test.YtcaekgkogiggoaaDoorSlabMath2
namespace Go.Proofs.YtcaekgkogiggoaaDoor.WM

theorem wordR_congr {c : Nat} {T U : Nat → Bool} (h : ∀ i, i < 16 → T i = U i) : wordR c T = wordR c U := by
  apply ext; intro i hi
  by_cases h1 : i < 16
  · rw [wordR_low _ _ _ h1, wordR_low _ _ _ h1, h i h1]
  · rw [wordR_high _ _ _ (by omega) hi, wordR_high _ _ _ (by omega) hi]
/-- What is known behind a Take that is answered. -/
theorem take_state {w : BitVec 64} {c p : Int} (h : takeOk w c p = true) : ∃ cn q : Nat, c = cn ∧ p = q ∧ (cn = 1 ∨ cn = 2) ∧ q < bl cn ∧ tR w q = false ∧ ((cR w : Int) = 0 ∨ cR w = cn) ∧ Norm (takeW w c p) cn ∧ ∀ i, i < 16 → tR (takeW w c p) i = setT (tR w) q true i := by
  have h2 := h
  unfold takeOk at h2
  simp only [Bool.and_eq_true, decide_eq_true_eq] at h2
  obtain ⟨q, rfl⟩ := Int.eq_ofNat_of_zero_le h2.1.1.2
  obtain ⟨cn, rfl, hcn⟩ := blocksI_pos (c := c) (by omega)
  have hq : q < bl cn := by have := blocksI_nat cn; omega
  have h3 := h
  rw [take_ref w cn q h2.1.2] at h3
  simp only [Bool.and_eq_true, Bool.or_eq_true, decide_eq_true_eq, Bool.not_eq_true'] at h3
  obtain ⟨⟨hb, hk⟩, hT⟩ := h3
  have hr : rightM w = true := by rw [← rB_eq]; exact hb
  have hk2 : w = 0#64 ∨ kindM w = cn := by
    rcases hk with hk | hk
    · exact .inl ((cR_zero hb).1 (by omega))
    · refine .inr ?_
      have hcl := cR_class w
      unfold classM at hcl
      rw [hr, if_pos rfl] at hcl
      omega
  have hw : takeW w cn q = withM (withM w q 1 1#64) 16 2 (BitVec.ofNat 64 cn) := by unfold takeW; rw [if_pos h, BitVec.ofInt_natCast]
  have hn := take_norm hr hcn hk2 hq
  rw [← hw] at hn
  refine ⟨cn, q, rfl, rfl, hcn, hq, hT, by omega, hn, fun i hi => ?_⟩
  have hbl := bl_le cn
  have h4 : (takeW w cn q).getLsbD i = if i = q then true else w.getLsbD i := by rw [hw, take_bit _ _ _ _ (by omega), if_neg (by omega)]
  unfold tR setT
  rw [(rB_norm hn).2, h4, hb]; simp
theorem cR_norm {x : BitVec 64} {c : Nat} (h : Norm x c) : cR x = c ∧ rB x = true := by
  have := rB_norm h
  unfold cR; rw [this.2, if_pos rfl]; exact ⟨this.1, rfl⟩
theorem cnt_congr {T U : Nat → Bool} : ∀ k, (∀ i, i < k → T i = U i) → cnt T k = cnt U k
  | 0, _ => rfl
  | k + 1, h => by unfold cnt; rw [h k (by omega), cnt_congr k fun i hi => h i (by omega)]
theorem cnt_succ (T : Nat → Bool) (k : Nat) : cnt T (k + 1) = if T k then cnt T k + 1 else cnt T k := rfl
theorem cnt_set (T : Nat → Bool) (p : Nat) (hT : T p = false) : ∀ k, cnt (setT T p true) k = cnt T k + (if p < k then 1 else 0)
  | 0 => rfl
  | k + 1 => by
    rw [cnt_succ, cnt_succ, cnt_set T p hT k]
    by_cases h : k = p
    · subst h
      have e : setT T k true k = true := by simp [setT]
      rw [e, hT]; simp
    · have e : setT T p true k = T k := by simp [setT, h]
      rw [e]
      by_cases h2 : p < k
      · have h3 : p < k + 1 := by omega
        simp only [h2, h3, if_true]; split <;> omega
      · have h3 : ¬ p < k + 1 := by omega
        simp only [h2, h3, if_false]; split <;> omega
theorem cnt_off (T : Nat → Bool) (p : Nat) (hT : T p = true) (k : Nat) : cnt (setT T p false) k + (if p < k then 1 else 0) = cnt T k := by
  have h := cnt_set (setT T p false) p (by simp [setT]) k
  have e : setT (setT T p false) p true = T := by
    funext i; unfold setT; by_cases h : i = p
    · subst h; simp [hT]
    · simp [h]
  rw [e] at h; omega
theorem filter_cnt (T : Nat → Bool) : ∀ k, ((List.range k).filter T).length = cnt T k
  | 0 => rfl
  | k + 1 => by
    rw [List.range_succ, List.filter_append, List.length_append, filter_cnt T k, cnt_succ]
    cases h : T k <;> simp [h]
theorem list_len (x : BitVec 64) : (listM x).length = cnt (tR x) 16 := by rw [list_ref, filter_cnt]
/-- Two blocks in whatever order. -/
theorem order_law {w : BitVec 64} {c a b : Int} (ha : takeOk w c a = true) (hb : takeOk w c b = true) (hab : a ≠ b) :
    takeOk (takeW w c a) c b = true ∧ takeOk (takeW w c b) c a = true ∧ takeW (takeW w c a) c b = takeW (takeW w c b) c a ∧ (listM (takeW (takeW w c a) c b)).length = (listM w).length + 2 := by
  obtain ⟨cn, p, rfl, rfl, hcn, hp, hTp, _, hnp, htp⟩ := take_state ha
  obtain ⟨cn', q, hc', rfl, _, hq, hTq, _, hnq, htq⟩ := take_state hb
  obtain rfl : cn = cn' := by omega
  have hpq : p ≠ q := by omega
  have hbl := bl_le cn
  have hpI : (p : Int) < blocksI cn := by rw [blocksI_nat]; omega
  have hqI : (q : Int) < blocksI cn := by rw [blocksI_nat]; omega
  have hok1 : takeOk (takeW w cn p) cn q = true := by
    rw [take_ref _ _ _ hqI, (cR_norm hnp).1, (cR_norm hnp).2, htp q (by omega)]
    simp [setT, hTq]; intro h; exact absurd h.symm hpq
  have hok2 : takeOk (takeW w cn q) cn p = true := by
    rw [take_ref _ _ _ hpI, (cR_norm hnq).1, (cR_norm hnq).2, htq p (by omega)]
    simp [setT, hTp]; exact hpq
  obtain ⟨_, q', _, e1, _, _, hT1, _, hn1, ht1⟩ := take_state hok1
  obtain rfl : q = q' := by omega
  refine ⟨hok1, hok2, ?_, ?_⟩
  · rw [take_yes hcn hq hok1, take_yes hcn hp hok2]
    refine wordR_congr fun i hi => ?_
    unfold setT
    by_cases h1 : i = q
    · subst h1
      rw [if_pos rfl, if_neg (fun e => hpq e.symm), htq i hi]; simp [setT]
    · rw [if_neg h1, htp i hi]
      by_cases h2 : i = p
      · subst h2; rw [if_pos rfl]; simp [setT]
      · rw [if_neg h2, htq i hi]; simp [setT, h1, h2]
  · rw [list_len, list_len, cnt_congr 16 ht1, cnt_set _ _ hT1, cnt_congr 16 htp, cnt_set _ _ hTp]
    rw [if_pos (by omega), if_pos (by omega)]
/-- A word is told by its class and its blocks. -/
theorem mem_list {x : BitVec 64} {c : Nat} (hn : Norm x c) (i : Nat) (hi : i < 16) : i ∈ listM x ↔ x.getLsbD i = true := by
  rw [list_norm hn, List.mem_filter, List.mem_range]
  exact ⟨fun h => h.2, fun h => ⟨hi, h⟩⟩
theorem words_law {v w : BitVec 64} (hv : rightM v = true) (hw : rightM w = true) : v = w ↔ (classM v = classM w ∧ listM v = listM w) := by
  constructor
  · rintro rfl; exact ⟨rfl, rfl⟩
  · rintro ⟨h1, h2⟩
    rcases right_cases hv with rfl | ⟨c, hn⟩
    · rcases right_cases hw with rfl | ⟨d, hm⟩
      · rfl
      · rw [class_zero, class_norm hm] at h1
        have := hm.cls; omega
    · rcases right_cases hw with rfl | ⟨d, hm⟩
      · rw [class_zero, class_norm hn] at h1
        have := hn.cls; omega
      · rw [class_norm hn, class_norm hm] at h1
        obtain rfl : c = d := by omega
        have hbl := bl_le c
        refine norm_inj hn hm fun i hi => ?_
        rw [Bool.eq_iff_iff, ← mem_list hn i (by omega), ← mem_list hm i (by omega), h2]
theorem list_wrong {x : BitVec 64} (h : rightM x = false) : listM x = [] := list_nil (class_wrong h)
end Go.Proofs.YtcaekgkogiggoaaDoor.WM
