/- A Format that ends anywhere: plain. -/
import Derived.Test.YtejpophjiinijaaDoorHeadForm
namespace Go.Proofs.YtejpophjiinijaaDoor
set_option linter.unusedVariables false
set_option linter.unusedSimpArgs false
set_option maxRecDepth 100000
open Go Go.RowKit

namespace NM
open Go.Proofs.YtejpophjiinijaaDoor.WM (getM putM putM_length putM_getD hasB get_put byteOf byteOf_wd wd)
/-- A word of a line is nothing, or of the first line, and what is to be there. -/
def TQ (l : List (BitVec 64)) (i : Nat) (b : List (BitVec 8)) : Prop := b.length = 64 ∧ ∀ r, r < 8 → getM b (8 * r) = 0#64 ∨ (i = 0 ∧ getM b (8 * r) = l.getD r 0#64)
theorem tq_zeros (l : List (BitVec 64)) (i : Nat) : TQ l i zeros := ⟨by simp [zeros], fun r _ => .inl (getM_zeros _)⟩
theorem tq_put {l : List (BitVec 64)} {i q : Nat} {v : BitVec 64} (hq : q < 8) (hv : v = 0#64 ∨ (i = 0 ∧ v = l.getD q 0#64)) {b : List (BitVec 8)} (h : TQ l i b) : TQ l i (putM b (8 * q) v) := by
  refine ⟨by rw [putM_length]; exact h.1, fun r hr => ?_⟩
  rw [get_put _ q r _ (by rw [h.1]; omega)]
  by_cases e : q = r
  · subst e; rw [if_pos rfl]; exact hv
  · rw [if_neg e]; exact h.2 r hr
def TI (l : List (BitVec 64)) (n : Nat) (E : Dv) : Prop := E.ls.length = n ∧ E.Ok ∧ ∀ i, i < n → AllC (TQ l i) (E.ln i)
theorem ti_store {l : List (BitVec 64)} {n o : Nat} (hn : 1 ≤ n) (h8 : o % 8 = 0) {v : BitVec 64} (hv : v = 0#64 ∨ (o < 64 ∧ v = l.getD (o / 8) 0#64)) {E : Dv} (h : TI l n E) : TI l n (E.store (o : Int) v).1 := by
  obtain ⟨hl, hok, hq⟩ := h
  refine ⟨by have := step_len E (.store (o : Int) v); exact this.trans hl, hok.store _ _, fun i hi => ?_⟩
  refine AllC.storeLn hok (by omega) _ _ (hq i hi) ?_
  by_cases ha : E.ask (o : Int) 8 = 0
  · obtain ⟨o', ho', _, hos⟩ := ask8 (by omega) ha
    have : o' = o := by omega
    subst this
    rw [store_now hok _ ha h8 hos]
    by_cases e : i = o' / 64
    · rw [if_pos e]
      obtain ⟨q, hq8⟩ : ∃ q, o' % 64 = 8 * q := ⟨o' % 64 / 8, by omega⟩
      subst e
      rw [hq8]
      refine tq_put (by omega) ?_ (hq _ hi).now
      rcases hv with hv | ⟨h64, hv⟩
      · exact .inl hv
      · refine .inr ⟨by omega, ?_⟩
        rw [hv]; congr 1; omega
    · rw [if_neg e]; exact (hq i hi).now
  · rw [store_fail _ _ ha]; exact (hq i hi).now
theorem ti_flush {l : List (BitVec 64)} {n : Nat} (hn : 1 ≤ n) (off : Int) {E : Dv} (h : TI l n E) : TI l n (E.flush off).1 :=
  ⟨(step_len E (.flush off)).trans h.1, h.2.1.flush _, fun i hi => AllC.flushLn (by have := h.1; omega) _ (h.2.2 i hi)⟩
theorem ti_fence {l : List (BitVec 64)} {n : Nat} {E : Dv} (h : TI l n E) : TI l n E.fence.1 :=
  ⟨(step_len E .fence).trans h.1, h.2.1.fence, fun i hi => AllC.fenceLn (by have := h.1; omega) (h.2.2 i hi)⟩
theorem ti_putAll {l m : List (BitVec 64)} {n : Nat} (hn : 1 ≤ n) (hm : ∀ k, k < m.length → m.getD k 0#64 = 0#64 ∨ (8 * k < 64 ∧ m.getD k 0#64 = l.getD k 0#64)) {E : Dv} (h : TI l n E) : TI l n (E.putAll 0 m).1 := by
  unfold Dv.putAll
  split
  · refine runS_inv (I := TI l n) _ (fun s hs E hE => ?_) h
    unfold putAllS at hs
    rcases List.mem_append.1 hs with hs | hs
    · obtain ⟨k, hk, rfl⟩ := List.mem_map.1 hs
      have hk' := List.mem_range.1 hk
      have e : (0 : Int).toNat + 8 * k = 8 * k := by simp
      show TI l n (E.store (((0 : Int).toNat + 8 * k : Nat) : Int) _).1
      rw [e]
      refine ti_store hn (by omega) ?_ hE
      rcases hm k hk' with h1 | ⟨h1, h2⟩
      · exact .inl h1
      · refine .inr ⟨h1, ?_⟩
        rw [h2]; congr 1; omega
    · rcases List.mem_append.1 hs with hs | hs
      · obtain ⟨k, _, rfl⟩ := List.mem_map.1 hs
        exact ti_flush hn _ hE
      · rw [List.mem_singleton.1 hs]; exact ti_fence hE
  · exact h
theorem ti_format {D : Dv} (hn : 1 ≤ D.ls.length) (h : TI (HM.words (HM.of D.ls.length).1) D.ls.length D) : TI (HM.words (HM.of D.ls.length).1) D.ls.length D.format.1 := by
  unfold Dv.format
  split
  · exact h
  · rename_i hof
    obtain ⟨hn1, hn2, hn3, _⟩ := HM.of_some (n := (D.ls.length : Int)) (by simpa using hof)
    have hwl : (HM.words (HM.of D.ls.length).1).length = 8 := by rw [hn3]; exact HM.words_len (by omega) (by omega)
    have h1 := ti_putAll hn (m := List.replicate (D.ls.length * 8) 0#64) (fun k hk => .inl (by rw [List.getD_eq_getElem?_getD, List.getElem?_replicate]; split <;> rfl)) h
    split
    · exact h1
    · have h2 := ti_putAll hn (m := HM.words (HM.of D.ls.length).1) (fun k hk => .inr ⟨by omega, rfl⟩) h1
      split <;> exact h2
theorem ti_dev0 (l : List (BitVec 64)) (n : Nat) (hn : n ≤ 1024) : TI l n (dev0 n) :=
  ⟨by simp [dev0], dev0_ok n hn, fun i hi => allC_one (by rw [dev0_ln n i hi]; exact tq_zeros l i) (by rw [dev0_ln n i hi]; rfl)⟩
/-- Behind a crash. -/
theorem ti_crash {l : List (BitVec 64)} {n : Nat} {E : Dv} (h : TI l n E) (ps : List (BitVec 8)) {x : Nat} (h8 : x % 8 = 0) (hx : x < 64 * n) : (E.crash ps).word x = 0#64 ∨ (x < 64 ∧ (E.crash ps).word x = l.getD (x / 8) 0#64) := by
  obtain ⟨k, hk, hc⟩ := crash_ln (D := E) ps (i := x / 64) (by have := h.1; omega)
  have hq := (h.2.2 (x / 64) (by omega)).crash hk
  unfold Dv.word
  rw [hc]
  obtain ⟨r, hr⟩ : ∃ r, x % 64 = 8 * r := ⟨x % 64 / 8, by omega⟩
  rw [hr]
  rcases hq.2 r (by omega) with h1 | ⟨h0, hv⟩
  · exact .inl h1
  · refine .inr ⟨by omega, ?_⟩
    rw [hv]; congr 1; omega
theorem words_le (s : HM.Shape) : (HM.words s).length ≤ 8 := by
  unfold HM.words; split
  · exact Nat.le_refl _
  · simp
theorem format_steps {D : Dv} (hn : D.ls.length ≤ 1024) : D.format.1.steps ≤ D.steps + 100000 := by
  have h1 := putAll_steps D 0 (List.replicate (D.ls.length * 8) 0#64)
  rw [List.length_replicate] at h1
  have h2 := putAll_steps (D.putAll 0 (List.replicate (D.ls.length * 8) 0#64)).1 0 (HM.words (HM.of D.ls.length).1)
  have h3 := words_le (HM.of D.ls.length).1
  unfold Dv.format
  split
  · dsimp only; omega
  · split
    · dsimp only; omega
    · split <;> (dsimp only; omega)
theorem format_len (D : Dv) : D.format.1.ls.length = D.ls.length := by
  have h : ∀ (E : Dv) (l : List (BitVec 64)), (E.putAll 0 l).1.ls.length = E.ls.length := fun E l => by
    unfold Dv.putAll; split
    · exact runS_len _ _
    · rfl
  unfold Dv.format
  split
  · rfl
  · split
    · exact h _ _
    · split
      · exact (h _ _).trans (h _ _)
      · exact (h _ _).trans (h _ _)
theorem format_Ok {D : Dv} (hok : D.Ok) : D.format.1.Ok := by
  have h : ∀ (E : Dv) (l : List (BitVec 64)), E.Ok → (E.putAll 0 l).1.Ok := fun E l hE => by
    unfold Dv.putAll; split
    · exact runS_okk hE _
    · exact hE
  unfold Dv.format
  split
  · exact hok
  · split
    · exact h _ _ hok
    · split
      · exact h _ _ (h _ _ hok)
      · exact h _ _ (h _ _ hok)
/-- A byte of the whole is one of a word. -/
theorem image_byte {D : Dv} (h : D.Ok) {j : Nat} (hj : j < D.size) : D.image.getD j 0#8 = WM.byteOf (D.word (8 * (j / 8))) (j % 8) := by
  rw [image_at h hj]
  unfold Dv.word getM
  rw [WM.byteOf_wd _ _ (by omega)]
  have e1 : 8 * (j / 8) / 64 = j / 64 := by omega
  have e2 : 8 * (j / 8) % 64 + j % 8 = j % 64 := by omega
  rw [e1, e2]
/-- What was stored, flushed and fenced with OK stays. -/
theorem format_ok {D : Dv} (hok : D.Ok) (hp : 0 < D.ls.length) (he : D.format.2.2 = 0) (ps : List (BitVec 8)) : (D.format.1.crash ps).openH = ((HM.of D.ls.length).1, 0) := by
  have hof : (HM.of D.ls.length).2 = true := by
    cases hb : (HM.of (D.ls.length : Int)).2
    · rw [format_none hb] at he; cases he
    · rfl
  obtain ⟨hn1, hn2, hn3, _⟩ := HM.of_some hof
  have hwl : (HM.words (HM.of D.ls.length).1).length = 8 := by rw [hn3]; exact HM.words_len (by omega) (by omega)
  unfold Dv.format at he ⊢
  rw [if_neg (by rw [hof]; simp)] at he ⊢
  by_cases h1 : (D.putAll 0 (List.replicate (D.ls.length * 8) 0#64)).2 = 0
  · rw [if_neg (by rw [h1]; simp)] at he ⊢
    have hok1 : (D.putAll 0 (List.replicate (D.ls.length * 8) 0#64)).1.Ok ∧ (D.putAll 0 (List.replicate (D.ls.length * 8) 0#64)).1.ls.length = D.ls.length := by
      unfold Dv.putAll; split
      · exact ⟨runS_okk hok _, runS_len _ _⟩
      · exact ⟨hok, rfl⟩
    generalize (D.putAll 0 (List.replicate (D.ls.length * 8) 0#64)).1 = E at *
    by_cases h2 : (E.putAll 0 (HM.words (HM.of D.ls.length).1)).2 = 0
    · rw [if_neg (by rw [h2]; simp)]
      have hw : E.within 0 (HM.words (HM.of D.ls.length).1).length = 0 := within_in (o := 0) (by omega) (by omega) (by unfold Dv.size; omega)
      unfold Dv.putAll at h2 ⊢
      rw [if_pos hw] at h2 ⊢
      have h2' : (runS E (putAllS 0 (HM.words (HM.of D.ls.length).1))).2 = 0 := h2
      have hws := fun x h8 hx => putAll_words hok1.1 (by omega) (o := 0) (l := HM.words (HM.of D.ls.length).1) (by omega) (by unfold Dv.size; omega) h2' (x := x) h8 hx
      have hone := putAll_one (D := E) (by omega) (o := 0) (l := HM.words (HM.of D.ls.length).1) (by omega) (by unfold Dv.size; omega) h2' (j := 0) (by omega)
      have hG : (runS E (putAllS 0 (HM.words (HM.of D.ls.length).1))).1.ls.length = D.ls.length := (runS_len _ _).trans hok1.2
      show ((runS E (putAllS 0 (HM.words (HM.of D.ls.length).1))).1.crash ps).openH = _
      generalize (runS E (putAllS 0 (HM.words (HM.of D.ls.length).1))).1 = G at *
      have hup := Dv.Up.crash (D := G) (by omega) ps
      have hcl := crash_len G ps
      rw [open_up (by omega) hup.down, hcl, hG, if_pos]
      refine ⟨hof, (words_eq hwl).2 fun i hi => ?_⟩
      have hsame := crash_same (D := G) ps (i := 0) (by omega) hone
      have : (G.crash ps).word (8 * i) = G.word (8 * i) := by
        unfold Dv.word
        rw [show 8 * i / 64 = 0 by omega, hsame]
      rw [this, hws (8 * i) (by omega) (by unfold Dv.size; omega), if_pos (by omega)]
      congr 1; omega
    · rw [if_pos (by simpa using h2)] at he
      exact absurd he h2
  · rw [if_pos (by simpa using h1)] at he
    exact absurd he h1
end NM
end Go.Proofs.YtejpophjiinijaaDoor
