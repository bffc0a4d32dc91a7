/- What a line may be: plain laws. -/
import Derived.Test.YtkljlgahdlgmpaaNvmLaw2
import Derived.Test.YtkljlgahdlgmpaaSure3
namespace Go.Proofs.Ytkljlgahdlgmpaa
open Go

namespace NM
open Go.Proofs.Ytkljlgahdlgmpaa.WM (getM putM putM_length putM_getD hasB get_put byteOf byteOf_wd wd)

/-- All that a line may be is so. -/
def AllC (Q : List (BitVec 8) → Prop) (l : Ln) : Prop := ∀ k, k ≤ l.chg.length → Q (undo (l.chg.drop k) l.now)
theorem AllC.now {Q : List (BitVec 8) → Prop} {l : Ln} (h : AllC Q l) : Q l.now := by
  have := h l.chg.length (Nat.le_refl _)
  rwa [List.drop_length] at this
theorem AllC.mono {Q R : List (BitVec 8) → Prop} {l : Ln} (h : AllC Q l) (hr : ∀ b, Q b → R b) : AllC R l := fun k hk => hr _ (h k hk)
theorem allC_one {Q : List (BitVec 8) → Prop} {l : Ln} (h : Q l.now) (hc : l.chg = []) : AllC Q l := fun k hk => by rw [hc, List.drop_nil]; exact h
theorem undo_snoc (cs : List (Nat × BitVec 64)) (c : Nat × BitVec 64) (b : List (BitVec 8)) : undo (cs ++ [c]) b = undo cs (putM b c.1 c.2) := by simp [undo]
theorem put_back (l : List (BitVec 8)) (p : Nat) (n : BitVec 64) (hp : p + 8 ≤ l.length) : putM (putM l p n) p (getM l p) = l := by
  apply list_ext_getD (by rw [putM_length, putM_length])
  intro i hi
  rw [putM_length, putM_length] at hi
  rw [putM_getD _ _ _ _ (by rw [putM_length]; exact hp), putM_getD _ _ _ _ hp]
  split
  · rename_i h
    unfold getM
    rw [byteOf_wd _ _ (by omega)]
    congr 1; omega
  · rfl
theorem AllC.store {Q : List (BitVec 8) → Prop} {l : Ln} (h : AllC Q l) (p : Nat) (n : BitVec 64) (hp : p + 8 ≤ l.now.length) (hq : Q (putM l.now p n)) : AllC Q (l.store p n) := by
  intro k hk
  simp only [Ln.store, List.length_append, List.length_singleton] at hk ⊢
  by_cases h1 : k ≤ l.chg.length
  · rw [List.drop_append_of_le_length h1, undo_snoc]
    simp only
    rw [put_back _ _ _ hp]
    exact h k h1
  · rw [List.drop_eq_nil_of_le (by simp; omega)]
    exact hq
theorem AllC.fence {Q : List (BitVec 8) → Prop} {l : Ln} (h : AllC Q l) : AllC Q l.fence := by
  unfold Ln.fence
  split
  · intro k hk
    simp only [List.length_drop, List.drop_drop] at hk ⊢
    by_cases h1 : l.mark - 1 + k ≤ l.chg.length
    · exact h _ h1
    · rw [List.drop_eq_nil_of_le (by omega)]
      exact h.now
  · exact h
theorem AllC.crash {Q : List (BitVec 8) → Prop} {l : Ln} (h : AllC Q l) {k : Nat} (hk : k ≤ l.chg.length) : Q (l.crash k).now := h k hk
/-- What a crash leaves of a line. -/
theorem crashL_ln : ∀ (ls : List Ln) (ps : List (BitVec 8)) (i : Nat), i < ls.length → ∃ k, k ≤ (ls.getD i line0).chg.length ∧ (crashL ls ps).getD i line0 = (ls.getD i line0).crash k
  | [], _, i, h => by simp at h
  | l :: ls, ps, i, h => by
    by_cases h0 : 0 < l.chg.length
    · cases ps with
      | nil =>
        rw [crashL_consN]
        cases i with
        | zero => exact ⟨0, Nat.zero_le _, rfl⟩
        | succ i => exact crashL_ln ls [] i (by simpa using h)
      | cons p ps =>
        rw [crashL_consP _ _ _ _ h0]
        cases i with
        | zero => exact ⟨_, by have := Nat.mod_lt p.toNat (show 0 < l.chg.length + 1 by omega); simp; omega, rfl⟩
        | succ i => exact crashL_ln ls ps i (by simpa using h)
    · rw [crashL_cons0 _ _ _ h0]
      cases i with
      | zero => exact ⟨0, Nat.zero_le _, rfl⟩
      | succ i => exact crashL_ln ls ps i (by simpa using h)
theorem crash_ln {D : Dv} (ps : List (BitVec 8)) {i : Nat} (hi : i < D.ls.length) : ∃ k, k ≤ (D.ln i).chg.length ∧ (D.crash ps).ln i = (D.ln i).crash k := by
  unfold Dv.crash
  rw [if_neg (by omega)]
  exact crashL_ln D.ls ps i hi
theorem crash_one {D : Dv} (ps : List (BitVec 8)) {i : Nat} (hi : i < D.ls.length) : ((D.crash ps).ln i).chg = [] := by
  obtain ⟨k, _, h⟩ := crash_ln ps hi
  rw [h]; rfl
/-- A line that may be one thing alone is that. -/
theorem crash_same {D : Dv} (ps : List (BitVec 8)) {i : Nat} (hi : i < D.ls.length) (hc : (D.ln i).chg = []) : ((D.crash ps).ln i).now = (D.ln i).now := by
  obtain ⟨k, _, h⟩ := crash_ln ps hi
  rw [h]
  unfold Ln.crash
  simp [hc, undo]

/-! ### Lines behind a step -/
theorem flush_ln {D : Dv} (hp : 0 < D.ls.length) (off : Int) (i : Nat) : ((D.flush off).1.ln i).now = (D.ln i).now ∧ ((D.flush off).1.ln i).chg = (D.ln i).chg := by
  unfold Dv.flush
  split
  · rename_i ha
    obtain ⟨o, rfl, hos⟩ := ask1 hp ha
    have hq : o / 64 < D.ls.length := by unfold Dv.size at hos; omega
    show ((D.setLn _ _).ln i).now = _ ∧ ((D.setLn _ _).ln i).chg = _
    rw [Int.toNat_natCast, Dv.setLn_ln D _ _ hq]
    split
    · rename_i h; subst h; exact ⟨rfl, rfl⟩
    · exact ⟨rfl, rfl⟩
  · exact ⟨rfl, rfl⟩
theorem fence_lnNow {D : Dv} (i : Nat) (hi : i < D.ls.length) : (D.fence.1.ln i).now = (D.ln i).now := by
  by_cases ha : D.ask 0 1 = 0
  · rw [fence_ln ha i hi, fence_now]
  · unfold Dv.fence; rw [if_neg ha]
theorem AllC.flushLn {Q : List (BitVec 8) → Prop} {D : Dv} (hp : 0 < D.ls.length) (off : Int) {i : Nat} (h : AllC Q (D.ln i)) : AllC Q ((D.flush off).1.ln i) := by
  obtain ⟨h1, h2⟩ := flush_ln hp off i
  intro k hk
  rw [h1, h2]; exact h k (by rw [← h2]; exact hk)
theorem AllC.fenceLn {Q : List (BitVec 8) → Prop} {D : Dv} {i : Nat} (hi : i < D.ls.length) (h : AllC Q (D.ln i)) : AllC Q (D.fence.1.ln i) := by
  by_cases ha : D.ask 0 1 = 0
  · rw [fence_ln ha i hi]; exact h.fence
  · unfold Dv.fence; rw [if_neg ha]; exact h
/-- Behind a store: what it is now is one thing more. -/
theorem AllC.storeLn {Q : List (BitVec 8) → Prop} {D : Dv} (hok : D.Ok) (hp : 0 < D.ls.length) (off : Int) (n : BitVec 64) {i : Nat} (h : AllC Q (D.ln i)) (hq : Q ((D.store off n).1.ln i).now) : AllC Q ((D.store off n).1.ln i) := by
  by_cases ha : D.ask off 8 = 0
  · obtain ⟨o, rfl, ho8, hos⟩ := ask8 hp ha
    have hlt : o / 64 < D.ls.length := by unfold Dv.size at hos; omega
    have hlen := (Dv.Ok0.ln hok.to0 (o / 64)).len
    rw [store_now hok n ha ho8 hos] at hq
    unfold Dv.store
    rw [if_pos ha, Int.toNat_natCast]
    by_cases hw : D.word o = n
    · simp only [hw, if_true]; exact h
    · simp only [hw, if_false]
      show AllC Q ((D.setLn (o / 64) _).ln i)
      rw [Dv.setLn_ln D _ _ hlt]
      by_cases e : i = o / 64
      · subst e
        rw [if_pos rfl] at hq ⊢
        exact h.store _ n (by omega) hq
      · rw [if_neg e]; exact h
  · rw [store_fail off n ha]; exact h

/-! ### Words -/
theorem store_word {D : Dv} (h : D.Ok) {o : Nat} (n : BitVec 64) (ha : D.ask (o : Int) 8 = 0) (ho : o % 8 = 0) (hs : o < D.size) {x : Nat} (hx : x % 8 = 0) :
    (D.store o n).1.word x = if x = o then n else D.word x := by
  have hlen := (Dv.Ok0.ln h.to0 (o / 64)).len
  unfold Dv.word
  rw [store_now h n ha ho hs]
  obtain ⟨q, hq⟩ : ∃ q, o % 64 = 8 * q := ⟨o % 64 / 8, by omega⟩
  obtain ⟨r, hr⟩ : ∃ r, x % 64 = 8 * r := ⟨x % 64 / 8, by omega⟩
  by_cases e : x / 64 = o / 64
  · rw [if_pos e, e, hq, hr, get_put _ q r n (by omega)]
    by_cases e2 : q = r
    · rw [if_pos e2, if_pos (by omega)]
    · rw [if_neg e2, if_neg (by omega)]
  · rw [if_neg e, if_neg (by intro h2; subst h2; exact e rfl)]
theorem flush_word {D : Dv} (hp : 0 < D.ls.length) (off : Int) (x : Nat) : (D.flush off).1.word x = D.word x := by
  unfold Dv.word; rw [(flush_ln hp off _).1]
theorem fence_word {D : Dv} {x : Nat} (hx : x < D.size) : D.fence.1.word x = D.word x := by
  unfold Dv.word; rw [fence_lnNow _ (by unfold Dv.size at hx; omega)]

/-! ### Steps of PutAll -/
/-- A place that is one, of a device that is up. -/
theorem ask_nat {D : Dv} (hp : 0 < D.ls.length) (hd : D.down = false) {o e : Nat} (hs : o < D.size) (he : o % e = 0) : D.ask (o : Int) (e : Int) = 0 := by
  unfold Dv.ask
  rw [if_neg (by omega), hd]
  simp only [Bool.false_eq_true, if_false]
  rw [if_neg]
  rintro (h | h | h)
  · omega
  · omega
  · rw [Int.tmod_eq_emod_of_nonneg (by omega)] at h
    have : ((o % e : Nat) : Int) = (o : Int) % (e : Int) := Int.natCast_emod o e
    omega
theorem ask_down {D : Dv} (hp : 0 < D.ls.length) (hd : D.down = true) (off each : Int) : D.ask off each = 12 := by
  unfold Dv.ask; rw [if_neg (by omega), hd]; rfl
end NM
/-- A step at a place that is one. -/
def StepIn (N : Nat) : StepV → Prop
  | .store off _ => ∃ o : Nat, off = (o : Int) ∧ o % 8 = 0 ∧ o < 64 * N
  | .flush off => ∃ o : Nat, off = (o : Int) ∧ o < 64 * N
  | .fence => True
theorem step_down {D : NM.Dv} (hp : 0 < D.ls.length) (hd : D.down = true) (s : StepV) : D.step s = (D, 12) := by
  cases s with
  | store off n => show D.store off n = _; unfold NM.Dv.store; rw [NM.ask_down hp hd]; rfl
  | flush off => show D.flush off = _; unfold NM.Dv.flush; rw [NM.ask_down hp hd]; rfl
  | fence => show D.fence = _; unfold NM.Dv.fence; rw [NM.ask_down hp hd]; rfl
theorem step_up {D : NM.Dv} (hp : 0 < D.ls.length) (hd : D.down = false) {s : StepV} (h : StepIn D.ls.length s) : (D.step s).2 = 0 := by
  cases s with
  | store off n =>
    obtain ⟨o, rfl, h8, hs⟩ := h
    show (D.store _ _).2 = 0
    rw [NM.store_err]
    exact NM.ask_nat (e := 8) hp hd (by unfold NM.Dv.size; omega) h8
  | flush off =>
    obtain ⟨o, rfl, hs⟩ := h
    show (D.flush _).2 = 0
    unfold NM.Dv.flush
    rw [show D.ask (o : Int) 1 = 0 from NM.ask_nat (e := 1) hp hd (by unfold NM.Dv.size; omega) (Nat.mod_one _)]; rfl
  | fence =>
    show D.fence.2 = 0
    unfold NM.Dv.fence
    rw [show D.ask 0 1 = 0 from NM.ask_nat (o := 0) (e := 1) hp hd (by unfold NM.Dv.size; omega) rfl]; rfl
theorem step_err {D : NM.Dv} (hp : 0 < D.ls.length) {s : StepV} (h : StepIn D.ls.length s) : (D.step s).2 = 0 ∧ D.down = false ∨ (D.step s).2 = 12 ∧ D.down = true ∧ (D.step s).1 = D := by
  cases hd : D.down with
  | false => exact .inl ⟨step_up hp hd h, rfl⟩
  | true => rw [step_down hp hd]; exact .inr ⟨rfl, rfl, rfl⟩
theorem runS_err2 {D : NM.Dv} (hp : 0 < D.ls.length) (ss : List StepV) (h : ∀ s ∈ ss, StepIn D.ls.length s) : (runS D ss).2 = 0 ∨ (runS D ss).2 = 12 := by
  induction ss generalizing D with
  | nil => exact .inl rfl
  | cons s ss ih =>
    rcases step_err hp (h s List.mem_cons_self) with ⟨h1, _⟩ | ⟨h1, _, _⟩
    · rw [runS_ok h1]
      have hl := step_len D s
      exact ih (by omega) (fun x hx => by rw [hl]; exact h x (List.mem_cons_of_mem _ hx))
    · rw [runS_err (by rw [h1]; decide)]; exact .inr h1
theorem step_upUp {D : NM.Dv} (hu : D.Up) (s : StepV) : (D.step s).1.Up := by
  cases s with
  | store off n => exact hu.store off n
  | flush off => exact hu.flush off
  | fence => exact hu.fence
theorem runS_upUp {D : NM.Dv} (hu : D.Up) (hp : 0 < D.ls.length) (ss : List StepV) (h : ∀ s ∈ ss, StepIn D.ls.length s) : (runS D ss).2 = 0 ∧ (runS D ss).1.Up := by
  induction ss generalizing D with
  | nil => exact ⟨rfl, hu⟩
  | cons s ss ih =>
    have h1 := step_up hp hu.down (h s List.mem_cons_self)
    rw [runS_ok h1]
    have hl := step_len D s
    exact ih (step_upUp hu s) (by omega) (fun x hx => by rw [hl]; exact h x (List.mem_cons_of_mem _ hx))
theorem runS_okk {D : NM.Dv} (h : D.Ok) (ss : List StepV) : (runS D ss).1.Ok := by
  induction ss generalizing D with
  | nil => exact h
  | cons s ss ih =>
    by_cases h1 : (D.step s).2 = 0
    · rw [runS_ok h1]; exact ih (step_ok h s)
    · rw [runS_err h1]; exact step_ok h s
/-- A property that each step keeps. -/
theorem runS_inv {I : NM.Dv → Prop} (ss : List StepV) (h : ∀ s ∈ ss, ∀ D, I D → I (D.step s).1) {D : NM.Dv} (h0 : I D) : I (runS D ss).1 := by
  induction ss generalizing D with
  | nil => exact h0
  | cons s ss ih =>
    by_cases h1 : (D.step s).2 = 0
    · rw [runS_ok h1]; exact ih (fun s hs => h s (List.mem_cons_of_mem _ hs)) (h s List.mem_cons_self D h0)
    · rw [runS_err h1]; exact h s List.mem_cons_self D h0
theorem putAllS_in {o N : Nat} {l : List (BitVec 64)} (h8 : o % 8 = 0) (h : o + 8 * l.length ≤ 64 * N) : ∀ s ∈ putAllS o l, StepIn N s := by
  intro s hs
  unfold putAllS at hs
  rcases List.mem_append.1 hs with hs | hs
  · obtain ⟨i, hi, rfl⟩ := List.mem_map.1 hs
    have := List.mem_range.1 hi
    exact ⟨_, rfl, by omega, by omega⟩
  · rcases List.mem_append.1 hs with hs | hs
    · obtain ⟨i, hi, rfl⟩ := List.mem_map.1 hs
      have h1 := List.mem_range.1 hi
      unfold linesOf at h1
      split at h1
      · omega
      · exact ⟨_, rfl, by omega⟩
    · rw [List.mem_singleton.1 hs]; trivial
/-- The words behind k stores that are done. -/
theorem stores_word {D : NM.Dv} (hok : D.Ok) (hp : 0 < D.ls.length) {o : Nat} {l : List (BitVec 64)} (h8 : o % 8 = 0) (h : o + 8 * l.length ≤ D.size) : ∀ k, k ≤ l.length → (runS D (storesS o l k)).2 = 0 →
    ∀ x, x % 8 = 0 → (runS D (storesS o l k)).1.word x = if o ≤ x ∧ x < o + 8 * k then l.getD ((x - o) / 8) 0#64 else D.word x
  | 0, _, _, x, _ => by rw [if_neg (by omega)]; rfl
  | k + 1, hk, he, x, hx => by
    have ih := stores_word hok hp h8 h k (by omega)
    rw [storesS_succ, runS_append] at he ⊢
    by_cases h0 : (runS D (storesS o l k)).2 = 0
    · rw [if_pos h0] at he ⊢
      have hlen := runS_len D (storesS o l k)
      have hok2 := runS_okk hok (storesS o l k)
      have ih2 := ih h0 x hx
      generalize (runS D (storesS o l k)).1 = E at *
      have hsz : E.size = D.size := by unfold NM.Dv.size; rw [hlen]
      by_cases hs : (E.step (.store ((o + 8 * k : Nat) : Int) (l.getD k 0#64))).2 = 0
      · rw [runS_ok hs]
        show (E.store ((o + 8 * k : Nat) : Int) (l.getD k 0#64)).1.word x = _
        have ha : E.ask ((o + 8 * k : Nat) : Int) 8 = 0 := by rw [← NM.store_err]; exact hs
        rw [NM.store_word hok2 _ ha (by omega) (by omega) hx, ih2]
        by_cases e : x = o + 8 * k
        · subst e
          rw [if_pos rfl, if_pos (by omega)]; congr 1; omega
        · rw [if_neg e]
          by_cases e2 : o ≤ x ∧ x < o + 8 * k
          · rw [if_pos e2, if_pos (by omega)]
          · rw [if_neg e2, if_neg (by omega)]
      · rw [runS_err hs] at he; exact absurd he hs
    · rw [if_neg h0] at he; exact absurd he h0
theorem flushes_word {D : NM.Dv} (hp : 0 < D.ls.length) (o : Nat) : ∀ k x, (runS D (flushesS o k)).1.word x = D.word x := by
  intro k x
  refine (runS_inv (I := fun E => E.word x = D.word x ∧ 0 < E.ls.length) _ (fun s hs E hE => ?_) ⟨rfl, hp⟩).1
  obtain ⟨i, _, rfl⟩ := List.mem_map.1 hs
  exact ⟨by show (E.flush _).1.word x = _; rw [NM.flush_word hE.2]; exact hE.1, by rw [step_len]; exact hE.2⟩
/-- All of PutAll, done. -/
theorem putAll_words {D : NM.Dv} (hok : D.Ok) (hp : 0 < D.ls.length) {o : Nat} {l : List (BitVec 64)} (h8 : o % 8 = 0) (h : o + 8 * l.length ≤ D.size) (he : (runS D (putAllS o l)).2 = 0) {x : Nat} (hx : x % 8 = 0) (hxs : x < D.size) :
    (runS D (putAllS o l)).1.word x = if o ≤ x ∧ x < o + 8 * l.length then l.getD ((x - o) / 8) 0#64 else D.word x := by
  unfold putAllS at he ⊢
  rw [runS_append] at he ⊢
  by_cases h0 : (runS D (storesS o l l.length)).2 = 0
  · rw [if_pos h0] at he ⊢
    have hw := stores_word hok hp h8 h l.length (Nat.le_refl _) h0 x hx
    have hlen := runS_len D (storesS o l l.length)
    generalize (runS D (storesS o l l.length)).1 = E at *
    rw [runS_append] at he ⊢
    by_cases h1 : (runS E (flushesS o (linesOf o l.length))).2 = 0
    · rw [if_pos h1] at he ⊢
      have hw2 := flushes_word (D := E) (by omega) o (linesOf o l.length) x
      have hlen2 := runS_len E (flushesS o (linesOf o l.length))
      generalize (runS E (flushesS o (linesOf o l.length))).1 = G at *
      have hG : (runS G [.fence]).1.word x = G.word x := by
        have hsz : x < G.size := by unfold NM.Dv.size at hxs ⊢; omega
        by_cases hs : (G.step .fence).2 = 0
        · rw [runS_ok hs]; exact NM.fence_word hsz
        · rw [runS_err hs]; exact NM.fence_word hsz
      rw [hG, hw2, hw]
    · rw [if_neg h1] at he; exact absurd he h1
  · rw [if_neg h0] at he; exact absurd he h0
/-- Its lines may be one thing alone. -/
theorem flushes_mark {D : NM.Dv} (hp : 0 < D.ls.length) (o : Nat) : ∀ k, (∀ s ∈ flushesS o k, StepIn D.ls.length s) → (runS D (flushesS o k)).2 = 0 → ∀ i, o / 64 ≤ i → i < o / 64 + k →
    ((runS D (flushesS o k)).1.ln i).mark = ((runS D (flushesS o k)).1.ln i).chg.length + 1
  | 0, _, _, i, h1, h2 => by omega
  | k + 1, hin, he, i, h1, h2 => by
    have ih := flushes_mark hp o k (fun s hs => hin s (by rw [flushesS_succ]; exact List.mem_append_left _ hs))
    have hlast : StepIn D.ls.length (.flush ((64 * (o / 64 + k) : Nat) : Int)) := hin _ (by rw [flushesS_succ]; exact List.mem_append_right _ (List.mem_singleton.2 rfl))
    rw [flushesS_succ, runS_append] at he ⊢
    by_cases h0 : (runS D (flushesS o k)).2 = 0
    · rw [if_pos h0] at he ⊢
      have hlen := runS_len D (flushesS o k)
      have ih2 := ih h0
      generalize (runS D (flushesS o k)).1 = E at *
      obtain ⟨o', ho', hlt⟩ := hlast
      obtain rfl : o' = 64 * (o / 64 + k) := by omega
      by_cases hs : (E.step (.flush ((64 * (o / 64 + k) : Nat) : Int))).2 = 0
      · rw [runS_ok hs]
        have ha : E.ask ((64 * (o / 64 + k) : Nat) : Int) 1 = 0 := by
          rcases step_err (D := E) (by omega) (s := .flush ((64 * (o / 64 + k) : Nat) : Int)) (by rw [hlen]; exact ⟨_, rfl, hlt⟩) with ⟨_, hd⟩ | ⟨h12, _⟩
          · exact NM.ask_nat (e := 1) (by omega) hd (by unfold NM.Dv.size; omega) (Nat.mod_one _)
          · rw [hs] at h12; cases h12
        show ((E.flush _).1.ln i).mark = ((E.flush _).1.ln i).chg.length + 1
        unfold NM.Dv.flush
        rw [if_pos ha, Int.toNat_natCast, show 64 * (o / 64 + k) / 64 = o / 64 + k by omega]
        show ((E.setLn (o / 64 + k) _).ln i).mark = ((E.setLn (o / 64 + k) _).ln i).chg.length + 1
        rw [NM.Dv.setLn_ln E _ _ (by omega)]
        split
        · rename_i h; subst h; rfl
        · exact ih2 i h1 (by omega)
      · rw [runS_err hs] at he; exact absurd he hs
    · rw [if_neg h0] at he; exact absurd he h0
theorem putAll_one {D : NM.Dv} (hp : 0 < D.ls.length) {o : Nat} {l : List (BitVec 64)} (h8 : o % 8 = 0) (h : o + 8 * l.length ≤ D.size) (he : (runS D (putAllS o l)).2 = 0) {j : Nat} (hj : j < l.length) :
    ((runS D (putAllS o l)).1.ln ((o + 8 * j) / 64)).chg = [] := by
  have hin : ∀ s ∈ flushesS o (linesOf o l.length), StepIn D.ls.length s := fun s hs => putAllS_in (o := o) (l := l) (N := D.ls.length) h8 (by unfold NM.Dv.size at h; omega) s (by unfold putAllS; exact List.mem_append_right _ (List.mem_append_left _ hs))
  unfold putAllS at he ⊢
  rw [runS_append] at he ⊢
  by_cases h0 : (runS D (storesS o l l.length)).2 = 0
  · rw [if_pos h0] at he ⊢
    have hlen := runS_len D (storesS o l l.length)
    generalize (runS D (storesS o l l.length)).1 = E at *
    rw [← hlen] at hin
    rw [runS_append] at he ⊢
    by_cases h1 : (runS E (flushesS o (linesOf o l.length))).2 = 0
    · rw [if_pos h1] at he ⊢
      have hline : (o + 8 * j) / 64 < o / 64 + linesOf o l.length := by unfold linesOf; rw [if_neg (by omega)]; omega
      have hm := flushes_mark (D := E) (by omega) o (linesOf o l.length) hin h1 ((o + 8 * j) / 64) (by omega) hline
      have hlen2 := runS_len E (flushesS o (linesOf o l.length))
      generalize (runS E (flushesS o (linesOf o l.length))).1 = G at *
      have hsz : (o + 8 * j) / 64 < G.ls.length := by unfold NM.Dv.size at h; omega
      by_cases hs : (G.step .fence).2 = 0
      · rw [runS_ok hs]
        have ha : G.ask 0 1 = 0 := by
          rcases step_err (D := G) (by omega) (s := .fence) trivial with ⟨_, hd⟩ | ⟨h12, _⟩
          · exact NM.ask_nat (o := 0) (e := 1) (by omega) hd (by unfold NM.Dv.size; omega) rfl
          · rw [hs] at h12; cases h12
        show (G.fence.1.ln _).chg = []
        rw [NM.fence_ln ha _ hsz]
        unfold NM.Ln.fence
        rw [if_pos (by omega)]
        show (G.ln _).chg.drop ((G.ln _).mark - 1) = []
        rw [hm]
        exact List.drop_eq_nil_of_le (by omega)
      · rw [runS_err hs] at he; exact absurd he hs
    · rw [if_neg h1] at he; exact absurd he h1
  · rw [if_neg h0] at he; exact absurd he h0
end Go.Proofs.Ytkljlgahdlgmpaa
