/- ChP: texts in one: ChDev, ChFill, ChWell, ChSeg, ChBld, ChDrop, ChCut. -/
import Derived.Test.YtejpophjiinijaaDoorP12
import Derived.Test.YtejpophjiinijaaDoorChW
import Derived.Test.YtejpophjiinijaaDoorRecA
/-! ### ChDev -/
namespace Go.Proofs.YtejpophjiinijaaDoor
set_option linter.unusedVariables false
set_option linter.unusedSimpArgs false
set_option maxRecDepth 100000
open Go Go.RowKit

namespace NM
open Go.Proofs.YtejpophjiinijaaDoor.WM (getM putM putM_length putM_getD hasB get_put byteOf byteOf_wd wd)
/-- All that each word of a line may be is allowed by A. -/
def AQ (A : Nat → BitVec 64 → Prop) (i : Nat) (b : List (BitVec 8)) : Prop := b.length = 64 ∧ ∀ r, r < 8 → A (64 * i + 8 * r) (getM b (8 * r))
def AI (A : Nat → BitVec 64 → Prop) (N : Nat) (E : Dv) : Prop := E.ls.length = N ∧ E.Ok ∧ ∀ i, i < N → AllC (AQ A i) (E.ln i)
section
variable {A : Nat → BitVec 64 → Prop} {N : Nat}
theorem ai_store (hn : 1 ≤ N) {o : Nat} {n : BitVec 64} (h8 : o % 8 = 0) (hA : A o n) {E : Dv} (h : AI A N E) : AI A N (E.store (o : Int) n).1 := by
  obtain ⟨hl, hok, hq⟩ := h
  refine ⟨by have := step_len E (.store (o : Int) n); exact this.trans hl, hok.store _ _, fun i hi => ?_⟩
  refine AllC.storeLn hok (by omega) _ _ (hq i hi) ?_
  by_cases ha : E.ask (o : Int) 8 = 0
  · obtain ⟨o', ho', _, hos⟩ := ask8 (by omega) ha
    have : o' = o := by omega
    subst this
    rw [store_now hok _ ha h8 hos]
    by_cases e : i = o' / 64
    · rw [if_pos e]
      obtain ⟨q, hq8⟩ : ∃ q, o' % 64 = 8 * q := ⟨o' % 64 / 8, by omega⟩
      subst e
      rw [hq8]
      have hb := (hq _ hi).now
      refine ⟨by rw [putM_length]; exact hb.1, fun r hr => ?_⟩
      rw [get_put _ q r _ (by rw [hb.1]; omega)]
      by_cases e : q = r
      · subst e
        rw [if_pos rfl, show 64 * (o' / 64) + 8 * q = o' by omega]; exact hA
      · rw [if_neg e]; exact hb.2 r hr
    · rw [if_neg e]; exact (hq i hi).now
  · rw [store_fail _ _ ha]; exact (hq i hi).now
theorem ai_run (hn : 1 ≤ N) {ss : List StepV} (hs : ∀ s ∈ ss, ∀ off v, s = .store off v → ∃ o : Nat, off = (o : Int) ∧ o % 8 = 0 ∧ A o v) {E : Dv} (h : AI A N E) : AI A N (runS E ss).1 := by
  refine runS_inv (I := AI A N) ss (fun s hm E hE => ?_) h
  cases s with
  | store off v =>
    obtain ⟨o, rfl, h8, hA⟩ := hs _ hm off v rfl
    exact ai_store hn h8 hA hE
  | flush off => exact ⟨(step_len E (.flush _)).trans hE.1, hE.2.1.flush _, fun i hi => AllC.flushLn (by have := hE.1; omega) _ (hE.2.2 i hi)⟩
  | fence => exact ⟨(step_len E .fence).trans hE.1, hE.2.1.fence, fun i hi => AllC.fenceLn (by have := hE.1; omega) (hE.2.2 i hi)⟩
theorem ai_start {D : Dv} (hok : D.Ok) (hc : Calm D) (hA : ∀ x, x < D.size → A x (D.word x)) : AI A D.ls.length D := by
  refine ⟨rfl, hok, fun i hi => allC_one ⟨(Dv.Ok0.ln hok.to0 i).len, fun r hr => ?_⟩ (hc i hi)⟩
  have h := hA (64 * i + 8 * r) (by unfold Dv.size; omega)
  unfold Dv.word at h
  rw [show (64 * i + 8 * r) / 64 = i by omega, show (64 * i + 8 * r) % 64 = 8 * r by omega] at h
  exact h
theorem ai_crash {E : Dv} (h : AI A N E) (ps : List (BitVec 8)) {x : Nat} (hx : x % 8 = 0) (hxN : x < 64 * N) : A x ((E.crash ps).word x) := by
  obtain ⟨hl, hok, hq⟩ := h
  obtain ⟨k, hk, e⟩ := crash_ln (D := E) ps (i := x / 64) (by omega)
  have hQ := (hq (x / 64) (by omega)).crash hk
  have h2 := hQ.2 (x % 64 / 8) (by omega)
  unfold Dv.word
  rw [e]
  rw [show 8 * (x % 64 / 8) = x % 64 by omega, show 64 * (x / 64) + x % 64 = x by omega] at h2
  exact h2
end
/-- A line that no step comes to. -/
theorem run_rest {D : Dv} (hp : 0 < D.ls.length) {i : Nat} (hi : i < D.ls.length) (hc : (D.ln i).chg = []) {ss : List StepV} (h1 : ∀ s ∈ ss, ∀ off v, s = .store off v → ∀ o : Nat, off = (o : Int) → o / 64 ≠ i) (h2 : ∀ s ∈ ss, ∀ off, s = .flush off → ∀ o : Nat, off = (o : Int) → o / 64 ≠ i) : ((runS D ss).1.ln i).chg = [] := by
  refine (runS_inv (I := fun E => E.ls.length = D.ls.length ∧ (E.ln i).chg = []) _ (fun s hs E hE => ?_) ⟨rfl, hc⟩).2
  refine ⟨by rw [step_len]; exact hE.1, ?_⟩
  cases s with
  | store off v =>
    show ((E.store _ _).1.ln i).chg = []
    rw [store_other (by omega) _ _ (h1 _ hs off v rfl)]
    exact hE.2
  | flush off =>
    show ((E.flush _).1.ln i).chg = []
    rw [flush_other (by omega) _ (h2 _ hs off rfl)]
    exact hE.2
  | fence =>
    show (E.fence.1.ln i).chg = []
    by_cases ha : E.ask 0 1 = 0
    · rw [fence_ln ha i (by omega)]; exact fence_nil hE.2
    · unfold Dv.fence; rw [if_neg ha]; exact hE.2
end NM
/-- A device of N lines with no pending change. -/
structure DS (N : Nat) (D : NM.Dv) : Prop where
  ok : D.Ok
  calm : NM.Calm D
  lines : D.ls.length = N
theorem mem_stores {o : Nat} {l : List (BitVec 64)} {k : Nat} {off : Int} {v : BitVec 64} (h : StepV.store off v ∈ storesS o l k) : ∃ j, j < k ∧ off = ((o + 8 * j : Nat) : Int) ∧ v = l.getD j 0#64 := by
  unfold storesS at h
  obtain ⟨j, hj, e⟩ := List.mem_map.1 h
  injection e with e1 e2
  exact ⟨j, List.mem_range.1 hj, e1.symm, e2.symm⟩
theorem mem_putAll_store {o : Nat} {l : List (BitVec 64)} {off : Int} {v : BitVec 64} (h : StepV.store off v ∈ putAllS o l) : ∃ j, j < l.length ∧ off = ((o + 8 * j : Nat) : Int) ∧ v = l.getD j 0#64 := by
  unfold putAllS at h
  rcases List.mem_append.1 h with h | h
  · exact mem_stores h
  · rcases List.mem_append.1 h with h | h
    · unfold flushesS at h
      obtain ⟨j, _, e⟩ := List.mem_map.1 h
      cases e
    · rw [List.mem_singleton] at h; cases h
theorem mem_putAll_flush {o : Nat} {l : List (BitVec 64)} {off : Int} (h : StepV.flush off ∈ putAllS o l) : ∃ j, j < linesOf o l.length ∧ off = ((64 * (o / 64 + j) : Nat) : Int) := by
  unfold putAllS at h
  rcases List.mem_append.1 h with h | h
  · unfold storesS at h
    obtain ⟨j, _, e⟩ := List.mem_map.1 h
    cases e
  · rcases List.mem_append.1 h with h | h
    · unfold flushesS at h
      obtain ⟨j, hj, e⟩ := List.mem_map.1 h
      injection e with e1
      exact ⟨j, List.mem_range.1 hj, e1.symm⟩
    · rw [List.mem_singleton] at h; cases h
section
variable {N : Nat} {D : NM.Dv}
/-- Words one behind the other: all durable, or the device is down and each is old or new. -/
theorem DS.putAll (h : DS N D) (hN : 1 ≤ N) {o : Nat} {l : List (BitVec 64)} (h8 : o % 8 = 0) (ho : o + 8 * l.length ≤ 64 * N) (hl0 : 0 < l.length) :
    ((runS D (putAllS o l)).2 = 0 ∧ DS N (runS D (putAllS o l)).1 ∧ ∀ x, x % 8 = 0 → x < 64 * N → (runS D (putAllS o l)).1.word x = if o ≤ x ∧ x < o + 8 * l.length then l.getD ((x - o) / 8) 0#64 else D.word x) ∨
    ((runS D (putAllS o l)).2 = 12 ∧ (runS D (putAllS o l)).1.Ok ∧ (runS D (putAllS o l)).1.ls.length = N ∧ ∀ ps x, x % 8 = 0 → x < 64 * N → ((runS D (putAllS o l)).1.crash ps).word x = D.word x ∨ (o ≤ x ∧ x < o + 8 * l.length ∧ ((runS D (putAllS o l)).1.crash ps).word x = l.getD ((x - o) / 8) 0#64)) := by
  have hl := h.lines
  have hs : D.size = 64 * N := by unfold NM.Dv.size; rw [hl]
  have hin := putAllS_in (o := o) (l := l) (N := D.ls.length) h8 (by rw [hl]; exact ho)
  have hlen := runS_len D (putAllS o l)
  have hok := runS_okk h.ok (putAllS o l)
  rcases runS_err2 (D := D) (by omega) _ hin with e | e
  · refine .inl ⟨e, ⟨hok, fun i hi => ?_, hlen.trans hl⟩, fun x hx hxN => putAll_words h.ok (by omega) h8 (by rw [hs]; exact ho) e hx (by omega)⟩
    rw [hlen] at hi
    by_cases hi2 : o / 64 ≤ i ∧ i ≤ (o + 8 * l.length - 1) / 64
    · obtain ⟨j, hj, e2⟩ : ∃ j, j < l.length ∧ (o + 8 * j) / 64 = i := by
        by_cases h1 : i = o / 64
        · exact ⟨0, hl0, by omega⟩
        · exact ⟨(64 * i - o) / 8, by omega, by omega⟩
      have := putAll_one (D := D) (by omega) h8 (by rw [hs]; exact ho) e hj
      rw [e2] at this; exact this
    · refine NM.run_rest (by omega) hi (h.calm i hi) (fun s hs2 off v e1 o2 e2 => ?_) (fun s hs2 off e1 o2 e2 => ?_)
      · subst e1
        obtain ⟨j, hj, e3, -⟩ := mem_putAll_store hs2
        omega
      · subst e1
        obtain ⟨j, hj, e3⟩ := mem_putAll_flush hs2
        unfold linesOf at hj
        rw [if_neg (by omega)] at hj
        omega
  · have hA := NM.ai_start (A := fun x v => v = D.word x ∨ (o ≤ x ∧ x < o + 8 * l.length ∧ v = l.getD ((x - o) / 8) 0#64)) h.ok h.calm (fun x _ => .inl rfl)
    rw [hl] at hA
    have hB := NM.ai_run hN (ss := putAllS o l) (fun s hs2 off v e1 => by
      subst e1
      obtain ⟨j, hj, e3, e4⟩ := mem_putAll_store hs2
      refine ⟨_, e3, by omega, .inr ⟨by omega, by omega, ?_⟩⟩
      rw [e4, show (o + 8 * j - o) / 8 = j by omega]) hA
    exact .inr ⟨e, hok, hlen.trans hl, fun ps x hx hxN => NM.ai_crash hB ps hx hxN⟩
theorem DS.put (h : DS N D) (hN : 1 ≤ N) {o : Nat} (n : BitVec 64) (h8 : o % 8 = 0) (ho : o + 8 ≤ 64 * N) :
    ((runS D (putS o n)).2 = 0 ∧ DS N (runS D (putS o n)).1 ∧ ∀ x, x % 8 = 0 → x < 64 * N → (runS D (putS o n)).1.word x = if x = o then n else D.word x) ∨
    ((runS D (putS o n)).2 = 12 ∧ (runS D (putS o n)).1.Ok ∧ (runS D (putS o n)).1.ls.length = N ∧ ∀ ps x, x % 8 = 0 → x < 64 * N → ((runS D (putS o n)).1.crash ps).word x = D.word x ∨ (x = o ∧ ((runS D (putS o n)).1.crash ps).word x = n)) := by
  have hs : D.size = 64 * N := by unfold NM.Dv.size; rw [h.lines]
  have h1 := h.putAll hN (l := [n]) h8 (show o + 8 * 1 ≤ _ by omega) (show 0 < 1 by omega)
  rw [put_same h8 (by omega)] at h1
  have hc : ∀ x, x % 8 = 0 → ((o ≤ x ∧ x < o + 8 * [n].length) ↔ x = o) := fun x hx => by
    show (o ≤ x ∧ x < o + 8 * 1) ↔ x = o
    omega
  have hv : ([n].getD ((o - o) / 8) 0#64) = n := by rw [Nat.sub_self]; rfl
  rcases h1 with ⟨e, h2, h3⟩ | ⟨e, h2, h3, h4⟩
  · refine .inl ⟨e, h2, fun x hx hxN => ?_⟩
    rw [h3 x hx hxN]
    by_cases e : x = o
    · subst e; rw [if_pos ((hc x hx).2 rfl), if_pos rfl, hv]
    · rw [if_neg (fun h => e ((hc x hx).1 h)), if_neg e]
  · refine .inr ⟨e, h2, h3, fun ps x hx hxN => ?_⟩
    rcases h4 ps x hx hxN with h5 | ⟨a, b, c⟩
    · exact .inl h5
    · obtain rfl := (hc x hx).1 ⟨a, b⟩
      exact .inr ⟨rfl, by rw [c, hv]⟩
theorem DS.crash_word (h : DS N D) (ps : List (BitVec 8)) {x : Nat} (hx : x < 64 * N) : (D.crash ps).word x = D.word x := NM.calm_word h.calm ps (by unfold NM.Dv.size; rw [h.lines]; exact hx)
theorem DS.stop (h : DS N D) {z : Int} (hz : z ≤ 9223372036854775807) : DS N (D.stop z) := ⟨h.ok.stop z hz, fun i hi => by rw [NM.stop_ln]; exact h.calm i (by rw [← NM.stop_ls D z]; exact hi), by rw [NM.stop_ls]; exact h.lines⟩
end
end Go.Proofs.YtejpophjiinijaaDoor

/-! ### ChFill -/
namespace Go.Proofs.YtejpophjiinijaaDoor
set_option linter.unusedVariables false
set_option linter.unusedSimpArgs false
set_option maxRecDepth 100000
open Go Go.RowKit

def lowW (r : Nat) : BitVec 64 := if r = 0 then 0#64 else BitVec.ofNat 64 (65535 + 2 ^ r)
/-- The first n small blocks are taken. -/
def tkL (m n : Nat) : List (BitVec 64) := (List.range m).map fun i => lowW (min 16 (n - 16 * i))
/-- Is the j-th small block taken? -/
def tkn (T : List (BitVec 64)) (j : Nat) : Bool := WM.tR (T.getD (j / 16) 0#64) (j % 16)
theorem tkL_len (m n : Nat) : (tkL m n).length = m := by simp [tkL]
theorem tkL_get {m n i : Nat} (hi : i < m) : (tkL m n).getD i 0#64 = lowW (min 16 (n - 16 * i)) := by
  simp [tkL, List.getD, hi]
theorem tkL_zero (m : Nat) : tkL m 0 = zL m := by
  refine List.ext_getElem (by rw [tkL_len, zL_len]) fun i h1 h2 => ?_
  simp [tkL, zL, lowW]
theorem low_run : ((List.range 17).all fun r => WM.rB (lowW r) && (decide (WM.cR (lowW r) = if r = 0 then 0 else 1) && (decide (WM.listM (lowW r) = List.range r) && (List.range 16).all fun q => WM.tR (lowW r) q == decide (q < r)))) = true := by decide +kernel
theorem low_facts {r : Nat} (hr : r ≤ 16) : WM.rB (lowW r) = true ∧ WM.cR (lowW r) = (if r = 0 then 0 else 1) ∧ WM.listM (lowW r) = List.range r ∧ ∀ q, q < 16 → WM.tR (lowW r) q = decide (q < r) := by
  have h := List.all_eq_true.1 low_run r (List.mem_range.2 (by omega))
  simp only [Bool.and_eq_true, decide_eq_true_eq] at h
  obtain ⟨h1, h2, h3, h4⟩ := h
  refine ⟨h1, h2, h3, fun q hq => ?_⟩
  have := List.all_eq_true.1 h4 q (List.mem_range.2 hq)
  exact eq_of_beq this
theorem tkn_tkL {m n j : Nat} (hj : j < 16 * m) : tkn (tkL m n) j = decide (j < n) := by
  unfold tkn
  rw [tkL_get (by omega), (low_facts (Nat.min_le_left _ _)).2.2.2 _ (by omega)]
  congr 1
  apply propext
  omega
/-- Small blocks alone. -/
structure Small (m : Nat) (T : List (BitVec 64)) : Prop where
  len : T.length = m
  right : ∀ i, i < m → WM.rB (T.getD i 0#64) = true
  cls : ∀ i, i < m → WM.cR (T.getD i 0#64) = 0 ∨ WM.cR (T.getD i 0#64) = 1
theorem small_tkL (m n : Nat) : Small m (tkL m n) := by
  refine ⟨tkL_len m n, fun i hi => ?_, fun i hi => ?_⟩
  · rw [tkL_get hi]; exact (low_facts (Nat.min_le_left _ _)).1
  · rw [tkL_get hi, (low_facts (Nat.min_le_left _ _)).2.1]
    split <;> omega
theorem placeN_small (m i q : Nat) : placeN (shN m) i 1 q = 256 + 64 * (16 * i + q) := by
  unfold placeN
  rw [show (1 : Int) = ((1 : Nat) : Int) from rfl, place_nat (L := 1) _ _ rfl]
  show ((256 : Int) + _).toNat = _
  omega
theorem placeI_small (m j : Nat) : placeI (shN m) (j / 16) ((1 : Nat) : Int) (j % 16) = ((256 + 64 * j : Nat) : Int) := by
  rw [place_nat (L := 1) _ _ rfl]
  show (256 : Int) + _ = _
  omega
theorem range_cat (f : Nat → Nat) (a b : Nat) : (List.range a).map f ++ (List.range b).map (fun q => f (a + q)) = (List.range (a + b)).map f := by
  rw [List.range_add, List.map_append, List.map_map]; rfl
theorem row_low {m k r : Nat} (hr : r ≤ 16) : rowK (shN m) k (lowW r) = (List.range r).map (fun q => 256 + 64 * (16 * k + q)) := by
  unfold rowK
  rw [(low_facts hr).2.2.1]
  refine List.map_congr_left fun q hq => ?_
  have : r ≠ 0 := by have := List.mem_range.1 hq; omega
  rw [WM.cR_class, (low_facts hr).2.1, if_neg this]
  exact placeN_small m k q
theorem all_tkL (m n : Nat) : ∀ k, k ≤ m → allK (shN m) (tkL m n) k = (List.range (min n (16 * k))).map (fun j => 256 + 64 * j)
  | 0, _ => by rw [Nat.mul_zero, Nat.min_zero]; rfl
  | k + 1, hk => by
    show allK (shN m) (tkL m n) k ++ rowK (shN m) k ((tkL m n).getD k 0#64) = _
    rw [all_tkL m n k (by omega), tkL_get (by omega), row_low (Nat.min_le_left _ _)]
    by_cases h : n ≤ 16 * k
    · have e1 : min 16 (n - 16 * k) = 0 := by omega
      have e2 : min n (16 * k) = n := by omega
      have e3 : min n (16 * (k + 1)) = n := by omega
      rw [e1, e2, e3]
      simp
    · have e2 : min n (16 * k) = 16 * k := by omega
      have e3 : min n (16 * (k + 1)) = 16 * k + min 16 (n - 16 * k) := by omega
      rw [e2, e3, ← range_cat]
/-! ### One block more -/
def resB (n : Nat) : Bool :=
  decide (pickP (bF (tkL 12 n) (zL 12)) 12 1 = some (n / 16)) && (decide (WM.nextM (bF (tkL 12 n) (zL 12) (n / 16)) 1 = ((n % 16 : Nat) : Int)) &&
  (decide (findP (shN 12) 12 (bF (tkL 12 n) ((zL 12).set (n / 16) (WM.takeW ((zL 12).getD (n / 16) 0#64) 1 ((n % 16 : Nat) : Int)))) ((256 + 64 * n : Nat) : Int) = some (n / 16, n % 16)) &&
  (WM.hasM (((zL 12).set (n / 16) (WM.takeW ((zL 12).getD (n / 16) 0#64) 1 ((n % 16 : Nat) : Int))).getD (n / 16) 0#64) ((n % 16 : Nat) : Int) &&
  (decide ((tkL 12 n).set (n / 16) (WM.takeW ((tkL 12 n).getD (n / 16) 0#64) (WM.classM (((zL 12).set (n / 16) (WM.takeW ((zL 12).getD (n / 16) 0#64) 1 ((n % 16 : Nat) : Int))).getD (n / 16) 0#64)) ((n % 16 : Nat) : Int)) = tkL 12 (n + 1)) &&
  decide (((zL 12).set (n / 16) (WM.takeW ((zL 12).getD (n / 16) 0#64) 1 ((n % 16 : Nat) : Int))).set (n / 16) (WM.dropW (((zL 12).set (n / 16) (WM.takeW ((zL 12).getD (n / 16) 0#64) 1 ((n % 16 : Nat) : Int))).getD (n / 16) 0#64) ((n % 16 : Nat) : Int)) = zL 12)))))
theorem res_run : ((List.range 48).all resB) = true := by decide +kernel
/-- What is held behind a Reserve. -/
def hdL (m n : Nat) : List (BitVec 64) := (zL m).set (n / 16) (WM.takeW ((zL m).getD (n / 16) 0#64) 1 ((n % 16 : Nat) : Int))
/-- The word that Take puts. -/
def tkW (m n : Nat) : BitVec 64 := WM.takeW ((tkL m n).getD (n / 16) 0#64) (WM.classM ((hdL m n).getD (n / 16) 0#64)) ((n % 16 : Nat) : Int)
section
variable {m n : Nat} {D : NM.Dv}
theorem res_facts (hm : m = 12) (hn : n < 48) : reserveV (shN m) ⟨tkL m n, zL m, D⟩ 1 = (⟨tkL m n, hdL m n, D⟩, ((256 + 64 * n : Nat) : Int), 0) ∧ findP (shN m) m (bF (tkL m n) (hdL m n)) ((256 + 64 * n : Nat) : Int) = some (n / 16, n % 16) ∧
    WM.hasM ((hdL m n).getD (n / 16) 0#64) ((n % 16 : Nat) : Int) = true ∧ (tkL m n).set (n / 16) (tkW m n) = tkL m (n + 1) ∧ (hdL m n).set (n / 16) (WM.dropW ((hdL m n).getD (n / 16) 0#64) ((n % 16 : Nat) : Int)) = zL m := by
  subst hm
  have h := List.all_eq_true.1 res_run n (List.mem_range.2 hn)
  unfold resB at h
  simp only [Bool.and_eq_true, decide_eq_true_eq] at h
  obtain ⟨h1, h2, h3, h4, h5, h6⟩ := h
  refine ⟨?_, h3, h4, h5, h6⟩
  unfold reserveV
  dsimp only
  rw [tkL_len, h1]
  dsimp only
  rw [show ((1 : Nat) : Int) = 1 from rfl, h2, Int.toNat_natCast, ← placeI_small 12 n]
  rfl
end
end Go.Proofs.YtejpophjiinijaaDoor

/-! ### ChWell -/
namespace Go.Proofs.YtejpophjiinijaaDoor
set_option linter.unusedVariables false
set_option linter.unusedSimpArgs false
set_option maxRecDepth 100000
open Go Go.RowKit

/-- A pool with nothing held, of small blocks; its device: header and table in place, nothing pending. -/
structure Soft (m : Nat) (V : PV) : Prop where
  small : Small m V.T
  held : V.H = zL m
  ds : DS (188 + m) V.D
  tab : ∀ i, i < m → V.D.word (128 + 8 * i) = V.T.getD i 0#64
  hdr : ∀ y, y % 8 = 0 → y < 64 → V.D.word y = (begD m).word y
theorem begD_hdr {m : Nat} (hm : m = 12) {D : NM.Dv} (hl : D.ls.length = 188 + m) (hu : D.Up) (h : ∀ y, y % 8 = 0 → y < 64 → D.word y = (begD m).word y) : D.openH = (shN m, 0) := by
  obtain ⟨_, f2, f3, _, f5, _⟩ := beg_facts hm
  rw [← f2, NM.open_up (by rw [f5]; omega) f3.down, NM.open_up (by rw [hl]; omega) hu.down, hl, f5]
  have e : wordsAt D 0 8 = wordsAt (begD m) 0 8 := by
    unfold wordsAt
    refine List.map_congr_left fun i hi => ?_
    have := List.mem_range.1 hi
    exact h (0 + 8 * i) (by omega) (by omega)
  rw [e]
theorem pair_zero {x : BitVec 64} (h : WM.rB x = true) : WM.Pair x 0#64 := ⟨h, WM.rB0, .inr (.inl WM.cR0), fun i _ _ => WM.tR0 i⟩
section
variable {m n k : Nat} {V : PV}
theorem Soft.well (h : Soft m V) (hu : V.D.Up) : Well m V :=
  ⟨h.small.len, by rw [h.held, zL_len], fun i hi => by rw [h.held, zL_get]; exact pair_zero (h.small.right i hi), hu, h.ds.ok, h.ds.lines, h.tab⟩
theorem Soft.good (h : Soft m V) (hm : m = 12) (hu : V.D.Up) (hs : V.D.steps ≤ 100000 + 3 * k) : Good m k V := ⟨h.well hu, begD_hdr hm h.ds.lines hu h.hdr, h.ds.calm, hs⟩
theorem soft_beg (hm : m = 12) : Soft m ⟨zL m, zL m, begD m⟩ := by
  obtain ⟨f1, f2, f3, f4, f5, f6⟩ := beg_facts hm
  exact ⟨by have := small_tkL m 0; rw [tkL_zero] at this; exact this, rfl, ⟨f4, beg_calm hm, f5⟩, fun i hi => by rw [f6 i hi]; exact (zL_get m i).symm, fun _ _ _ => rfl⟩
/-- What is left by a crash is a pool's device again. -/
theorem soft_crash (hm : m = 12) {T : List (BitVec 64)} {E : NM.Dv} {ps : List (BitVec 8)} (hT : Small m T) (hok : E.Ok) (hl : E.ls.length = 188 + m) (htab : ∀ i, i < m → (E.crash ps).word (128 + 8 * i) = T.getD i 0#64) (hhdr : ∀ y, y % 8 = 0 → y < 64 → (E.crash ps).word y = (begD m).word y) :
    Soft m ⟨T, zL m, E.crash ps⟩ ∧ (E.crash ps).Up :=
  ⟨⟨hT, rfl, ⟨hok.crash ps, NM.calm_crash ps, by rw [NM.crash_len]; exact hl⟩, htab, hhdr⟩, NM.Dv.Up.crash (D := E) (by rw [hl]; omega) ps⟩
theorem Soft.crash (h : Soft m V) (hm : m = 12) (ps : List (BitVec 8)) : Soft m ⟨V.T, zL m, V.D.crash ps⟩ ∧ (V.D.crash ps).Up :=
  soft_crash hm h.small h.ds.ok h.ds.lines (fun i hi => by rw [h.ds.crash_word ps (by omega)]; exact h.tab i hi) (fun y hy hy2 => by rw [h.ds.crash_word ps (by omega)]; exact h.hdr y hy hy2)
theorem Soft.stop (h : Soft m V) {z : Int} (hz : z ≤ 9223372036854775807) : Soft m { V with D := V.D.stop z } :=
  ⟨h.small, h.held, h.ds.stop hz, fun i hi => by show (V.D.stop z).word _ = _; rw [NM.stop_word]; exact h.tab i hi, fun y hy hy2 => by show (V.D.stop z).word _ = _; rw [NM.stop_word]; exact h.hdr y hy hy2⟩
/-! ### What Add does -/
theorem words8 {r : LinkV} (hr : r.right = true) : r.words.length = 8 := by
  unfold LinkV.words encM LinkV.right at *
  rw [if_pos hr]; rfl
theorem putAll_in {D : NM.Dv} (hm : m = 12) (hl : D.ls.length = 188 + m) (hn : n < 48) {ws : List (BitVec 64)} (hw : ws.length = 8) : D.putAll ((256 + 64 * n : Nat) : Int) ws = runS D (putAllS (256 + 64 * n) ws) := by
  unfold NM.Dv.putAll
  rw [if_pos (within_in (by rw [hl]; omega) (by omega) (by unfold NM.Dv.size; rw [hl, hw]; omega)), Int.toNat_natCast]
theorem add_eq (hm : m = 12) (hT : V.T = tkL m n) (hH : V.H = zL m) (hl : V.D.ls.length = 188 + m) (hn : n < 48) {r : LinkV} (hr : r.right = true) : addV (shN m) V r =
    if (runS V.D (putAllS (256 + 64 * n) r.words)).2 ≠ 0 then (⟨tkL m n, zL m, (runS V.D (putAllS (256 + 64 * n) r.words)).1⟩, 0#64, (runS V.D (putAllS (256 + 64 * n) r.words)).2)
    else if (runS (runS V.D (putAllS (256 + 64 * n) r.words)).1 (putS ((128 + 8 * (n / 16) : Nat) : Int) (tkW m n))).2 ≠ 0 then
      (⟨tkL m n, zL m, (runS (runS V.D (putAllS (256 + 64 * n) r.words)).1 (putS ((128 + 8 * (n / 16) : Nat) : Int) (tkW m n))).1⟩, 0#64, (runS (runS V.D (putAllS (256 + 64 * n) r.words)).1 (putS ((128 + 8 * (n / 16) : Nat) : Int) (tkW m n))).2)
    else (⟨tkL m (n + 1), zL m, (runS (runS V.D (putAllS (256 + 64 * n) r.words)).1 (putS ((128 + 8 * (n / 16) : Nat) : Int) (tkW m n))).1⟩, BitVec.ofInt 64 ((256 + 64 * n : Nat) : Int), 0) := by
  obtain ⟨T, H, D⟩ := V
  obtain rfl : T = tkL m n := hT
  obtain rfl : H = zL m := hH
  obtain ⟨f1, f2, f3, f4, f5⟩ := res_facts (D := D) hm hn
  have hw := words8 hr
  have hdrop : ∀ E, dropV (shN m) ⟨tkL m n, hdL m n, E⟩ ((256 + 64 * n : Nat) : Int) = (⟨tkL m n, zL m, E⟩, 0) := fun E => by
    unfold dropV
    dsimp only
    rw [tkL_len, f2]
    dsimp only
    rw [if_pos f3, f5]
  have htake : ∀ E, takeV (shN m) ⟨tkL m n, hdL m n, E⟩ ((256 + 64 * n : Nat) : Int) = if (runS E (putS ((128 + 8 * (n / 16) : Nat) : Int) (tkW m n))).2 = 0 then (⟨tkL m (n + 1), zL m, (runS E (putS ((128 + 8 * (n / 16) : Nat) : Int) (tkW m n))).1⟩, 0)
      else (⟨tkL m n, hdL m n, (runS E (putS ((128 + 8 * (n / 16) : Nat) : Int) (tkW m n))).1⟩, (runS E (putS ((128 + 8 * (n / 16) : Nat) : Int) (tkW m n))).2) := fun E => by
    unfold takeV
    dsimp only
    rw [tkL_len, f2]
    dsimp only
    rw [if_pos f3, show WM.takeW ((tkL m n).getD (n / 16) 0#64) (WM.classM ((hdL m n).getD (n / 16) 0#64)) ((n % 16 : Nat) : Int) = tkW m n from rfl]
    unfold putV
    dsimp only
    by_cases he : (runS E (putS ((128 + 8 * (n / 16) : Nat) : Int) (tkW m n))).2 = 0
    · rw [if_pos he, if_pos he, if_pos he, f4, f5]
    · rw [if_neg he, if_neg he, if_neg he]
  unfold addV
  rw [hr, if_neg (by decide), f1]
  dsimp only
  rw [if_neg (by decide), putAll_in hm hl hn hw]
  generalize runS D (putAllS (256 + 64 * n) r.words) = R
  rw [hdrop, htake]
  by_cases h1 : R.2 = 0
  · have n1 : ¬ R.2 ≠ 0 := fun h => h h1
    rw [if_neg n1, if_neg n1]
    generalize runS R.1 (putS ((128 + 8 * (n / 16) : Nat) : Int) (tkW m n)) = Q
    by_cases h2 : Q.2 = 0
    · have n2 : ¬ Q.2 ≠ 0 := fun h => h h2
      rw [if_pos h2, if_neg n2]
      dsimp only
      rw [if_neg (by decide)]
    · have n2 : Q.2 ≠ 0 := h2
      rw [if_neg h2, if_pos n2]
      dsimp only
      rw [if_pos n2, hdrop]
  · have n1 : R.2 ≠ 0 := h1
    rw [if_pos n1, if_pos n1]
/-- Add on a device that may go down. -/
theorem add_soft (h : Soft m V) (hm : m = 12) (hT : V.T = tkL m n) (hn : n < 48) {r : LinkV} (hr : r.right = true) :
    ((addV (shN m) V r).2 = (BitVec.ofInt 64 ((256 + 64 * n : Nat) : Int), 0) ∧ Soft m (addV (shN m) V r).1 ∧ (addV (shN m) V r).1.T = tkL m (n + 1) ∧
      ∀ x, x % 8 = 0 → 256 ≤ x → x < 64 * (188 + m) → (addV (shN m) V r).1.D.word x = if 256 + 64 * n ≤ x ∧ x < 256 + 64 * n + 64 then r.words.getD ((x - (256 + 64 * n)) / 8) 0#64 else V.D.word x) ∨
    ((addV (shN m) V r).2 = (0#64, 12) ∧ (addV (shN m) V r).1.D.Ok ∧ (addV (shN m) V r).1.D.ls.length = 188 + m ∧ ∀ ps, ∃ T', (T' = tkL m n ∨ T' = tkL m (n + 1)) ∧ Soft m ⟨T', zL m, (addV (shN m) V r).1.D.crash ps⟩ ∧ ((addV (shN m) V r).1.D.crash ps).Up ∧
      ∀ x, x % 8 = 0 → 256 ≤ x → x < 64 * (188 + m) → (x < 256 + 64 * n ∨ 256 + 64 * n + 64 ≤ x) → ((addV (shN m) V r).1.D.crash ps).word x = V.D.word x) := by
  have hw := words8 hr
  have he := add_eq hm hT h.held h.ds.lines hn hr
  have h1 := h.ds.putAll (by omega) (o := 256 + 64 * n) (l := r.words) (by omega) (by rw [hw]; omega) (by omega)
  rw [hw] at h1
  have htkW : ∀ i, i < m → (tkL m (n + 1)).getD i 0#64 = if i = n / 16 then tkW m n else (tkL m n).getD i 0#64 := fun i hi => by
    rw [← (res_facts (D := V.D) hm hn).2.2.2.1, wordsSet (tkL_len m n) hi]
  generalize runS V.D (putAllS (256 + 64 * n) r.words) = R at *
  rcases h1 with ⟨e1, d1, w1⟩ | ⟨e1, o1, l1, c1⟩
  · rw [if_neg (by rw [e1]; decide)] at he
    have h2 := d1.put (by omega) (o := 128 + 8 * (n / 16)) (tkW m n) (by omega) (by omega)
    generalize runS R.1 (putS ((128 + 8 * (n / 16) : Nat) : Int) (tkW m n)) = Q at *
    have wR : ∀ x, x % 8 = 0 → x < 256 → R.1.word x = V.D.word x := fun x hx hx2 => by rw [w1 x hx (by omega), if_neg (by omega)]
    rcases h2 with ⟨e2, d2, w2⟩ | ⟨e2, o2, l2, c2⟩
    · rw [if_neg (by rw [e2]; decide)] at he
      rw [he]
      refine .inl ⟨rfl, ⟨small_tkL m (n + 1), rfl, d2, fun i hi => ?_, fun y hy hy2 => ?_⟩, rfl, fun x hx hx2 hx3 => ?_⟩
      · show Q.1.word _ = (tkL m (n + 1)).getD i 0#64
        rw [w2 _ (by omega) (by omega), htkW i hi, wR _ (by omega) (by omega), h.tab i hi, hT]
        by_cases e : i = n / 16
        · rw [if_pos e, if_pos (by rw [e])]
        · rw [if_neg e, if_neg (by omega)]
      · show Q.1.word y = _
        rw [w2 _ hy (by omega), if_neg (by omega), wR _ hy (by omega)]; exact h.hdr y hy hy2
      · show Q.1.word x = _
        rw [w2 x hx hx3, if_neg (by omega), w1 x hx hx3]
    · rw [if_pos (by rw [e2]; decide)] at he
      rw [he]
      refine .inr ⟨by rw [e2], o2, l2, fun ps => ?_⟩
      have key : ∀ T', Small m T' → (∀ i, i < m → (Q.1.crash ps).word (128 + 8 * i) = T'.getD i 0#64) → Soft m ⟨T', zL m, Q.1.crash ps⟩ ∧ (Q.1.crash ps).Up ∧ ∀ x, x % 8 = 0 → 256 ≤ x → x < 64 * (188 + m) → (x < 256 + 64 * n ∨ 256 + 64 * n + 64 ≤ x) → (Q.1.crash ps).word x = V.D.word x := fun T' hS ht => by
        obtain ⟨s1, s2⟩ := soft_crash hm hS o2 l2 ht (fun y hy hy2 => by
          rcases c2 ps y hy (by omega) with e | ⟨e, _⟩
          · rw [e, wR y hy (by omega)]; exact h.hdr y hy hy2
          · omega)
        refine ⟨s1, s2, fun x hx hx2 hx3 hx4 => ?_⟩
        rcases c2 ps x hx hx3 with e | ⟨e, _⟩
        · rw [e, w1 x hx hx3, if_neg (by omega)]
        · omega
      have hold : ∀ i, i < m → i ≠ n / 16 → (Q.1.crash ps).word (128 + 8 * i) = (tkL m n).getD i 0#64 := fun i hi hne => by
        rcases c2 ps (128 + 8 * i) (by omega) (by omega) with e | ⟨e, _⟩
        · rw [e, wR _ (by omega) (by omega), h.tab i hi, hT]
        · omega
      rcases c2 ps (128 + 8 * (n / 16)) (by omega) (by omega) with e | ⟨_, e⟩
      · refine ⟨tkL m n, .inl rfl, key _ (small_tkL m n) (fun i hi => ?_)⟩
        by_cases e3 : i = n / 16
        · rw [e3, e, wR _ (by omega) (by omega), h.tab _ (by omega), hT]
        · exact hold i hi e3
      · refine ⟨tkL m (n + 1), .inr rfl, key _ (small_tkL m (n + 1)) (fun i hi => ?_)⟩
        rw [htkW i hi]
        by_cases e3 : i = n / 16
        · rw [if_pos e3, e3, e]
        · rw [if_neg e3]; exact hold i hi e3
  · rw [if_pos (by rw [e1]; decide)] at he
    rw [he]
    refine .inr ⟨by rw [e1], o1, l1, fun ps => ⟨tkL m n, .inl rfl, ?_⟩⟩
    have wC : ∀ x, x % 8 = 0 → x < 64 * (188 + m) → (x < 256 + 64 * n ∨ 256 + 64 * n + 64 ≤ x) → (R.1.crash ps).word x = V.D.word x := fun x hx hx2 hx3 => by
      rcases c1 ps x hx hx2 with e | ⟨a, b, _⟩
      · exact e
      · omega
    obtain ⟨s1, s2⟩ := soft_crash hm (small_tkL m n) o1 l1 (fun i hi => by rw [wC _ (by omega) (by omega) (by omega), h.tab i hi, hT]) (fun y hy hy2 => by rw [wC y hy (by omega) (by omega)]; exact h.hdr y hy hy2)
    exact ⟨s1, s2, fun x hx _ hx3 hx4 => wC x hx hx3 hx4⟩
theorem add_steps (hm : m = 12) (hT : V.T = tkL m n) (hH : V.H = zL m) (hl : V.D.ls.length = 188 + m) (hn : n < 48) {r : LinkV} (hr : r.right = true) : (addV (shN m) V r).1.D.steps ≤ V.D.steps + 23 := by
  rw [add_eq hm hT hH hl hn hr]
  have h1 := putAll_steps8 V.D ((256 + 64 * n : Nat) : Int) (words8 hr)
  rw [putAll_in hm hl hn (words8 hr)] at h1
  have h2 := runS_steps (runS V.D (putAllS (256 + 64 * n) r.words)).1 (putS ((128 + 8 * (n / 16) : Nat) : Int) (tkW m n))
  rw [show (putS ((128 + 8 * (n / 16) : Nat) : Int) (tkW m n)).length = 3 from rfl] at h2
  split
  · show (runS V.D (putAllS (256 + 64 * n) r.words)).1.steps ≤ _; omega
  · split
    · show (runS (runS V.D (putAllS (256 + 64 * n) r.words)).1 _).1.steps ≤ _; omega
    · show (runS (runS V.D (putAllS (256 + 64 * n) r.words)).1 _).1.steps ≤ _; omega
/-- On a device that is up it answers OK. -/
theorem add_up (hm : m = 12) (hT : V.T = tkL m n) (hH : V.H = zL m) (hl : V.D.ls.length = 188 + m) (hu : V.D.Up) (hn : n < 48) {r : LinkV} (hr : r.right = true) : (addV (shN m) V r).2.2 = 0 ∧ (addV (shN m) V r).1.D.Up := by
  rw [add_eq hm hT hH hl hn hr]
  have hs : V.D.size = 64 * (188 + m) := by unfold NM.Dv.size; rw [hl]
  obtain ⟨a1, a2⟩ := runS_upUp hu (by omega) (putAllS (256 + 64 * n) r.words) (putAllS_in (by omega) (by rw [words8 hr]; omega))
  have hl2 := runS_len V.D (putAllS (256 + 64 * n) r.words)
  rw [if_neg (by rw [a1]; decide)]
  generalize runS V.D (putAllS (256 + 64 * n) r.words) = R at *
  have h3 := runS_upUp a2 (by omega) (putAllS (128 + 8 * (n / 16)) [tkW m n]) (putAllS_in (by omega) (by show _ + 8 * 1 ≤ _; omega))
  rw [put_same (by omega) (by unfold NM.Dv.size; omega)] at h3
  rw [if_neg (by rw [h3.1]; decide)]
  exact ⟨rfl, h3.2⟩
end
end Go.Proofs.YtejpophjiinijaaDoor

/-! ### ChSeg -/
namespace Go.Proofs.YtejpophjiinijaaDoor
set_option linter.unusedVariables false
set_option linter.unusedSimpArgs false
set_option maxRecDepth 100000
open Go Go.RowKit

section
variable {m n : Nat} {T : List (BitVec 64)} {D : NM.Dv}
theorem bF_zero (T : List (BitVec 64)) (m i : Nat) : bF T (zL m) i = T.getD i 0#64 := by unfold bF; rw [zL_get, BitVec.or_zero]
/-- The class of a place is that of one line just if a small block is taken there. -/
theorem class_small (h : Small m T) (off : Int) : classV (shN m) T (zL m) off = 1 ↔ ∃ j, j < 16 * m ∧ off = ((256 + 64 * j : Nat) : Int) ∧ tkn T j = true := by
  constructor
  · intro hc
    unfold classV at hc
    rw [h.len] at hc
    cases hf : findP (shN m) m (bF T (zL m)) off with
    | none => rw [hf] at hc; cases hc
    | some y =>
      obtain ⟨i, q⟩ := y
      rw [hf] at hc
      dsimp only at hc
      obtain ⟨hi, hq, hx, -⟩ := findP_some hf
      rw [bF_zero] at hx
      by_cases hh : WM.hasM (T.getD i 0#64) q = true
      · rw [if_pos hh] at hc
        rw [hc] at hx
        rw [WM.has_ref _ _ hq] at hh
        refine ⟨16 * i + q, by omega, ?_, ?_⟩
        · rw [hx, ← placeI_small m (16 * i + q), show (16 * i + q) / 16 = i by omega, show (16 * i + q) % 16 = q by omega]; rfl
        · unfold tkn
          rw [show (16 * i + q) / 16 = i by omega, show (16 * i + q) % 16 = q by omega]; exact hh
      · rw [if_neg hh] at hc; cases hc
  · rintro ⟨j, hj, rfl, ht⟩
    unfold tkn at ht
    have hq : j % 16 < 16 := by omega
    have hi : j / 16 < m := by omega
    obtain ⟨k1, k2⟩ := tR_cls hq ht
    have hc : WM.cR (T.getD (j / 16) 0#64) = 1 := by rcases h.cls _ hi with e | e <;> omega
    rw [hc] at k2
    have hf := findP_place (s := shN m) (n := m) (B := bF T (zL m)) hi (.inl rfl) (by rw [bF_zero]; exact hc) k2
    rw [placeI_small] at hf
    unfold classV
    rw [h.len, hf]
    dsimp only
    rw [WM.has_ref _ _ hq, if_pos ht, WM.cR_class, hc]; rfl
/-- A version stands in a block. -/
def Stands (m : Nat) (T : List (BitVec 64)) (D : NM.Dv) (k : LinkV) : Prop :=
  ∃ j, j < 16 * m ∧ k.off = ((256 + 64 * j : Nat) : Int) ∧ tkn T j = true ∧ k.right = true ∧ ∀ w, w < 8 → D.word (256 + 64 * j + 8 * w) = k.words.getD w 0#64
theorem toInt_off {j : Nat} (hm : m = 12) (hj : j < 16 * m) : (BitVec.ofInt 64 ((256 + 64 * j : Nat) : Int)).toInt = ((256 + 64 * j : Nat) : Int) := by
  rw [BitVec.toInt_ofInt]
  rw [Int.bmod_def]
  have e : (((256 + 64 * j : Nat) : Int) % ((2 ^ 64 : Nat) : Int)) = ((256 + 64 * j : Nat) : Int) := Int.emod_eq_of_lt (by omega) (by omega)
  rw [e, if_pos (by omega)]
theorem off_ne {j : Nat} (hm : m = 12) (hj : j < 16 * m) : BitVec.ofInt 64 ((256 + 64 * j : Nat) : Int) ≠ 0#64 := fun e => by
  have h := toInt_off (j := j) hm hj
  rw [e] at h
  have h0 : (0#64 : BitVec 64).toInt = 0 := rfl
  rw [h0] at h; omega
theorem get_words (hm : m = 12) (hl : D.ls.length = 188 + m) (hd : D.down = false) {j : Nat} (hj : j < 16 * m) : D.get ((256 + 64 * j : Nat) : Int) 8 = (wordsAt D (256 + 64 * j) 8, 0) :=
  get_in (o := 256 + 64 * j) (n := 8) (by rw [hl]; omega) hd (by omega) (by unfold NM.Dv.size; rw [hl]; omega)
theorem wordsAt_eq {o : Nat} {ws : List (BitVec 64)} (hw : ws.length = 8) (h : ∀ w, w < 8 → D.word (o + 8 * w) = ws.getD w 0#64) : wordsAt D o 8 = ws := by
  refine List.ext_getElem (by rw [wordsAt_len, hw]) fun i h1 h2 => ?_
  have hi : i < 8 := by rw [wordsAt_len] at h1; exact h1
  have : (wordsAt D o 8)[i] = D.word (o + 8 * i) := by simp [wordsAt]
  refine this.trans ?_
  rw [h i hi, List.getD, List.getElem?_eq_getElem h2]; rfl
theorem link_words {k : LinkV} (hr : k.right = true) : okM k.words = true ∧ linkW k.off k.words = k := by
  unfold LinkV.right at hr
  obtain ⟨h1, h2⟩ := enc_back (nx := k.nxt) hr
  refine ⟨h1, ?_⟩
  unfold decM at h2
  rw [if_pos h1] at h2
  unfold LinkV.words linkW
  simp only [recV, Value.agg.injEq, Array.mk.injEq, List.cons.injEq, Value.int.injEq, Value.bool.injEq, Value.string.injEq, true_and, and_true] at h2
  obtain ⟨a1, a2, a3, a4⟩ := h2
  cases k
  simp only [LinkV.mk.injEq, true_and]
  exact ⟨uv_inj a1, uv_inj a2, a3, a4⟩
theorem fetch_stands (hm : m = 12) (hT : Small m T) (hl : D.ls.length = 188 + m) (hd : D.down = false) {k : LinkV} (hk : Stands m T D k) : fetch (shN m) T (zL m) D (BitVec.ofInt 64 k.off) = some k ∧ BitVec.ofInt 64 k.off ≠ 0#64 := by
  obtain ⟨j, hj, ho, ht, hr, hw⟩ := hk
  rw [ho]
  refine ⟨?_, off_ne hm hj⟩
  obtain ⟨h1, h2⟩ := link_words hr
  have hg := wordsAt_eq (words8 hr) hw
  unfold fetch
  rw [toInt_off hm hj, get_words hm hl hd hj]
  dsimp only
  rw [hg, if_pos ⟨(class_small hT _).2 ⟨j, hj, rfl, ht⟩, h1⟩, ← ho, h2]
/-- Each one names the next one. -/
def Lnkd : BitVec 64 → List LinkV → Prop
  | x, [] => x = 0#64
  | x, k :: l => x = BitVec.ofInt 64 k.off ∧ Lnkd k.nxt l
theorem seg_of {f : BitVec 64 → Option LinkV} : ∀ {l : List LinkV} {x : BitVec 64}, Lnkd x l → (∀ k ∈ l, f (BitVec.ofInt 64 k.off) = some k ∧ BitVec.ofInt 64 k.off ≠ 0#64) → Seg f x l 0#64
  | [], _, h, _ => h
  | k :: l, x, h, hf => by
    obtain ⟨h1, h2⟩ := hf k List.mem_cons_self
    obtain ⟨rfl, h3⟩ := h
    exact ⟨h2, h1, seg_of h3 (fun z hz => hf z (List.mem_cons_of_mem _ hz))⟩
/-- The steps of a device that is up give what stands. -/
theorem get_class (hm : m = 12) (hT : Small m T) (hl : D.ls.length = 188 + m) (hd : D.down = false) (off : Int) (h : classV (shN m) T (zL m) off = 1) : (D.get off 8).2 = 0 := by
  obtain ⟨j, hj, rfl, -⟩ := (class_small hT _).1 h
  rw [get_words hm hl hd hj]
/-! ### No list is longer than there are blocks -/
theorem seg_mem {f : BitVec 64 → Option LinkV} : ∀ {l : List LinkV} {x y : BitVec 64}, Seg f x l y → ∀ k ∈ l, ∃ z, z ≠ 0#64 ∧ f z = some k
  | [], _, _, _, k, hk => by cases hk
  | a :: l, x, y, h, k, hk => by
    rcases List.mem_cons.1 hk with rfl | hk
    · exact ⟨x, h.1, h.2.1⟩
    · exact seg_mem h.2.2 k hk
theorem fall_offs {F : Int → LinkV} : ∀ {l : List LinkV}, FallL l → (∀ k ∈ l, k = F k.off) → (l.map LinkV.off).Nodup
  | [], _, _ => List.nodup_nil
  | a :: l, h, hF => by
    rw [List.map_cons, List.nodup_cons]
    refine ⟨fun hm => ?_, fall_offs (fall_tail h) (fun k hk => hF k (List.mem_cons_of_mem _ hk))⟩
    obtain ⟨k, hk, e⟩ := List.mem_map.1 hm
    have h1 := fall_below h k hk
    rw [hF a List.mem_cons_self, ← e, ← hF k (List.mem_cons_of_mem _ hk)] at h1
    omega
theorem nodup_le : ∀ {a b : List Int}, a.Nodup → (∀ x ∈ a, x ∈ b) → a.length ≤ b.length
  | [], b, _, _ => Nat.zero_le _
  | x :: a, b, hn, h => by
    obtain ⟨h1, h2⟩ := List.nodup_cons.1 hn
    have hx := h x List.mem_cons_self
    have ih := nodup_le (b := b.erase x) h2 (fun y hy => (List.mem_erase_of_ne (show y ≠ x from fun e => h1 (by rw [← e]; exact hy))).2 (h y (List.mem_cons_of_mem _ hy)))
    rw [List.length_erase_of_mem hx] at ih
    have := List.length_pos_of_mem hx
    simp only [List.length_cons]; omega
theorem list_len (hm : m = 12) (hT : Small m T) {x y : BitVec 64} {l : List LinkV} (h : Seg (fetch (shN m) T (zL m) D) x l y) (hf : FallL l) : l.length ≤ ((List.range (16 * m)).filter (tkn T)).length := by
  have hk : ∀ k ∈ l, ∃ z, classV (shN m) T (zL m) k.off = 1 ∧ k = linkW k.off (D.get k.off 8).1 ∧ z = k.off := fun k hk => by
    obtain ⟨z, -, hz⟩ := seg_mem h k hk
    unfold fetch at hz
    split at hz
    · rename_i h2
      have e := Option.some.inj hz
      have eo : k.off = z.toInt := by rw [← e]; rfl
      exact ⟨_, by rw [eo]; exact h2.1, by rw [eo]; exact e.symm, rfl⟩
    · cases hz
  have hn := fall_offs (F := fun o => linkW o (D.get o 8).1) hf (fun k h => by obtain ⟨_, _, h2, _⟩ := hk k h; exact h2)
  have := nodup_le hn (b := ((List.range (16 * m)).filter (tkn T)).map (fun j => ((256 + 64 * j : Nat) : Int))) (fun o ho => by
    obtain ⟨k, hk2, rfl⟩ := List.mem_map.1 ho
    obtain ⟨_, hc, -, -⟩ := hk k hk2
    obtain ⟨j, hj, e, ht⟩ := (class_small hT _).1 hc
    exact List.mem_map.2 ⟨j, List.mem_filter.2 ⟨List.mem_range.2 hj, ht⟩, e.symm⟩)
  simpa using this
end
end Go.Proofs.YtejpophjiinijaaDoor

/-! ### ChBld -/
namespace Go.Proofs.YtejpophjiinijaaDoor
set_option linter.unusedVariables false
set_option linter.unusedSimpArgs false
set_option maxRecDepth 100000
open Go Go.RowKit

/-- What is built so far: a pool and its device, the first place, the list. -/
structure BS where
  V : PV
  first : BitVec 64
  M : List LinkV
def mkR (i : Nat) (first : BitVec 64) (x : LinkV) : LinkV := ⟨0, BitVec.ofNat 64 (2 * i + 1), first, x.gone, if x.gone then ⟨#[]⟩ else x.text⟩
def stepB (m i : Nat) (S : BS) (x : LinkV) : BS :=
  if (addV (shN m) S.V (mkR i S.first x)).2.2 = 0 then ⟨(addV (shN m) S.V (mkR i S.first x)).1, (addV (shN m) S.V (mkR i S.first x)).2.1, { mkR i S.first x with off := (addV (shN m) S.V (mkR i S.first x)).2.1.toInt } :: S.M⟩
  else ⟨(addV (shN m) S.V (mkR i S.first x)).1, S.first, S.M⟩
def bldS (m : Nat) (l : List LinkV) : Nat → BS
  | 0 => ⟨⟨zL m, zL m, begD m⟩, 0#64, []⟩
  | k + 1 => stepB m k (bldS m l k) (l.getD k default)
/-- A chain on a device of small blocks: n versions, the newest in the last block. -/
structure ChI (m n : Nat) (S : BS) : Prop where
  soft : Soft m S.V
  tab : S.V.T = tkL m n
  len : S.M.length = n
  offs : ∀ i (h : i < S.M.length), S.M[i].off = ((256 + 64 * (n - 1 - i) : Nat) : Int)
  words : ∀ i (h : i < S.M.length), ∀ w, w < 8 → S.V.D.word (256 + 64 * (n - 1 - i) + 8 * w) = S.M[i].words.getD w 0#64
  right : ∀ k ∈ S.M, k.right = true
  lnk : Lnkd S.first S.M
  fall : FallL S.M
section
variable {m n : Nat}
theorem ChI.stands {S : BS} (h : ChI m n S) (hn : n ≤ 16 * m) : ∀ k ∈ S.M, Stands m S.V.T S.V.D k := fun k hk => by
  obtain ⟨i, hi, rfl⟩ := List.getElem_of_mem hk
  have hl := h.len
  refine ⟨n - 1 - i, by omega, h.offs i hi, ?_, h.right _ hk, h.words i hi⟩
  rw [h.tab, tkn_tkL (by omega)]
  exact decide_eq_true (by omega)
theorem chI_zero (hm : m = 12) : ChI m 0 ⟨⟨zL m, zL m, begD m⟩, 0#64, []⟩ :=
  ⟨soft_beg hm, (tkL_zero m).symm, rfl, fun i h => absurd (show i < 0 from h) (Nat.not_lt_zero _), fun i h => absurd (show i < 0 from h) (Nat.not_lt_zero _), fun k h => absurd h List.not_mem_nil, rfl, trivial⟩
theorem ChI.add {S : BS} (h : ChI m n S) (hm : m = 12) (hn : n < 48) (hu : S.V.D.Up) {r : LinkV} (hr : r.right = true) (hnx : r.nxt = S.first) (hst : ∀ k ∈ S.M, k.stamp.toNat < r.stamp.toNat) :
    (addV (shN m) S.V r).2 = (BitVec.ofInt 64 ((256 + 64 * n : Nat) : Int), 0) ∧ (addV (shN m) S.V r).1.D.Up ∧ ChI m (n + 1) ⟨(addV (shN m) S.V r).1, (addV (shN m) S.V r).2.1, { r with off := (addV (shN m) S.V r).2.1.toInt } :: S.M⟩ := by
  obtain ⟨u1, u2⟩ := add_up hm h.tab h.soft.held h.soft.ds.lines hu hn hr
  rcases add_soft h.soft hm h.tab hn hr with ⟨e, hs, ht, hw⟩ | ⟨e, _⟩
  · refine ⟨e, u2, ?_⟩
    have e1 : (addV (shN m) S.V r).2.1 = BitVec.ofInt 64 ((256 + 64 * n : Nat) : Int) := by rw [e]
    have e2 : (addV (shN m) S.V r).2.1.toInt = ((256 + 64 * n : Nat) : Int) := by rw [e1]; exact toInt_off hm (by omega)
    generalize addV (shN m) S.V r = A at *
    have hl := h.len
    refine ⟨hs, ht, by show S.M.length + 1 = _; omega, fun i hi => ?_, fun i hi w hw8 => ?_, fun k hk => ?_, ?_, ?_⟩
    · cases i with
      | zero => show A.2.1.toInt = _; rw [e2]; congr 2
      | succ i =>
        have hi2 : i < S.M.length := by simpa using hi
        show S.M[i].off = _
        rw [h.offs i hi2]; congr 1; omega
    · cases i with
      | zero =>
        show A.1.D.word (256 + 64 * (n + 1 - 1 - 0) + 8 * w) = r.words.getD w 0#64
        rw [show n + 1 - 1 - 0 = n by omega, hw _ (by omega) (by omega) (by omega), if_pos (by omega), show (256 + 64 * n + 8 * w - (256 + 64 * n)) / 8 = w by omega]
      | succ i =>
        have hi2 : i < S.M.length := by simpa using hi
        show A.1.D.word (256 + 64 * (n + 1 - 1 - (i + 1)) + 8 * w) = S.M[i].words.getD w 0#64
        rw [show n + 1 - 1 - (i + 1) = n - 1 - i by omega, hw _ (by omega) (by omega) (by omega), if_neg (by omega)]
        exact h.words i hi2 w hw8
    · rcases List.mem_cons.1 hk with rfl | hk
      · exact hr
      · exact h.right k hk
    · exact ⟨by show A.2.1 = BitVec.ofInt 64 A.2.1.toInt; rw [BitVec.ofInt_toInt], by show Lnkd r.nxt S.M; rw [hnx]; exact h.lnk⟩
    · cases hM : S.M with
      | nil => trivial
      | cons k l =>
        have h1 := h.fall
        have h2 := hst k (by rw [hM]; exact List.mem_cons_self)
        rw [hM] at h1
        exact ⟨h2, h1⟩
  · rw [e] at u1; cases u1
/-- All that is built. -/
structure Blt (m k : Nat) (S : BS) : Prop where
  ch : ∃ n, n ≤ k ∧ ChI m n S
  up : S.V.D.Up
  steps : S.V.D.steps ≤ 100000 + 23 * k
  low : ∀ x ∈ S.M, x.stamp.toNat < 2 * k + 1
theorem mkR_right {i : Nat} (hi : i < 1000) (first : BitVec 64) (x : LinkV) : (mkR i first x).right = decide ((mkR i first x).text.size ≤ 40) := by
  have h1 : (BitVec.ofNat 64 (2 * i + 1) == 0#64) = false := by
    rw [beq_eq_false_iff_ne]
    intro e
    have := congrArg BitVec.toNat e
    simp at this
    omega
  unfold mkR LinkV.right rightB
  dsimp only
  rw [h1]
  cases x.gone
  · simp
  · simp [ByteArray.size]
theorem add_wrong {s : HM.Shape} {V : PV} {r : LinkV} (h : r.right = false) : addV s V r = (V, 0#64, 2) := by
  unfold addV; rw [h, if_pos rfl]
theorem blt (hm : m = 12) (l : List LinkV) (hl : l.length ≤ 40) : ∀ k, k ≤ l.length → Blt m k (bldS m l k)
  | 0, _ => ⟨⟨0, Nat.le_refl _, chI_zero hm⟩, (beg_facts hm).2.2.1, beg_small hm, fun x h => by cases h⟩
  | k + 1, hk => by
    have ih := blt hm l hl k (by omega)
    obtain ⟨⟨n, hn, hc⟩, hu, hs, hlow⟩ := ih
    show Blt m (k + 1) (stepB m k (bldS m l k) (l.getD k default))
    generalize l.getD k default = x
    generalize bldS m l k = S at *
    cases hr : (mkR k S.first x).right with
    | false =>
      have e := add_wrong (s := shN m) (V := S.V) hr
      unfold stepB
      rw [e]
      exact ⟨⟨n, by omega, hc⟩, hu, by show S.V.D.steps ≤ _; omega, fun z hz => by have := hlow z hz; omega⟩
    | true =>
      have hst : (mkR k S.first x).stamp.toNat = 2 * k + 1 := by
        show (BitVec.ofNat 64 (2 * k + 1)).toNat = _
        simp; omega
      obtain ⟨a1, a2, a3⟩ := hc.add hm (by omega) hu hr rfl (fun z hz => by have := hlow z hz; omega)
      have a4 := add_steps hm hc.tab hc.soft.held hc.soft.ds.lines (by omega) hr
      unfold stepB
      rw [if_pos (by rw [a1])]
      refine ⟨⟨n + 1, by omega, a3⟩, a2, by show (addV (shN m) S.V (mkR k S.first x)).1.D.steps ≤ _; omega, fun z hz => ?_⟩
      rcases List.mem_cons.1 hz with rfl | hz
      · show (mkR k S.first x).stamp.toNat < _; omega
      · have := hlow z hz; omega
/-- It answers OK, or the version may not be. -/
theorem blt_err (hm : m = 12) {S : BS} {k : Nat} (h : Blt m k S) (hk : k < 48) (x : LinkV) : (addV (shN m) S.V (mkR k S.first x)).2.2 = 0 ∨ (mkR k S.first x).right = false := by
  obtain ⟨⟨n, hn, hc⟩, hu, hs, hlow⟩ := h
  cases hr : (mkR k S.first x).right with
  | false => exact .inr rfl
  | true =>
    exact .inl (add_up hm hc.tab hc.soft.held hc.soft.ds.lines hu (by omega) hr).1
end
end Go.Proofs.YtejpophjiinijaaDoor

/-! ### ChDrop -/
namespace Go.Proofs.YtejpophjiinijaaDoor
set_option linter.unusedVariables false
set_option linter.unusedSimpArgs false
set_option maxRecDepth 100000
open Go Go.RowKit

section
variable {m n : Nat} {V : PV}
theorem row_small {T : List (BitVec 64)} (h : Small m T) {k : Nat} (hk : k < m) : rowK (shN m) k (T.getD k 0#64) = ((List.range 16).filter (fun q => tkn T (16 * k + q))).map (fun q => 256 + 64 * (16 * k + q)) := by
  unfold rowK
  rw [WM.list_ref]
  have e : (List.range 16).filter (WM.tR (T.getD k 0#64)) = (List.range 16).filter (fun q => tkn T (16 * k + q)) := by
    refine List.filter_congr fun q hq => ?_
    have := List.mem_range.1 hq
    unfold tkn
    rw [show (16 * k + q) / 16 = k by omega, show (16 * k + q) % 16 = q by omega]
  rw [← e]
  refine List.map_congr_left fun q hq => ?_
  obtain ⟨h1, h2⟩ := List.mem_filter.1 hq
  have hq16 := List.mem_range.1 h1
  have hc : WM.cR (T.getD k 0#64) = 1 := by
    have := (tR_cls hq16 h2).1
    rcases h.cls k hk with e | e <;> omega
  rw [WM.cR_class, hc]
  exact placeN_small m k q
theorem all_places {T : List (BitVec 64)} (h : Small m T) : ∀ k, k ≤ m → allK (shN m) T k = ((List.range (16 * k)).filter (tkn T)).map (fun j => 256 + 64 * j)
  | 0, _ => rfl
  | k + 1, hk => by
    show allK (shN m) T k ++ rowK (shN m) k (T.getD k 0#64) = _
    rw [all_places h k (by omega), row_small h (by omega), show 16 * (k + 1) = 16 * k + 16 by omega, List.range_add, List.filter_append, List.map_append]
    congr 1
    rw [List.filter_map, List.map_map]; rfl
theorem range_between (a b : Nat) (hab : a ≤ b) : ∀ N, ((List.range N).filter (fun j => decide (a ≤ j ∧ j < b))).length = min b N - min a N
  | 0 => by simp
  | N + 1 => by
    rw [List.range_succ, List.filter_append, List.length_append, range_between a b hab N]
    by_cases h : a ≤ N ∧ N < b
    · rw [List.filter_cons_of_pos (by simpa using h)]
      simp only [List.filter_nil, List.length_singleton]; omega
    · rw [List.filter_cons_of_neg (by simpa using h)]
      simp only [List.filter_nil, List.length_nil]; omega
theorem all_count {T : List (BitVec 64)} (h : Small m T) {a b : Nat} (hab : a ≤ b) (hb : b ≤ 16 * m) (ht : ∀ j, j < 16 * m → tkn T j = decide (a ≤ j ∧ j < b)) : (allK (shN m) T m).length = b - a := by
  rw [all_places h m (Nat.le_refl _), List.length_map]
  have e : (List.range (16 * m)).filter (tkn T) = (List.range (16 * m)).filter (fun j => decide (a ≤ j ∧ j < b)) := List.filter_congr fun j hj => ht j (List.mem_range.1 hj)
  rw [e, range_between a b hab]; omega
/-- Drop of a small block that is taken, on a device that may go down. -/
theorem drop_soft (h : Soft m V) (hm : m = 12) {j : Nat} (hj : j < 16 * m) (ht : tkn V.T j = true) :
    ((dropV (shN m) V ((256 + 64 * j : Nat) : Int)).2 = 0 ∧ Soft m (dropV (shN m) V ((256 + 64 * j : Nat) : Int)).1 ∧ (∀ i, i < 16 * m → tkn (dropV (shN m) V ((256 + 64 * j : Nat) : Int)).1.T i = (tkn V.T i && decide (i ≠ j))) ∧
      ∀ x, x % 8 = 0 → 256 ≤ x → x < 64 * (188 + m) → (dropV (shN m) V ((256 + 64 * j : Nat) : Int)).1.D.word x = V.D.word x) ∨
    ((dropV (shN m) V ((256 + 64 * j : Nat) : Int)).2 = 12 ∧ (dropV (shN m) V ((256 + 64 * j : Nat) : Int)).1.D.Ok ∧ (dropV (shN m) V ((256 + 64 * j : Nat) : Int)).1.D.ls.length = 188 + m ∧ ∀ ps, ∃ T', Soft m ⟨T', zL m, (dropV (shN m) V ((256 + 64 * j : Nat) : Int)).1.D.crash ps⟩ ∧ ((dropV (shN m) V ((256 + 64 * j : Nat) : Int)).1.D.crash ps).Up ∧
      (∀ i, i < 16 * m → i ≠ j → tkn T' i = tkn V.T i) ∧ ∀ x, x % 8 = 0 → 256 ≤ x → x < 64 * (188 + m) → ((dropV (shN m) V ((256 + 64 * j : Nat) : Int)).1.D.crash ps).word x = V.D.word x) := by
  have ht0 := ht
  unfold tkn at ht
  have hq : j % 16 < 16 := by omega
  have hi : j / 16 < m := by omega
  obtain ⟨k1, k2⟩ := tR_cls hq ht
  have hc : WM.cR (V.T.getD (j / 16) 0#64) = 1 := by rcases h.small.cls _ hi with e | e <;> omega
  rw [hc] at k2
  have hf := findP_place (s := shN m) (n := m) (B := bF V.T (zL m)) hi (.inl rfl) (by rw [bF_zero]; exact hc) k2
  rw [placeI_small] at hf
  obtain ⟨y, hy⟩ : ∃ y, y = WM.dropW (V.T.getD (j / 16) 0#64) ((j % 16 : Nat) : Int) := ⟨_, rfl⟩
  have he : dropV (shN m) V ((256 + 64 * j : Nat) : Int) = putV V (j / 16) y := by
    unfold dropV
    rw [h.small.len, h.held, hf]
    dsimp only
    rw [zL_get, WM.has_zero, if_neg (by decide), WM.has_ref _ _ hq, if_pos ht, hy]
  obtain ⟨d1, d2, d3⟩ := WM.drop_full hq ht
  rw [← hy] at d1 d2 d3
  have hS : Small m (V.T.set (j / 16) y) := by
    refine ⟨by rw [List.length_set]; exact h.small.len, fun i hi2 => ?_, fun i hi2 => ?_⟩
    · rw [wordsSet h.small.len hi2]
      split
      · exact d1
      · exact h.small.right i hi2
    · rw [wordsSet h.small.len hi2]
      split
      · rw [hc] at d2; exact d2
      · exact h.small.cls i hi2
  have hK : ∀ i, i < 16 * m → tkn (V.T.set (j / 16) y) i = (tkn V.T i && decide (i ≠ j)) := fun i hi2 => by
    unfold tkn
    rw [wordsSet h.small.len (by omega)]
    by_cases e : i / 16 = j / 16
    · rw [if_pos e, d3 _ (by omega), e]
      unfold WM.setT
      by_cases e2 : i % 16 = j % 16
      · have : i = j := by omega
        rw [if_pos e2, decide_eq_false (fun h => h this), Bool.and_false]
      · have : i ≠ j := fun e3 => e2 (by rw [e3])
        rw [if_neg e2, decide_eq_true this, Bool.and_true]
    · have : i ≠ j := fun e3 => e (by rw [e3])
      rw [if_neg e, decide_eq_true this, Bool.and_true]
  have h1 := h.ds.put (by omega) (o := 128 + 8 * (j / 16)) y (by omega) (by omega)
  rw [he]
  unfold putV
  dsimp only
  generalize runS V.D (putS ((128 + 8 * (j / 16) : Nat) : Int) y) = R at *
  rcases h1 with ⟨e1, d1', w1⟩ | ⟨e1, o1, l1, c1⟩
  · rw [if_pos e1]
    refine .inl ⟨e1, ⟨hS, h.held, d1', fun i hi2 => ?_, fun z hz hz2 => ?_⟩, hK, fun x hx hx2 hx3 => ?_⟩
    · show R.1.word _ = (V.T.set (j / 16) y).getD i 0#64
      rw [w1 _ (by omega) (by omega), wordsSet h.small.len hi2]
      by_cases e : i = j / 16
      · rw [if_pos e, if_pos (by rw [e])]
      · rw [if_neg e, if_neg (by omega)]; exact h.tab i hi2
    · show R.1.word z = _
      rw [w1 z hz (by omega), if_neg (by omega)]; exact h.hdr z hz hz2
    · show R.1.word x = _
      rw [w1 x hx hx3, if_neg (by omega)]
  · refine .inr ⟨e1, o1, l1, fun ps => ?_⟩
    have hold : ∀ x, x % 8 = 0 → x < 64 * (188 + m) → x ≠ 128 + 8 * (j / 16) → (R.1.crash ps).word x = V.D.word x := fun x hx hx2 hne => by
      rcases c1 ps x hx hx2 with e | ⟨e, _⟩
      · exact e
      · exact absurd e hne
    have hhdr : ∀ z, z % 8 = 0 → z < 64 → (R.1.crash ps).word z = (begD m).word z := fun z hz hz2 => by rw [hold z hz (by omega) (by omega)]; exact h.hdr z hz hz2
    rcases c1 ps (128 + 8 * (j / 16)) (by omega) (by omega) with e | ⟨_, e⟩
    · obtain ⟨s1, s2⟩ := soft_crash hm h.small o1 l1 (fun i hi2 => by
        by_cases e3 : i = j / 16
        · rw [e3, e]; exact h.tab _ hi
        · rw [hold _ (by omega) (by omega) (by omega)]; exact h.tab i hi2) hhdr
      exact ⟨_, s1, s2, fun i _ _ => rfl, fun x hx hx2 hx3 => hold x hx hx3 (by omega)⟩
    · obtain ⟨s1, s2⟩ := soft_crash hm hS o1 l1 (fun i hi2 => by
        rw [wordsSet h.small.len hi2]
        by_cases e3 : i = j / 16
        · rw [if_pos e3, e3, e]
        · rw [if_neg e3, hold _ (by omega) (by omega) (by omega)]; exact h.tab i hi2) hhdr
      exact ⟨_, s1, s2, fun i hi2 hne => by rw [hK i hi2, decide_eq_true hne, Bool.and_true], fun x hx hx2 hx3 => hold x hx hx3 (by omega)⟩
theorem drop_up (h : Soft m V) (hm : m = 12) (hu : V.D.Up) {j : Nat} (hj : j < 16 * m) (ht : tkn V.T j = true) : (dropV (shN m) V ((256 + 64 * j : Nat) : Int)).2 = 0 ∧ (dropV (shN m) V ((256 + 64 * j : Nat) : Int)).1.D.Up := by
  have hw := h.well hu
  have h2 := well_drop (s := shN m) hw hm ((256 + 64 * j : Nat) : Int)
  refine ⟨?_, h2.1.up⟩
  rcases h2.2 with e | ⟨e, _⟩
  · exact e
  · rcases drop_soft h hm hj ht with ⟨e2, _⟩ | ⟨e2, _⟩
    · exact e2
    · rw [e] at e2; cases e2
/-- Places of versions, the newest first: of the blocks a, a - 1, .. 0. -/
def downL : Nat → List Int
  | 0 => []
  | a + 1 => ((256 + 64 * a : Nat) : Int) :: downL a
/-- The blocks below a dropped, the highest first. -/
theorem drops_soft (hm : m = 12) : ∀ (a : Nat) (V : PV), Soft m V → a ≤ 16 * m → (∀ j, j < a → tkn V.T j = true) →
    ((dropsV (shN m) V (downL a)).2 = 0 ∧ Soft m (dropsV (shN m) V (downL a)).1 ∧ (∀ i, i < 16 * m → tkn (dropsV (shN m) V (downL a)).1.T i = (tkn V.T i && decide (a ≤ i))) ∧
      ∀ x, x % 8 = 0 → 256 ≤ x → x < 64 * (188 + m) → (dropsV (shN m) V (downL a)).1.D.word x = V.D.word x) ∨
    ((dropsV (shN m) V (downL a)).2 = 12 ∧ (dropsV (shN m) V (downL a)).1.D.Ok ∧ (dropsV (shN m) V (downL a)).1.D.ls.length = 188 + m ∧ ∀ ps, ∃ T', Soft m ⟨T', zL m, (dropsV (shN m) V (downL a)).1.D.crash ps⟩ ∧ ((dropsV (shN m) V (downL a)).1.D.crash ps).Up ∧
      (∀ i, i < 16 * m → a ≤ i → tkn T' i = tkn V.T i) ∧ ∀ x, x % 8 = 0 → 256 ≤ x → x < 64 * (188 + m) → ((dropsV (shN m) V (downL a)).1.D.crash ps).word x = V.D.word x)
  | 0, V, h, _, _ => .inl ⟨rfl, h, fun i hi => by show tkn V.T i = _; rw [decide_eq_true (Nat.zero_le i), Bool.and_true], fun _ _ _ _ => rfl⟩
  | a + 1, V, h, ha, ht => by
    have hd := drop_soft h hm (j := a) (by omega) (ht a (by omega))
    have he : dropsV (shN m) V (downL (a + 1)) = if (dropV (shN m) V ((256 + 64 * a : Nat) : Int)).2 = 0 then dropsV (shN m) (dropV (shN m) V ((256 + 64 * a : Nat) : Int)).1 (downL a) else dropV (shN m) V ((256 + 64 * a : Nat) : Int) := rfl
    rw [he]
    generalize dropV (shN m) V ((256 + 64 * a : Nat) : Int) = A at *
    rcases hd with ⟨e, hs, hk, hw⟩ | ⟨e, o1, l1, hc⟩
    · rw [if_pos e]
      have hkk : ∀ i, i < 16 * m → a + 1 ≤ i → tkn A.1.T i = tkn V.T i := fun i hi hai => by rw [hk i hi, decide_eq_true (by omega), Bool.and_true]
      rcases drops_soft hm a A.1 hs (by omega) (fun j hj => by rw [hk j (by omega), ht j (by omega), decide_eq_true (by omega)]; rfl) with ⟨f, fs, fk, fw⟩ | ⟨f, o1, l1, fc⟩
      · refine .inl ⟨f, fs, fun i hi => ?_, fun x hx hx2 hx3 => by rw [fw x hx hx2 hx3, hw x hx hx2 hx3]⟩
        rw [fk i hi, hk i hi, Bool.and_assoc, ← Bool.decide_and]
        congr 1
        exact decide_eq_decide.2 ⟨fun h => by omega, fun h => by omega⟩
      · refine .inr ⟨f, o1, l1, fun ps => ?_⟩
        obtain ⟨T', s1, s2, s3, s4⟩ := fc ps
        exact ⟨T', s1, s2, fun i hi hai => by rw [s3 i hi (by omega), hkk i hi hai], fun x hx hx2 hx3 => by rw [s4 x hx hx2 hx3, hw x hx hx2 hx3]⟩
    · rw [if_neg (by rw [e]; decide)]
      refine .inr ⟨e, o1, l1, fun ps => ?_⟩
      obtain ⟨T', s1, s2, s3, s4⟩ := hc ps
      exact ⟨T', s1, s2, fun i hi hai => s3 i hi (by omega), s4⟩
theorem drops_up (hm : m = 12) : ∀ (a : Nat) (V : PV), Soft m V → V.D.Up → a ≤ 16 * m → (∀ j, j < a → tkn V.T j = true) → (dropsV (shN m) V (downL a)).2 = 0 ∧ (dropsV (shN m) V (downL a)).1.D.Up
  | 0, V, _, hu, _, _ => ⟨rfl, hu⟩
  | a + 1, V, h, hu, ha, ht => by
    have hd := drop_soft h hm (j := a) (by omega) (ht a (by omega))
    obtain ⟨u1, u2⟩ := drop_up h hm hu (j := a) (by omega) (ht a (by omega))
    have he : dropsV (shN m) V (downL (a + 1)) = if (dropV (shN m) V ((256 + 64 * a : Nat) : Int)).2 = 0 then dropsV (shN m) (dropV (shN m) V ((256 + 64 * a : Nat) : Int)).1 (downL a) else dropV (shN m) V ((256 + 64 * a : Nat) : Int) := rfl
    rw [he]
    generalize dropV (shN m) V ((256 + 64 * a : Nat) : Int) = A at *
    rw [if_pos u1]
    rcases hd with ⟨e, hs, hk, hw⟩ | ⟨e, _⟩
    · exact drops_up hm a A.1 hs u2 (by omega) (fun j hj => by rw [hk j (by omega), ht j (by omega), decide_eq_true (by omega)]; rfl)
    · rw [e] at u1; cases u1
end
end Go.Proofs.YtejpophjiinijaaDoor

/-! ### ChCut -/
namespace Go.Proofs.YtejpophjiinijaaDoor
set_option linter.unusedVariables false
set_option linter.unusedSimpArgs false
set_option maxRecDepth 100000
open Go Go.RowKit

/-- The first ones, the last of which names none. -/
def cutL : List LinkV → Nat → List LinkV
  | [], _ => []
  | _ :: _, 0 => []
  | k :: _, 1 => [{ k with nxt := 0#64 }]
  | k :: l, q + 2 => k :: cutL l (q + 1)
theorem cutL_len : ∀ (l : List LinkV) (q : Nat), (cutL l q).length = min q l.length
  | [], q => by simp [cutL]
  | _ :: _, 0 => by simp [cutL]
  | _ :: l, 1 => by simp [cutL]
  | k :: l, q + 2 => by
    show (cutL l (q + 1)).length + 1 = _
    rw [cutL_len l (q + 1)]; simp only [List.length_cons]; omega
theorem cutL_get : ∀ (l : List LinkV) (q i : Nat) (h : i < (cutL l q).length) (h2 : i < l.length), (cutL l q)[i] = if i + 1 < q then l[i] else { l[i] with nxt := 0#64 }
  | [], _, _, _, h2 => absurd h2 (Nat.not_lt_zero _)
  | _ :: _, 0, _, h, _ => absurd (show _ < 0 from h) (Nat.not_lt_zero _)
  | k :: l, 1, i, h, h2 => by
    have : i = 0 := by have h : i < 1 := h; omega
    subst this
    rfl
  | k :: l, q + 2, 0, h, h2 => by rw [if_pos (by omega)]; rfl
  | k :: l, q + 2, i + 1, h, h2 => by
    have h' : i < (cutL l (q + 1)).length := by have h : i + 1 < (cutL l (q + 1)).length + 1 := h; omega
    have ih := cutL_get l (q + 1) i h' (by simpa using h2)
    show (cutL l (q + 1))[i] = _
    rw [ih]
    by_cases e : i + 1 < q + 1
    · rw [if_pos e, if_pos (by omega)]; rfl
    · rw [if_neg e, if_neg (by omega)]; rfl
theorem cutL_lnk : ∀ {l : List LinkV} {x : BitVec 64} {q : Nat}, Lnkd x l → 1 ≤ q → Lnkd x (cutL l q)
  | [], _, _, h, _ => h
  | _ :: _, _, 0, _, hq => absurd hq (by decide)
  | k :: l, x, 1, h, _ => ⟨h.1, rfl⟩
  | k :: l, x, q + 2, h, _ => ⟨h.1, cutL_lnk h.2 (by omega)⟩
theorem cutL_same {l : List LinkV} {q i : Nat} (h : i < (cutL l q).length) (h2 : i < l.length) : (cutL l q)[i].off = l[i].off ∧ (cutL l q)[i].text = l[i].text ∧ (cutL l q)[i].stamp = l[i].stamp ∧ (cutL l q)[i].gone = l[i].gone := by
  rw [cutL_get l q i h h2]
  split <;> exact ⟨rfl, rfl, rfl, rfl⟩
theorem cutL_fall {l : List LinkV} {q : Nat} (h : FallL l) : FallL (cutL l q) := by
  rw [fall_iff] at h ⊢
  intro i hi
  have hl := cutL_len l q
  rw [(cutL_same (by omega) (by omega)).2.2.1, (cutL_same (i := i) (by omega) (by omega)).2.2.1]
  exact h i (by omega)
theorem words_cut {k : LinkV} (hr : k.right = true) (w : Nat) : ({ k with nxt := 0#64 } : LinkV).words.getD w 0#64 = if w = 2 then 0#64 else k.words.getD w 0#64 := by
  unfold LinkV.right at hr
  unfold LinkV.words encM
  dsimp only
  rw [if_pos hr, if_pos hr]
  unfold wsOf RM.ws
  by_cases e : w = 2
  · subst e; rfl
  · rw [if_neg e]
    match w, e with
    | 0, _ => rfl
    | 1, _ => rfl
    | 2, e => exact absurd rfl e
    | w + 3, _ => rfl
theorem downL_len : ∀ a, (downL a).length = a
  | 0 => rfl
  | a + 1 => by show (downL a).length + 1 = _; rw [downL_len a]
theorem downL_get : ∀ (a i : Nat) (h : i < (downL a).length), (downL a)[i] = ((256 + 64 * (a - 1 - i) : Nat) : Int)
  | 0, i, h => absurd (show i < 0 from h) (Nat.not_lt_zero _)
  | a + 1, 0, h => by show ((256 + 64 * a : Nat) : Int) = _; congr 2
  | a + 1, i + 1, h => by
    have h2 : i < (downL a).length := by have h : i + 1 < (downL a).length + 1 := h; omega
    show (downL a)[i] = _
    rw [downL_get a i h2]; congr 2; omega
section
variable {m n : Nat}
theorem ChI.stop {S : BS} (h : ChI m n S) {z : Int} (hz : z ≤ 9223372036854775807) : ChI m n { S with V := { S.V with D := S.V.D.stop z } } :=
  ⟨h.soft.stop hz, h.tab, h.len, h.offs, fun i hi w hw => by show (S.V.D.stop z).word _ = _; rw [NM.stop_word]; exact h.words i hi w hw, h.right, h.lnk, h.fall⟩
theorem ChI.below {S : BS} (h : ChI m n S) {q : Nat} (hq : q ≤ n) : (S.M.drop q).map LinkV.off = downL (n - q) := by
  have hl := h.len
  refine List.ext_getElem (by rw [List.length_map, List.length_drop, downL_len, hl]) fun i h1 h2 => ?_
  rw [List.length_map, List.length_drop] at h1
  rw [List.getElem_map, List.getElem_drop, h.offs _ (by omega), downL_get]
  congr 2; omega
/-- On words that stayed, all stands that stood. -/
theorem stands_keep {T T' : List (BitVec 64)} {D D' : NM.Dv} {k : LinkV} (hk : Stands m T D k) (ht : ∀ j, j < 16 * m → k.off = ((256 + 64 * j : Nat) : Int) → tkn T j = true → tkn T' j = true) (hw : ∀ j, j < 16 * m → k.off = ((256 + 64 * j : Nat) : Int) → ∀ w, w < 8 → D'.word (256 + 64 * j + 8 * w) = D.word (256 + 64 * j + 8 * w)) : Stands m T' D' k := by
  obtain ⟨j, hj, ho, h1, h2, h3⟩ := hk
  exact ⟨j, hj, ho, ht j hj ho h1, h2, fun w hw8 => by rw [hw j hj ho w hw8]; exact h3 w hw8⟩
/-- A version whose next one is none. -/
theorem stands_cut {T T' : List (BitVec 64)} {D D' : NM.Dv} {k : LinkV} (hk : Stands m T D k) (ht : ∀ j, j < 16 * m → k.off = ((256 + 64 * j : Nat) : Int) → tkn T j = true → tkn T' j = true) (hw : ∀ j, j < 16 * m → k.off = ((256 + 64 * j : Nat) : Int) → ∀ w, w < 8 → D'.word (256 + 64 * j + 8 * w) = if w = 2 then 0#64 else D.word (256 + 64 * j + 8 * w)) : Stands m T' D' { k with nxt := 0#64 } := by
  obtain ⟨j, hj, ho, h1, h2, h3⟩ := hk
  refine ⟨j, hj, ho, ht j hj ho h1, h2, fun w hw8 => ?_⟩
  rw [hw j hj ho w hw8, words_cut h2]
  split
  · rfl
  · exact h3 w hw8
/-- Trim of a chain. -/
theorem trim_soft {S : BS} (h : ChI m n S) (hm : m = 12) (hn : n < 48) {q : Nat} (hq1 : 1 ≤ q) (hqn : q < n) :
    ((trimV (shN m) S.V S.M (q : Int)).2 = 0 ∧ Soft m (trimV (shN m) S.V S.M (q : Int)).1 ∧ (∀ j, j < 16 * m → tkn (trimV (shN m) S.V S.M (q : Int)).1.T j = decide (n - q ≤ j ∧ j < n)) ∧ ∀ k ∈ cutL S.M q, Stands m (trimV (shN m) S.V S.M (q : Int)).1.T (trimV (shN m) S.V S.M (q : Int)).1.D k) ∨
    ((trimV (shN m) S.V S.M (q : Int)).2 = 12 ∧ (trimV (shN m) S.V S.M (q : Int)).1.D.Ok ∧ (trimV (shN m) S.V S.M (q : Int)).1.D.ls.length = 188 + m ∧ ∀ ps, ∃ T', Soft m ⟨T', zL m, (trimV (shN m) S.V S.M (q : Int)).1.D.crash ps⟩ ∧ ((trimV (shN m) S.V S.M (q : Int)).1.D.crash ps).Up ∧
      ((∀ k ∈ S.M, Stands m T' ((trimV (shN m) S.V S.M (q : Int)).1.D.crash ps) k) ∨ ∀ k ∈ cutL S.M q, Stands m T' ((trimV (shN m) S.V S.M (q : Int)).1.D.crash ps) k)) := by
  have hl := h.len
  have hst := h.stands (by omega)
  have hoff : (S.M.getD (q - 1) default).off = ((256 + 64 * (n - q) : Nat) : Int) := by
    rw [List.getD, List.getElem?_eq_getElem (by omega)]
    show S.M[q - 1].off = _
    rw [h.offs _ (by omega)]; congr 2; omega
  have he : trimV (shN m) S.V S.M (q : Int) = if (runS S.V.D (putS ((256 + 64 * (n - q) + 16 : Nat) : Int) 0#64)).2 = 0 then dropsV (shN m) { S.V with D := (runS S.V.D (putS ((256 + 64 * (n - q) + 16 : Nat) : Int) 0#64)).1 } (downL (n - q))
      else ({ S.V with D := (runS S.V.D (putS ((256 + 64 * (n - q) + 16 : Nat) : Int) 0#64)).1 }, (runS S.V.D (putS ((256 + 64 * (n - q) + 16 : Nat) : Int) 0#64)).2) := by
    unfold trimV
    rw [if_neg (by omega), if_neg (by omega), Int.toNat_natCast, hoff, h.below (by omega), show (((256 + 64 * (n - q) : Nat) : Int) + 16) = ((256 + 64 * (n - q) + 16 : Nat) : Int) by omega]
  rw [he]
  have h1 := h.soft.ds.put (by omega) (o := 256 + 64 * (n - q) + 16) 0#64 (by omega) (by omega)
  generalize runS S.V.D (putS ((256 + 64 * (n - q) + 16 : Nat) : Int) 0#64) = R at *
  -- which block a version of the list stands in
  have hblk : ∀ i (hi : i < S.M.length) j, S.M[i].off = ((256 + 64 * j : Nat) : Int) → j = n - 1 - i := fun i hi j e => by
    rw [h.offs i hi] at e; omega
  -- what stands, where the words are so and so
  have kNew : ∀ (T' : List (BitVec 64)) (D' : NM.Dv), (∀ j, n - q ≤ j → j < n → tkn T' j = true) → (∀ x, x % 8 = 0 → 256 ≤ x → x < 64 * (188 + m) → D'.word x = if x = 256 + 64 * (n - q) + 16 then 0#64 else S.V.D.word x) → ∀ k ∈ cutL S.M q, Stands m T' D' k := fun T' D' ht hw k hk => by
    obtain ⟨i, hi, rfl⟩ := List.getElem_of_mem hk
    have hil := cutL_len S.M q
    have hi2 : i < S.M.length := by omega
    rw [cutL_get S.M q i hi hi2]
    have hs := hst _ (List.getElem_mem hi2)
    by_cases e : i + 1 < q
    · rw [if_pos e]
      refine stands_keep hs (fun j hj ho _ => ?_) (fun j hj ho w hw8 => ?_)
      · have := hblk i hi2 j ho
        exact ht j (by omega) (by omega)
      · have := hblk i hi2 j ho
        rw [hw _ (by omega) (by omega) (by omega), if_neg (by omega)]
    · rw [if_neg e]
      refine stands_cut hs (fun j hj ho _ => ?_) (fun j hj ho w hw8 => ?_)
      · have := hblk i hi2 j ho
        exact ht j (by omega) (by omega)
      · have := hblk i hi2 j ho
        rw [hw _ (by omega) (by omega) (by omega)]
        by_cases e2 : w = 2
        · rw [if_pos e2, if_pos (by omega)]
        · rw [if_neg e2, if_neg (by omega)]
  have kOld : ∀ (T' : List (BitVec 64)) (D' : NM.Dv), (∀ j, j < n → tkn T' j = true) → (∀ x, x % 8 = 0 → 256 ≤ x → x < 64 * (188 + m) → D'.word x = S.V.D.word x) → ∀ k ∈ S.M, Stands m T' D' k := fun T' D' ht hw k hk => by
    obtain ⟨i, hi, rfl⟩ := List.getElem_of_mem hk
    refine stands_keep (hst _ hk) (fun j hj ho _ => ?_) (fun j hj ho w hw8 => ?_)
    · have := hblk i hi j ho
      exact ht j (by omega)
    · exact hw _ (by omega) (by omega) (by omega)
  have htk : ∀ j, j < 16 * m → tkn S.V.T j = decide (j < n) := fun j hj => by rw [h.tab]; exact tkn_tkL hj
  rcases h1 with ⟨e1, d1, w1⟩ | ⟨e1, o1, l1, c1⟩
  · rw [if_pos e1]
    have hs1 : Soft m { S.V with D := R.1 } := ⟨h.soft.small, h.soft.held, d1, fun i hi => by show R.1.word _ = _; rw [w1 _ (by omega) (by omega), if_neg (by omega)]; exact h.soft.tab i hi, fun y hy hy2 => by show R.1.word y = _; rw [w1 y hy (by omega), if_neg (by omega)]; exact h.soft.hdr y hy hy2⟩
    have hd := drops_soft hm (n - q) { S.V with D := R.1 } hs1 (by omega) (fun j hj => by rw [htk j (by omega)]; exact decide_eq_true (by omega))
    generalize dropsV (shN m) { S.V with D := R.1 } (downL (n - q)) = A at *
    rcases hd with ⟨f, fs, fk, fw⟩ | ⟨f, o2, l2, fc⟩
    · refine .inl ⟨f, fs, fun j hj => ?_, ?_⟩
      · rw [fk j hj, htk j hj, ← Bool.decide_and]
        exact decide_eq_decide.2 ⟨fun h => ⟨h.2, h.1⟩, fun h => ⟨h.2, h.1⟩⟩
      · refine kNew _ _ (fun j hj hj2 => ?_) (fun x hx hx2 hx3 => by rw [fw x hx hx2 hx3]; exact w1 x hx hx3)
        rw [fk j (by omega), htk j (by omega), decide_eq_true hj2, decide_eq_true hj]; rfl
    · refine .inr ⟨f, o2, l2, fun ps => ?_⟩
      obtain ⟨T', s1, s2, s3, s4⟩ := fc ps
      refine ⟨T', s1, s2, .inr (kNew _ _ (fun j hj hj2 => ?_) (fun x hx hx2 hx3 => by rw [s4 x hx hx2 hx3]; exact w1 x hx hx3))⟩
      rw [s3 j (by omega) hj, htk j (by omega)]; exact decide_eq_true hj2
  · rw [if_neg (by rw [e1]; decide)]
    refine .inr ⟨e1, o1, l1, fun ps => ?_⟩
    obtain ⟨s1, s2⟩ := soft_crash hm h.soft.small o1 l1 (fun i hi => by
      rcases c1 ps (128 + 8 * i) (by omega) (by omega) with e | ⟨e, _⟩
      · rw [e]; exact h.soft.tab i hi
      · omega) (fun y hy hy2 => by
      rcases c1 ps y hy (by omega) with e | ⟨e, _⟩
      · rw [e]; exact h.soft.hdr y hy hy2
      · omega)
    refine ⟨S.V.T, s1, s2, ?_⟩
    have hold : ∀ x, x % 8 = 0 → x < 64 * (188 + m) → x ≠ 256 + 64 * (n - q) + 16 → (R.1.crash ps).word x = S.V.D.word x := fun x hx hx2 hne => by
      rcases c1 ps x hx hx2 with e | ⟨e, _⟩
      · exact e
      · exact absurd e hne
    rcases c1 ps (256 + 64 * (n - q) + 16) (by omega) (by omega) with e | ⟨_, e⟩
    · refine .inl (kOld _ _ (fun j hj => by rw [htk j (by omega)]; exact decide_eq_true hj) (fun x hx hx2 hx3 => ?_))
      by_cases e2 : x = 256 + 64 * (n - q) + 16
      · rw [e2]; exact e
      · exact hold x hx hx3 e2
    · refine .inr (kNew _ _ (fun j hj hj2 => by rw [htk j (by omega)]; exact decide_eq_true hj2) (fun x hx hx2 hx3 => ?_))
      by_cases e2 : x = 256 + 64 * (n - q) + 16
      · rw [if_pos e2, e2]; exact e
      · rw [if_neg e2]; exact hold x hx hx3 e2
theorem trim_up {S : BS} (h : ChI m n S) (hm : m = 12) (hn : n < 48) (hu : S.V.D.Up) {q : Nat} (hq1 : 1 ≤ q) (hqn : q < n) : (trimV (shN m) S.V S.M (q : Int)).2 = 0 ∧ (trimV (shN m) S.V S.M (q : Int)).1.D.Up := by
  have hl := h.len
  have hoff : (S.M.getD (q - 1) default).off = ((256 + 64 * (n - q) : Nat) : Int) := by
    rw [List.getD, List.getElem?_eq_getElem (by omega)]
    show S.M[q - 1].off = _
    rw [h.offs _ (by omega)]; congr 2; omega
  have he : trimV (shN m) S.V S.M (q : Int) = if (runS S.V.D (putS ((256 + 64 * (n - q) + 16 : Nat) : Int) 0#64)).2 = 0 then dropsV (shN m) { S.V with D := (runS S.V.D (putS ((256 + 64 * (n - q) + 16 : Nat) : Int) 0#64)).1 } (downL (n - q))
      else ({ S.V with D := (runS S.V.D (putS ((256 + 64 * (n - q) + 16 : Nat) : Int) 0#64)).1 }, (runS S.V.D (putS ((256 + 64 * (n - q) + 16 : Nat) : Int) 0#64)).2) := by
    unfold trimV
    rw [if_neg (by omega), if_neg (by omega), Int.toNat_natCast, hoff, h.below (by omega), show (((256 + 64 * (n - q) : Nat) : Int) + 16) = ((256 + 64 * (n - q) + 16 : Nat) : Int) by omega]
  have hsz : S.V.D.size = 64 * (188 + m) := by unfold NM.Dv.size; rw [h.soft.ds.lines]
  have h3 := runS_upUp hu (by rw [h.soft.ds.lines]; omega) (putAllS (256 + 64 * (n - q) + 16) [0#64]) (putAllS_in (by omega) (by show _ + 8 * 1 ≤ _; rw [h.soft.ds.lines]; omega))
  rw [put_same (by omega) (by omega)] at h3
  have h1 := h.soft.ds.put (by omega) (o := 256 + 64 * (n - q) + 16) 0#64 (by omega) (by omega)
  rw [he]
  generalize runS S.V.D (putS ((256 + 64 * (n - q) + 16 : Nat) : Int) 0#64) = R at *
  rw [if_pos h3.1]
  rcases h1 with ⟨e1, d1, w1⟩ | ⟨e1, _⟩
  · have hs1 : Soft m { S.V with D := R.1 } := ⟨h.soft.small, h.soft.held, d1, fun i hi => by show R.1.word _ = _; rw [w1 _ (by omega) (by omega), if_neg (by omega)]; exact h.soft.tab i hi, fun y hy hy2 => by show R.1.word y = _; rw [w1 y hy (by omega), if_neg (by omega)]; exact h.soft.hdr y hy hy2⟩
    exact drops_up hm (n - q) { S.V with D := R.1 } hs1 h3.2 (by omega) (fun j hj => by show tkn S.V.T j = true; rw [h.tab, tkn_tkL (by omega)]; exact decide_eq_true (by omega))
  · rw [h3.1] at e1; cases e1
theorem trim_steps (s : HM.Shape) (V : PV) (l : List LinkV) (q : Int) : (trimV s V l q).1.D.steps ≤ V.D.steps + 3 + 3 * l.length := by
  unfold trimV
  split
  · show V.D.steps ≤ _; omega
  · split
    · show V.D.steps ≤ _; omega
    · have h := runS_steps V.D (putS ((l.getD (q.toNat - 1) default).off + 16) 0#64)
      rw [show (putS ((l.getD (q.toNat - 1) default).off + 16) 0#64).length = 3 from rfl] at h
      split
      · have h2 := (dropsV_len s ((l.drop q.toNat).map LinkV.off) { V with D := (runS V.D (putS ((l.getD (q.toNat - 1) default).off + 16) 0#64)).1 }).2
        have h3 : ((l.drop q.toNat).map LinkV.off).length ≤ l.length := by rw [List.length_map, List.length_drop]; omega
        have h4 : ({ V with D := (runS V.D (putS ((l.getD (q.toNat - 1) default).off + 16) 0#64)).1 } : PV).D.steps = (runS V.D (putS ((l.getD (q.toNat - 1) default).off + 16) 0#64)).1.steps := rfl
        omega
      · show (runS V.D _).1.steps ≤ _; omega
/-- What is listed. -/
theorem lists (hm : m = 12) {T : List (BitVec 64)} {D : NM.Dv} (hT : Small m T) (hl : D.ls.length = 188 + m) (hd : D.down = false) {x : BitVec 64} {l : List LinkV} (hlk : Lnkd x l) (hs : ∀ k ∈ l, Stands m T D k) : Seg (fetch (shN m) T (zL m) D) x l 0#64 :=
  seg_of hlk fun k hk => fetch_stands hm hT hl hd (hs k hk)
end
end Go.Proofs.YtejpophjiinijaaDoor
