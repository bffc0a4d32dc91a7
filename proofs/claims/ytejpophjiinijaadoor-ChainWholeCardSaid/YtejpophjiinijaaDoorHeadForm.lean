/- Format and Open, plain. -/
import Derived.Test.YtejpophjiinijaaDoorHeadDev
import Derived.Test.YtejpophjiinijaaDoorHeadMath2
import Derived.Test.YtejpophjiinijaaDoorDevN
namespace Go.Proofs.YtejpophjiinijaaDoor
set_option linter.unusedVariables false
set_option linter.unusedSimpArgs false
set_option maxRecDepth 100000
open Go Go.RowKit

namespace NM
open Go.Proofs.YtejpophjiinijaaDoor.WM (getM putM putM_length putM_getD hasB get_put byteOf byteOf_wd wd)
theorem putAll_up {D : Dv} (hok : D.Ok) (hu : D.Up) (hp : 0 < D.ls.length) {l : List (BitVec 64)} (h : 8 * l.length ≤ D.size) :
    D.putAll 0 l = ((runS D (putAllS 0 l)).1, 0) ∧ (runS D (putAllS 0 l)).2 = 0 ∧ (runS D (putAllS 0 l)).1.Up ∧ (runS D (putAllS 0 l)).1.Ok ∧ (runS D (putAllS 0 l)).1.ls.length = D.ls.length := by
  have hw : D.within 0 l.length = 0 := within_in (o := 0) hp (by omega) (by omega)
  have hin := putAllS_in (o := 0) (l := l) (N := D.ls.length) (by omega) (by unfold Dv.size at h; omega)
  obtain ⟨h1, h2⟩ := runS_upUp hu hp _ hin
  refine ⟨?_, h1, h2, runS_okk hok _, runS_len _ _⟩
  unfold Dv.putAll
  rw [if_pos hw]
  show runS D (putAllS 0 l) = _
  rw [← h1]
theorem putAll0_words {D : Dv} (hok : D.Ok) (hu : D.Up) (hp : 0 < D.ls.length) {l : List (BitVec 64)} (h : 8 * l.length ≤ D.size) {x : Nat} (hx : x % 8 = 0) (hxs : x < D.size) :
    (D.putAll 0 l).1.word x = if x < 8 * l.length then l.getD (x / 8) 0#64 else D.word x := by
  obtain ⟨h1, h2, _⟩ := putAll_up hok hu hp h
  rw [h1]
  have := putAll_words hok hp (o := 0) (l := l) (by omega) (by omega) h2 hx hxs
  rw [this]
  by_cases hlt : x < 8 * l.length
  · rw [if_pos (by omega), if_pos hlt]; rfl
  · rw [if_neg (by omega), if_neg hlt]
theorem putAll0_one {D : Dv} (hok : D.Ok) (hu : D.Up) (hp : 0 < D.ls.length) {l : List (BitVec 64)} (h : 8 * l.length ≤ D.size) {i : Nat} (hi : 64 * i < 8 * l.length) : ((D.putAll 0 l).1.ln i).chg = [] := by
  obtain ⟨h1, h2, _⟩ := putAll_up hok hu hp h
  rw [h1]
  have := putAll_one hp (o := 0) (l := l) (by omega) (by omega) h2 (j := 8 * i) (by omega)
  rw [show (0 + 8 * (8 * i)) / 64 = i by omega] at this
  exact this
theorem fence_nil {l : Ln} (h : l.chg = []) : l.fence.chg = [] := by
  unfold Ln.fence; split
  · show l.chg.drop _ = []
    rw [h]; exact List.drop_nil
  · exact h
/-- A line that a PutAll does not reach may be one thing alone, if it could be that ahead of it. -/
theorem putAll0_rest {D : Dv} (hp : 0 < D.ls.length) {l : List (BitVec 64)} (h : 8 * l.length ≤ 64) {i : Nat} (hi : 1 ≤ i) (hiD : i < D.ls.length) (hc : (D.ln i).chg = []) : ((runS D (putAllS 0 l)).1.ln i).chg = [] := by
  refine (runS_inv (I := fun E => E.ls.length = D.ls.length ∧ (E.ln i).chg = []) _ (fun s hs E hE => ?_) ⟨rfl, hc⟩).2
  refine ⟨by rw [step_len]; exact hE.1, ?_⟩
  unfold putAllS at hs
  rcases List.mem_append.1 hs with hs | hs
  · obtain ⟨k, hk, rfl⟩ := List.mem_map.1 hs
    have hk' := List.mem_range.1 hk
    show ((E.store _ _).1.ln i).chg = []
    rw [store_other (by omega) _ _ (fun o ho => by omega)]
    exact hE.2
  · rcases List.mem_append.1 hs with hs | hs
    · obtain ⟨k, hk, rfl⟩ := List.mem_map.1 hs
      have hk' := List.mem_range.1 hk
      have hk1 : k < 1 := by unfold linesOf at hk'; split at hk' <;> omega
      show ((E.flush _).1.ln i).chg = []
      rw [flush_other (by omega) _ (fun o ho => by omega)]
      exact hE.2
    · rw [List.mem_singleton.1 hs]
      show (E.fence.1.ln i).chg = []
      by_cases ha : E.ask 0 1 = 0
      · rw [fence_ln ha i (by omega)]; exact fence_nil hE.2
      · unfold Dv.fence; rw [if_neg ha]; exact hE.2
/-- Behind a Format. -/
theorem format_up {D : Dv} (hok : D.Ok) (hu : D.Up) (hp : 0 < D.ls.length) (hof : (HM.of D.ls.length).2 = true) :
    D.format.2 = ((HM.of D.ls.length).1, 0) ∧ D.format.1.Up ∧ D.format.1.Ok ∧ D.format.1.ls.length = D.ls.length ∧
    (∀ x, x % 8 = 0 → x < D.size → D.format.1.word x = (HM.words (HM.of D.ls.length).1).getD (x / 8) 0#64) ∧ ∀ i, i < D.ls.length → (D.format.1.ln i).chg = [] := by
  obtain ⟨hn1, hn2, hn3, _⟩ := HM.of_some hof
  have hwl : (HM.words (HM.of D.ls.length).1).length = 8 := by rw [hn3]; exact HM.words_len (by omega) (by omega)
  have hl1 : 8 * (List.replicate (D.ls.length * 8) 0#64).length ≤ D.size := by rw [List.length_replicate]; unfold Dv.size; omega
  obtain ⟨a1, a2, a3, a4, a5⟩ := putAll_up hok hu hp hl1
  have w1 := fun x h1 h2 => putAll0_words hok hu hp hl1 (x := x) h1 h2
  have c1 := fun i h1 => putAll0_one hok hu hp hl1 (i := i) h1
  rw [List.length_replicate] at w1 c1
  unfold Dv.format
  rw [if_neg (by rw [hof]; simp)]
  rw [a1] at w1 c1 ⊢
  generalize (runS D (putAllS 0 (List.replicate (D.ls.length * 8) 0#64))).1 = E at *
  have hsz : E.size = D.size := by unfold Dv.size; rw [a5]
  have hl2 : 8 * (HM.words (HM.of D.ls.length).1).length ≤ E.size := by rw [hwl]; unfold Dv.size; omega
  obtain ⟨b1, b2, b3, b4, b5⟩ := putAll_up a4 a3 (by omega) hl2
  have w2 := fun x h1 h2 => putAll0_words a4 a3 (by omega) hl2 (x := x) h1 h2
  have c2 := fun i h1 => putAll0_one a4 a3 (by omega) hl2 (i := i) h1
  have r2 := fun i h1 h2 h3 => putAll0_rest (D := E) (by omega) (l := HM.words (HM.of D.ls.length).1) (by rw [hwl]; omega) (i := i) h1 h2 h3
  rw [if_neg (by simp)]
  rw [b1] at w2 c2 ⊢
  rw [if_neg (by simp)]
  refine ⟨rfl, b3, b4, by show _ = _; rw [b5, a5], fun x h1 h2 => ?_, fun i hi => ?_⟩
  · show (runS E _).1.word x = _
    rw [w2 x h1 (by omega), hwl]
    by_cases h64 : x < 8 * 8
    · rw [if_pos h64]
    · rw [if_neg h64, w1 x h1 h2, List.getD_eq_getElem?_getD, List.getElem?_replicate, if_pos (by unfold Dv.size at h2; omega), List.getD_eq_getElem?_getD, List.getElem?_eq_none (by rw [hwl]; omega)]
      split <;> rfl
  · by_cases h0 : i = 0
    · subst h0; exact c2 0 (by rw [hwl]; omega)
    · exact r2 i (by omega) (by omega) (c1 i (by omega))
theorem format_none {D : Dv} (hof : (HM.of D.ls.length).2 = false) : D.format = (D, HM.none4, 2) := by
  unfold Dv.format; rw [if_pos hof]
theorem open_up {D : Dv} (hp : 0 < D.ls.length) (hd : D.down = false) : D.openH = if (HM.of D.ls.length).2 = true ∧ wordsAt D 0 8 = HM.words (HM.of D.ls.length).1 then ((HM.of D.ls.length).1, 0) else (HM.none4, 5) := by
  have hg : D.get 0 8 = (wordsAt D 0 8, 0) := get_in (o := 0) (n := 8) hp hd (by omega) (by unfold Dv.size; omega)
  unfold Dv.openH
  rw [hg, if_neg (by simp)]
theorem words_eq {D : Dv} {l : List (BitVec 64)} (hl : l.length = 8) : wordsAt D 0 8 = l ↔ ∀ i, i < 8 → D.word (8 * i) = l.getD i 0#64 := by
  unfold wordsAt
  constructor
  · intro h i hi
    rw [← h]; simp [hi]
  · intro h
    apply List.ext_getElem (by simp [hl])
    intro i h1 h2
    have hi : i < 8 := by simpa using h1
    have := h i hi
    simp [List.getD, h2] at this ⊢
    exact this
/-- What was formatted opens. -/
theorem open_format {D : Dv} (hok : D.Ok) (hu : D.Up) (hp : 0 < D.ls.length) (hof : (HM.of D.ls.length).2 = true) : D.format.1.openH = ((HM.of D.ls.length).1, 0) := by
  obtain ⟨hn1, hn2, hn3, _⟩ := HM.of_some hof
  have hwl : (HM.words (HM.of D.ls.length).1).length = 8 := by rw [hn3]; exact HM.words_len (by omega) (by omega)
  obtain ⟨f1, f2, f3, f4, f5, _⟩ := format_up hok hu hp hof
  rw [open_up (by omega) f2.down, f4, if_pos]
  refine ⟨hof, (words_eq hwl).2 fun i hi => ?_⟩
  rw [f5 (8 * i) (by omega) (by unfold Dv.size; omega)]
  congr 1; omega
theorem dev0_word (n x : Nat) (hx : x < 64 * n) : (dev0 n).word x = 0#64 := by
  unfold Dv.word
  rw [dev0_ln n _ (by omega)]
  exact getM_zeros _
/-- What nobody formatted does not. -/
theorem open_dev0 (n : Nat) (hn : 1 ≤ n) : (dev0 n).openH = (HM.none4, 5) := by
  have hl : (dev0 n).ls.length = n := by simp [dev0]
  rw [open_up (by omega) (dev0_up n).down, hl, if_neg]
  rintro ⟨h1, h2⟩
  obtain ⟨hn1, hn2, hn3, _⟩ := HM.of_some h1
  rw [hn3] at h2
  have hwl := HM.words_len (n := n) (by omega) (by omega)
  have h3 := (words_eq hwl).1 h2 0 (by omega)
  rw [dev0_word n _ (by omega), HM.words_of (by omega) (by omega)] at h3
  have h4 : (0#64 : BitVec 64) = 465675318387#64 := h3
  exact absurd h4 (by decide)
end NM
end Go.Proofs.YtejpophjiinijaaDoor
