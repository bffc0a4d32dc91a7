/- A word of the table is stored: the header stays, and pool.Open's answer is the word's (plain). -/
import Derived.Test.YtcpackbljaabnaaDoorPoolWc
namespace Go.Proofs.YtcpackbljaabnaaDoor
set_option linter.unusedVariables false
set_option linter.unusedSimpArgs false
set_option maxRecDepth 100000
open Go Go.RowKit

namespace NM
theorem store_up {D : Dv} (hok : D.Ok) (hu : D.Up) (hp : 0 < D.ls.length) {o : Nat} (h8 : o % 8 = 0) (ho : o + 8 ≤ D.size) (n : BitVec 64) :
    (D.store (o : Int) n).2 = 0 ∧ (D.store (o : Int) n).1.Up ∧ (D.store (o : Int) n).1.Ok ∧ (D.store (o : Int) n).1.ls.length = D.ls.length ∧ ∀ x, x % 8 = 0 → (D.store (o : Int) n).1.word x = if x = o then n else D.word x := by
  have ha : D.ask (o : Int) 8 = 0 := by
    unfold Dv.ask
    rw [if_neg (by omega), if_neg (by rw [hu.down]; decide)]
    rw [if_neg]
    have h1 : (o : Int).tmod 8 = 0 := by rw [Int.tmod_eq_emod_of_nonneg (by omega)]; omega
    rw [h1]; omega
  exact ⟨by rw [store_err, ha], hu.store _ _, hok.store _ _, store_len D _ n, fun x hx => store_word hok n ha h8 (by omega) hx⟩
end NM
section
variable {m j : Nat} {x : BitVec 64}
theorem beg_turned (hm : 1 ≤ m ∧ m ≤ 4) (hj : j < m) (x : BitVec 64) : ((begD m).store ((128 + 8 * j : Nat) : Int) x).2 = 0 ∧ ((begD m).store ((128 + 8 * j : Nat) : Int) x).1.Ok ∧
    ((begD m).store ((128 + 8 * j : Nat) : Int) x).1.openH = (shN m, 0) ∧ openE ((begD m).store ((128 + 8 * j : Nat) : Int) x).1 m = if WM.rightM x = true then none else some 5 := by
  obtain ⟨f1, f2, f3, f4, f5, f6⟩ := beg_facts hm
  have hp : 0 < (begD m).ls.length := by rw [f5]; omega
  have hsz : (begD m).size = 64 * (3 + 16 * m) := by unfold NM.Dv.size; rw [f5]
  obtain ⟨s1, s2, s3, s4, s5⟩ := NM.store_up f4 f3 hp (o := 128 + 8 * j) (by omega) (by omega) x
  generalize hE : ((begD m).store ((128 + 8 * j : Nat) : Int) x).1 = E at *
  have hpE : 0 < E.ls.length := by rw [s4]; exact hp
  have hszE : E.size = 64 * (3 + 16 * m) := by unfold NM.Dv.size; rw [s4, f5]
  refine ⟨s1, s3, ?_, ?_⟩
  · rw [← f2, NM.open_up hp f3.down, NM.open_up hpE s2.down, s4]
    have e : wordsAt E 0 8 = wordsAt (begD m) 0 8 := by
      unfold wordsAt
      refine List.map_congr_left fun i hi => ?_
      have := List.mem_range.1 hi
      rw [s5 (0 + 8 * i) (by omega), if_neg (by omega)]
    rw [e]
  · have hb : ∀ i, i < m → badD E i = if i = j ∧ WM.rightM x = false then some 5 else none := fun i hi => by
      rw [badD_word hpE s2.down (by omega), s5 _ (by omega), f6 i hi]
      by_cases e : i = j
      · subst e
        rw [if_pos rfl]
        cases hr : WM.rightM x <;> simp
      · rw [show (if 128 + 8 * i = 128 + 8 * j then x else 0#64) = 0#64 from if_neg (by omega), if_pos (show WM.rightM 0#64 = true by decide +kernel), if_neg (fun h => e h.1)]
    cases hr : WM.rightM x with
    | true =>
      rw [if_pos rfl]
      refine openE_none fun i hi => ?_
      rw [hb i hi, if_neg (fun h => by rw [hr] at h; cases h.2)]
    | false =>
      rw [if_neg (by decide)]
      have h0 : openE E j = none := openE_none fun i hi => by rw [hb i (by omega), if_neg (by omega)]
      have h1 : openE E (j + 1) = some 5 := by
        unfold openE
        rw [h0]
        show badD E j = some 5
        rw [hb j hj, if_pos ⟨rfl, hr⟩]
      exact openE_keep h1 hj
end
end Go.Proofs.YtcpackbljaabnaaDoor
