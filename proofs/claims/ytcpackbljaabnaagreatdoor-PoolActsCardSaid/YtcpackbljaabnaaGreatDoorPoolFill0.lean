/- Small blocks alone fill all slabs (plain, by reckoning over one to four slabs). -/
import Derived.Test.YtcpackbljaabnaaGreatDoorPoolWc
import Derived.Test.YtcpackbljaabnaaGreatDoorPoolWb
namespace Go.Proofs.YtcpackbljaabnaaGreatDoor
set_option linter.unusedVariables false
set_option linter.unusedSimpArgs false
set_option maxRecDepth 100000
open Go Go.RowKit

def lowW (r : Nat) : BitVec 64 := if r = 0 then 0#64 else BitVec.ofNat 64 (65535 + 2 ^ r)
def zL (m : Nat) : List (BitVec 64) := List.replicate m 0#64
/-- The first k small blocks are held. -/
def fullL (m k : Nat) : List (BitVec 64) := (List.range m).map fun i => lowW (min 16 (k - 16 * i))
/-- All are held but the x-th. -/
def lessL (m x : Nat) : List (BitVec 64) := (fullL m (16 * m)).set (x / 16) (WM.dropW ((fullL m (16 * m)).getD (x / 16) 0#64) ((x % 16 : Nat) : Int))
def fillB (m k : Nat) : Bool := decide (pickP (bF (zL m) (fullL m k)) m 1 = some (k / 16)) && (decide (WM.nextM (bF (zL m) (fullL m k) (k / 16)) 1 = ((k % 16 : Nat) : Int)) && decide ((fullL m k).set (k / 16) (WM.takeW ((fullL m k).getD (k / 16) 0#64) 1 ((k % 16 : Nat) : Int)) = fullL m (k + 1)))
def lessB (m x : Nat) : Bool := decide (findP (shN m) m (bF (zL m) (fullL m (16 * m))) ((192 + 64 * x : Nat) : Int) = some (x / 16, x % 16)) && (WM.hasM ((fullL m (16 * m)).getD (x / 16) 0#64) ((x % 16 : Nat) : Int) && (decide (manyL (lessL m x) m + 1 = 16 * m) &&
  (decide (pickP (bF (zL m) (lessL m x)) m 1 = some (x / 16)) && (decide (WM.nextM (bF (zL m) (lessL m x) (x / 16)) 1 = ((x % 16 : Nat) : Int)) && decide ((lessL m x).set (x / 16) (WM.takeW ((lessL m x).getD (x / 16) 0#64) 1 ((x % 16 : Nat) : Int)) = fullL m (16 * m))))))
theorem fill_run : ((List.range 5).all fun m => (List.range (16 * m)).all fun k => fillB m k) = true := by decide +kernel
theorem less_run : ((List.range 5).all fun m => (List.range (16 * m)).all fun k => lessB m k) = true := by decide +kernel
theorem full_run : ((List.range 5).all fun m => decide (pickP (bF (zL m) (fullL m (16 * m))) m 1 = none) && (decide (allK (shN m) (zL m) m = []) && decide (fullL m 0 = zL m))) = true := by decide +kernel
theorem zL_len (m : Nat) : (zL m).length = m := List.length_replicate
theorem fullL_len (m k : Nat) : (fullL m k).length = m := by simp [fullL]
theorem lessL_len (m x : Nat) : (lessL m x).length = m := by unfold lessL; rw [List.length_set, fullL_len]
theorem place_one (m k : Nat) : placeI (shN m) (k / 16) 1 (k % 16) = ((192 + 64 * k : Nat) : Int) := by
  rw [show (1 : Int) = ((1 : Nat) : Int) from rfl, place_nat (L := 1) _ _ rfl]
  show (192 : Int) + _ = _
  omega
section
variable {m k : Nat} {D : NM.Dv}
theorem fill_res (hm : m ≤ 4) (hk : k < 16 * m) : reserveV (shN m) ⟨zL m, fullL m k, D⟩ 1 = (⟨zL m, fullL m (k + 1), D⟩, ((192 + 64 * k : Nat) : Int), 0) := by
  have h := List.all_eq_true.1 (List.all_eq_true.1 fill_run m (List.mem_range.2 (by omega))) k (List.mem_range.2 hk)
  unfold fillB at h
  simp only [Bool.and_eq_true, decide_eq_true_eq] at h
  obtain ⟨h1, h2, h3⟩ := h
  unfold reserveV
  dsimp only
  rw [zL_len, h1]
  dsimp only
  rw [show ((1 : Nat) : Int) = 1 from rfl, h2, Int.toNat_natCast, h3, ← place_one m k]
theorem full_none (hm : m ≤ 4) : reserveV (shN m) ⟨zL m, fullL m (16 * m), D⟩ 1 = (⟨zL m, fullL m (16 * m), D⟩, 0, 6) ∧ allK (shN m) (zL m) m = [] ∧ fullL m 0 = zL m := by
  have h := List.all_eq_true.1 full_run m (List.mem_range.2 (by omega))
  simp only [Bool.and_eq_true, decide_eq_true_eq] at h
  refine ⟨?_, h.2.1, h.2.2⟩
  unfold reserveV
  dsimp only
  rw [zL_len, h.1]
theorem less_all (hm : m ≤ 4) (hk : k < 16 * m) : dropV (shN m) ⟨zL m, fullL m (16 * m), D⟩ ((192 + 64 * k : Nat) : Int) = (⟨zL m, lessL m k, D⟩, 0) ∧ manyL (lessL m k) m + 1 = 16 * m ∧
    reserveV (shN m) ⟨zL m, lessL m k, D⟩ 1 = (⟨zL m, fullL m (16 * m), D⟩, ((192 + 64 * k : Nat) : Int), 0) := by
  have h := List.all_eq_true.1 (List.all_eq_true.1 less_run m (List.mem_range.2 (by omega))) k (List.mem_range.2 hk)
  unfold lessB at h
  simp only [Bool.and_eq_true, decide_eq_true_eq] at h
  obtain ⟨h1, h2, h3, h4, h5, h6⟩ := h
  refine ⟨?_, h3, ?_⟩
  · unfold dropV
    dsimp only
    rw [zL_len, h1]
    dsimp only
    rw [if_pos h2]
    rfl
  · unfold reserveV
    dsimp only
    rw [zL_len, h4]
    dsimp only
    rw [show ((1 : Nat) : Int) = 1 from rfl, h5, Int.toNat_natCast, h6, ← place_one m k]
end
end Go.Proofs.YtcpackbljaabnaaGreatDoor
