/- Shapes, no program in sight. -/
import Derived.Test.YtejpophjiinijaaDoorCrcMath
import Derived.Test.YtejpophjiinijaaDoorWordMath
namespace Go.Proofs.YtejpophjiinijaaDoor.HM
set_option linter.unusedVariables false
set_option linter.unusedSimpArgs false
set_option maxRecDepth 100000

/-- How many lines so many slabs need. -/
def need (s : Nat) : Nat := 2 + (s + 7) / 8 + 16 * s
def slabsF (n : Nat) : Nat → Nat
  | 0 => 0
  | k + 1 => if need (k + 1) ≤ n then k + 1 else slabsF n k
/-- How many slabs fit. -/
def slabs (n : Int) : Nat := slabsF n.toNat 64
theorem slabsF_le (n : Nat) : ∀ k, slabsF n k ≤ k
  | 0 => Nat.le_refl _
  | k + 1 => by have := slabsF_le n k; unfold slabsF; split <;> omega
theorem slabsF_spec (n : Nat) : ∀ k, (slabsF n k = 0 ∨ need (slabsF n k) ≤ n) ∧ (slabsF n k = k ∨ n < need (slabsF n k + 1))
  | 0 => ⟨.inl rfl, .inl rfl⟩
  | k + 1 => by
    obtain ⟨h1, h2⟩ := slabsF_spec n k
    unfold slabsF
    by_cases h : need (k + 1) ≤ n
    · rw [if_pos h]; exact ⟨.inr h, .inl rfl⟩
    · rw [if_neg h]
      refine ⟨h1, .inr ?_⟩
      rcases h2 with h2 | h2
      · rw [h2]; omega
      · exact h2
theorem slabs_spec {n : Nat} (hn : n ≤ 1024) : (slabs n = 0 ∨ need (slabs n) ≤ n) ∧ n < need (slabs n + 1) := by
  have h := slabsF_spec n 64
  have e : slabs (n : Int) = slabsF n 64 := by unfold slabs; rw [Int.toNat_natCast]
  rw [e]
  refine ⟨h.1, ?_⟩
  rcases h.2 with h2 | h2
  · rw [h2]; unfold need; omega
  · exact h2
/-- There is one such number alone. -/
theorem slabs_eq {n : Nat} (hn : n ≤ 1024) {s : Nat} (h1 : s = 0 ∨ need s ≤ n) (h2 : n < need (s + 1)) : slabs n = s := by
  obtain ⟨h3, h4⟩ := slabs_spec hn
  generalize slabs (n : Int) = t at *
  unfold need at *
  omega
theorem slabs_neg {n : Int} (hn : n < 19) : slabs n = 0 := by
  unfold slabs
  have h : ∀ k, slabsF n.toNat k = 0 := by
    intro k
    induction k with
    | zero => rfl
    | succ k ih =>
      unfold slabsF
      rw [if_neg (by unfold need; omega)]; exact ih
  exact h 64
theorem slabs_le {n : Nat} (hn : n ≤ 1024) : slabs n ≤ 63 := by
  obtain ⟨h3, _⟩ := slabs_spec hn
  generalize slabs (n : Int) = t at *
  unfold need at h3
  omega
structure Shape where
  lines : Int
  slabs : Int
  table : Int
  data : Int
deriving DecidableEq
def none4 : Shape := ⟨0, 0, 0, 0⟩
def shapeOf (n : Int) : Shape := ⟨n, slabs n, 128, 64 * (2 + ((slabs n + 7) / 8 : Nat))⟩
/-- The shape of so many lines, if there is one. -/
def of (n : Int) : Shape × Bool := if 1024 < n then (none4, false) else if slabs n = 0 then (none4, false) else (shapeOf n, true)
theorem of_some {n : Int} (h : (of n).2 = true) : 19 ≤ n ∧ n ≤ 1024 ∧ (of n).1 = shapeOf n ∧ 1 ≤ slabs n := by
  unfold of at h ⊢
  split at h
  · cases h
  · rename_i h1
    rw [if_neg h1]
    split at h
    · cases h
    · rename_i h2
      rw [if_neg h2]
      refine ⟨?_, by omega, rfl, by omega⟩
      apply Classical.byContradiction; intro h3; exact h2 (slabs_neg (by omega))
theorem of_none {n : Int} (h : (of n).2 = false) : (of n).1 = none4 := by
  unfold of at h ⊢
  split
  · rfl
  · rename_i h1
    rw [if_neg h1] at h
    split
    · rfl
    · rename_i h2; rw [if_neg h2] at h; cases h
theorem of_nat {n : Nat} (h : 19 ≤ n) (h2 : n ≤ 1024) : (of n).2 = true ∧ (of n).1 = shapeOf n := by
  have hs : slabs (n : Int) ≠ 0 := by
    intro h0
    obtain ⟨_, h4⟩ := slabs_spec h2
    rw [h0] at h4
    unfold need at h4
    omega
  unfold of
  rw [if_neg (by omega), if_neg hs]
  exact ⟨rfl, rfl⟩

/-- The bytes of words, the lowest first. -/
def wbytes (l : List (BitVec 64)) : List (BitVec 8) := l.flatMap fun x => (List.range 8).map (WM.byteOf x)
theorem wbytes_len (l : List (BitVec 64)) : (wbytes l).length = 8 * l.length := by
  induction l with
  | nil => rfl
  | cons x l ih => simp [wbytes] at ih ⊢; omega
theorem wbytes_snoc (l : List (BitVec 64)) (x : BitVec 64) : wbytes (l ++ [x]) = wbytes l ++ (List.range 8).map (WM.byteOf x) := by simp [wbytes]
def six (s : Shape) : List (BitVec 64) := [465675318387#64, 1#64, BitVec.ofInt 64 s.lines, BitVec.ofInt 64 s.slabs, BitVec.ofInt 64 s.table, BitVec.ofInt 64 s.data]
/-- The words of a shape; of none there are none. -/
def words (s : Shape) : List (BitVec 64) := if (of s.lines).2 = true ∧ (of s.lines).1 = s then six s ++ [(Crc.next 0#32 (wbytes (six s))).setWidth 64, 0#64] else []
theorem words_of {n : Nat} (h : 19 ≤ n) (h2 : n ≤ 1024) : words (shapeOf n) = six (shapeOf n) ++ [(Crc.next 0#32 (wbytes (six (shapeOf n)))).setWidth 64, 0#64] := by
  obtain ⟨h3, h4⟩ := of_nat h h2
  unfold words
  rw [if_pos ⟨h3, h4⟩]
theorem words_len {n : Nat} (h : 19 ≤ n) (h2 : n ≤ 1024) : (words (shapeOf n)).length = 8 := by rw [words_of h h2]; rfl
end Go.Proofs.YtejpophjiinijaaDoor.HM
