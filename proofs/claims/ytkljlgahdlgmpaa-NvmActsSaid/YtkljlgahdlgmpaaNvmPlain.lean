/- Plain laws of acts. -/
import Derived.Test.YtkljlgahdlgmpaaNvmB
import Derived.Test.YtkljlgahdlgmpaaNvmActs
namespace Go.Proofs.Ytkljlgahdlgmpaa
set_option linter.unusedVariables false
set_option linter.unusedSimpArgs false
open Go

/-! ### Acts -/
theorem doesA_len (D : NM.Dv) (a : ActV) : (doesA D a).ls.length = D.ls.length := by
  unfold doesA NM.Dv.does
  split
  · exact NM.flush_len _ _
  · split
    · exact NM.fence_len _
    · split
      · rfl
      · exact NM.store_len _ _ _
theorem doesA_up {D : NM.Dv} (h : D.Up) (a : ActV) : (doesA D a).Up := by
  unfold doesA NM.Dv.does
  split
  · exact h.flush _
  · split
    · exact h.fence
    · split
      · exact h
      · exact h.store _ _
def doesL (D : NM.Dv) (l : List ActV) : NM.Dv := l.foldl doesA D
theorem doesL_nil (D : NM.Dv) : doesL D [] = D := rfl
theorem doesL_snoc (D : NM.Dv) (l : List ActV) (a : ActV) : doesL D (l ++ [a]) = doesA (doesL D l) a := by simp [doesL]
theorem doesL_take (D : NM.Dv) (l : List ActV) (k : Nat) (hk : k < l.length) : doesL D (l.take (k + 1)) = doesA (doesL D (l.take k)) l[k] := by rw [List.take_succ_eq_append_getElem hk, doesL_snoc]
theorem doesL_len (D : NM.Dv) (l : List ActV) : (doesL D l).ls.length = D.ls.length := by
  induction l generalizing D with
  | nil => rfl
  | cons a l ih => show (doesL (doesA D a) l).ls.length = _; rw [ih, doesA_len]
theorem doesL_up {D : NM.Dv} (h : D.Up) (l : List ActV) : (doesL D l).Up := by
  induction l generalizing D with
  | nil => exact h
  | cons a l ih => exact ih (doesA_up h a)
theorem doesL_ok {D : NM.Dv} (h : D.Ok) (l : List ActV) : (doesL D l).Ok := by
  induction l generalizing D with
  | nil => exact h
  | cons a l ih => exact ih (doesA_ok h a)
theorem doesL_steps (D : NM.Dv) (l : List ActV) : (doesL D l).steps ≤ D.steps + l.length := by
  induction l generalizing D with
  | nil => exact Nat.le_refl _
  | cons a l ih =>
    have h1 := ih (doesA D a)
    have h2 := doesA_steps D a
    show (doesL (doesA D a) l).steps ≤ _
    simp only [List.length_cons]; omega
end Go.Proofs.Ytkljlgahdlgmpaa
