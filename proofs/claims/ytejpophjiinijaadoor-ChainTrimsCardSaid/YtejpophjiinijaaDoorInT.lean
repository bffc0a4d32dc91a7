/- From what a row reads: de Bruijn's table. -/
import Derived.Test.YtejpophjiinijaaDoorIn
import Derived.Test.YtejpophjiinijaaDoorWordWalk
namespace Go.Proofs.YtejpophjiinijaaDoor
set_option linter.unusedVariables false
set_option linter.unusedSimpArgs false
set_option maxRecDepth 100000
open Go

def tabZ : List Int := [0, 1, 56, 2, 57, 49, 28, 3, 61, 58, 42, 50, 38, 29, 17, 4, 62, 47, 59, 36, 45, 43, 51, 22, 53, 39, 33, 30, 24, 18, 12, 5, 63, 55, 48, 27, 60, 41, 37, 16, 46, 35, 44, 21, 52, 32, 23, 11, 54, 26, 40, 15, 34, 20, 31, 10, 25, 14, 19, 9, 13, 8, 7, 6]
theorem tabZ_all : ∀ j, j < 64 → tabZ.getD j 0 = uv (WM.tab.getD j 0#8) := by decide +kernel
theorem tabs_of {w : World} (h : ∀ j, j < 64 → w.cell? ⟨0, j, none⟩ = some (.int .u8 (tabZ.getD j 0))) : Tabs w := fun j hj => by rw [h j hj, tabZ_all j hj]
end Go.Proofs.YtejpophjiinijaaDoor
