/- From what a row reads: three ints in an array; two words and two bytes; de Bruijn's table. -/
import Derived.Test.YtcaekgkogiggoaaDoorIn
import Derived.Test.YtcaekgkogiggoaaDoorWordWalk
import Derived.Laws.IdiomArrays
namespace Go.Proofs.YtcaekgkogiggoaaDoor
open Go Go.RowKit Go.ChangeShapes Go.WideShapes Go.ChangeAt Go.Joins Go.Deep

def tabZ : List Int := [0, 1, 56, 2, 57, 49, 28, 3, 61, 58, 42, 50, 38, 29, 17, 4, 62, 47, 59, 36, 45, 43, 51, 22, 53, 39, 33, 30, 24, 18, 12, 5, 63, 55, 48, 27, 60, 41, 37, 16, 46, 35, 44, 21, 52, 32, 23, 11, 54, 26, 40, 15, 34, 20, 31, 10, 25, 14, 19, 9, 13, 8, 7, 6]
theorem tabZ_all : ∀ j, j < 64 → tabZ.getD j 0 = uv (WM.tab.getD j 0#8) := by decide +kernel
theorem tabs_of {w : World} (h : ∀ j, j < 64 → w.cell? ⟨0, j, none⟩ = some (.int .u8 (tabZ.getD j 0))) : Tabs w := fun j hj => by rw [h j hj, tabZ_all j hj]

section
variable {P : Program} {H : Type} {enc : TypeId × Value → H} {w : World} {base : Nat} {spare : Nat → Bool} {held : Bool}
theorem i64_of {a : Int} (h : (Lit.int .i64 a).wf = true) : I64 a := wf_i64 h
theorem ints3_of {r : Reach} {b0 : Nat} {t e : TypeId} {v : Value} {d : DataW H} {p : List MemPlace} (ht : P.underlying t = some (.array 3 e)) (he : P.underlying e = some (.int .i64)) (hce : P.cellsOf e = 1) (hC : P.cellsOf t = 3)
    (hv : Value.okWide P w r b0 t v) (h : DataW.Trod enc P w base spare held t v d p) : ∃ x y z : Int, v = .agg #[.int .i64 x, .int .i64 y, .int .i64 z] ∧ I64 x ∧ I64 y ∧ I64 z := by
  have hv' : ∃ cs, v = .agg cs ∧ cs.size = P.cellsOf t := by
    unfold Value.okWide at hv
    rw [ht] at hv
    obtain ⟨cs, h1, h2, _⟩ := hv
    exact ⟨cs, h1, h2⟩
  obtain ⟨cs, rfl, hsz⟩ := hv'
  obtain ⟨c0, c1, c2, rfl⟩ := array3 (hsz.trans hC)
  obtain ⟨fuel, hf⟩ := h
  obtain ⟨y0, y1, y2, n, _, g0, g1, g2⟩ := trod_array3 ht hce (by simpa [Value.cells] using hf)
  obtain ⟨a0, e0, _, w0⟩ := DataW.trod_int he g0
  obtain ⟨a1, e1, _, w1⟩ := DataW.trod_int he g1
  obtain ⟨a2, e2, _, w2⟩ := DataW.trod_int he g2
  simp only [List.cons.injEq, and_true] at e0 e1 e2
  subst e0; subst e1; subst e2
  exact ⟨a0, a1, a2, rfl, i64_of w0, i64_of w1, i64_of w2⟩
theorem bits_of {r : Reach} {b0 : Nat} {t : TypeId} {f0 f1 f2 f3 : Field} {v : Value} {d : DataW H} {p : List MemPlace} (hs : P.underlying t = some (.struct #[f0, f1, f2, f3])) (hone : oneCellFields P #[f0, f1, f2, f3] = true) (hC : P.cellsOf t = 4)
    (t0 : P.underlying f0.type = some (.int .u64)) (t1 : P.underlying f1.type = some (.int .u64)) (t2 : P.underlying f2.type = some (.int .u8)) (t3 : P.underlying f3.type = some (.int .u8))
    (hv : Value.okWide P w r b0 t v) (h : DataW.Trod enc P w base spare held t v d p) : ∃ (x y : BitVec 64) (a b : BitVec 8), v = .agg #[.int .u64 (uv x), .int .u64 (uv y), .int .u8 (uv a), .int .u8 (uv b)] := by
  obtain ⟨v0, v1, v2, v3, y0, y1, y2, y3, n, rfl, _, _, g0, g1, g2, g3⟩ := open_agg4 hs hone hC hv h
  obtain ⟨a0, e0, _, w0⟩ := DataW.trod_int t0 g0
  obtain ⟨a1, e1, _, w1⟩ := DataW.trod_int t1 g1
  obtain ⟨a2, e2, _, w2⟩ := DataW.trod_int t2 g2
  obtain ⟨a3, e3, _, w3⟩ := DataW.trod_int t3 g3
  obtain ⟨x0, rfl⟩ := wf_u64 w0
  obtain ⟨x1, rfl⟩ := wf_u64 w1
  obtain ⟨x2, rfl⟩ := wf_u8 w2
  obtain ⟨x3, rfl⟩ := wf_u8 w3
  simp only [List.cons.injEq, and_true] at e0 e1 e2 e3
  subst e0; subst e1; subst e2; subst e3
  exact ⟨x0, x1, x2, x3, rfl⟩
theorem two_of {r : Reach} {b0 : Nat} {t : TypeId} {f0 f1 f2 f3 : Field} {v : Value} {d : DataW H} {p : List MemPlace} (hs : P.underlying t = some (.struct #[f0, f1, f2, f3])) (hone : oneCellFields P #[f0, f1, f2, f3] = true) (hC : P.cellsOf t = 4)
    (t0 : P.underlying f0.type = some (.int .u64)) (t1 : P.underlying f1.type = some (.int .i64)) (t2 : P.underlying f2.type = some (.int .i64)) (t3 : P.underlying f3.type = some (.int .i64))
    (hv : Value.okWide P w r b0 t v) (h : DataW.Trod enc P w base spare held t v d p) : ∃ (x : BitVec 64) (a b c : Int), v = .agg #[.int .u64 (uv x), .int .i64 a, .int .i64 b, .int .i64 c] := by
  obtain ⟨v0, v1, v2, v3, y0, y1, y2, y3, n, rfl, _, _, g0, g1, g2, g3⟩ := open_agg4 hs hone hC hv h
  obtain ⟨a0, e0, _, w0⟩ := DataW.trod_int t0 g0
  obtain ⟨a1, e1, _, w1⟩ := DataW.trod_int t1 g1
  obtain ⟨a2, e2, _, w2⟩ := DataW.trod_int t2 g2
  obtain ⟨a3, e3, _, w3⟩ := DataW.trod_int t3 g3
  obtain ⟨x0, rfl⟩ := wf_u64 w0
  simp only [List.cons.injEq, and_true] at e0 e1 e2 e3
  subst e0; subst e1; subst e2; subst e3
  exact ⟨x0, a1, a2, a3, rfl⟩
end
end Go.Proofs.YtcaekgkogiggoaaDoor
