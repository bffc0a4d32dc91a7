/- From what a row reads: an array of two words; how a device ends. -/
import Derived.Test.YtejpophjiinijaaDoorInCh
import Derived.OpenShut
namespace Go.Proofs.YtejpophjiinijaaDoor
set_option linter.unusedVariables false
set_option linter.unusedSimpArgs false
set_option maxRecDepth 100000
open Go Go.RowKit Go.ChangeShapes Go.WideShapes Go.ChangeAt Go.Joins Go.Deep

section
variable {P : Program} {H : Type} {enc : TypeId × Value → H} {w : World} {base : Nat} {spare : Nat → Bool} {held : Bool}
theorem arr2_of {r : Reach} {b0 : Nat} {t e : TypeId} {v : Value} {d : DataW H} {p : List MemPlace} (ht : P.underlying t = some (.array 2 e)) (hce : P.cellsOf e = 1) (hC : P.cellsOf t = 2) (he : P.underlying e = some (.int .u64))
    (hv : Value.okWide P w r b0 t v) (h : DataW.Trod enc P w base spare held t v d p) : ∃ x y : BitVec 64, v = .agg #[.int .u64 (uv x), .int .u64 (uv y)] := by
  obtain ⟨cs, rfl, hsz, _⟩ : ∃ cs, v = .agg cs ∧ cs.size = P.cellsOf t ∧ Row.okWide P w r b0 t cs := by
    have := hv
    simpa [Value.okWide, ht] using this
  rw [hC] at hsz
  obtain ⟨c0, c1, rfl⟩ := array2 hsz
  obtain ⟨fuel, hf⟩ := h
  obtain ⟨xs, m, _, _, _, hl, hi⟩ := DataW.trod_array ht hf
  have h0 := hi 0 (by omega)
  have h1 := hi 1 (by omega)
  simp only [Value.cells, hce] at h0 h1
  obtain ⟨y0, e0⟩ : ∃ y, xs[0]? = some y := ⟨_, List.getElem?_eq_getElem (by omega)⟩
  obtain ⟨y1, e1⟩ : ∃ y, xs[1]? = some y := ⟨_, List.getElem?_eq_getElem (by omega)⟩
  rw [e0] at h0
  rw [e1] at h1
  have h0 : DataW.trod enc P w base spare held m e [c0] = some y0 := h0
  have h1 : DataW.trod enc P w base spare held m e [c1] = some y1 := h1
  obtain ⟨a0, i0, _, w0⟩ := DataW.trod_int he h0
  obtain ⟨a1, i1, _, w1⟩ := DataW.trod_int he h1
  obtain ⟨x0, rfl⟩ := wf_u64 w0
  obtain ⟨x1, rfl⟩ := wf_u64 w1
  simp only [List.cons.injEq, and_true] at i0 i1
  subst i0; subst i1
  exact ⟨x0, x1, rfl⟩
theorem end_of {r : Reach} {b0 : Nat} {t eb : TypeId} {f0 f1 : Field} {v : Value} {d : DataW H} {p : List MemPlace} (hs : P.underlying t = some (.struct #[f0, f1])) (hone : oneCellFields P #[f0, f1] = true) (hC : P.cellsOf t = 2)
    (t0 : P.underlying f0.type = some (.int .u8)) (t1 : P.underlying f1.type = some (.slice eb)) (tb : P.underlying eb = some (.int .u8)) (hcb : P.cellsOf eb = 1)
    (hv : Value.okWide P w r b0 t v) (h : DataW.Trod enc P w base spare held t v d p) : ∃ (x : BitVec 8) (a : Option Addr) (cap : Nat) (l : List (BitVec 8)), v = .agg #[.int .u8 (uv x), .slice a l.length cap] ∧ SlIn .u8 w a l cap := by
  obtain ⟨v0, v1, y0, y1, n, rfl, _, _, g0, g1⟩ := open_agg2 hs hone hC hv h
  obtain ⟨a0, e0, _, w0⟩ := DataW.trod_int t0 g0
  obtain ⟨x0, rfl⟩ := wf_u8 w0
  simp only [List.cons.injEq, and_true] at e0
  subst e0
  obtain ⟨a, len, cap, rfl⟩ : ∃ a len cap, v1 = .slice a len cap := by
    rcases open_slice t1 g1 with ⟨h, _⟩ | ⟨a, len, cap, _, _, _, _, h, _⟩
    · exact ⟨none, 0, 0, by simpa using h⟩
    · exact ⟨some a, len, cap, by simpa using h⟩
  obtain ⟨l, hl, hin⟩ := slIn_of (fun _ h => wf_u8 h) t1 tb hcb (d := y1.1) (p := y1.2) ⟨n, by simpa [Value.cells] using g1⟩
  subst hl
  exact ⟨x0, a, cap, l, rfl, hin⟩
end
end Go.Proofs.YtejpophjiinijaaDoor
