/- From what a row reads: two bytes in an array; a job. -/
import Derived.Test.YtkljlgahdlgmpaaIn
import Derived.Test.YtkljlgahdlgmpaaSureLaw4
import Derived.Deep.Slices
import Derived.Deep.Fields
import Derived.ChangeSame
namespace Go.Proofs.Ytkljlgahdlgmpaa
open Go Go.RowKit Go.ChangeShapes Go.WideShapes Go.ChangeAt Go.Joins Go.Deep

section
variable {P : Program} {H : Type} {enc : TypeId × Value → H} {w : World} {base : Nat} {spare : Nat → Bool} {held : Bool}
theorem bytes2_of {r : Reach} {b0 : Nat} {t e : TypeId} {v : Value} {d : DataW H} {p : List MemPlace} (ht : P.underlying t = some (.array 2 e)) (he : P.underlying e = some (.int .u8)) (hce : P.cellsOf e = 1) (hC : P.cellsOf t = 2)
    (hv : Value.okWide P w r b0 t v) (h : DataW.Trod enc P w base spare held t v d p) : ∃ x y : BitVec 8, v = .agg #[.int .u8 (uv x), .int .u8 (uv y)] := by
  have hv' : ∃ cs, v = .agg cs ∧ cs.size = P.cellsOf t := by
    unfold Value.okWide at hv
    rw [ht] at hv
    obtain ⟨cs, h1, h2, _⟩ := hv
    exact ⟨cs, h1, h2⟩
  obtain ⟨cs, rfl, hsz⟩ := hv'
  rw [hC] at hsz
  obtain ⟨fuel, hf⟩ := h
  obtain ⟨l⟩ := cs
  match l, hsz with
  | [c0, c1], _ =>
    obtain ⟨xs, m, _, _, _, hxl, hx⟩ := DataW.trod_array ht (by simpa [Value.cells] using hf)
    have q0 := hx 0 (by decide)
    have q1 := hx 1 (by decide)
    rw [hce] at q0 q1
    rw [List.getElem?_eq_getElem (by omega)] at q0 q1
    have g0 : DataW.trod enc P w base spare held m e [c0] = _ := q0
    have g1 : DataW.trod enc P w base spare held m e [c1] = _ := q1
    obtain ⟨a0, e0, _, w0⟩ := DataW.trod_int he g0
    obtain ⟨a1, e1, _, w1⟩ := DataW.trod_int he g1
    obtain ⟨x0, rfl⟩ := wf_u8 w0
    obtain ⟨x1, rfl⟩ := wf_u8 w1
    simp only [List.cons.injEq, and_true] at e0 e1
    subst e0; subst e1
    exact ⟨x0, x1, rfl⟩
theorem job_of {r : Reach} {b0 : Nat} {t et : TypeId} {f0 f1 f2 f3 f4 : Field} {v : Value} {d : DataW H} {p : List MemPlace} (hs : P.underlying t = some (.struct #[f0, f1, f2, f3, f4])) (hone : oneCellFields P #[f0, f1, f2, f3, f4] = true) (hC : P.cellsOf t = 5)
    (t0 : P.underlying f0.type = some (.slice et)) (t1 : P.underlying f1.type = some (.slice et)) (t2 : P.underlying f2.type = some (.int .i64)) (t3 : P.underlying f3.type = some (.int .i64)) (t4 : P.underlying f4.type = some (.int .u8)) (te : P.underlying et = some (.int .u64)) (hce : P.cellsOf et = 1)
    (hv : Value.okWide P w r b0 t v) (h : DataW.Trod enc P w base spare held t v d p) :
    ∃ (a : Option Addr) (l : List (BitVec 64)) (cap : Nat) (s2 : Value) (off many : Int) (after : BitVec 8), v = .agg #[.slice a l.length cap, s2, .int .i64 off, .int .i64 many, .int .u8 (uv after)] ∧ SlIn .u64 w a l cap ∧ I64 off ∧ s2.oneCell' = true := by
  obtain ⟨cs, rfl, hsz⟩ := okWide_struct hs hv
  rw [hC] at hsz
  obtain ⟨fuel, hf⟩ := h
  obtain ⟨l⟩ := cs
  match l, hsz with
  | [v0, v1, v2, v3, v4], _ =>
    obtain ⟨ys, m, _, _, _, hyl, hf⟩ := DataW.trod_struct hs (by simpa [Value.cells] using hf)
    have one := fun j f hj => hone_of hone j f hj
    have g0 := hf 0 f0 rfl
    have g1 := hf 1 f1 rfl
    have g2 := hf 2 f2 rfl
    have g3 := hf 3 f3 rfl
    have g4 := hf 4 f4 rfl
    rw [(one 0 f0 rfl).1, (one 0 f0 rfl).2] at g0
    rw [(one 1 f1 rfl).1, (one 1 f1 rfl).2] at g1
    rw [(one 2 f2 rfl).1, (one 2 f2 rfl).2] at g2
    rw [(one 3 f3 rfl).1, (one 3 f3 rfl).2] at g3
    rw [(one 4 f4 rfl).1, (one 4 f4 rfl).2] at g4
    have hys : ∀ j, j < 5 → ∃ y, ys[j]? = some y := fun j hj => ⟨_, List.getElem?_eq_getElem (by simp at hyl; omega)⟩
    obtain ⟨y0, e0⟩ := hys 0 (by decide)
    obtain ⟨y1, e1⟩ := hys 1 (by decide)
    obtain ⟨y2, e2⟩ := hys 2 (by decide)
    obtain ⟨y3, e3⟩ := hys 3 (by decide)
    obtain ⟨y4, e4⟩ := hys 4 (by decide)
    rw [e0] at g0
    rw [e1] at g1
    rw [e2] at g2
    rw [e3] at g3
    rw [e4] at g4
    have g0 : DataW.trod enc P w base spare held m f0.type [v0] = some y0 := g0
    have g1 : DataW.trod enc P w base spare held m f1.type [v1] = some y1 := g1
    have g2 : DataW.trod enc P w base spare held m f2.type [v2] = some y2 := g2
    have g3 : DataW.trod enc P w base spare held m f3.type [v3] = some y3 := g3
    have g4 : DataW.trod enc P w base spare held m f4.type [v4] = some y4 := g4
    obtain ⟨a2, i2, _, w2⟩ := DataW.trod_int t2 g2
    obtain ⟨a3, i3, _, _⟩ := DataW.trod_int t3 g3
    obtain ⟨a4, i4, _, w4⟩ := DataW.trod_int t4 g4
    obtain ⟨x4, rfl⟩ := wf_u8 w4
    have hb2 := wf_i64 w2
    simp only [List.cons.injEq, and_true] at i2 i3 i4
    subst i2; subst i3; subst i4
    obtain ⟨a, len, cap, rfl⟩ : ∃ a len cap, v0 = .slice a len cap := by
      rcases open_slice t0 g0 with ⟨h, _⟩ | ⟨a, len, cap, _, _, _, _, h, _⟩
      · exact ⟨none, 0, 0, by simpa using h⟩
      · exact ⟨some a, len, cap, by simpa using h⟩
    have ho1 : v1.oneCell' = true := by
      rcases open_slice t1 g1 with ⟨h, _⟩ | ⟨a, len, cap, _, _, _, _, h, _⟩
      · rw [show v1 = _ by simpa using h]; rfl
      · rw [show v1 = _ by simpa using h]; rfl
    obtain ⟨l, hl, hin⟩ := slIn_of (fun _ h => wf_u64 h) t0 te hce (d := y0.1) (p := y0.2) ⟨m, by simpa [Value.cells] using g0⟩
    subst hl
    exact ⟨a, l, cap, v1, a2, a3, x4, rfl, hin, hb2, ho1⟩
end
end Go.Proofs.Ytkljlgahdlgmpaa
