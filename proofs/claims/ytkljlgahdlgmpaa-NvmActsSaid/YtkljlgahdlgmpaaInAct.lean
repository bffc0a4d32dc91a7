/- From what a row reads: slices of acts. -/
import Derived.Test.YtkljlgahdlgmpaaIn
import Derived.Test.YtkljlgahdlgmpaaNvmActs
import Derived.Deep.Slices
import Derived.Deep.Fields
import Derived.ChangeSame
namespace Go.Proofs.Ytkljlgahdlgmpaa
set_option linter.unusedVariables false
set_option linter.unusedSimpArgs false
open Go Go.RowKit Go.ChangeShapes Go.WideShapes Go.ChangeAt Go.Joins Go.Deep

section
variable {P : Program} {H : Type} {enc : TypeId × Value → H} {w : World} {base : Nat} {spare : Nat → Bool} {held : Bool}
theorem act_of {e eb : TypeId} {f0 f1 f2 f3 : Field} {n : Nat} {cs : List Value} {x : DataW H × List MemPlace} (he : P.underlying e = some (.struct #[f0, f1, f2, f3])) (hone : oneCellFields P #[f0, f1, f2, f3] = true) (hC : P.cellsOf e = 4)
    (t0 : P.underlying f0.type = some (.int .u8)) (t1 : P.underlying f1.type = some (.int .i64)) (t2 : P.underlying f2.type = some (.int .u64)) (t3 : P.underlying f3.type = some (.slice eb)) (tb : P.underlying eb = some (.int .u8)) (hcb : P.cellsOf eb = 1)
    (h : DataW.trod enc P w base spare held n e cs = some x) : ∃ A : ActV, cs = A.cs.toList ∧ A.Ok w := by
  obtain ⟨ys, m, _, _, hlen, _, hf⟩ := DataW.trod_struct he h
  rw [hC] at hlen
  obtain ⟨v0, v1, v2, v3, rfl⟩ : ∃ v0 v1 v2 v3, cs = [v0, v1, v2, v3] := by
    match cs, hlen with
    | [v0, v1, v2, v3], _ => exact ⟨v0, v1, v2, v3, rfl⟩
  have one := fun j f hj => hone_of hone j f hj
  have g0 := hf 0 f0 rfl
  have g1 := hf 1 f1 rfl
  have g2 := hf 2 f2 rfl
  have g3 := hf 3 f3 rfl
  rw [(one 0 f0 rfl).1, (one 0 f0 rfl).2] at g0
  rw [(one 1 f1 rfl).1, (one 1 f1 rfl).2] at g1
  rw [(one 2 f2 rfl).1, (one 2 f2 rfl).2] at g2
  rw [(one 3 f3 rfl).1, (one 3 f3 rfl).2] at g3
  have hys : ∀ j, j < 4 → ∃ y, ys[j]? = some y := fun j hj => ⟨_, List.getElem?_eq_getElem (by simp at *; omega)⟩
  obtain ⟨y0, e0⟩ := hys 0 (by decide)
  obtain ⟨y1, e1⟩ := hys 1 (by decide)
  obtain ⟨y2, e2⟩ := hys 2 (by decide)
  obtain ⟨y3, e3⟩ := hys 3 (by decide)
  rw [e0] at g0
  rw [e1] at g1
  rw [e2] at g2
  rw [e3] at g3
  have g0 : DataW.trod enc P w base spare held m f0.type [v0] = some y0 := g0
  have g1 : DataW.trod enc P w base spare held m f1.type [v1] = some y1 := g1
  have g2 : DataW.trod enc P w base spare held m f2.type [v2] = some y2 := g2
  have g3 : DataW.trod enc P w base spare held m f3.type [v3] = some y3 := g3
  obtain ⟨a0, i0, _, w0⟩ := DataW.trod_int t0 g0
  obtain ⟨a1, i1, _, w1⟩ := DataW.trod_int t1 g1
  obtain ⟨a2, i2, _, w2⟩ := DataW.trod_int t2 g2
  obtain ⟨x0, rfl⟩ := wf_u8 w0
  obtain ⟨x2, rfl⟩ := wf_u64 w2
  have hb1 := wf_i64 w1
  simp only [List.cons.injEq, and_true] at i0 i1 i2
  subst i0; subst i1; subst i2
  obtain ⟨a, len, cap, rfl⟩ : ∃ a len cap, v3 = .slice a len cap := by
    rcases open_slice t3 g3 with ⟨h, _⟩ | ⟨a, len, cap, _, _, _, _, h, _⟩
    · exact ⟨none, 0, 0, by simpa using h⟩
    · exact ⟨some a, len, cap, by simpa using h⟩
  obtain ⟨l, hl, hin⟩ := slIn_of (fun _ h => wf_u8 h) t3 tb hcb (d := y3.1) (p := y3.2) ⟨m, by simpa [Value.cells] using g3⟩
  subst hl
  exact ⟨⟨x0, a1, x2, a, cap, l⟩, rfl, hb1, hin⟩
theorem acts_of {t e eb : TypeId} {f0 f1 f2 f3 : Field} {a : Option Addr} {len cap : Nat} {d : DataW H} {p : List MemPlace} (ht : P.underlying t = some (.slice e)) (he : P.underlying e = some (.struct #[f0, f1, f2, f3])) (hone : oneCellFields P #[f0, f1, f2, f3] = true) (hC : P.cellsOf e = 4)
    (t0 : P.underlying f0.type = some (.int .u8)) (t1 : P.underlying f1.type = some (.int .i64)) (t2 : P.underlying f2.type = some (.int .u64)) (t3 : P.underlying f3.type = some (.slice eb)) (tb : P.underlying eb = some (.int .u8)) (hcb : P.cellsOf eb = 1)
    (h : DataW.Trod enc P w base spare held t (.slice a len cap) d p) : ∃ l : List ActV, l.length = len ∧ ActsIn w a l cap := by
  obtain ⟨fuel, hf⟩ := h
  rcases open_slice ht hf with ⟨hcs, _⟩ | ⟨y, len', cap', m, n, D, Pl, hcs, _, hl, hm, hmm, _, hi⟩
  · simp [Value.cells] at hcs
    obtain ⟨rfl, rfl, rfl⟩ := hcs
    exact ⟨[], rfl, .inl rfl, by simp, by simp, by decide, fun _ => rfl⟩
  · simp [Value.cells] at hcs
    obtain ⟨rfl, rfl, rfl⟩ := hcs
    have hle : len ≤ m := by rw [hmm]; split <;> omega
    rw [hC] at hi
    obtain ⟨V, hV⟩ := choose_lt (n := m) (p := fun i (A : ActV) => (∀ j (hj : j < A.cs.size), w.cell? ((y.add (i * 4)).add j) = some A.cs[j]) ∧ A.Ok w) (fun i him => by
      obtain ⟨cs', hc, ht'⟩ := hi i him
      obtain ⟨A, hA, hok⟩ := act_of he hone hC t0 t1 t2 t3 tb hcb ht'
      obtain ⟨_, hcl, hat⟩ := World.cells?_some hc
      refine ⟨A, fun j hj => ?_, hok⟩
      have := hat j hj
      rw [this, hA]
      simp)
    refine ⟨(List.range len).map V, by simp, ?_, ?_, by simpa using hl, by unfold maxLen at hm; omega, fun h => by cases h⟩
    · by_cases h0 : len = 0
      · left; subst h0; rfl
      · have hy : y = ⟨y.block, y.off, none⟩ := addr_at (v := (V 0).cs[0]'(by simp [ActV.cs])) (by
          have := (hV 0 (by omega)).1 0 (by simp [ActV.cs])
          rw [Nat.zero_mul] at this
          simpa [Addr.add] using this)
        refine .inr ⟨y.block, y.off, congrArg some hy, fun i hi j hj => ?_⟩
        have hi' : i < len := by simpa using hi
        have hVi : ((List.range len).map V)[i] = V i := by simp
        have h1 := (hV i (by omega)).1 j (by rw [hVi] at hj; exact hj)
        rw [hy, Addr.add_lit, Addr.add_lit] at h1
        rw [h1]
        congr 1
        simp
    · intro x hx
      obtain ⟨i, hi', rfl⟩ := List.mem_map.1 hx
      exact (hV i (by have := List.mem_range.1 hi'; omega)).2
end
end Go.Proofs.Ytkljlgahdlgmpaa
