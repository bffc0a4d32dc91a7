/- From what a row reads: slices of versions, and of links; a version. -/
import Derived.Test.YtejpophjiinijaaDoorInT
import Derived.Test.YtejpophjiinijaaDoorLnkA
import Derived.Deep.Slices
import Derived.Deep.Fields
import Derived.ChangeSame
namespace Go.Proofs.YtejpophjiinijaaDoor
set_option linter.unusedVariables false
set_option linter.unusedSimpArgs false
set_option maxRecDepth 100000
open Go Go.RowKit Go.ChangeShapes Go.WideShapes Go.ChangeAt Go.Joins Go.Deep

section
variable {P : Program} {H : Type} {enc : TypeId × Value → H} {w : World} {base : Nat} {spare : Nat → Bool} {held : Bool}
theorem recCs_of {e : TypeId} {f0 f1 f2 f3 : Field} {n : Nat} {cs : List Value} {x : DataW H × List MemPlace} (he : P.underlying e = some (.struct #[f0, f1, f2, f3])) (hone : oneCellFields P #[f0, f1, f2, f3] = true) (hC : P.cellsOf e = 4)
    (t0 : P.underlying f0.type = some (.int .u64)) (t1 : P.underlying f1.type = some (.int .u64)) (t2 : P.underlying f2.type = some .bool) (t3 : P.underlying f3.type = some .string)
    (h : DataW.trod enc P w base spare held n e cs = some x) : ∃ k : LinkV, k.off = 0 ∧ cs = k.rc.toList := by
  obtain ⟨ys, m, _, _, hlen, _, hf⟩ := DataW.trod_struct he h
  rw [hC] at hlen
  obtain ⟨v0, v1, v2, v3, rfl⟩ : ∃ v0 v1 v2 v3, cs = [v0, v1, v2, v3] := by
    match cs, hlen with
    | [v0, v1, v2, v3], _ => exact ⟨v0, v1, v2, v3, rfl⟩
  have one := fun j f hj => hone_of hone j f hj
  have g0 := hf 0 f0 rfl
  have g1 := hf 1 f1 rfl
  have g2 := hf 2 f2 rfl
  have g3 := hf 3 f3 rfl
  rw [(one 0 f0 rfl).1, (one 0 f0 rfl).2] at g0
  rw [(one 1 f1 rfl).1, (one 1 f1 rfl).2] at g1
  rw [(one 2 f2 rfl).1, (one 2 f2 rfl).2] at g2
  rw [(one 3 f3 rfl).1, (one 3 f3 rfl).2] at g3
  have hys : ∀ j, j < 4 → ∃ y, ys[j]? = some y := fun j hj => ⟨_, List.getElem?_eq_getElem (by simp at *; omega)⟩
  obtain ⟨y0, e0⟩ := hys 0 (by decide)
  obtain ⟨y1, e1⟩ := hys 1 (by decide)
  obtain ⟨y2, e2⟩ := hys 2 (by decide)
  obtain ⟨y3, e3⟩ := hys 3 (by decide)
  rw [e0] at g0
  rw [e1] at g1
  rw [e2] at g2
  rw [e3] at g3
  have g0 : DataW.trod enc P w base spare held m f0.type [v0] = some y0 := g0
  have g1 : DataW.trod enc P w base spare held m f1.type [v1] = some y1 := g1
  have g2 : DataW.trod enc P w base spare held m f2.type [v2] = some y2 := g2
  have g3 : DataW.trod enc P w base spare held m f3.type [v3] = some y3 := g3
  obtain ⟨a0, i0, _, w0⟩ := DataW.trod_int t0 g0
  obtain ⟨a1, i1, _, w1⟩ := DataW.trod_int t1 g1
  obtain ⟨a2, i2, _⟩ := DataW.trod_bool t2 g2
  obtain ⟨a3, i3, _, _⟩ := DataW.trod_string t3 g3
  obtain ⟨x0, rfl⟩ := wf_u64 w0
  obtain ⟨x1, rfl⟩ := wf_u64 w1
  simp only [List.cons.injEq, and_true] at i0 i1 i2 i3
  subst i0; subst i1; subst i2; subst i3
  exact ⟨⟨0, x0, x1, a2, a3⟩, rfl, rfl⟩
theorem link_of {e er : TypeId} {h0 h1 f0 f1 f2 f3 : Field} {n : Nat} {cs : List Value} {x : DataW H × List MemPlace} (hl : P.underlying e = some (.struct #[h0, h1])) (hC5 : P.cellsOf e = 5) (o0 : h0.offset = 0) (o1 : h1.offset = 1) (c0 : P.cellsOf h0.type = 1) (hr : h1.type = er)
    (s0 : P.underlying h0.type = some (.int .i64)) (he : P.underlying er = some (.struct #[f0, f1, f2, f3])) (hone : oneCellFields P #[f0, f1, f2, f3] = true) (hC : P.cellsOf er = 4)
    (t0 : P.underlying f0.type = some (.int .u64)) (t1 : P.underlying f1.type = some (.int .u64)) (t2 : P.underlying f2.type = some .bool) (t3 : P.underlying f3.type = some .string)
    (h : DataW.trod enc P w base spare held n e cs = some x) : ∃ k : LinkV, cs = k.cs.toList := by
  obtain ⟨ys, m, _, _, hlen, hyl, hf⟩ := DataW.trod_struct hl h
  rw [hC5] at hlen
  obtain ⟨v0, v1, v2, v3, v4, rfl⟩ : ∃ v0 v1 v2 v3 v4, cs = [v0, v1, v2, v3, v4] := by
    match cs, hlen with
    | [v0, v1, v2, v3, v4], _ => exact ⟨v0, v1, v2, v3, v4, rfl⟩
  have g0 := hf 0 h0 rfl
  have g1 := hf 1 h1 rfl
  subst hr
  rw [o0, c0] at g0
  rw [o1, hC] at g1
  have hyl : ys.length = 2 := hyl
  have hys : ∀ j, j < 2 → ∃ y, ys[j]? = some y := fun j hj => ⟨_, List.getElem?_eq_getElem (by omega)⟩
  obtain ⟨y0, e0⟩ := hys 0 (by decide)
  obtain ⟨y1, e1⟩ := hys 1 (by decide)
  rw [e0] at g0
  rw [e1] at g1
  have g0 : DataW.trod enc P w base spare held m h0.type [v0] = some y0 := g0
  have g1 : DataW.trod enc P w base spare held m h1.type [v1, v2, v3, v4] = some y1 := g1
  obtain ⟨a0, i0, _, w0⟩ := DataW.trod_int s0 g0
  obtain ⟨k, _, hk⟩ := recCs_of he hone hC t0 t1 t2 t3 g1
  simp only [List.cons.injEq, and_true] at i0
  subst i0
  refine ⟨{ k with off := a0 }, ?_⟩
  have hk2 : [v1, v2, v3, v4] = [.int .u64 (uv k.stamp), .int .u64 (uv k.nxt), .bool k.gone, .string k.text] := hk
  simp only [List.cons.injEq, and_true] at hk2
  obtain ⟨rfl, rfl, rfl, rfl⟩ := hk2
  rfl
theorem recs_of {t e : TypeId} {f0 f1 f2 f3 : Field} {a : Option Addr} {len cap : Nat} {d : DataW H} {p : List MemPlace} (ht : P.underlying t = some (.slice e)) (he : P.underlying e = some (.struct #[f0, f1, f2, f3])) (hone : oneCellFields P #[f0, f1, f2, f3] = true) (hC : P.cellsOf e = 4)
    (t0 : P.underlying f0.type = some (.int .u64)) (t1 : P.underlying f1.type = some (.int .u64)) (t2 : P.underlying f2.type = some .bool) (t3 : P.underlying f3.type = some .string)
    (h : DataW.Trod enc P w base spare held t (.slice a len cap) d p) : ∃ l : List LinkV, l.length = len ∧ RcsIn w a l cap := by
  obtain ⟨fuel, hf⟩ := h
  rcases open_slice ht hf with ⟨hcs, _⟩ | ⟨y, len', cap', m, n, D, Pl, hcs, _, hl, hm, hmm, _, hi⟩
  · simp [Value.cells] at hcs
    obtain ⟨rfl, rfl, rfl⟩ := hcs
    exact ⟨[], rfl, .inl rfl, by simp, by decide, fun _ => rfl⟩
  · simp [Value.cells] at hcs
    obtain ⟨rfl, rfl, rfl⟩ := hcs
    have hle : len ≤ m := by rw [hmm]; split <;> omega
    rw [hC] at hi
    obtain ⟨V, hV⟩ := choose_lt (n := m) (p := fun i (A : LinkV) => ∀ j (hj : j < A.rc.size), w.cell? ((y.add (i * 4)).add j) = some A.rc[j]) (fun i him => by
      obtain ⟨cs', hc, ht'⟩ := hi i him
      obtain ⟨A, _, hA⟩ := recCs_of he hone hC t0 t1 t2 t3 ht'
      obtain ⟨_, hcl, hat⟩ := World.cells?_some hc
      refine ⟨A, fun j hj => ?_⟩
      have := hat j hj
      rw [this, hA]
      simp)
    refine ⟨(List.range len).map V, by simp, ?_, by simpa using hl, by unfold maxLen at hm; omega, fun h => by cases h⟩
    by_cases h0 : len = 0
    · left; subst h0; rfl
    · have hy : y = ⟨y.block, y.off, none⟩ := addr_at (v := (V 0).rc[0]'(by rw [LinkV.rc_size]; omega)) (by
        have := hV 0 (by omega) 0 (by rw [LinkV.rc_size]; omega)
        rw [Nat.zero_mul] at this
        simpa [Addr.add] using this)
      refine .inr ⟨y.block, y.off, congrArg some hy, fun i hi j hj => ?_⟩
      have hi' : i < len := by simpa using hi
      have hVi : ((List.range len).map V)[i] = V i := by simp
      have h1 := hV i (by omega) j (by rw [hVi] at hj; exact hj)
      rw [hy, Addr.add_lit, Addr.add_lit] at h1
      rw [h1]
      congr 1
      simp
theorem links_of {t e er : TypeId} {h0 h1 f0 f1 f2 f3 : Field} {a : Option Addr} {len cap : Nat} {d : DataW H} {p : List MemPlace} (ht : P.underlying t = some (.slice e)) (hl5 : P.underlying e = some (.struct #[h0, h1])) (hC5 : P.cellsOf e = 5) (o0 : h0.offset = 0) (o1 : h1.offset = 1) (c0 : P.cellsOf h0.type = 1) (hr : h1.type = er)
    (s0 : P.underlying h0.type = some (.int .i64)) (he : P.underlying er = some (.struct #[f0, f1, f2, f3])) (hone : oneCellFields P #[f0, f1, f2, f3] = true) (hC : P.cellsOf er = 4)
    (t0 : P.underlying f0.type = some (.int .u64)) (t1 : P.underlying f1.type = some (.int .u64)) (t2 : P.underlying f2.type = some .bool) (t3 : P.underlying f3.type = some .string)
    (h : DataW.Trod enc P w base spare held t (.slice a len cap) d p) : ∃ l : List LinkV, l.length = len ∧ LksIn w a l cap := by
  obtain ⟨fuel, hf⟩ := h
  rcases open_slice ht hf with ⟨hcs, _⟩ | ⟨y, len', cap', m, n, D, Pl, hcs, _, hl, hm, hmm, _, hi⟩
  · simp [Value.cells] at hcs
    obtain ⟨rfl, rfl, rfl⟩ := hcs
    exact ⟨[], rfl, .inl rfl, by simp, by decide, fun _ => rfl⟩
  · simp [Value.cells] at hcs
    obtain ⟨rfl, rfl, rfl⟩ := hcs
    have hle : len ≤ m := by rw [hmm]; split <;> omega
    rw [hC5] at hi
    obtain ⟨V, hV⟩ := choose_lt (n := m) (p := fun i (A : LinkV) => ∀ j (hj : j < A.cs.size), w.cell? ((y.add (i * 5)).add j) = some A.cs[j]) (fun i him => by
      obtain ⟨cs', hc, ht'⟩ := hi i him
      obtain ⟨A, hA⟩ := link_of hl5 hC5 o0 o1 c0 hr s0 he hone hC t0 t1 t2 t3 ht'
      obtain ⟨_, hcl, hat⟩ := World.cells?_some hc
      refine ⟨A, fun j hj => ?_⟩
      have := hat j hj
      rw [this, hA]
      simp)
    refine ⟨(List.range len).map V, by simp, ?_, by simpa using hl, by unfold maxLen at hm; omega, fun h => by cases h⟩
    by_cases h0 : len = 0
    · left; subst h0; rfl
    · have hy : y = ⟨y.block, y.off, none⟩ := addr_at (v := (V 0).cs[0]'(by rw [LinkV.cs_size]; omega)) (by
        have := hV 0 (by omega) 0 (by rw [LinkV.cs_size]; omega)
        rw [Nat.zero_mul] at this
        simpa [Addr.add] using this)
      refine .inr ⟨y.block, y.off, congrArg some hy, fun i hi j hj => ?_⟩
      have hi' : i < len := by simpa using hi
      have hVi : ((List.range len).map V)[i] = V i := by simp
      have h1 := hV i (by omega) j (by rw [hVi] at hj; exact hj)
      rw [hy, Addr.add_lit, Addr.add_lit] at h1
      rw [h1]
      congr 1
      simp
theorem recV_of {r : Reach} {b0 : Nat} {t : TypeId} {f0 f1 f2 f3 : Field} {v : Value} {d : DataW H} {p : List MemPlace} (hs : P.underlying t = some (.struct #[f0, f1, f2, f3])) (hone : oneCellFields P #[f0, f1, f2, f3] = true) (hC : P.cellsOf t = 4)
    (t0 : P.underlying f0.type = some (.int .u64)) (t1 : P.underlying f1.type = some (.int .u64)) (t2 : P.underlying f2.type = some .bool) (t3 : P.underlying f3.type = some .string)
    (hv : Value.okWide P w r b0 t v) (h : DataW.Trod enc P w base spare held t v d p) : ∃ k : LinkV, v = .agg k.rc := by
  obtain ⟨v0, v1, v2, v3, y0, y1, y2, y3, n, rfl, _, _, g0, g1, g2, g3⟩ := open_agg4 hs hone hC hv h
  obtain ⟨a0, i0, _, w0⟩ := DataW.trod_int t0 g0
  obtain ⟨a1, i1, _, w1⟩ := DataW.trod_int t1 g1
  obtain ⟨a2, i2, _⟩ := DataW.trod_bool t2 g2
  obtain ⟨a3, i3, _, _⟩ := DataW.trod_string t3 g3
  obtain ⟨x0, rfl⟩ := wf_u64 w0
  obtain ⟨x1, rfl⟩ := wf_u64 w1
  simp only [List.cons.injEq, and_true] at i0 i1 i2 i3
  subst i0; subst i1; subst i2; subst i3
  exact ⟨⟨0, x0, x1, a2, a3⟩, rfl⟩
end
end Go.Proofs.YtejpophjiinijaaDoor
