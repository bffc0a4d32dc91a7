/- The acts of law07, as they come in; and from what a row reads. -/
import Derived.Test.YtcpackbljaabnaaGreatDoorIn
import Derived.Test.YtcpackbljaabnaaGreatDoorCore
import Derived.Test.YtcpackbljaabnaaGreatDoorBase
import Derived.Deep.Slices
import Derived.Deep.Fields
import Derived.ChangeSame
namespace Go.Proofs.YtcpackbljaabnaaGreatDoor
set_option linter.unusedVariables false
set_option linter.unusedSimpArgs false
set_option maxRecDepth 100000
open Go Go.RowKit

/-- An act: what kind, and where. -/
structure PAct where
  kind : BitVec 8
  at_ : Int
deriving Inhabited
def PAct.cs (A : PAct) : Array Value := #[.int .u8 (uv A.kind), .int .i64 A.at_]
structure PActsIn (w : World) (a : Option Addr) (l : List PAct) (cap : Nat) : Prop where
  at_ : l = [] ∨ ∃ b off, a = some ⟨b, off, none⟩ ∧ ∀ i (hi : i < l.length) j (hj : j < l[i].cs.size), w.cell? ⟨b, off + i * 2 + j, none⟩ = some l[i].cs[j]
  ok : ∀ A ∈ l, I64 A.at_
  le : l.length ≤ cap
  max : cap ≤ 9223372036854775807
  nil : a = none → cap = 0
section
variable {w w' : World} {a : Option Addr} {l : List PAct} {cap : Nat}
theorem PActsIn.next (h : PActsIn w a l cap) (hb : Below w.heap.size w w') : PActsIn w' a l cap := by
  refine ⟨?_, h.ok, h.le, h.max, h.nil⟩
  rcases h.at_ with e | ⟨b, off, e, hc⟩
  · exact .inl e
  · exact .inr ⟨b, off, e, fun i hi j hj => (hb.cell (p := ⟨_, _, none⟩) (World.block_lt_of_cell? w _ (hc i hi j hj))).trans (hc i hi j hj)⟩
theorem PActsIn.get (h : PActsIn w a l cap) {i : Nat} (hi : i < l.length) : ∃ b off, a = some ⟨b, off, none⟩ ∧ (∀ j (hj : j < l[i].cs.size), w.cell? ⟨b, off + i * 2 + j, none⟩ = some l[i].cs[j]) ∧ I64 l[i].at_ := by
  rcases h.at_ with e | ⟨b, off, e, hc⟩
  · subst e; simp at hi
  · exact ⟨b, off, e, hc i hi, h.ok _ (List.getElem_mem hi)⟩
theorem pactI : (Tryz.prog.info? 39).map (·.size) = some 2 := by kernel_rfl
theorem pactNew (A : PAct) : ∀ (w : World) (e : Env) (dst : Option Tmp) (x y : Operand) (ty' : TypeId) (pos : String) (af : Array Edge) (gd : Option (Nat × Bool)), ev e x = .pointer (some ⟨w.heap.size, 0, none⟩) → ev e y = .agg A.cs →
    xOp Tryz.prog e ⟨dst, .store 39 x y, ty', pos, af, gd⟩ (w.alloc (.cells #[.int .u8 0, .int .i64 0] 39)) = .ok .skip (w.alloc (.cells A.cs 39)) :=
  stNew (P := Tryz.prog) pactI rfl (by simp [PAct.cs, Value.oneCell'])
theorem PAct.c0 (A : PAct) : A.cs[0]? = some (.int .u8 (uv A.kind)) := rfl
theorem PAct.c1 (A : PAct) : A.cs[1]? = some (.int .i64 A.at_) := rfl
end
open Go.ChangeShapes Go.WideShapes Go.ChangeAt Go.Joins Go.Deep
section
variable {P : Program} {H : Type} {enc : TypeId × Value → H} {w : World} {base : Nat} {spare : Nat → Bool} {held : Bool}
theorem pact_of {e : TypeId} {f0 f1 : Field} {n : Nat} {cs : List Value} {x : DataW H × List MemPlace} (he : P.underlying e = some (.struct #[f0, f1])) (hone : oneCellFields P #[f0, f1] = true) (hC : P.cellsOf e = 2)
    (t0 : P.underlying f0.type = some (.int .u8)) (t1 : P.underlying f1.type = some (.int .i64))
    (h : DataW.trod enc P w base spare held n e cs = some x) : ∃ A : PAct, cs = A.cs.toList ∧ I64 A.at_ := by
  obtain ⟨ys, m, _, _, hlen, _, hf⟩ := DataW.trod_struct he h
  rw [hC] at hlen
  obtain ⟨v0, v1, rfl⟩ : ∃ v0 v1, cs = [v0, v1] := by
    match cs, hlen with
    | [v0, v1], _ => exact ⟨v0, v1, rfl⟩
  have one := fun j f hj => hone_of hone j f hj
  have g0 := hf 0 f0 rfl
  have g1 := hf 1 f1 rfl
  rw [(one 0 f0 rfl).1, (one 0 f0 rfl).2] at g0
  rw [(one 1 f1 rfl).1, (one 1 f1 rfl).2] at g1
  have hys : ∀ j, j < 2 → ∃ y, ys[j]? = some y := fun j hj => ⟨_, List.getElem?_eq_getElem (by simp at *; omega)⟩
  obtain ⟨y0, e0⟩ := hys 0 (by decide)
  obtain ⟨y1, e1⟩ := hys 1 (by decide)
  rw [e0] at g0
  rw [e1] at g1
  have g0 : DataW.trod enc P w base spare held m f0.type [v0] = some y0 := g0
  have g1 : DataW.trod enc P w base spare held m f1.type [v1] = some y1 := g1
  obtain ⟨a0, i0, _, w0⟩ := DataW.trod_int t0 g0
  obtain ⟨a1, i1, _, w1⟩ := DataW.trod_int t1 g1
  obtain ⟨x0, rfl⟩ := wf_u8 w0
  have hb1 := wf_i64 w1
  simp only [List.cons.injEq, and_true] at i0 i1
  subst i0; subst i1
  exact ⟨⟨x0, a1⟩, rfl, hb1⟩
theorem pacts_of {t e : TypeId} {f0 f1 : Field} {a : Option Addr} {len cap : Nat} {d : DataW H} {p : List MemPlace} (ht : P.underlying t = some (.slice e)) (he : P.underlying e = some (.struct #[f0, f1])) (hone : oneCellFields P #[f0, f1] = true) (hC : P.cellsOf e = 2)
    (t0 : P.underlying f0.type = some (.int .u8)) (t1 : P.underlying f1.type = some (.int .i64))
    (h : DataW.Trod enc P w base spare held t (.slice a len cap) d p) : ∃ l : List PAct, l.length = len ∧ PActsIn w a l cap := by
  obtain ⟨fuel, hf⟩ := h
  rcases open_slice ht hf with ⟨hcs, _⟩ | ⟨y, len', cap', m, n, D, Pl, hcs, _, hl, hm, hmm, _, hi⟩
  · simp [Value.cells] at hcs
    obtain ⟨rfl, rfl, rfl⟩ := hcs
    exact ⟨[], rfl, .inl rfl, by simp, by simp, by decide, fun _ => rfl⟩
  · simp [Value.cells] at hcs
    obtain ⟨rfl, rfl, rfl⟩ := hcs
    have hle : len ≤ m := by rw [hmm]; split <;> omega
    rw [hC] at hi
    obtain ⟨V, hV⟩ := choose_lt (n := m) (p := fun i (A : PAct) => (∀ j (hj : j < A.cs.size), w.cell? ((y.add (i * 2)).add j) = some A.cs[j]) ∧ I64 A.at_) (fun i him => by
      obtain ⟨cs', hc, ht'⟩ := hi i him
      obtain ⟨A, hA, hok⟩ := pact_of he hone hC t0 t1 ht'
      obtain ⟨_, hcl, hat⟩ := World.cells?_some hc
      refine ⟨A, fun j hj => ?_, hok⟩
      have := hat j hj
      rw [this, hA]
      simp)
    refine ⟨(List.range len).map V, by simp, ?_, ?_, by simpa using hl, by unfold maxLen at hm; omega, fun h => by cases h⟩
    · by_cases h0 : len = 0
      · left; subst h0; rfl
      · have hy : y = ⟨y.block, y.off, none⟩ := addr_at (v := (V 0).cs[0]'(by simp [PAct.cs])) (by
          have := (hV 0 (by omega)).1 0 (by simp [PAct.cs])
          rw [Nat.zero_mul] at this
          simpa [Addr.add] using this)
        refine .inr ⟨y.block, y.off, congrArg some hy, fun i hi j hj => ?_⟩
        have hi' : i < len := by simpa using hi
        have hVi : ((List.range len).map V)[i] = V i := by simp
        have h1 := (hV i (by omega)).1 j (by rw [hVi] at hj; exact hj)
        rw [hy, Addr.add_lit, Addr.add_lit] at h1
        rw [h1]
        congr 1
        simp
    · intro x hx
      obtain ⟨i, hi', rfl⟩ := List.mem_map.1 hx
      exact (hV i (by have := List.mem_range.1 hi'; omega)).2
theorem pactV_of {r : Reach} {b0 : Nat} {t : TypeId} {f0 f1 : Field} {v : Value} {d : DataW H} {p : List MemPlace} (hs : P.underlying t = some (.struct #[f0, f1])) (hone : oneCellFields P #[f0, f1] = true) (hC : P.cellsOf t = 2)
    (t0 : P.underlying f0.type = some (.int .u8)) (t1 : P.underlying f1.type = some (.int .i64))
    (hv : Value.okWide P w r b0 t v) (h : DataW.Trod enc P w base spare held t v d p) : ∃ A : PAct, v = .agg A.cs ∧ I64 A.at_ := by
  obtain ⟨v0, v1, y0, y1, n, rfl, _, _, g0, g1⟩ := open_agg2 hs hone hC hv h
  obtain ⟨a0, e0, _, w0⟩ := DataW.trod_int t0 g0
  obtain ⟨a1, e1, _, w1⟩ := DataW.trod_int t1 g1
  obtain ⟨x0, rfl⟩ := wf_u8 w0
  simp only [List.cons.injEq, and_true] at e0 e1
  subst e0; subst e1
  exact ⟨⟨x0, a1⟩, rfl, wf_i64 w1⟩
theorem end_of {r : Reach} {b0 : Nat} {t eb : TypeId} {f0 f1 : Field} {v : Value} {d : DataW H} {p : List MemPlace} (hs : P.underlying t = some (.struct #[f0, f1])) (hone : oneCellFields P #[f0, f1] = true) (hC : P.cellsOf t = 2)
    (t0 : P.underlying f0.type = some (.int .u8)) (t1 : P.underlying f1.type = some (.slice eb)) (tb : P.underlying eb = some (.int .u8)) (hcb : P.cellsOf eb = 1)
    (hv : Value.okWide P w r b0 t v) (h : DataW.Trod enc P w base spare held t v d p) : ∃ (x : BitVec 8) (a : Option Addr) (cap : Nat) (l : List (BitVec 8)), v = .agg #[.int .u8 (uv x), .slice a l.length cap] ∧ SlIn .u8 w a l cap := by
  obtain ⟨v0, v1, y0, y1, n, rfl, _, _, g0, g1⟩ := open_agg2 hs hone hC hv h
  obtain ⟨a0, e0, _, w0⟩ := DataW.trod_int t0 g0
  obtain ⟨x0, rfl⟩ := wf_u8 w0
  simp only [List.cons.injEq, and_true] at e0
  subst e0
  obtain ⟨a, len, cap, rfl⟩ : ∃ a len cap, v1 = .slice a len cap := by
    rcases open_slice t1 g1 with ⟨h, _⟩ | ⟨a, len, cap, _, _, _, _, h, _⟩
    · exact ⟨none, 0, 0, by simpa using h⟩
    · exact ⟨some a, len, cap, by simpa using h⟩
  obtain ⟨l, hl, hin⟩ := slIn_of (fun _ h => wf_u8 h) t1 tb hcb (d := y1.1) (p := y1.2) ⟨n, by simpa [Value.cells] using g1⟩
  subst hl
  exact ⟨x0, a, cap, l, rfl, hin⟩
end
end Go.Proofs.YtcpackbljaabnaaGreatDoor
