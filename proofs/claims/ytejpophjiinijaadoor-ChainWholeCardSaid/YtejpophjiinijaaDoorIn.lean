/- From what a row reads to what the walks ask: integers as bit vectors, slices as lists. -/
import Derived.Test.YtejpophjiinijaaDoorProg
import Derived.Test.YtejpophjiinijaaDoorUv
import Derived.Test.YtejpophjiinijaaDoorCore
import Derived.ProofKit
import Derived.OpenShut
import Derived.Lib.SmallJoins
namespace Go.Proofs.YtejpophjiinijaaDoor
set_option linter.unusedVariables false
set_option linter.unusedSimpArgs false
set_option maxRecDepth 100000
open Go Go.RowKit Go.ChangeShapes Go.WideShapes Go.ChangeAt Go.Joins Go.Deep

theorem wf_u8 {a : Int} (h : (Lit.int .u8 a).wf = true) : ∃ x : BitVec 8, a = uv x := by
  have hb : 0 ≤ a ∧ a ≤ 255 := by simpa [Lit.wf, IntKind.min, IntKind.max, IntKind.signed, IntKind.bits] using h
  exact ⟨BitVec.ofInt 8 a, (uv_ofInt a hb.1 (by omega)).symm⟩
theorem wf_u16 {a : Int} (h : (Lit.int .u16 a).wf = true) : ∃ x : BitVec 16, a = uv x := by
  have hb : 0 ≤ a ∧ a ≤ 65535 := by simpa [Lit.wf, IntKind.min, IntKind.max, IntKind.signed, IntKind.bits] using h
  exact ⟨BitVec.ofInt 16 a, (uv_ofInt a hb.1 (by omega)).symm⟩
theorem wf_u32 {a : Int} (h : (Lit.int .u32 a).wf = true) : ∃ x : BitVec 32, a = uv x := by
  have hb : 0 ≤ a ∧ a ≤ 4294967295 := by simpa [Lit.wf, IntKind.min, IntKind.max, IntKind.signed, IntKind.bits] using h
  exact ⟨BitVec.ofInt 32 a, (uv_ofInt a hb.1 (by omega)).symm⟩
theorem wf_u64 {a : Int} (h : (Lit.int .u64 a).wf = true) : ∃ x : BitVec 64, a = uv x := by
  have hb : 0 ≤ a ∧ a ≤ 18446744073709551615 := by simpa [Lit.wf, IntKind.min, IntKind.max, IntKind.signed, IntKind.bits] using h
  exact ⟨BitVec.ofInt 64 a, (uv_ofInt a hb.1 (by omega)).symm⟩
theorem wf_i64 {a : Int} (h : (Lit.int .i64 a).wf = true) : -9223372036854775808 ≤ a ∧ a ≤ 9223372036854775807 := by
  simpa [Lit.wf, IntKind.min, IntKind.max, IntKind.signed, IntKind.bits] using h

theorem addr_at {w : World} {a : Addr} {v : Value} (h : w.cell? a = some v) : a = ⟨a.block, a.off, none⟩ := by
  obtain ⟨b, o, s⟩ := a
  cases s with
  | none => rfl
  | some s =>
    unfold World.cell? at h
    split at h
    · simp at h
    · cases h

section
variable {P : Program} {H : Type} {enc : TypeId × Value → H} {w : World} {base : Nat} {spare : Nat → Bool} {held : Bool}
theorem ints_of {t e : TypeId} {k : IntKind} {a : Option Addr} {len cap : Nat} {x : DataW H × List MemPlace} {fuel : Nat}
    (ht : P.underlying t = some (.slice e)) (he : P.underlying e = some (.int k)) (hc : P.cellsOf e = 1)
    (h : DataW.trod enc P w base spare held fuel t (Value.slice a len cap).cells.toList = some x) :
    ∃ zs : List Int, zs.length = len ∧ len ≤ cap ∧ cap ≤ 9223372036854775807 ∧ (a = none → cap = 0) ∧ (∀ n ∈ zs, (Lit.int k n).wf = true) ∧
      (zs = [] ∨ ∃ b off, a = some ⟨b, off, none⟩ ∧ ∀ i (hi : i < zs.length), w.cell? ⟨b, off + i, none⟩ = some (.int k zs[i])) := by
  rcases open_ints ht he hc h with ⟨hcs, _⟩ | ⟨y, l, c, zs, hcs, _, hl, hm, hz, _, hcell, hwz⟩
  · simp [Value.cells] at hcs
    obtain ⟨rfl, rfl, rfl⟩ := hcs
    exact ⟨[], rfl, Nat.le_refl _, by decide, fun _ => rfl, by simp, .inl rfl⟩
  · simp [Value.cells] at hcs
    obtain ⟨rfl, rfl, rfl⟩ := hcs
    have hzl : len ≤ zs.length := by split at hz <;> omega
    refine ⟨zs.take len, by simp; omega, hl, by unfold maxLen at hm; omega, fun h => by (cases h), fun n hn => hwz n (List.mem_of_mem_take hn), ?_⟩
    by_cases h0 : len = 0
    · subst h0; exact .inl (by simp)
    · have hy : y = ⟨y.block, y.off, none⟩ := addr_at (v := .int k (zs.getD 0 0)) (by simpa [Addr.add] using hcell 0 (by omega))
      refine .inr ⟨y.block, y.off, congrArg some hy, fun i hi => ?_⟩
      have hi' : i < len := by simp at hi; omega
      have h1 := hcell i (by omega)
      have h2 : y.add i = ⟨y.block, y.off + i, none⟩ := by
        unfold Addr.add
        split
        · rename_i hi0; subst hi0; exact hy
        · rfl
      rw [h2] at h1
      rw [h1]
      simp [List.getD, show i < zs.length by omega]

theorem slIn_of {n : Nat} {k : IntKind} (hk : ∀ z : Int, (Lit.int k z).wf = true → ∃ x : BitVec n, z = uv x) {t e : TypeId} {a : Option Addr} {len cap : Nat} {d : DataW H} {p : List MemPlace}
    (ht : P.underlying t = some (.slice e)) (he : P.underlying e = some (.int k)) (hc : P.cellsOf e = 1)
    (h : DataW.Trod enc P w base spare held t (.slice a len cap) d p) : ∃ l : List (BitVec n), l.length = len ∧ SlIn k w a l cap := by
  obtain ⟨fuel, hf⟩ := h
  obtain ⟨zs, h1, h2, h3, h6, h4, h5⟩ := ints_of ht he hc hf
  have hu : ∀ (i : Nat) (hi : i < zs.length), uv (BitVec.ofInt n zs[i]) = zs[i] := fun i hi => by
    obtain ⟨x, hx⟩ := hk zs[i] (h4 zs[i] (List.getElem_mem hi))
    rw [hx, ofInt_uv]
  refine ⟨zs.map (BitVec.ofInt n), by simpa using h1, ⟨?_, by simp; omega, h3, h6⟩⟩
  rcases h5 with rfl | ⟨b, off, rfl, hcell⟩
  · exact .inl rfl
  · refine .inr ⟨b, off, rfl, fun i hi => ?_⟩
    simp at hi
    rw [hcell i hi]
    simp [hu i hi]

/-- A struct of two words, a truth and a text. -/
theorem rec_of {r : Reach} {b0 : Nat} {t : TypeId} {f0 f1 f2 f3 : Field} {v : Value} {d : DataW H} {p : List MemPlace} (hs : P.underlying t = some (.struct #[f0, f1, f2, f3])) (hone : oneCellFields P #[f0, f1, f2, f3] = true) (hC : P.cellsOf t = 4)
    (t0 : P.underlying f0.type = some (.int .u64)) (t1 : P.underlying f1.type = some (.int .u64)) (t2 : P.underlying f2.type = some .bool) (t3 : P.underlying f3.type = some .string)
    (hv : Value.okWide P w r b0 t v) (h : DataW.Trod enc P w base spare held t v d p) : ∃ (x y : BitVec 64) (b : Bool) (s : ByteArray), v = .agg #[.int .u64 (uv x), .int .u64 (uv y), .bool b, .string s] := by
  obtain ⟨v0, v1, v2, v3, y0, y1, y2, y3, n, rfl, _, _, g0, g1, g2, g3⟩ := open_agg4 hs hone hC hv h
  obtain ⟨a0, e0, _, w0⟩ := DataW.trod_int t0 g0
  obtain ⟨a1, e1, _, w1⟩ := DataW.trod_int t1 g1
  obtain ⟨b, e2, _⟩ := DataW.trod_bool t2 g2
  obtain ⟨s, e3, _, _⟩ := DataW.trod_string t3 g3
  obtain ⟨x0, rfl⟩ := wf_u64 w0
  obtain ⟨x1, rfl⟩ := wf_u64 w1
  simp only [List.cons.injEq, and_true] at e0 e1 e2 e3
  subst e0; subst e1; subst e2; subst e3
  exact ⟨x0, x1, b, s, rfl⟩
end
end Go.Proofs.YtejpophjiinijaaDoor
