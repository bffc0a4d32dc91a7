/- Slices of numbers without sign, of whatever width. -/
import Derived.Test.YtkljlgahdlgmpaaEng
import Derived.Test.YtkljlgahdlgmpaaVal
import Derived.Test.YtkljlgahdlgmpaaMem
namespace Go.Proofs.Ytkljlgahdlgmpaa
open Go Go.RowKit

/-- The elements of a slice. -/
def SlAt {n : Nat} (k : IntKind) (w : World) (a : Option Addr) (l : List (BitVec n)) : Prop :=
  l = [] ∨ ∃ b off, a = some ⟨b, off, none⟩ ∧ ∀ i (h : i < l.length), w.cell? ⟨b, off + i, none⟩ = some (.int k (uv l[i]))
/-- A slice that came in. -/
structure SlIn {n : Nat} (k : IntKind) (w : World) (a : Option Addr) (l : List (BitVec n)) (cap : Nat) : Prop where
  at_ : SlAt k w a l
  le : l.length ≤ cap
  max : cap ≤ 9223372036854775807
  nil : a = none → cap = 0
section
variable {n : Nat} {k : IntKind} {w w' : World} {a : Option Addr} {l : List (BitVec n)} {cap : Nat}
theorem SlAt.below (h : SlAt k w a l) (hb : Below w.heap.size w w') : SlAt k w' a l := by
  rcases h with h | ⟨b, off, rfl, hc⟩
  · exact .inl h
  · exact .inr ⟨b, off, rfl, fun i hi => (hb.cell (p := ⟨_, _, none⟩) (World.block_lt_of_cell? w _ (hc i hi))).trans (hc i hi)⟩
theorem SlAt.next (h : SlAt k w a l) (hb : Below w.heap.size w w') : SlAt k w' a l := h.below hb
theorem SlAt.drew (h : SlAt k w a l) : SlAt k w.drew a l := h
theorem SlAt.take (h : SlAt k w a l) (m : Nat) : SlAt k w a (l.take m) := by
  rcases h with h | ⟨b, off, rfl, hc⟩
  · subst h; exact .inl (by simp)
  · refine .inr ⟨b, off, rfl, fun i hi => ?_⟩
    rw [hc i (by simp at hi; omega)]
    simp
theorem SlIn.below (h : SlIn k w a l cap) (hb : Below w.heap.size w w') : SlIn k w' a l cap := ⟨h.at_.below hb, h.le, h.max, h.nil⟩

theorem SlIn.next (h : SlIn k w a l cap) (hb : Below w.heap.size w w') : SlIn k w' a l cap := h.below hb

/-- The numbers as cells. -/
def cellsK {n : Nat} (k : IntKind) (l : List (BitVec n)) : List Value := l.map fun x => .int k (uv x)
theorem cellsK_length : (cellsK k l).length = l.length := by simp [cellsK]
theorem cellsK_append (a b : List (BitVec n)) : cellsK k (a ++ b) = cellsK k a ++ cellsK k b := by simp [cellsK]
theorem cellsK_one : ∀ u ∈ cellsK k l, u.oneCell' = true := fun u hu => by simp [cellsK] at hu; obtain ⟨x, _, rfl⟩ := hu; rfl
theorem SlAt.src (h : SlAt k w a l) : SrcAt w a (cellsK k l) := by
  rcases h with rfl | ⟨b, off, rfl, hc⟩
  · cases a with
    | none => exact .inl ⟨rfl, rfl⟩
    | some x => exact .inr ⟨x, rfl, fun j u hu => by simp [cellsK] at hu⟩
  · refine .inr ⟨_, rfl, fun j u hu => ?_⟩
    rw [Addr.add_lit]
    have hj : j < l.length := by
      rcases Nat.lt_or_ge j l.length with h' | h'
      · exact h'
      · rw [List.getElem?_eq_none (by rw [cellsK_length]; exact h')] at hu; cases hu
    rw [hc j hj]
    simp [cellsK, hj] at hu
    rw [hu]
theorem owns_sl {base m : Nat} {e : TypeId} (hl : l.length = m) (h : w.ownsRow base e 1 (.slice a m cap) m (cellsK k l)) : SlAt k w a l := by
  obtain ⟨_, ⟨hv, h0⟩ | ⟨g, cap2, cur, hv, hg, hblk, hcap, _, hsz, htake⟩⟩ := h
  · exact .inl (List.eq_nil_of_length_eq_zero (by omega))
  · simp only [Value.slice.injEq] at hv
    obtain ⟨rfl, _, rfl⟩ := hv
    have hblk : Blk w g cur e := hblk
    refine Or.inr ⟨_, _, rfl, fun i hi => ?_⟩
    rw [Nat.zero_add, hblk.cell]
    rw [Nat.mul_one] at htake
    have h1 := congrArg (fun z : List Value => z[i]?) htake
    simp only [List.getElem?_take, show i < m by omega, if_true, Array.getElem?_toList] at h1
    rw [h1]
    simp [cellsK, hi]
theorem owns_slIn {base m : Nat} {e : TypeId} (hl : l.length = m) (h : w.ownsRow base e 1 (.slice a m cap) m (cellsK k l)) : SlIn k w a l cap := by
  refine ⟨owns_sl hl h, ?_, ?_, ?_⟩
  all_goals
    obtain ⟨_, ⟨hv, h0⟩ | ⟨g, cap2, cur, hv, hg, hblk, hcap, hm, hsz, htake⟩⟩ := h
    · simp only [Value.slice.injEq] at hv
      obtain ⟨_, _, rfl⟩ := hv
      first
      | omega
      | simp
    · simp only [Value.slice.injEq] at hv
      obtain ⟨rfl, _, rfl⟩ := hv
      first
      | omega
      | (unfold maxLen at hm; omega)
      | simp
theorem slAt_blk {b : Nat} {C : Array Value} {e : TypeId} (h : Blk w b C e) (hC : ∀ i (hi : i < l.length), C[i]? = some (.int k (uv l[i]))) : SlAt k w (some ⟨b, 0, none⟩) l :=
  Or.inr ⟨_, _, rfl, fun i hi => by rw [Nat.zero_add, h.cell, hC i hi]⟩
/-- A cell of a slice by its place. -/
theorem SlAt.cell (h : SlAt k w a l) {i : Nat} (hi : i < l.length) : ∃ b off, a = some ⟨b, off, none⟩ ∧ w.cell? ⟨b, off + i, none⟩ = some (.int k (uv l[i])) := by
  rcases h with rfl | ⟨b, off, rfl, hc⟩
  · simp at hi
  · exact ⟨b, off, rfl, hc i hi⟩
theorem SlAt.cellD (h : SlAt k w a l) {i : Nat} (hi : i < l.length) : ∃ b off, a = some ⟨b, off, none⟩ ∧ w.cell? ⟨b, off + i, none⟩ = some (.int k (uv (l.getD i 0#n))) := by
  obtain ⟨b, off, h1, h2⟩ := h.cell hi
  exact ⟨b, off, h1, by rw [h2]; simp [List.getD, hi]⟩
end
end Go.Proofs.Ytkljlgahdlgmpaa
