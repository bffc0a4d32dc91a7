/- Slices of whatever one-cell values. -/
import Derived.Test.YtkljlgahdlgmpaaEng
import Derived.Test.YtkljlgahdlgmpaaVal
import Derived.Test.YtkljlgahdlgmpaaMem
namespace Go.Proofs.Ytkljlgahdlgmpaa
open Go Go.RowKit

def VsAt (w : World) (a : Option Addr) (l : List Value) : Prop :=
  l = [] ∨ ∃ b off, a = some ⟨b, off, none⟩ ∧ ∀ i (h : i < l.length), w.cell? ⟨b, off + i, none⟩ = some l[i]
structure VsIn (w : World) (a : Option Addr) (l : List Value) (cap : Nat) : Prop where
  at_ : VsAt w a l
  le : l.length ≤ cap
  max : cap ≤ 9223372036854775807
  nil : a = none → cap = 0
section
variable {w w' : World} {a : Option Addr} {l : List Value} {cap : Nat}
theorem VsAt.below (h : VsAt w a l) (hb : Below w.heap.size w w') : VsAt w' a l := by
  rcases h with h | ⟨b, off, rfl, hc⟩
  · exact .inl h
  · exact .inr ⟨b, off, rfl, fun i hi => (hb.cell (p := ⟨_, _, none⟩) (World.block_lt_of_cell? w _ (hc i hi))).trans (hc i hi)⟩
theorem VsAt.next (h : VsAt w a l) (hb : Below w.heap.size w w') : VsAt w' a l := h.below hb
theorem VsAt.drew (h : VsAt w a l) : VsAt w.drew a l := h
theorem VsAt.cell (h : VsAt w a l) {i : Nat} (hi : i < l.length) : ∃ b off, a = some ⟨b, off, none⟩ ∧ w.cell? ⟨b, off + i, none⟩ = some l[i] := by
  rcases h with rfl | ⟨b, off, rfl, hc⟩
  · simp at hi
  · exact ⟨b, off, rfl, hc i hi⟩
theorem VsAt.take (h : VsAt w a l) (m : Nat) : VsAt w a (l.take m) := by
  rcases h with h | ⟨b, off, rfl, hc⟩
  · subst h; exact .inl (by simp)
  · refine .inr ⟨b, off, rfl, fun i hi => ?_⟩
    rw [hc i (by simp at hi; omega)]
    simp
theorem VsAt.src (h : VsAt w a l) : SrcAt w a l := by
  rcases h with rfl | ⟨b, off, rfl, hc⟩
  · cases a with
    | none => exact .inl ⟨rfl, rfl⟩
    | some x => exact .inr ⟨x, rfl, fun j u hu => by simp at hu⟩
  · refine .inr ⟨_, rfl, fun j u hu => ?_⟩
    rw [Addr.add_lit]
    have hj : j < l.length := by
      rcases Nat.lt_or_ge j l.length with h' | h'
      · exact h'
      · rw [List.getElem?_eq_none h'] at hu; cases hu
    rw [hc j hj]
    simp [hj] at hu
    rw [hu]
theorem VsIn.below (h : VsIn w a l cap) (hb : Below w.heap.size w w') : VsIn w' a l cap := ⟨h.at_.below hb, h.le, h.max, h.nil⟩
theorem VsIn.next (h : VsIn w a l cap) (hb : Below w.heap.size w w') : VsIn w' a l cap := h.below hb
theorem VsIn.drew (h : VsIn w a l cap) : VsIn w.drew a l cap := ⟨h.at_, h.le, h.max, h.nil⟩
theorem owns_vsIn {base m : Nat} {e : TypeId} (hl : l.length = m) (h : w.ownsRow base e 1 (.slice a m cap) m l) : VsIn w a l cap := by
  obtain ⟨_, ⟨hv, h0⟩ | ⟨g, cap2, cur, hv, hg, hblk, hcap, hm, hsz, htake⟩⟩ := h
  · simp only [Value.slice.injEq] at hv
    obtain ⟨rfl, _, rfl⟩ := hv
    exact ⟨.inl (List.eq_nil_of_length_eq_zero (by omega)), by omega, by simp, fun _ => rfl⟩
  · simp only [Value.slice.injEq] at hv
    obtain ⟨rfl, _, rfl⟩ := hv
    have hblk : Blk w g cur e := hblk
    refine ⟨Or.inr ⟨_, _, rfl, fun i hi => ?_⟩, by omega, by unfold maxLen at hm; omega, fun h => by cases h⟩
    rw [Nat.zero_add, hblk.cell]
    rw [Nat.mul_one] at htake
    have h1 := congrArg (fun z : List Value => z[i]?) htake
    simp only [List.getElem?_take, show i < m by omega, if_true, Array.getElem?_toList] at h1
    rw [h1]
    simp [hi]
theorem vsAt_blk {b : Nat} {C : Array Value} {e : TypeId} (h : Blk w b C e) (hC : ∀ i (hi : i < l.length), C[i]? = some l[i]) : VsAt w (some ⟨b, 0, none⟩) l :=
  Or.inr ⟨_, _, rfl, fun i hi => by rw [Nat.zero_add, h.cell, hC i hi]⟩
end
theorem ownsRow_next {w w' : World} {B : Nat} {e : TypeId} {k : Nat} {v : Value} {n : Nat} {xs : List Value} (h : w.ownsRow B e k v n xs) (hb : Below w.heap.size w w') : w'.ownsRow B e k v n xs := by
  obtain ⟨h1, h2⟩ := h
  refine ⟨h1, ?_⟩
  rcases h2 with h2 | ⟨g, cap, cur, hv, hg, hh, r⟩
  · exact Or.inl h2
  · have hB : Blk w g cur e := hh
    exact Or.inr ⟨g, cap, cur, hv, hg, hB.next hb, r⟩
/-- Numbers of places as cells. -/
def nats (l : List Nat) : List Value := l.map fun (i : Nat) => .int .i64 (i : Int)
theorem nats_length (l : List Nat) : (nats l).length = l.length := by simp [nats]
theorem nats_append (a b : List Nat) : nats (a ++ b) = nats a ++ nats b := by simp [nats]
theorem nats_one {l : List Nat} : ∀ u ∈ nats l, u.oneCell' = true := fun u hu => by simp [nats] at hu; obtain ⟨x, _, rfl⟩ := hu; rfl
end Go.Proofs.Ytkljlgahdlgmpaa
