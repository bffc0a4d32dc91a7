/- Small laws of values for the walks. -/
import Derived.Test.YtkljlgahdlgmpaaEng
import Derived.Test.YtkljlgahdlgmpaaUv
import Derived.Deep.OwnRows
namespace Go.Proofs.Ytkljlgahdlgmpaa
open Go Go.RowKit

section
variable {P : Program} (w : World) (ts : Array TypeId) (t : TypeId) (k k1 k2 k3 : IntKind) (x y z u : Int)
theorem run_min2 : (Builtin.min_ ts t #[.int k x, .int k1 y]).run P w = .ok (.int k (min x y)) w := by
  have e : (if y < x then y else x) = min x y := by omega
  simp [Builtin.min_, Builtin.min2, e]
theorem run_min3 : (Builtin.min_ ts t #[.int k x, .int k1 y, .int k2 z]).run P w = .ok (.int k (min x (min y z))) w := by
  have e : (if y < x then y else x) = min x y := by omega
  have e2 : (if z < min x y then z else min x y) = min x (min y z) := by omega
  simp [Builtin.min_, Builtin.min2, e, e2]
theorem run_min4 : (Builtin.min_ ts t #[.int k x, .int k1 y, .int k2 z, .int k3 u]).run P w = .ok (.int k (min x (min y (min z u)))) w := by
  have e : (if y < x then y else x) = min x y := by omega
  have e2 : (if z < min x y then z else min x y) = min x (min y z) := by omega
  have e3 : (if u < min x (min y z) then u else min x (min y z)) = min x (min y (min z u)) := by omega
  simp [Builtin.min_, Builtin.min2, e, e2, e3]
theorem run_max2 : (Builtin.max_ ts t #[.int k x, .int k1 y]).run P w = .ok (.int k (max x y)) w := by
  have e : (if x < y then y else x) = max x y := by omega
  simp [Builtin.max_, Builtin.max2, e]
theorem addr_zero (a : Addr) : a.add 0 = a := rfl
/-- make([]T, n), elements of one cell: the zero value n times, in a new block. -/
theorem run_make_n {t e : TypeId} {z : Value} {bytes : Nat} (ht : P.underlying t = some (.slice e)) (hinfo : (P.info? e).map (fun i => (i.zero, i.size, i.bytes)) = some (some z, 1, bytes)) (hz1 : z.cells = #[z])
    (kl kc : IntKind) (n : Nat) (hbytes : bytes * n ≤ 281474976710656) (h63 : n ≤ 9223372036854775807) (w : World) :
    (Instr.makeSlice t (.int kl (n : Int)) (.int kc (n : Int))).run P w = .ok (.slice (some ⟨w.heap.size, 0, none⟩) n n) (w.alloc (.cells (Array.replicate n z) e)) := by
  rw [run_make_row' t e z bytes ht hinfo hz1 kl kc n hbytes h63 w]
  congr 3
  apply Array.ext
  · simp [madeCells]
  · intro i h1 h2
    simp [madeCells, Nat.mod_one]
end
/-- Both ways yield a truth: one value. -/
theorem ok_ite_bool (c : Prop) [Decidable c] (x y : Bool) (w : World) : (if c then (Result.ok (Next.value (Value.bool x)) w) else (Result.ok (Next.value (Value.bool y)) w)) = Result.ok (Next.value (Value.bool (if c then x else y))) w := by split <;> rfl
attribute [go_sem] ok_ite_bool
attribute [go_sem high] run_min2 run_min3 run_min4 run_max2
attribute [go_sem] addr_zero Option.map_id' ite_self

/-! ### A block of the call's own -/
/-- Block b holds the cells C, none of them frozen. -/
def Blk (w : World) (b : Nat) (C : Array Value) (e : TypeId) : Prop := w.heap[b]? = some (.cells C e (0, 0))
section
variable {w : World} {b : Nat} {C : Array Value} {e : TypeId}
theorem Blk.lt (h : Blk w b C e) : b < w.heap.size := by
  rcases Nat.lt_or_ge b w.heap.size with h' | h'
  · exact h'
  · unfold Blk at h; rw [Array.getElem?_eq_none h'] at h; cases h
theorem Blk.cell (h : Blk w b C e) (i : Nat) : w.cell? ⟨b, i, none⟩ = C[i]? := by
  show (match w.heap[b]? with | some (.cells c _ _) => if (none : Option Nat).isSome then none else c[i]? | _ => none) = _
  rw [show w.heap[b]? = _ from h]; rfl
theorem Blk.thaw (h : Blk w b C e) (i : Nat) : w.frozen? ⟨b, i, none⟩ = false := by
  show (match w.heap[b]? with | some (.cells _ _ (lo, hi)) => decide (lo ≤ i) && decide (i < hi) | _ => false) = _
  rw [show w.heap[b]? = _ from h]; simp
theorem Blk.set (h : Blk w b C e) (i : Nat) (v : Value) : Blk (w.setCell ⟨b, i, none⟩ v) b (C.setIfInBounds i v) e := by
  unfold Blk at h ⊢
  simp [World.setCell, Array.getElem?_modify, h]
theorem Blk.setOther (h : Blk w b C e) {a : Addr} (ha : a.block ≠ b) (v : Value) : Blk (w.setCell a v) b C e := by
  unfold Blk at h ⊢
  rw [← h]
  simp only [World.setCell, Array.getElem?_modify]
  rw [if_neg ha]
theorem Blk.alloc (h : Blk w b C e) (o : Obj) : Blk (w.alloc o) b C e := by
  have := h.lt
  unfold Blk at h ⊢
  rw [← h]
  show (w.heap.push o)[b]? = _
  rw [Array.getElem?_push, if_neg (by omega)]
theorem Blk.drew (h : Blk w b C e) : Blk w.drew b C e := h
theorem new_facts {w w' : World} {C : Array Value} {e : TypeId} (h : w.alloc (.cells C e) = w') : Blk w' w.heap.size C e ∧ Below w.heap.size w w' ∧ w'.heap.size = w.heap.size + 1 := by
  subst h
  refine ⟨?_, (Below.refl _ _).alloc (Nat.le_refl _) _, by simp⟩
  show (w.heap.push _)[w.heap.size]? = _
  rw [Array.getElem?_push_size]
theorem Blk.new (w : World) (C : Array Value) (e : TypeId) : Blk (w.alloc (.cells C e)) w.heap.size C e := by
  show (w.heap.push _)[w.heap.size]? = _
  rw [Array.getElem?_push_size]
theorem Blk.next {w' : World} (h : Blk w b C e) (hb : Below w.heap.size w w') : Blk w' b C e := (hb.block b h.lt).trans h
theorem Blk.below {w' : World} {B : Nat} (h : Blk w b C e) (hb : Below B w w') (hB : b < B) : Blk w' b C e := (hb.block b hB).trans h
end
end Go.Proofs.Ytkljlgahdlgmpaa
