/- What a call may turn: the blocks of a set, and new ones. -/
import Derived.Test.YtkljlgahdlgmpaaEng
import Derived.Test.YtkljlgahdlgmpaaVal
import Derived.Test.YtkljlgahdlgmpaaVs
import Derived.Test.YtkljlgahdlgmpaaWords
import Derived.Test.YtkljlgahdlgmpaaAgg
namespace Go.Proofs.Ytkljlgahdlgmpaa
open Go Go.RowKit

/-- Of the blocks that were there, those outside F are as they were. -/
structure Mod (F : Nat → Prop) (w w' : World) : Prop where
  os : w'.os = w.os
  tape : w'.tape = w.tape
  output : w'.output = w.output
  size : w.heap.size ≤ w'.heap.size
  block : ∀ k, k < w.heap.size → ¬ F k → w'.heap[k]? = w.heap[k]?
section
variable {F G : Nat → Prop} {w w1 w2 w' : World}
theorem Mod.refl (F : Nat → Prop) (w : World) : Mod F w w := ⟨rfl, rfl, rfl, Nat.le_refl _, fun _ _ _ => rfl⟩
theorem Mod.trans (h : Mod F w w1) (k : Mod G w1 w2) (hG : ∀ k, G k → k < w.heap.size → F k) : Mod F w w2 :=
  ⟨k.os.trans h.os, k.tape.trans h.tape, k.output.trans h.output, Nat.le_trans h.size k.size,
    fun i hi hF => (k.block i (Nat.lt_of_lt_of_le hi h.size) (fun hg => hF (hG i hg hi))).trans (h.block i hi hF)⟩
theorem Mod.mono (h : Mod F w w') (hG : ∀ k, F k → k < w.heap.size → G k) : Mod G w w' := ⟨h.os, h.tape, h.output, h.size, fun i hi hg => h.block i hi fun hf => hg (hG i hf hi)⟩
theorem Mod.of (h : Below w.heap.size w w') : Mod F w w' := ⟨h.os, h.tape, h.output, h.size, fun i hi _ => h.block i hi⟩
theorem Mod.below {B : Nat} (h : Mod F w w') (hB : B ≤ w.heap.size) (hF : ∀ k, F k → B ≤ k) : Below B w w' :=
  ⟨h.os, h.tape, h.output, h.size, fun i hi => h.block i (by omega) (fun hf => by have := hF i hf; omega)⟩
theorem Mod.drew (h : Mod F w w') : Mod F w w'.drew := ⟨h.os, h.tape, h.output, h.size, h.block⟩
theorem Mod.alloc (h : Mod F w w') (o : Obj) : Mod F w (w'.alloc o) :=
  h.trans (Mod.of (F := fun _ => False) ((Below.refl _ _).alloc (Nat.le_refl _) o)) (fun _ h _ => h.elim)
theorem Mod.setCell (h : Mod F w w') {a : Addr} (ha : F a.block ∨ w.heap.size ≤ a.block) (v : Value) : Mod F w (w'.setCell a v) :=
  ⟨h.os, h.tape, h.output, by have := h.size; simpa [World.setCell] using this, fun k hk hF => by
    rw [Below.heap_setCell _ _ _ _ (by rintro rfl; rcases ha with h | h; exact hF h; omega)]; exact h.block k hk hF⟩
theorem Mod.row (h : Mod F w w') {g : Nat} (hg : F g ∨ w.heap.size ≤ g) (C : Array Value) : Mod F w (w'.setRow g C) :=
  ⟨h.os, h.tape, h.output, by have := h.size; simpa using this, fun k hk hF => by
    rw [setRow_other w' g k C (by rintro rfl; rcases hg with h | h; exact hF h; omega)]; exact h.block k hk hF⟩
theorem Mod.grown (h : Mod F w w') {w2 : World} {row : Option Nat} (hg : w'.grownBy w2 row) (hr : ∀ k, row = some k → F k ∨ w.heap.size ≤ k) : Mod F w w2 :=
  ⟨hg.os.trans h.os, hg.tape.trans h.tape, hg.output.trans h.output, Nat.le_trans h.size hg.size, fun k hk hF =>
    (hg.block k (Nat.lt_of_lt_of_le hk h.size) (fun e => by rcases hr k e.symm with h | h; exact hF h; omega)).trans (h.block k hk hF)⟩
theorem Blk.mod {b : Nat} {C : Array Value} {e : TypeId} (h : Blk w b C e) (hm : Mod F w w') (hF : ¬ F b) : Blk w' b C e := (hm.block b h.lt hF).trans h
/-- Outside a set all that a slice reads is as it was. -/
theorem VsAt.mod {a : Option Addr} {l : List Value} (h : VsAt w a l) (hm : Mod F w w') (hF : ∀ b, (∃ o, a = some ⟨b, o, none⟩) → ¬ F b) : VsAt w' a l := by
  rcases h with h | ⟨b, off, rfl, hc⟩
  · exact .inl h
  · refine .inr ⟨b, off, rfl, fun i hi => ?_⟩
    have h1 := hc i hi
    rw [← h1]
    exact World.cell?_of_block (w := w) (hm.block b (World.block_lt_of_cell? w _ h1) (hF b ⟨off, rfl⟩))
theorem SlAt.mod {n : Nat} {k : IntKind} {a : Option Addr} {l : List (BitVec n)} (h : SlAt k w a l) (hm : Mod F w w') (hF : ∀ b, (∃ o, a = some ⟨b, o, none⟩) → ¬ F b) : SlAt k w' a l := by
  rcases h with h | ⟨b, off, rfl, hc⟩
  · exact .inl h
  · refine .inr ⟨b, off, rfl, fun i hi => ?_⟩
    have h1 := hc i hi
    rw [← h1]
    exact World.cell?_of_block (w := w) (hm.block b (World.block_lt_of_cell? w _ h1) (hF b ⟨off, rfl⟩))
end
end Go.Proofs.Ytkljlgahdlgmpaa
