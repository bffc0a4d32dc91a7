/- Sets: maps to truths. -/
import Derived.Test.YtkljlgahdlgmpaaBase
import Derived.Test.YtkljlgahdlgmpaaMod
import Derived.Maps.OwnSet
import Derived.Maps.Views
import Derived.StringKeys
import Derived.Carry
namespace Go.Proofs.Ytkljlgahdlgmpaa
open Go Go.RowKit Go.Maps

/-- Block b is a set of at most n keys: those where f is true. -/
def SetAt (w : World) (k : TypeId) (b n : Nat) (f : Lit → Bool) : Prop :=
  ∃ D : DataW Unit, w.ownsMap Try.prog k (plainElem Try.prog 4) b n D ∧ ∀ kl, WideAt.IsKeyLit kl → D.atKey kl (.lit (.bool false)) = .lit (.bool (f kl))
section
variable {w w' : World} {k : TypeId} {b n : Nat} {f : Lit → Bool}
theorem SetAt.lt (h : SetAt w k b n f) : b < w.heap.size := by obtain ⟨_, h, _⟩ := h; exact h.lt
theorem SetAt.kept {row : Option Nat} (h : SetAt w k b n f) (hg : w.grownBy w' row) (hne : some b ≠ row) : SetAt w' k b n f := by
  obtain ⟨D, h, hf⟩ := h; exact ⟨D, h.kept hg hne, hf⟩
theorem SetAt.mod {F : Nat → Prop} (h : SetAt w k b n f) (hm : Mod F w w') (hF : ¬ F b) : SetAt w' k b n f := by
  obtain ⟨D, ⟨es, clock, hb, r⟩, hf⟩ := h
  exact ⟨D, ⟨es, clock, (hm.block b (Array.getElem?_eq_some_iff.1 hb).1 hF).trans hb, r⟩, hf⟩
theorem SetAt.next (h : SetAt w k b n f) (hb : Below w.heap.size w w') : SetAt w' k b n f := h.mod (Mod.of (F := fun _ => False) hb) (fun h => h)
theorem SetAt.drew (h : SetAt w k b n f) : SetAt w.drew k b n f := h.next ((Below.refl _ _).drew)
theorem set_made (w : World) (k : TypeId) : SetAt (w.alloc (.map #[] 0)) k w.heap.size 0 (fun _ => false) := ⟨.map [], World.ownsMap_made w Try.prog k _, fun _ _ => rfl⟩
theorem plainElem_bool_inv {P : Program} {e : TypeId} (he : P.underlying e = some .bool) {v : Value} {z : DataW Unit × List MemPlace} (h : plainElem P e v = some z) : ∃ x, v = .bool x ∧ z = (.lit (.bool x), []) := by
  unfold plainElem at h
  rw [he] at h
  cases v <;> simp at h
  rename_i x
  exact ⟨x, rfl, h.symm⟩
theorem SetAt.look {t : TypeId} (h : SetAt w k b n f) (K : Keyed Try.prog k) (ht : Try.prog.underlying t = some (.map k 4)) {key : Value} {kl : Lit} (hkey : keyOf Try.prog k key = some kl) (hkl : WideAt.IsKeyLit kl) :
    (Instr.lookup t (.map (some b)) key false).run Try.prog w = .ok (.bool (f kl)) w := by
  obtain ⟨D, h, hf⟩ := h
  obtain ⟨v, ps, hr, hv⟩ := h.lookup K ht (Try.zeroValue4 w) (plainElem_bool Try.underlying4 false) hkey
  obtain ⟨x, rfl, hx⟩ := plainElem_bool_inv Try.underlying4 hv
  rw [hf kl hkl] at hx
  simp only [Prod.mk.injEq, DataW.lit.injEq, Lit.bool.injEq] at hx
  rw [hr, hx.1]
open Classical in
theorem SetAt.put {t : TypeId} (h : SetAt w k b n f) (K : Keyed Try.prog k) (ht : Try.prog.underlying t = some (.map k 4)) (hn : n < maxLen) {key : Value} {kl : Lit} (hkey : keyOf Try.prog k key = some kl) (hkl : WideAt.IsKeyLit kl) :
    ∃ w', (Instr.mapUpdate t (.map (some b)) key (.bool true)).run Try.prog w = .ok () w' ∧ SetAt w' k b (n + 1) (fun z => if z = kl then true else f z) ∧ w.grownBy w' (some b) := by
  obtain ⟨D, h, hf⟩ := h
  have hm := h.isMap
  obtain ⟨w', hr, ho, hg⟩ := h.update K ht hn hkey (plainElem_bool Try.underlying4 true)
  refine ⟨w', hr, ⟨_, ho, fun z hz => ?_⟩, hg⟩
  show _ = DataW.lit (Lit.bool (if z = kl then true else f z))
  by_cases e : z = kl
  · subst e; rw [if_pos rfl]; exact atKey_put_same hm hkl _ _
  · rw [if_neg e, atKey_put_other e]; exact hf z hz
end
theorem keyI {z : Int} (h : -9223372036854775808 ≤ z ∧ z ≤ 9223372036854775807) : keyOf Try.prog 3 (.int .i64 z) = some (.int .i64 z) :=
  keyOf_int_mk Try.underlying3 (by simpa [Lit.wf, IntKind.min, IntKind.max, IntKind.signed, IntKind.bits] using h)
end Go.Proofs.Ytkljlgahdlgmpaa
