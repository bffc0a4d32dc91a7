/- The places that were told, in a slice of the call's own. -/
import Derived.Test.YtcpackbljaabnaaGreatDoorPoolLaw4
import Derived.Test.YtcpackbljaabnaaGreatDoorPoolDur
namespace Go.Proofs.YtcpackbljaabnaaGreatDoor
set_option linter.unusedVariables false
set_option linter.unusedSimpArgs false
set_option maxRecDepth 100000
open Go Go.RowKit

structure Told (w : World) (B : Nat) (G : Nat → Prop) (a : Option Addr) (n c : Nat) (xs : List Nat) : Prop where
  own : w.ownsRow B 3 1 (.slice a n c) n (nats xs)
  len : xs.length = n
  small : ∀ x ∈ xs, x ≤ 10000
  away : ∀ g, Value.ownBlock (.slice a n c) = some g → ¬ G g
section
variable {w w' : World} {B : Nat} {G G' : Nat → Prop} {a : Option Addr} {n c : Nat} {xs : List Nat}
theorem told_nil (w : World) (B : Nat) (G : Nat → Prop) : Told w B G none 0 0 [] := ⟨World.ownsRow_nil _ _ _ _, rfl, fun x hx => (by cases hx), fun g hg => (by cases hg)⟩
theorem Told.next (h : Told w B G a n c xs) (hb : Below w.heap.size w w') : Told w' B G a n c xs := ⟨ownsRow_next h.own hb, h.len, h.small, h.away⟩
theorem Told.turn (h : Told w B G a n c xs) (t : Turn w G w' G') : Told w' B G' a n c xs :=
  ⟨ownsRow_mod h.own t.mod h.away, h.len, h.small, fun g hg hk => by
    rcases t.new g hk with h2 | h2
    · exact h.away g hg h2
    · have := (h.own.lt g hg).2; omega⟩
theorem Told.get (h : Told w B G a n c xs) {j : Nat} (hj : j < n) : ∃ (b o x : Nat), a = some ⟨b, o, none⟩ ∧ w.cell? ⟨b, o + j, none⟩ = some (.int .i64 (x : Int)) ∧ x ∈ xs ∧ x ≤ 10000 ∧ xs[j]? = some x := by
  have hl := h.len
  have hv := owns_vsIn (by rw [nats_length]; exact hl) h.own
  obtain ⟨b, o, e, g⟩ := hv.nat (i := j) (by omega)
  exact ⟨b, o, xs[j], e, g, List.getElem_mem _, h.small _ (List.getElem_mem _), List.getElem?_eq_getElem _⟩
/-- One more is told. -/
theorem Told.push (h : Told w B G a n c xs) (hn : n ≤ 1000000) (hB : B ≤ w.heap.size) (hG : ∀ k, G k → k < w.heap.size) (x : Nat) (hx : x ≤ 10000) :
    ∃ g c2 w2, (appendB #[37, 37] 37 #[.slice a n c, .slice (some ⟨w.heap.size, 0, none⟩) 1 1]).run Tryz.prog (w.alloc (.cells #[.int .i64 (x : Int)] 3)) = .ok (.slice (some ⟨g, 0, none⟩) (n + 1) c2) w2 ∧
      Told w2 B G (some ⟨g, 0, none⟩) (n + 1) c2 (xs ++ [x]) ∧ Below B w w2 ∧ ∃ K : Nat → Prop, Mod K w w2 ∧ (∀ k, G k → ¬ K k) ∧ (∀ k, K k → B ≤ k) := by
  obtain ⟨g, c2, w2, h1, h2, h3, h4⟩ := push_nat2 B h.own hn hB x
  have hge : ∀ k, Value.ownBlock (.slice a n c) = some k → B ≤ k := fun k hk => (h.own.lt k hk).1
  refine ⟨g, c2, w2, h1, ⟨h2, by rw [List.length_append, h.len]; rfl, fun y hy => ?_, fun g' hg' hk => ?_⟩, h4.mod.below hB hge, _, h4.mod, fun k hk hk2 => h.away k hk2 hk, hge⟩
  · rcases List.mem_append.1 hy with hy | hy
    · exact h.small y hy
    · rw [List.mem_singleton.1 hy]; exact hx
  · simp only [Value.ownBlock, Option.some.injEq] at hg'
    subst hg'
    rcases h4.new _ rfl with h5 | h5
    · exact h.away _ h5 hk
    · have := hG _ hk; omega
end
theorem VsIn.turn {w w' : World} {G G' : Nat → Prop} {a : Option Addr} {l : List Value} {cap : Nat} (h : VsIn w a l cap) (ha : l ≠ [] → AwayS G a) (t : Turn w G w' G') : VsIn w' a l cap ∧ (l ≠ [] → AwayS G' a) := by
  by_cases e : l = []
  · exact ⟨⟨.inl e, h.le, h.max, h.nil⟩, fun h => absurd e h⟩
  · refine ⟨h.mod t.mod (ha e), fun _ y hy hk => ?_⟩
    have hl : 0 < l.length := List.length_pos_iff.2 e
    obtain ⟨b, o, e2, g⟩ := h.at_.cell hl
    have h2 := World.block_lt_of_cell? w _ g
    rw [hy] at e2
    cases e2
    rcases t.new _ hk with h3 | h3
    · exact ha e _ hy h3
    · dsimp only at h2 h3; omega
theorem mod4_cases (x : BitVec 8) : x % 4#8 = 0#8 ∨ x % 4#8 = 1#8 ∨ x % 4#8 = 2#8 ∨ x % 4#8 = 3#8 := by
  have h : (x % 4#8).toNat = x.toNat % 4 := by simp
  have h4 : x.toNat % 4 = 0 ∨ x.toNat % 4 = 1 ∨ x.toNat % 4 = 2 ∨ x.toNat % 4 = 3 := by omega
  rcases h4 with e | e | e | e
  · exact .inl (BitVec.eq_of_toNat_eq (by rw [h, e]; rfl))
  · exact .inr (.inl (BitVec.eq_of_toNat_eq (by rw [h, e]; rfl)))
  · exact .inr (.inr (.inl (BitVec.eq_of_toNat_eq (by rw [h, e]; rfl))))
  · exact .inr (.inr (.inr (BitVec.eq_of_toNat_eq (by rw [h, e]; rfl))))
theorem mod2_two (x : BitVec 8) : x % 2#8 = 0#8 ∨ x % 2#8 = 1#8 := by
  have h : (x % 2#8).toNat = x.toNat % 2 := by simp
  have h4 : x.toNat % 2 = 0 ∨ x.toNat % 2 = 1 := by omega
  rcases h4 with e | e
  · exact .inl (BitVec.eq_of_toNat_eq (by rw [h, e]; rfl))
  · exact .inr (BitVec.eq_of_toNat_eq (by rw [h, e]; rfl))
end Go.Proofs.YtcpackbljaabnaaGreatDoor
