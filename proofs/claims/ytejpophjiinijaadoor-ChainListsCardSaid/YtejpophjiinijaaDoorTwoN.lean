/- Two devices; one that goes down. -/
import Derived.Test.YtejpophjiinijaaDoorDevN
import Derived.Test.YtejpophjiinijaaDoorBytes
namespace Go.Proofs.YtejpophjiinijaaDoor
set_option linter.unusedVariables false
set_option linter.unusedSimpArgs false
set_option maxRecDepth 100000
open Go Go.RowKit

/-- A device that goes down behind k steps, and one that does not. -/
structure Sim (k : Nat) (D E : NM.Dv) : Prop where
  ls : E.ls = D.ls
  steps : E.steps = D.steps
  up : E.Up
  le : D.steps ≤ k
  left : D.left = (k : Int) - D.steps
  down : D.down = true ↔ D.steps = k
namespace NM
theorem sim_done {k : Nat} {D E D0 E0 : Dv} (h : Sim k D E) (hlt : D.steps < k) (hl : E0.ls = D0.ls) (hD : D0.steps = D.steps ∧ D0.left = D.left ∧ D0.down = D.down) (hE : E0.steps = E.steps ∧ E0.left = E.left ∧ E0.down = E.down) : Sim k D0.done E0.done := by
  have h1 := h.left
  have h2 := h.steps
  have h3 := h.up.left
  have h4 := h.up.down
  refine ⟨hl, by simp only [Dv.done]; omega, ⟨?_, ?_⟩, by simp only [Dv.done]; omega, ?_, ?_⟩
  · simp only [Dv.done]; rw [if_neg (by omega), hE.2.2]; exact h4
  · simp only [Dv.done]; rw [if_neg (by omega), hE.2.1]; exact h3
  · simp only [Dv.done]; rw [if_pos (by omega)]; omega
  · simp only [Dv.done]; rw [if_pos (by omega), decide_eq_true_iff]; omega
theorem sim_ask {k : Nat} {D E : Dv} (h : Sim k D E) (hlt : D.steps < k) (off each : Int) : D.ask off each = E.ask off each := by
  have h1 : D.down = false := by
    cases hd : D.down with
    | false => rfl
    | true => have := h.down.1 hd; omega
  unfold Dv.ask Dv.size
  rw [h.ls, h1, h.up.down]
theorem sim_ln {k : Nat} {D E : Dv} (h : Sim k D E) (i : Nat) : E.ln i = D.ln i := by unfold Dv.ln; rw [h.ls]
theorem sim_store {k : Nat} {D E : Dv} (h : Sim k D E) (hlt : D.steps < k) (off : Int) (n : BitVec 64) : Sim k (D.store off n).1 (E.store off n).1 := by
  have ha := sim_ask h hlt off 8
  unfold Dv.store
  rw [ha]
  have hw : ∀ o, E.word o = D.word o := fun o => by unfold Dv.word; rw [sim_ln h]
  split
  · simp only [hw, sim_ln h]
    split
    · exact sim_done h hlt h.ls ⟨rfl, rfl, rfl⟩ ⟨rfl, rfl, rfl⟩
    · exact sim_done h hlt (by simp [Dv.setLn, h.ls]) ⟨rfl, rfl, rfl⟩ ⟨rfl, rfl, rfl⟩
  · exact h
theorem sim_flush {k : Nat} {D E : Dv} (h : Sim k D E) (hlt : D.steps < k) (off : Int) : Sim k (D.flush off).1 (E.flush off).1 := by
  have ha := sim_ask h hlt off 1
  unfold Dv.flush
  rw [ha]
  split
  · simp only [sim_ln h]
    exact sim_done h hlt (by simp [Dv.setLn, h.ls]) ⟨rfl, rfl, rfl⟩ ⟨rfl, rfl, rfl⟩
  · exact h
theorem sim_fence {k : Nat} {D E : Dv} (h : Sim k D E) (hlt : D.steps < k) : Sim k D.fence.1 E.fence.1 := by
  have ha := sim_ask h hlt 0 1
  unfold Dv.fence
  rw [ha]
  split
  · exact sim_done h hlt (by simp [h.ls]) ⟨rfl, rfl, rfl⟩ ⟨rfl, rfl, rfl⟩
  · exact h
theorem down_ask {D : Dv} (hp : 0 < D.ls.length) (hd : D.down = true) (off each : Int) : D.ask off each = 12 := by
  unfold Dv.ask; rw [if_neg (by omega), hd]; rfl
theorem down_store {D : Dv} (hp : 0 < D.ls.length) (hd : D.down = true) (off : Int) (n : BitVec 64) : D.store off n = (D, 12) := by unfold Dv.store; rw [down_ask hp hd]; rfl
theorem down_load {D : Dv} (hp : 0 < D.ls.length) (hd : D.down = true) (off : Int) : D.load off = (0#64, 12) := by unfold Dv.load; rw [down_ask hp hd]; rfl
theorem down_flush {D : Dv} (hp : 0 < D.ls.length) (hd : D.down = true) (off : Int) : D.flush off = (D, 12) := by unfold Dv.flush; rw [down_ask hp hd]; rfl
theorem down_fence {D : Dv} (hp : 0 < D.ls.length) (hd : D.down = true) : D.fence = (D, 12) := by unfold Dv.fence; rw [down_ask hp hd]; rfl
theorem sim_start (n k : Nat) (hn : 0 < n) : Sim k ((dev0 n).stop k) (dev0 n) := by
  unfold Dv.stop
  rw [if_neg (by simp [dev0]; omega)]
  refine ⟨rfl, rfl, dev0_up n, Nat.zero_le _, ?_, ?_⟩
  · simp only [dev0]; omega
  · simp only [dev0]; rw [decide_eq_true_iff]; omega
theorem sim_crash {k : Nat} {D E : Dv} (h : Sim k D E) (hp : 0 < D.ls.length) (ps : List (BitVec 8)) : E.crash ps = D.crash ps := by
  have h1 := h.ls
  have h2 := h.steps
  unfold Dv.crash
  rw [h1, if_neg (by omega), if_neg (by omega), h2]
theorem fence_up {D : Dv} (hu : D.Up) (hp : 0 < D.ls.length) : D.fence.2 = 0 := by
  have ha : D.ask 0 1 = 0 := by
    rw [ask_up hu hp, if_neg]
    unfold Dv.size
    rintro (h | h | h)
    · omega
    · omega
    · exact h (Int.tmod_one _)
  unfold Dv.fence; rw [if_pos ha]
end NM
/-- Two devices, apart. -/
structure St2 (W w : World) (p q : Nat) (F G : Nat → Prop) (D E : NM.Dv) : Prop where
  one : St W w p F D
  two : St W w q G E
  apart : ∀ k, F k → ¬ G k
section
variable {W w w' : World} {p q : Nat} {F F' G G' : Nat → Prop} {D D' E E' : NM.Dv}
theorem St2.first (h : St2 W w p q F G D E) (hd : DevB w' p F' D') (ht : Turn w F w' F') : St2 W w' p q F' G D' E := by
  obtain ⟨h1, h2⟩ := h.two.dev.other ht h.apart
  have h3 := h.one.step hd ht
  exact ⟨h3, ⟨h1, h3.bel, h.two.ge⟩, h2⟩
theorem St2.second (h : St2 W w p q F G D E) (hd : DevB w' q G' E') (ht : Turn w G w' G') : St2 W w' p q F G' D E' := by
  obtain ⟨h1, h2⟩ := h.one.dev.other ht (fun k hg hf => h.apart k hf hg)
  have h3 := h.two.step hd ht
  exact ⟨⟨h1, h3.bel, h.one.ge⟩, h3, fun k hf hg => h2 k hg hf⟩
theorem St2.next (h : St2 W w p q F G D E) (hb : Below w.heap.size w w') : St2 W w' p q F G D E := ⟨h.one.next hb, h.two.next hb, h.apart⟩
theorem St.drew (h : St W w p F D) : St W w.drew p F D := h.next ((Below.refl _ _).drew)
theorem St2.drew (h : St2 W w p q F G D E) : St2 W w.drew p q F G D E := h.next ((Below.refl _ _).drew)
/-- Bytes that came in lie apart from a device of ours. -/
theorem sepIn {a : Option Addr} {ps : List (BitVec 8)} {c : Nat} (h : SlIn .u8 W a ps c) (hF : ∀ k, F k → W.heap.size ≤ k) : ps ≠ [] → ∀ y, a = some y → ¬ F y.block := by
  intro h0 y hy hf
  rcases h.at_ with h1 | ⟨b, o, ha, hc⟩
  · exact h0 h1
  · rw [hy] at ha
    obtain rfl : y = _ := Option.some.inj ha
    have h2 := World.block_lt_of_cell? W _ (hc 0 (List.length_pos_iff.2 h0))
    have h3 := hF _ hf
    simp at h2 h3
    omega
end
/-- What an image is as text, wherever nothing turned it. -/
theorem img_str {w w' : World} {a : Option Addr} {l : List (BitVec 8)} {c n : Nat} (h : SlIn .u8 w a l c) (hn : n = l.length) (hb : Below w.heap.size w w') : (convert 64 9 (.slice a n c)).run Tryd.prog w' = .ok (.string (strB l)) w' :=
  conv_str (h.next hb).at_ hn c (fun h0 => by have := h.nil h0; have := h.le; omega)

end Go.Proofs.YtejpophjiinijaaDoor
