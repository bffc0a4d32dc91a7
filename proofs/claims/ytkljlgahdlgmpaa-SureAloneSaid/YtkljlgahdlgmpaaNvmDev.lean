/- A device as a whole: its state, its blocks, what a step turns. -/
import Derived.Test.YtkljlgahdlgmpaaNvmWalk9
namespace Go.Proofs.Ytkljlgahdlgmpaa
open Go Go.RowKit

/-- Behind pointer p lies device D; its blocks are F. -/
def DevB (w : World) (p : Nat) (F : Nat → Prop) (D : NM.Dv) : Prop := ∃ lb S, DevAt w p lb D S ∧ F = DevF p lb D S ∧ D.Ok
/-- From w to w': of what was there, F alone was turned; F' is F, or new. -/
structure Turn (w : World) (F : Nat → Prop) (w' : World) (F' : Nat → Prop) : Prop where
  mod : Mod F w w'
  new : ∀ k, F' k → F k ∨ w.heap.size ≤ k
section
variable {w w1 w' : World} {F F1 F' G : Nat → Prop} {p q : Nat} {D E : NM.Dv} {B : Nat}
theorem Turn.refl (w : World) (F : Nat → Prop) : Turn w F w F := ⟨Mod.refl _ _, fun _ h => .inl h⟩
theorem Turn.trans (h : Turn w F w1 F1) (k : Turn w1 F1 w' F') : Turn w F w' F' :=
  ⟨h.mod.trans k.mod (fun i hi hlt => by rcases h.new i hi with h2 | h2; exact h2; omega), fun i hi => by
    rcases k.new i hi with h2 | h2
    · exact h.new i h2
    · right; have := h.mod.size; omega⟩
theorem Turn.of (h : Below w.heap.size w w') : Turn w F w' F := ⟨Mod.of h, fun _ h => .inl h⟩
theorem Turn.size (h : Turn w F w' F') : w.heap.size ≤ w'.heap.size := h.mod.size
theorem Turn.below (h : Turn w F w' F') (hB : B ≤ w.heap.size) (hF : ∀ k, F k → B ≤ k) : Below B w w' := h.mod.below hB hF
theorem Turn.ge (h : Turn w F w' F') (hB : B ≤ w.heap.size) (hF : ∀ k, F k → B ≤ k) : ∀ k, F' k → B ≤ k := fun k hk => by
  rcases h.new k hk with h2 | h2
  · exact hF k h2
  · omega
theorem DevB.lt (h : DevB w p F D) : ∀ k, F k → k < w.heap.size := by
  obtain ⟨lb, S, hA, rfl, _⟩ := h
  exact hA.lt
theorem DevB.ok (h : DevB w p F D) : D.Ok := by obtain ⟨_, _, _, _, h⟩ := h; exact h
theorem DevB.pos (h : DevB w p F D) : 0 < D.ls.length := by obtain ⟨_, _, h, _⟩ := h; exact h.pos
/-- Another device is left as it was. -/
theorem DevB.other (h : DevB w q G E) (ht : Turn w F w' F') (hd : ∀ k, F k → ¬ G k) : DevB w' q G E ∧ (∀ k, F' k → ¬ G k) := by
  have hlt := h.lt
  obtain ⟨lb, S, hA, rfl, hok⟩ := h
  refine ⟨⟨lb, S, hA.mod ht.mod (fun k hg hf => hd k hf hg), rfl, hok⟩, fun k hk hg => ?_⟩
  rcases ht.new k hk with h2 | h2
  · exact hd k h2 hg
  · have := hlt k hg; omega
theorem DevB.next (h : DevB w p F D) (hb : Below w.heap.size w w') : DevB w' p F D := by
  obtain ⟨lb, S, hA, rfl, hok⟩ := h
  exact ⟨lb, S, hA.next hb, rfl, hok⟩
theorem DevB.drew (h : DevB w p F D) : DevB w.drew p F D := h.next ((Below.refl _ _).drew)
theorem devB_step {lb : Nat} {S : Nat → Spot} {D' : NM.Dv} (h : DevStep w p lb D S D' w') (hok : D'.Ok) : ∃ F', DevB w' p F' D' ∧ Turn w (DevF p lb D S) w' F' := by
  obtain ⟨S', hA, hm, hw⟩ := h
  exact ⟨_, ⟨lb, S', hA, rfl, hok⟩, hm, hw⟩
end

/-! ### The calls -/
section
variable {p : Nat} {F : Nat → Prop} {D : NM.Dv}
theorem sizeB (w : World) (h : DevB w p F D) : Ret Try.prog 26 #[.pointer (some ⟨p, 0, none⟩)] w fun v w' => v = .int .i64 (D.size : Int) ∧ w' = w := by
  obtain ⟨lb, S, hA, rfl, _⟩ := h; exact size_calls w hA
theorem stepsB (w : World) (h : DevB w p F D) : Ret Try.prog 25 #[.pointer (some ⟨p, 0, none⟩)] w fun v w' => v = .int .i64 (D.steps : Int) ∧ w' = w := by
  obtain ⟨lb, S, hA, rfl, _⟩ := h; exact steps_calls w hA
theorem mayB (i : Int) (w : World) (h : DevB w p F D) (hc : D.steps < 1099511627776) : Ret Try.prog 21 #[.pointer (some ⟨p, 0, none⟩), .int .i64 i] w fun v w' => v = .int .i64 (D.may i) ∧ w' = w := by
  obtain ⟨lb, S, hA, rfl, hok⟩ := h; exact may_calls i w hA hc hok
theorem loadB (off : Int) (w : World) (h : DevB w p F D) (ho : I64 off) : Ret Try.prog 23 #[.pointer (some ⟨p, 0, none⟩), .int .i64 off] w fun v w' => v = .tuple #[.int .u64 (uv (D.load off).1), .int .i64 (D.load off).2] ∧ w' = w := by
  obtain ⟨lb, S, hA, rfl, _⟩ := h; exact load_calls off w hA ho
theorem storeB (off : Int) (n : BitVec 64) (w : World) (h : DevB w p F D) (ho : I64 off) (hc : D.steps < 1099511627776) : Ret Try.prog 22 #[.pointer (some ⟨p, 0, none⟩), .int .i64 off, .int .u64 (uv n)] w fun v w' => v = .int .i64 (D.store off n).2 ∧ ∃ F', DevB w' p F' (D.store off n).1 ∧ Turn w F w' F' := by
  obtain ⟨lb, S, hA, rfl, hok⟩ := h
  exact (store_calls off n w hA ho hc hok).mono fun v w' h => ⟨h.1, devB_step h.2 (hok.store off n)⟩
theorem flushB (off : Int) (w : World) (h : DevB w p F D) (ho : I64 off) (hc : D.steps < 1099511627776) : Ret Try.prog 17 #[.pointer (some ⟨p, 0, none⟩), .int .i64 off] w fun v w' => v = .int .i64 (D.flush off).2 ∧ ∃ F', DevB w' p F' (D.flush off).1 ∧ Turn w F w' F' := by
  obtain ⟨lb, S, hA, rfl, hok⟩ := h
  exact (flush_calls off w hA ho hc hok).mono fun v w' h => ⟨h.1, devB_step h.2 (hok.flush off)⟩
theorem fenceB (w : World) (h : DevB w p F D) (hc : D.steps < 1099511627776) : Ret Try.prog 18 #[.pointer (some ⟨p, 0, none⟩)] w fun v w' => v = .int .i64 D.fence.2 ∧ ∃ F', DevB w' p F' D.fence.1 ∧ Turn w F w' F' := by
  obtain ⟨lb, S, hA, rfl, hok⟩ := h
  exact (fence_calls w hA hc hok).mono fun v w' h => ⟨h.1, devB_step h.2 hok.fence⟩
theorem stopB (after : Int) (w : World) (h : DevB w p F D) (ha : after ≤ 9223372036854775807) : Ret Try.prog 24 #[.pointer (some ⟨p, 0, none⟩), .int .i64 after] w fun v w' => v = .tuple #[] ∧ ∃ F', DevB w' p F' (D.stop after) ∧ Turn w F w' F' := by
  obtain ⟨lb, S, hA, rfl, hok⟩ := h
  refine (stop_calls after w hA ha).mono fun v w' h => ⟨h.1, _, ⟨lb, S, h.2.1, rfl, hok.stop after ha⟩, h.2.2.1.mono (fun k hk _ => .inl hk), fun k hk => .inl ?_⟩
  have e : (D.stop after).ls = D.ls := by unfold NM.Dv.stop; split <;> rfl
  rcases hk with hk | hk | ⟨i, hi, hk⟩
  · exact .inl hk
  · exact .inr (.inl hk)
  · rw [e] at hi
    have e2 : (D.stop after).ln i = D.ln i := by unfold NM.Dv.ln; rw [e]
    rw [e2] at hk
    exact .inr (.inr ⟨i, hi, hk⟩)
theorem crashB (a : Option Addr) (c : Nat) (ps : List (BitVec 8)) (w : World) (h : DevB w p F D) (hin : SlIn .u8 w a ps c) (hsep : ps ≠ [] → ∀ y, a = some y → ¬ F y.block) (hc : D.steps < 1099511627776) : Ret Try.prog 20 #[.pointer (some ⟨p, 0, none⟩), .slice a ps.length c] w fun v w' => v = .tuple #[] ∧ ∃ F', DevB w' p F' (D.crash ps) ∧ Turn w F w' F' := by
  obtain ⟨lb, S, hA, rfl, hok⟩ := h
  exact (crash_calls a c ps w hA hin (fun h0 y hy => ⟨fun e => hsep h0 y hy (.inl e), fun e => hsep h0 y hy (.inr (.inl e))⟩) hc hok).mono fun v w' h => ⟨h.1, devB_step h.2 (hok.crash ps)⟩
theorem imageB (w : World) (h : DevB w p F D) : Ret Try.prog 19 #[.pointer (some ⟨p, 0, none⟩)] w fun v w' => ∃ a c, v = .slice a D.size c ∧ SlIn .u8 w' a D.image c ∧ Below w.heap.size w w' ∧ (∀ y, a = some y → w.heap.size ≤ y.block ∧ y.block < w'.heap.size) := by
  obtain ⟨lb, S, hA, rfl, _⟩ := h; exact image_calls w hA
theorem newB (n : Int) (w : World) (hn : I64 n) : Ret Try.prog 15 #[.int .i64 n] w fun v w' => Below w.heap.size w w' ∧
      ((¬ (1 ≤ n ∧ n ≤ 1024) ∧ v = .pointer none) ∨ ((1 ≤ n ∧ n ≤ 1024) ∧ ∃ p F, v = .pointer (some ⟨p, 0, none⟩) ∧ DevB w' p F (NM.dev0 n.toNat) ∧ ∀ k, F k → w.heap.size ≤ k)) := by
  refine (new_calls n w hn).mono ?_
  rintro v w' ⟨hb, h | ⟨h1, p, lb, hv, hA, hp, hlb⟩⟩
  · exact ⟨hb, .inl h⟩
  · refine ⟨hb, .inr ⟨h1, p, _, hv, ⟨lb, S0, hA, rfl, NM.dev0_ok _ (by omega)⟩, ?_⟩⟩
    rintro k (rfl | rfl | ⟨i, hi, hk⟩)
    · exact hp
    · exact hlb
    · have : i < n.toNat := by simpa [NM.dev0] using hi
      rw [dev0_ln _ i this] at hk; cases hk
end
end Go.Proofs.Ytkljlgahdlgmpaa
