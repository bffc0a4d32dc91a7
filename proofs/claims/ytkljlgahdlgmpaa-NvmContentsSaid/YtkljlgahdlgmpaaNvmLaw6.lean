/- NvmContents: its walk. -/
import Derived.Test.YtkljlgahdlgmpaaNvmLaw5
namespace Go.Proofs.Ytkljlgahdlgmpaa
open Go Go.RowKit

/-- A text as a key. -/
def strK (b : List (BitVec 8)) : Lit := .string (strB b).data.toList
theorem keyS (b : List (BitVec 8)) (h : b.length ≤ 1000) : keyOf Try.prog 9 (.string (strB b)) = some (strK b) :=
  WideMaps.keyOf_string_mk Try.underlying9 (by simp [strB, ByteArray.size, maxLen]; omega)
theorem SetAt.mono {w : World} {k : TypeId} {b n n' : Nat} {f : Lit → Bool} (h : SetAt w k b n f) (hn : n ≤ n') : SetAt w k b n' f := by obtain ⟨D, h, hf⟩ := h; exact ⟨D, h.mono hn, hf⟩
theorem set_ne_blk {w : World} {k : TypeId} {b g n : Nat} {f : Lit → Bool} {C : Array Value} {e : TypeId} (h : SetAt w k b n f) (hb : Blk w g C e) : b ≠ g := by
  rintro rfl
  obtain ⟨_, ⟨es, clock, h, _⟩, _⟩ := h
  rw [show w.heap[b]? = _ from hb] at h; cases h

theorem zeros_at (j : Nat) (h : j < NM.zeros.length) : NM.zeros[j] = 0#8 := List.getElem_replicate ..
theorem sl_ne_set {w : World} {a : Option Addr} {l : List (BitVec 8)} (h : SlAt .u8 w a l) (h0 : 0 < l.length) {k : TypeId} {b n : Nat} {f : Lit → Bool} (hs : SetAt w k b n f) : ∀ y, a = some y → y.block ≠ b := by
  rintro y rfl rfl
  rcases h with h | ⟨g, o, hy, hc⟩
  · subst h; simp at h0
  · obtain rfl : y = _ := Option.some.inj hy
    obtain ⟨_, ⟨es, clock, hm, _⟩, _⟩ := hs
    have := hc 0 h0
    unfold World.cell? at this
    rw [show w.heap[(⟨g, o + 0, none⟩ : Addr).block]? = some (.map es clock) from hm] at this
    cases this
theorem Apart.grown {w w' : World} {F : Nat → Prop} {a : Option Addr} {l : List (BitVec 8)} {c b : Nat} (h : Apart w F a l c) (hg : w.grownBy w' (some b)) (hne : ∀ y, a = some y → y.block ≠ b) : Apart w' F a l c :=
  ⟨h.in_.mod (mod_of_grown hg) (fun j hj e => by obtain ⟨o, ho⟩ := hj; exact hne _ ho (Option.some.inj e).symm), fun y hy => ⟨by have := (h.sep y hy).1; have := hg.size; omega, (h.sep y hy).2⟩⟩
/-- An array of sets, the first m of them made. -/
structure HadAt (W w : World) (F : Nat → Prop) (hb m n : Nat) (M : Nat → Nat) (f : Nat → Lit → Bool) : Prop where
  blk : ∃ C, Blk w hb C 40 ∧ C.size = 8 ∧ ∀ i, i < m → C[i]? = some (.map (some (M i)))
  set : ∀ i, i < m → SetAt w 9 (M i) n (f i)
  out : ¬ F hb ∧ ∀ i, i < m → ¬ F (M i)
  new : W.heap.size ≤ hb ∧ ∀ i, i < m → W.heap.size ≤ M i
  inj : ∀ i j, i < m → j < m → i ≠ j → M i ≠ M j
section
variable {W w w' : World} {F F' : Nat → Prop} {hb m n p : Nat} {M : Nat → Nat} {f : Nat → Lit → Bool}
theorem HadAt.turn (h : HadAt W w F hb m n M f) (ht : Turn w F w' F') : HadAt W w' F' hb m n M f := by
  obtain ⟨C, hB, hs, hC⟩ := h.blk
  exact ⟨⟨C, hB.mod ht.mod h.out.1, hs, hC⟩, fun i hi => (h.set i hi).mod ht.mod (h.out.2 i hi), ⟨out_turn h.out.1 hB.lt ht, fun i hi => out_turn (h.out.2 i hi) (h.set i hi).lt ht⟩, h.new, h.inj⟩
theorem HadAt.next (h : HadAt W w F hb m n M f) (hb' : Below w.heap.size w w') : HadAt W w' F hb m n M f := h.turn (.of hb')
theorem keyedS : Maps.Keyed Try.prog 9 := Maps.string_keyed Try.underlying9
open Classical in
theorem HadAt.put (h : HadAt W w F hb m n M f) {i : Nat} (hi : i < m) (hn : n < 100000) {b : List (BitVec 8)} (hb1 : b.length ≤ 1000) :
    ∃ w', (Instr.mapUpdate 39 (.map (some (M i))) (.string (strB b)) (.bool true)).run Try.prog w = .ok () w' ∧ w.grownBy w' (some (M i)) ∧
      HadAt W w' F hb m (n + 1) M (fun j z => if j = i ∧ z = strK b then true else f j z) := by
  obtain ⟨w', hr, hs, hg⟩ := (h.set i hi).put keyedS Try.underlying39 (by unfold maxLen; omega) (keyS b hb1) trivial
  obtain ⟨C, hB, hs8, hC⟩ := h.blk
  refine ⟨w', hr, hg, ⟨C, hB.grown hg (fun e => (set_ne_blk (h.set i hi) hB) (Option.some.inj e).symm), hs8, hC⟩, fun j hj => ?_, h.out, h.new, h.inj⟩
  by_cases e : j = i
  · subst e
    simpa using hs
  · have := ((h.set j hj).kept hg (fun e2 => h.inj j i hj hi e (Option.some.inj e2))).mono (Nat.le_succ n)
    simpa [e] using this
/-- A device beside. -/
theorem HadAt.beside {D : NM.Dv} (h : HadAt W w F hb m n M f) {i : Nat} (hi : i < m) (hs : St W w p F D) (hg : w.grownBy w' (some (M i))) : St W w' p F D := hs.beside (h.new.2 i hi) (h.out.2 i hi) hg
end

theorem St.cell {W w : World} {F : Nat → Prop} {p : Nat} {D : NM.Dv} (h : St W w p F D) {b : Nat} (o : Nat) (v : Value) (hb : W.heap.size ≤ b) (ho : ¬ F b) : St W (w.setCell ⟨b, o, none⟩ v) p F D := by
  have hm := (Mod.refl (fun k => k = b) w).setCell (a := ⟨b, o, none⟩) (.inl rfl) v
  refine ⟨?_, h.bel.setCell (p := ⟨b, o, none⟩) hb v, h.ge⟩
  obtain ⟨lb, S, hA, hF, hok⟩ := h.dev
  exact ⟨lb, S, hA.mod hm (fun j hj e => by subst e; rw [hF] at ho; exact ho hj), hF, hok⟩
/-- One set more. -/
theorem HadAt.more {W w w2 : World} {F : Nat → Prop} {hb i : Nat} {M : Nat → Nat} {f : Nat → Lit → Bool} (h : HadAt W w F hb i 1 M f) (hF : ∀ k, F k → k < w.heap.size) (hW : W.heap.size ≤ w.heap.size) (hi : i < 8) (hbel : Below w.heap.size w w2) {g : Lit → Bool} (hs : SetAt w2 9 w.heap.size 1 g) :
    HadAt W (w2.setCell ⟨hb, i, none⟩ (.map (some w.heap.size))) F hb (i + 1) 1 (fun j => if j = i then w.heap.size else M j) (fun j => if j = i then g else f j) := by
  obtain ⟨C, hB, h8, hC⟩ := h.blk
  have hm := (Mod.refl (fun k => k = hb) w2).setCell (a := ⟨hb, i, none⟩) (.inl rfl) (.map (some w.heap.size))
  have hlt := hB.lt
  refine ⟨⟨_, (hB.next hbel).set i _, by simpa using h8, fun j hj => ?_⟩, fun j hj => ?_, ⟨h.out.1, fun j hj => ?_⟩, ⟨h.new.1, fun j hj => ?_⟩, fun j k hj hk hjk => ?_⟩
  · rw [Array.getElem?_setIfInBounds]
    by_cases e : i = j
    · subst e; rw [if_pos rfl, if_pos (by omega), if_pos rfl]
    · rw [if_neg e, if_neg (fun e2 => e e2.symm)]; exact hC j (by omega)
  · by_cases e : j = i
    · subst e
      simp only [if_true]
      exact hs.mod hm (by omega)
    · simp only [if_neg e]
      exact ((h.set j (by omega)).next hbel).mod hm (set_ne_blk (h.set j (by omega)) hB)
  · by_cases e : j = i
    · subst e; simp only [if_true]; intro hf; have := hF _ hf; omega
    · simp only [if_neg e]; exact h.out.2 j (by omega)
  · by_cases e : j = i
    · subst e; simp only [if_true]; exact hW
    · simp only [if_neg e]; exact h.new.2 j (by omega)
  · have hl : ∀ j, j < i → M j < w.heap.size := fun j hj => (h.set j hj).lt
    by_cases e : j = i
    · subst e
      rw [if_pos rfl, if_neg (fun e => hjk e.symm)]
      have := hl k (by omega); omega
    · rw [if_neg e]
      by_cases e2 : k = i
      · subst e2; rw [if_pos rfl]; have := hl j (by omega); omega
      · rw [if_neg e2]; exact h.inj j k (by omega) (by omega) hjk
/-- Each thing that a line may be it was. -/
theorem allC_hist (l : List ActV) : ∀ k, k ≤ l.length → ∀ i, i < 8 → NM.AllC (fun b => ∃ j, j ≤ k ∧ b = ((doesL (NM.dev0 8) (l.take j)).ln i).now) ((doesL (NM.dev0 8) (l.take k)).ln i)
  | 0, _, i, hi => by
    refine NM.allC_one ⟨0, Nat.le_refl _, rfl⟩ ?_
    show ((NM.dev0 8).ln i).chg = []
    rw [dev0_ln 8 i hi]; rfl
  | k + 1, hk, i, hi => by
    have hlt : k < l.length := by omega
    have ih := allC_hist l k (by omega) i hi
    have hl : (doesL (NM.dev0 8) (l.take k)).ls.length = 8 := by rw [doesL_len]; rfl
    have hok := doesL_ok (NM.dev0_ok 8 (by omega)) (l.take k)
    have hQ : ∀ b, (∃ j, j ≤ k ∧ b = ((doesL (NM.dev0 8) (l.take j)).ln i).now) → ∃ j, j ≤ k + 1 ∧ b = ((doesL (NM.dev0 8) (l.take j)).ln i).now := fun b ⟨j, hj, e⟩ => ⟨j, by omega, e⟩
    have ih2 := ih.mono hQ
    have htk := doesL_take (NM.dev0 8) l k hlt
    have hnow : ∃ j, j ≤ k + 1 ∧ ((doesA (doesL (NM.dev0 8) (l.take k)) l[k]).ln i).now = ((doesL (NM.dev0 8) (l.take j)).ln i).now := ⟨k + 1, Nat.le_refl _, by rw [htk]⟩
    rw [htk]
    generalize doesL (NM.dev0 8) (l.take k) = D at *
    unfold doesA NM.Dv.does at hnow ⊢
    split
    · exact NM.AllC.flushLn (by omega) _ ih2
    · rename_i h1
      rw [if_neg h1] at hnow
      split
      · exact NM.AllC.fenceLn (by omega) ih2
      · rename_i h2
        rw [if_neg h2] at hnow
        split
        · exact ih2
        · rename_i h3
          rw [if_neg h3] at hnow
          exact NM.AllC.storeLn hok (by omega) _ _ ih2 hnow

open Classical in
set_option maxRecDepth 20000 in
set_option maxHeartbeats 8000000 in
set_option linter.unusedSimpArgs false in
theorem nvmContents_walk (a : Option Addr) (l : List ActV) (cap : Nat) (a2 : Option Addr) (ps : List (BitVec 8)) (c2 : Nat) (w0 : World) (hin : ActsIn w0 a l cap) (hps : SlIn .u8 w0 a2 ps c2) :
    Ret Try.prog 4 #[.slice a l.length cap, .slice a2 ps.length c2] w0 fun v w' => v = .bool true ∧ Below w0.heap.size w0 w' := by
  have bel0 := Below.refl w0.heap.size w0
  have hmax := hin.max
  have hle := hin.le
  refine ret_of (args := [_, _]) _ Try.func4 rfl Try.ntmps4 (by simp) ?_
  simp -implicitDefEqProofs [go_sem]
  refine callE_of (alive_calls w0) ?_
  rintro v w1 ⟨rfl, b1⟩
  have bel1 := bel0.trans (b1.mono bel0.size)
  replace hin := hin.next b1
  replace hps := hps.next b1
  simp -implicitDefEqProofs [go_sem]
  refine callE_of (heavy_calls a l cap w1 hin) ?_
  rintro v w2 ⟨rfl, b2⟩
  have bel2 := bel1.trans (b2.mono bel1.size)
  replace hin := hin.next b2
  replace hps := hps.next b2
  by_cases hh : heavyB l = true
  · simp -implicitDefEqProofs [go_sem, hh]
    refine body_tmp 4 rfl ?_
    simp -implicitDefEqProofs [go_sem]
    exact bel2
  replace hh : heavyB l = false := by simpa using hh
  have hlen := heavy_len hh
  by_cases h100 : 100 < ps.length
  · have h100' : (100 : Int) < ps.length := by omega
    simp -implicitDefEqProofs [go_sem, hh, h100, h100']
    refine body_tmp 4 rfl ?_
    simp -implicitDefEqProofs [go_sem]
    exact bel2
  have h100' : ¬ (100 : Int) < ps.length := by omega
  simp -implicitDefEqProofs [go_sem, hh, h100, h100']
  refine callE_of (newB 8 w2 (i64_lit 8 (by decide))) ?_
  rintro v w3 ⟨b3, ⟨h, _⟩ | ⟨_, p, F3, rfl, h3, hF3⟩⟩
  · exact absurd ⟨by omega, by omega⟩ h
  have h3 : DevB w3 p F3 (NM.dev0 8) := h3
  have hst : St w2 w3 p F3 (NM.dev0 8) := ⟨h3, b3, hF3⟩
  simp -implicitDefEqProofs [go_sem]
  have hlt3 := h3.lt
  have hB0 := Blk.new w3 #[Value.map none, Value.map none, Value.map none, Value.map none, Value.map none, Value.map none, Value.map none, Value.map none] 40
  have bA : Below w3.heap.size w3 (w3.alloc (.cells #[Value.map none, Value.map none, Value.map none, Value.map none, Value.map none, Value.map none, Value.map none, Value.map none] 40)) := (Below.refl _ _).alloc (Nat.le_refl _) _
  have hs4 := hst.next bA
  have hh0 : HadAt w2 (w3.alloc (.cells #[Value.map none, Value.map none, Value.map none, Value.map none, Value.map none, Value.map none, Value.map none, Value.map none] 40)) F3 w3.heap.size 0 1 (fun _ => 0) (fun _ _ => false) :=
    ⟨⟨_, hB0, rfl, fun i hi => by omega⟩, fun i hi => by omega, ⟨fun hf => by have := hlt3 _ hf; omega, fun i hi => by omega⟩, ⟨by have := hst.bel.size; omega, fun i hi => by omega⟩, fun i j hi => by omega⟩
  generalize hw4 : World.alloc w3 _ = w4 at *
  generalize hhb : w3.heap.size = hb at *
  have hmk := fun w => run_make_n (P := Try.prog) (t := 23) (e := 5) (z := .int .u8 0) (bytes := 1) Try.underlying23 (by kernel_rfl) rfl .i64 .i64 64 (by omega) (by omega) w
  have hmk' : ∀ w, (Instr.makeSlice 23 (.int .i64 64) (.int .i64 64)).run Try.prog w = _ := hmk
  refine wpE_loop (fun e' w' => ∃ (i : Nat) (M : Nat → Nat) (f : Nat → Lit → Bool), i ≤ 8 ∧ e' 0 = .slice a l.length cap ∧ e' 1 = .slice a2 ps.length c2 ∧ e' 5 = .pointer (some ⟨p, 0, none⟩) ∧ e' 6 = .pointer (some ⟨hb, 0, none⟩) ∧ e' 26 = .int .i64 (i : Int) ∧ St w2 w' p F3 (NM.dev0 8) ∧ HadAt w2 w' F3 hb i 1 M f ∧ ∀ j, j < i → f j (strK NM.zeros) = true) (fun e' _ => 8 - (intOf (e' 26)).toNat) ?_ ?_
  · refine ⟨0, fun _ => 0, fun _ _ => false, by omega, ?_⟩
    simp -implicitDefEqProofs [go_sem]
    exact ⟨hs4, hh0⟩
  · rintro e' w5 ⟨i, M, f, hi, g0, g1, g5, g6, g26, hs5, hh5, hf5⟩
    by_cases hlt : i < 8
    · have hlt' : (i : Int) < 8 := by omega
      have hwi := IntWalk.i64_in ((i : Int) + 1) (by omega)
      simp -implicitDefEqProofs [go_sem, g0, g1, g5, g6, g26, hlt, hlt', run_makeMap, hmk']
      have hset0 := set_made w5 9
      have hlt5 := hs5.dev.lt
      have b6 : Below w5.heap.size w5 (w5.alloc (.map #[] 0)) := (Below.refl _ _).alloc (Nat.le_refl _) _
      have sz6 : (w5.alloc (.map #[] 0)).heap.size = w5.heap.size + 1 := by simp
      rw [← sz6]
      generalize hw6 : World.alloc w5 _ = w6 at *
      have hZ := Blk.new w6 (Array.replicate 64 (.int .u8 0)) 5
      have b7 : Below w6.heap.size w6 (w6.alloc (.cells (Array.replicate 64 (.int .u8 0)) 5)) := (Below.refl _ _).alloc (Nat.le_refl _) _
      have hcv := conv_str (l := NM.zeros) (n := 64) (slAt_blk hZ (fun j hj => by
        have hj' : j < 64 := by simpa [NM.zeros] using hj
        rw [zeros_at j hj]; simp [hj', show uv 0#8 = 0 from rfl])) (by simp [NM.zeros]) 64 (fun h => by cases h)
      replace hset0 := hset0.next b7
      have b57 := b6.trans (b7.mono b6.size)
      generalize hw7 : World.alloc w6 _ = w7 at *
      obtain ⟨w8, hr8, hset8, hg8⟩ := hset0.put keyedS Try.underlying39 (by unfold maxLen; omega) (keyS NM.zeros (by simp [NM.zeros])) trivial
      have b58 := b57.grown hg8 b57.size (fun j hj => by cases hj; exact Nat.le_refl _)
      have hmore := hh5.more hlt5 hs5.bel.size hlt b58 hset8
      have hs9 := (hs5.next b58).cell i (.map (some w5.heap.size)) hh5.new.1 hh5.out.1
      obtain ⟨C5, hC5, hC8, _⟩ := hh5.blk
      have hcB := (hC5.next b58).cell i
      have hcF := (hC5.next b58).thaw i
      have hCi : C5[i]? = some (C5[i]'(by omega)) := by simp [hC8, hlt]
      rw [hCi] at hcB
      simp -implicitDefEqProofs [go_sem, g0, g1, g5, g6, g26, hlt, hlt', hcv, hr8, hcB, hcF, hwi]
      refine goE_round ⟨i + 1, fun j => if j = i then w5.heap.size else M j, fun j => if j = i then (fun z => if z = strK NM.zeros then true else false) else f j, by omega, ?_⟩ ?_
      · simp -implicitDefEqProofs [go_sem, g0, g1, g5, g6]
        refine ⟨hs9, hmore, fun j hj => ?_⟩
        by_cases e : j = i
        · simp [e]
        · simp [e]; exact hf5 j (by omega)
      · simp -implicitDefEqProofs [go_sem, intOf, g26, hwi]; omega
    · have hi' : i = 8 := by omega
      subst hi'
      simp -implicitDefEqProofs [go_sem, g0, g1, g5, g6, g26]
      have hist0 : ∀ i, i < 8 → ∀ j, j ≤ 0 → f i (strK ((doesL (NM.dev0 8) (l.take j)).ln i).now) = true := by
        intro i hi j hj
        obtain rfl : j = 0 := by omega
        show f i (strK ((NM.dev0 8).ln i).now) = true
        rw [dev0_ln 8 i hi]; exact hf5 i hi
      refine wpE_loop (fun e' w' => ∃ (k : Nat) (F : Nat → Prop) (f : Nat → Lit → Bool) (n : Nat), k ≤ l.length ∧ n ≤ 1 + 8 * k ∧ e' 1 = .slice a2 ps.length c2 ∧ e' 5 = .pointer (some ⟨p, 0, none⟩) ∧ e' 6 = .pointer (some ⟨hb, 0, none⟩) ∧ e' 36 = .slice a l.length cap ∧ e' 37 = .int .i64 l.length ∧ e' 38 = .int .i64 k ∧ St w2 w' p F (doesL (NM.dev0 8) (l.take k)) ∧ HadAt w2 w' F hb 8 n M f ∧
        ∀ i, i < 8 → ∀ j, j ≤ k → f i (strK ((doesL (NM.dev0 8) (l.take j)).ln i).now) = true) (fun e' _ => l.length - (intOf (e' 38)).toNat) ?_ ?_
      · refine ⟨0, F3, f, 1, by omega, by omega, ?_⟩
        simp -implicitDefEqProofs [go_sem, g1, g5, g6]
        exact ⟨hs5, hh5, fun i hi => hist0 i hi 0 (Nat.le_refl _)⟩
      · rintro e2 w6 ⟨k, F, f, n, hk, hn, g1, g5, g6, g36, g37, g38, hs6, hh6, hist⟩
        by_cases hlt : k < l.length
        · have hlt' : (k : Int) < l.length := by omega
          have hwk := IntWalk.i64_in ((k : Int) + 1) (by omega)
          obtain ⟨b, o, rfl, hcell, hok⟩ := (hin.next hs6.bel).get hlt
          have hld := ldCells (P := Try.prog) (w := w6) (g := b) (o := o + k * 4) (cs := l[k].cs) Try.underlying30 rfl actI rfl hcell
          have hst := actNew l[k].cs rfl l[k].cs_one
          have hl2 := ldAll (P := Try.prog) (Blk.new w6 l[k].cs 30) Try.underlying30 rfl actI rfl
          simp -implicitDefEqProofs [go_sem, g1, g5, g6, g36, g37, g38, hlt, hlt', ↓hld, ↓hst, ↓hl2]
          have b7 : Below w6.heap.size w6 (w6.alloc (.cells l[k].cs 30)) := (Below.refl _ _).alloc (Nat.le_refl _) _
          have hs7 := hs6.next b7
          have hh7 := hh6.next b7
          have hsteps := doesL_steps (NM.dev0 8) (l.take k)
          rw [List.length_take, show (NM.dev0 8).steps = 0 from rfl] at hsteps
          refine callE_of (does_calls l[k] _ hs7.dev hok.off (by omega)) ?_
          rintro v w8 ⟨rfl, F8, h8, t8⟩
          have hs8 := hs7.step h8 t8
          have hh8 := hh7.turn t8
          rw [← doesL_take _ _ _ hlt] at hs8
          have hlD : (doesL (NM.dev0 8) (l.take (k + 1))).ls.length = 8 := by rw [doesL_len]; rfl
          obtain ⟨D, hD⟩ : ∃ D, D = doesL (NM.dev0 8) (l.take (k + 1)) := ⟨_, rfl⟩
          rw [← hD] at hs8 hlD
          have hsz : D.size = 512 := by unfold NM.Dv.size; rw [hlD]
          have hDok := hs8.dev.ok
          have hlenI := NM.image_len hDok
          rw [hsz] at hlenI
          simp -implicitDefEqProofs [go_sem, g1, g5, g6, g36, g37, g38]
          refine callE_of (imageB w8 hs8.dev) ?_
          rintro v w9 ⟨a9, c9, rfl, in9, b9, n9⟩
          rw [hsz]
          have ap9 := apart_new hs8.dev in9 n9
          have hs9 := hs8.next b9
          have hh9 := hh8.next b9
          have g38o := g38
          have hc9 := ap9.in_.le
          rw [hlenI] at hc9
          simp -implicitDefEqProofs [go_sem, g1, g5, g6, g36, g37, g38]
          refine wpE_loop (fun e' w' => ∃ (i : Nat) (f : Nat → Lit → Bool) (n' : Nat), i ≤ 8 ∧ n' ≤ n + i ∧ e' 1 = .slice a2 ps.length c2 ∧ e' 5 = .pointer (some ⟨p, 0, none⟩) ∧ e' 6 = .pointer (some ⟨hb, 0, none⟩) ∧ e' 10 = .slice a9 512 c9 ∧ e' 36 = .slice (some ⟨b, o, none⟩) l.length cap ∧ e' 37 = .int .i64 l.length ∧ e' 38 = .int .i64 k ∧ e' 50 = .int .i64 (i : Int) ∧ St w2 w' p F8 D ∧ HadAt w2 w' F8 hb 8 n' M f ∧ Apart w' F8 a9 D.image c9 ∧
            (∀ i, i < 8 → ∀ j, j ≤ k → f i (strK ((doesL (NM.dev0 8) (l.take j)).ln i).now) = true) ∧ ∀ j, j < i → f j (strK (D.ln j).now) = true) (fun e' _ => 8 - (intOf (e' 50)).toNat) ?_ ?_
          · refine ⟨0, f, n, by omega, by omega, ?_⟩
            simp -implicitDefEqProofs [go_sem, g1, g5, g6, g36, g37, g38]
            exact ⟨hs9, hh9, ap9, hist⟩
          · rintro e3 w10 ⟨i, f, n', hi, hn', g1, g5, g6, g10, g36, g37, g38, g50, hs10, hh10, ap10, hist, hnew⟩
            by_cases hlti : i < 8
            · have hlti' : (i : Int) < 8 := by omega
              have hwi := IntWalk.i64_in ((i : Int) + 1) (by omega)
              simp -implicitDefEqProofs [go_sem, g1, g5, g6, g10, g50, hlti, hlti']
              refine drawE_mix [.pure 0, .pure 1, .pure 3, .pure 4, .pure 5, .pure 6, .pure 7, .pure 8, .take 2, .run 9 [2], .run 10 [2], .run 11 []] mixed (by decide +kernel) (by simp only [withOps, MStep.num, List.filterMap_cons, List.filterMap_nil, List.getElem?_cons_succ, List.getElem?_cons_zero, Option.map_some]; rfl) ?_
              have hd : Below w10.heap.size w10 w10.drew := (Below.refl _ _).drew
              replace hs10 := hs10.next hd
              replace hh10 := hh10.next hd
              replace ap10 := ap10.next hd
              generalize World.drew w10 = w11 at *
              have hw1 := IntWalk.i64_in (64 * (i : Int)) (by omega)
              have hw2 := IntWalk.i64_in (64 * (i : Int) + 64) (by omega)
              obtain ⟨C, hC, hC8, hCM⟩ := hh10.blk
              have hcC := hC.cell i
              rw [hCM i hlti] at hcC
              have hpc := NM.image_piece hDok (q := i) (by omega)
              have hlenL := (NM.Dv.Ok0.ln hDok.to0 i).len
              have hcv := fun c => conv_str (w := w11) (n := 64) (by have := ap10.in_.at_.piece (64 * i) 64; rw [hpc] at this; exact this) hlenL.symm c (fun h0 => by
                have := ap10.in_.nil
                cases a9 with
                | none => have := this rfl; omega
                | some x => cases h0)
              have k1 : (64 * (i : Int)).toNat = 64 * i := by omega
              have k2 : (64 * (i : Int) + 64).toNat - 64 * i = 64 := by omega
              have k3 : (0 : Int) ≤ 64 * (i : Int) + 64 ∧ 64 * (i : Int) + 64 ≤ (c9 : Int) := by omega
              have k5 : (0 : Int) ≤ 64 * (i : Int) ∧ 64 * (i : Int) ≤ max (64 * (i : Int) + 64) 0 := by omega
              have k6 : ¬ c9 = 64 * i := by omega
              obtain ⟨w12, hr12, hg12, hh12⟩ := hh10.put hlti (by omega) (b := (D.ln i).now) (by omega)
              obtain ⟨f2, hf2⟩ : ∃ f2 : Nat → Lit → Bool, f2 = fun j z => if j = i ∧ z = strK (D.ln i).now then true else f j z := ⟨_, rfl⟩
              rw [← hf2] at hh12
              have hf2o : ∀ x z, f x z = true → f2 x z = true := fun x z h => by
                rw [hf2]
                show (if _ then _ else _) = true
                by_cases e : x = i ∧ z = strK (D.ln i).now
                · rw [if_pos e]
                · rw [if_neg e]; exact h
              have hf2n : f2 i (strK (D.ln i).now) = true := by
                rw [hf2]
                show (if _ then _ else _) = true
                rw [if_pos ⟨rfl, rfl⟩]
              clear hf2
              have hs12 := hh10.beside hlti hs10 hg12
              have ap12 := ap10.grown hg12 (sl_ne_set ap10.in_.at_ (by omega) (hh10.set i hlti))
              simp -implicitDefEqProofs [go_sem, g1, g5, g6, g10, g50, hlti, hlti', hw1, hw2]
              refine onTake_of (fun w' => w' = w11) (.map (some (M i))) rfl (fun w' hw => by subst hw; simp -implicitDefEqProofs [go_sem, hcC]) ?_
              simp -implicitDefEqProofs [go_sem, g1, g5, g6, g10, g50, hw1, hw2, k1, k2, k3, k5, k6, hcv, hr12]
              simp -implicitDefEqProofs [go_sem, g1, g5, g6, g10, g36, g37, g38, g50, hwi]
              refine goE_round ⟨i + 1, f2, n' + 1, by omega, by omega, ?_⟩ ?_
              · simp -implicitDefEqProofs [go_sem, g1, g5, g6, g10, g36, g37, g38]
                refine ⟨hs12, hh12, ap12, fun x hx j hj => hf2o _ _ (hist x hx j hj), fun j hj => ?_⟩
                by_cases e : j = i
                · subst e; exact hf2n
                · exact hf2o _ _ (hnew j (by omega))
              · simp -implicitDefEqProofs [go_sem, intOf, g50, hwi]; omega
            · have hi' : i = 8 := by omega
              subst hi'
              simp -implicitDefEqProofs [go_sem, g1, g5, g6, g10, g36, g37, g38, g50, hwk]
              refine goE_round ⟨k + 1, F8, f, n', by omega, by omega, ?_⟩ ?_
              · simp -implicitDefEqProofs [go_sem, g1, g5, g6, g36, g37]
                refine ⟨by rw [← hD]; exact hs10, hh10, fun i hi j hj => ?_⟩
                by_cases e : j = k + 1
                · subst e; rw [← hD]; exact hnew i hi
                · exact hist i hi j (by omega)
              · simp -implicitDefEqProofs [go_sem, intOf, g38, g38o, hwk]; omega
        · have hk' : k = l.length := by omega
          subst hk'
          have hall := fun i hi => allC_hist l l.length (Nat.le_refl _) i hi
          rw [List.take_length] at *
          have hsteps := doesL_steps (NM.dev0 8) l
          rw [show (NM.dev0 8).steps = 0 from rfl] at hsteps
          have hlG : (doesL (NM.dev0 8) l).ls.length = 8 := by rw [doesL_len]; rfl
          obtain ⟨G, hG⟩ : ∃ G, G = doesL (NM.dev0 8) l := ⟨_, rfl⟩
          rw [← hG] at hs6 hsteps hlG hall
          simp -implicitDefEqProofs [go_sem, g1, g5, g6, g36, g37, g38]
          refine callE_of (crashB a2 c2 ps w6 hs6.dev (hps.next hs6.bel) (sepIn hps hs6.ge) (by omega)) ?_
          rintro v w7 ⟨rfl, F7, h7, t7⟩
          have hs7 := hs6.step h7 t7
          have hh7 := hh6.turn t7
          have hlC : (G.crash ps).ls.length = 8 := by rw [NM.crash_len, hlG]
          have hszC : (G.crash ps).size = 512 := by unfold NM.Dv.size; rw [hlC]
          have hstC : (G.crash ps).steps = G.steps := by unfold NM.Dv.crash; split <;> rfl
          have hin_ : ∀ i, i < 8 → f i (strK ((G.crash ps).ln i).now) = true := by
            intro i hi
            obtain ⟨c, hc, hcl⟩ := NM.crash_ln (D := G) ps (i := i) (by omega)
            obtain ⟨j, hj, hjn⟩ := (hall i hi).crash hc
            rw [hcl, hjn]; exact hist i hi j hj
          have hone : ∀ i, i < 8 → ((G.crash ps).ln i).chg = [] := fun i hi => NM.crash_one ps (by omega)
          clear hG hall hist
          simp -implicitDefEqProofs [go_sem, g1, g5, g6]
          refine callE_of (imageB w7 hs7.dev) ?_
          rintro v w8 ⟨a8, c8, rfl, in8, b8, n8⟩
          rw [hszC]
          have ap8 := apart_new hs7.dev in8 n8
          have hs8 := hs7.next b8
          have hh8 := hh7.next b8
          have hCok := hs8.dev.ok
          have hlenC := NM.image_len hCok
          rw [hszC] at hlenC
          have hc8 := ap8.in_.le
          rw [hlenC] at hc8
          generalize hE : G.crash ps = E at *
          simp -implicitDefEqProofs [go_sem, g1, g5, g6]
          refine wpE_loop (fun e' w' => ∃ i : Nat, i ≤ 8 ∧ e' 5 = .pointer (some ⟨p, 0, none⟩) ∧ e' 6 = .pointer (some ⟨hb, 0, none⟩) ∧ e' 12 = .slice a8 512 c8 ∧ e' 71 = .int .i64 (i : Int) ∧ St w2 w' p F7 E ∧ HadAt w2 w' F7 hb 8 n M f ∧ Apart w' F7 a8 E.image c8) (fun e' _ => 8 - (intOf (e' 71)).toNat) ?_ ?_
          · refine ⟨0, by omega, ?_⟩
            simp -implicitDefEqProofs [go_sem, g5, g6]
            exact ⟨hs8, hh8, ap8⟩
          · rintro e4 w9 ⟨i, hi, g5, g6, g12, g71, hs9, hh9, ap9⟩
            by_cases hlti : i < 8
            · have hlti' : (i : Int) < 8 := by omega
              have hwi := IntWalk.i64_in ((i : Int) + 1) (by omega)
              simp -implicitDefEqProofs [go_sem, g5, g6, g12, g71, hlti, hlti']
              refine drawE_mix [.pure 0, .pure 1, .pure 3, .pure 4, .pure 5, .pure 6, .pure 7, .pure 8, .take 2, .run 9 [2], .run 10 [2], .run 11 [], .pure 12, .pure 13, .pure 14, .pure 15, .run 16 [], .pure 17, .pure 18] mixed (by decide +kernel) (by simp only [withOps, MStep.num, List.filterMap_cons, List.filterMap_nil, List.getElem?_cons_succ, List.getElem?_cons_zero, Option.map_some]; rfl) ?_
              have hd : Below w9.heap.size w9 w9.drew := (Below.refl _ _).drew
              replace hs9 := hs9.next hd
              replace hh9 := hh9.next hd
              replace ap9 := ap9.next hd
              generalize World.drew w9 = w10 at *
              have hw1 := IntWalk.i64_in (64 * (i : Int)) (by omega)
              have hw2 := IntWalk.i64_in (64 * (i : Int) + 64) (by omega)
              obtain ⟨C, hC, hC8, hCM⟩ := hh9.blk
              have hcC := hC.cell i
              rw [hCM i hlti] at hcC
              have hpc := NM.image_piece hCok (q := i) (by omega)
              have hlenL := (NM.Dv.Ok0.ln hCok.to0 i).len
              have hcv := fun c => conv_str (w := w10) (n := 64) (by have := ap9.in_.at_.piece (64 * i) 64; rw [hpc] at this; exact this) hlenL.symm c (fun h0 => by
                have := ap9.in_.nil
                cases a8 with
                | none => have := this rfl; omega
                | some x => cases h0)
              have k1 : (64 * (i : Int)).toNat = 64 * i := by omega
              have k2 : (64 * (i : Int) + 64).toNat - 64 * i = 64 := by omega
              have k3 : (0 : Int) ≤ 64 * (i : Int) + 64 ∧ 64 * (i : Int) + 64 ≤ (c8 : Int) := by omega
              have k5 : (0 : Int) ≤ 64 * (i : Int) ∧ 64 * (i : Int) ≤ max (64 * (i : Int) + 64) 0 := by omega
              have k6 : ¬ c8 = 64 * i := by omega
              have hlook := (hh9.set i hlti).look keyedS Try.underlying39 (keyS (E.ln i).now (by omega)) trivial
              rw [hin_ i hlti] at hlook
              have hmay := NM.may_eq (D := E) (k := i) (by omega)
              rw [hone i hlti] at hmay
              have hmay1 : E.may (i : Int) = 1 := by rw [hmay]; rfl
              simp -implicitDefEqProofs [go_sem, g5, g6, g12, g71, hlti, hlti', hw1, hw2]
              refine onTake_of (fun w' => w' = w10) (.map (some (M i))) rfl (fun w' hw => by subst hw; simp -implicitDefEqProofs [go_sem, hcC]) ?_
              simp -implicitDefEqProofs [go_sem, g5, g6, g12, g71, hw1, hw2, k1, k2, k3, k5, k6, hcv, hlook]
              refine callE_of (mayB i w10 hs9.dev (by omega)) ?_
              rintro v w11 ⟨rfl, rfl⟩
              simp -implicitDefEqProofs [go_sem, g5, g6, g12, g71, hmay1, hwi]
              refine goE_round ⟨i + 1, by omega, ?_⟩ ?_
              · simp -implicitDefEqProofs [go_sem, g5, g6, g12]
                exact ⟨hs9, hh9, ap9⟩
              · simp -implicitDefEqProofs [go_sem, intOf, g71, hwi]; omega
            · have hi' : i = 8 := by omega
              subst hi'
              simp -implicitDefEqProofs [go_sem, g5, g6, g12, g71]
              have hlt9 := hs9.dev.lt
              have hB9 := Blk.new w9 #[.int .u8 9, .int .u8 8, .int .u8 7] 5
              have b10 : Below w9.heap.size w9 (w9.alloc (.cells #[.int .u8 9, .int .u8 8, .int .u8 7] 5)) := (Below.refl _ _).alloc (Nat.le_refl _) _
              have hin10 : SlIn .u8 (w9.alloc (.cells #[.int .u8 9, .int .u8 8, .int .u8 7] 5)) (some ⟨w9.heap.size, 0, none⟩) [9#8, 8#8, 7#8] 3 := ⟨slAt_blk hB9 (fun i hi => by
                have : i = 0 ∨ i = 1 ∨ i = 2 := by simp at hi; omega
                rcases this with rfl | rfl | rfl <;> rfl), by simp, by decide, fun h => by cases h⟩
              have hs10 := hs9.next b10
              have ap10 := ap9.next b10
              generalize World.alloc w9 _ = w10 at *
              refine callE_of (crashB _ 3 [9#8, 8#8, 7#8] w10 hs10.dev hin10 (fun _ y hy hf => by
                obtain rfl : _ = y := Option.some.inj hy
                have := hlt9 _ hf
                simp at this) (by omega)) ?_
              rintro v w11 ⟨rfl, F11, h11, t11⟩
              have hs11 := hs10.step h11 t11
              have ap11 := ap10.turn t11
              have hlX : (E.crash [9#8, 8#8, 7#8]).ls.length = 8 := by rw [NM.crash_len, hlC]
              have hszX : (E.crash [9#8, 8#8, 7#8]).size = 512 := by unfold NM.Dv.size; rw [hlX]
              have hXok := hs11.dev.ok
              have himg : (E.crash [9#8, 8#8, 7#8]).image = E.image := by
                apply NM.list_ext_getD (by rw [NM.image_len hXok, hszX, hlenC])
                intro i hi
                rw [NM.image_len hXok, hszX] at hi
                rw [NM.image_at hXok (by omega), NM.image_at hCok (by omega), NM.crash_same _ (by omega) (hone (i / 64) (by omega))]
              simp -implicitDefEqProofs [go_sem, g5, g6, g12]
              have hlenE : 512 = E.image.length := hlenC.symm
              refine drawE_mix [.pure 0, .pure 3, .take 4, .run 1 [4], .run 2 [4], .pure 5, .pure 6] mixed (by decide +kernel) (by simp only [withOps, MStep.num, List.filterMap_cons, List.filterMap_nil, List.getElem?_cons_succ, List.getElem?_cons_zero, Option.map_some]; rfl) ?_
              have hd : Below w11.heap.size w11 w11.drew := (Below.refl _ _).drew
              replace hs11 := hs11.next hd
              replace ap11 := ap11.next hd
              generalize World.drew w11 = w12 at *
              simp -implicitDefEqProofs [go_sem, g5, g6, g12]
              refine onTake_of (fun w' => Below w12.heap.size w12 w') (.string (strB E.image)) (Below.refl _ _) (fun w' hw => by simp -implicitDefEqProofs [go_sem, img_str ap11.in_ hlenE hw]) ?_
              simp -implicitDefEqProofs [go_sem, g5, g6, g12]
              refine callE_of (imageB w12 hs11.dev) ?_
              rintro v w13 ⟨a13, c13, rfl, in13, b13, n13⟩
              rw [hszX]
              rw [himg] at in13
              have hs13 := hs11.next b13
              refine ⟨.inr (by simp -implicitDefEqProofs [go_sem]; exact b13), ?_⟩
              simp -implicitDefEqProofs [go_sem, img_str in13 hlenE (Below.refl _ _)]
              refine body_tmp 4 rfl ?_
              simp -implicitDefEqProofs [go_sem]
              exact bel2.trans (hs13.bel.mono (by have := bel2.size; omega))
end Go.Proofs.Ytkljlgahdlgmpaa
