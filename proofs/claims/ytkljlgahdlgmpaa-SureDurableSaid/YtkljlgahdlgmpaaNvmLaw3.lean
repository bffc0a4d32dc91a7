/- NvmStop: its walk. -/
import Derived.Test.YtkljlgahdlgmpaaNvmLaw2
import Derived.Test.YtkljlgahdlgmpaaMix
namespace Go.Proofs.Ytkljlgahdlgmpaa
open Go Go.RowKit

/-- A device that goes down behind k steps, and one that does not. -/
structure Sim (k : Nat) (D E : NM.Dv) : Prop where
  ls : E.ls = D.ls
  steps : E.steps = D.steps
  up : E.Up
  le : D.steps ≤ k
  left : D.left = (k : Int) - D.steps
  down : D.down = true ↔ D.steps = k
namespace NM
theorem sim_done {k : Nat} {D E D0 E0 : Dv} (h : Sim k D E) (hlt : D.steps < k) (hl : E0.ls = D0.ls) (hD : D0.steps = D.steps ∧ D0.left = D.left ∧ D0.down = D.down) (hE : E0.steps = E.steps ∧ E0.left = E.left ∧ E0.down = E.down) : Sim k D0.done E0.done := by
  have h1 := h.left
  have h2 := h.steps
  have h3 := h.up.left
  have h4 := h.up.down
  refine ⟨hl, by simp only [Dv.done]; omega, ⟨?_, ?_⟩, by simp only [Dv.done]; omega, ?_, ?_⟩
  · simp only [Dv.done]; rw [if_neg (by omega), hE.2.2]; exact h4
  · simp only [Dv.done]; rw [if_neg (by omega), hE.2.1]; exact h3
  · simp only [Dv.done]; rw [if_pos (by omega)]; omega
  · simp only [Dv.done]; rw [if_pos (by omega), decide_eq_true_iff]; omega
theorem sim_ask {k : Nat} {D E : Dv} (h : Sim k D E) (hlt : D.steps < k) (off each : Int) : D.ask off each = E.ask off each := by
  have h1 : D.down = false := by
    cases hd : D.down with
    | false => rfl
    | true => have := h.down.1 hd; omega
  unfold Dv.ask Dv.size
  rw [h.ls, h1, h.up.down]
theorem sim_ln {k : Nat} {D E : Dv} (h : Sim k D E) (i : Nat) : E.ln i = D.ln i := by unfold Dv.ln; rw [h.ls]
theorem sim_store {k : Nat} {D E : Dv} (h : Sim k D E) (hlt : D.steps < k) (off : Int) (n : BitVec 64) : Sim k (D.store off n).1 (E.store off n).1 := by
  have ha := sim_ask h hlt off 8
  unfold Dv.store
  rw [ha]
  have hw : ∀ o, E.word o = D.word o := fun o => by unfold Dv.word; rw [sim_ln h]
  split
  · simp only [hw, sim_ln h]
    split
    · exact sim_done h hlt h.ls ⟨rfl, rfl, rfl⟩ ⟨rfl, rfl, rfl⟩
    · exact sim_done h hlt (by simp [Dv.setLn, h.ls]) ⟨rfl, rfl, rfl⟩ ⟨rfl, rfl, rfl⟩
  · exact h
theorem sim_flush {k : Nat} {D E : Dv} (h : Sim k D E) (hlt : D.steps < k) (off : Int) : Sim k (D.flush off).1 (E.flush off).1 := by
  have ha := sim_ask h hlt off 1
  unfold Dv.flush
  rw [ha]
  split
  · simp only [sim_ln h]
    exact sim_done h hlt (by simp [Dv.setLn, h.ls]) ⟨rfl, rfl, rfl⟩ ⟨rfl, rfl, rfl⟩
  · exact h
theorem sim_fence {k : Nat} {D E : Dv} (h : Sim k D E) (hlt : D.steps < k) : Sim k D.fence.1 E.fence.1 := by
  have ha := sim_ask h hlt 0 1
  unfold Dv.fence
  rw [ha]
  split
  · exact sim_done h hlt (by simp [h.ls]) ⟨rfl, rfl, rfl⟩ ⟨rfl, rfl, rfl⟩
  · exact h
theorem down_ask {D : Dv} (hp : 0 < D.ls.length) (hd : D.down = true) (off each : Int) : D.ask off each = 12 := by
  unfold Dv.ask; rw [if_neg (by omega), hd]; rfl
theorem down_store {D : Dv} (hp : 0 < D.ls.length) (hd : D.down = true) (off : Int) (n : BitVec 64) : D.store off n = (D, 12) := by unfold Dv.store; rw [down_ask hp hd]; rfl
theorem down_load {D : Dv} (hp : 0 < D.ls.length) (hd : D.down = true) (off : Int) : D.load off = (0#64, 12) := by unfold Dv.load; rw [down_ask hp hd]; rfl
theorem down_flush {D : Dv} (hp : 0 < D.ls.length) (hd : D.down = true) (off : Int) : D.flush off = (D, 12) := by unfold Dv.flush; rw [down_ask hp hd]; rfl
theorem down_fence {D : Dv} (hp : 0 < D.ls.length) (hd : D.down = true) : D.fence = (D, 12) := by unfold Dv.fence; rw [down_ask hp hd]; rfl
theorem sim_does {k : Nat} {D E : Dv} (h : Sim k D E) (hp : 0 < D.ls.length) (a : ActV) : Sim k (doesA D a) (if E.steps < k then doesA E a else E) := by
  have hs := h.steps
  by_cases hlt : D.steps < k
  · rw [if_pos (by omega)]
    unfold doesA Dv.does
    split
    · exact sim_flush h hlt _
    · split
      · exact sim_fence h hlt
      · split
        · exact h
        · exact sim_store h hlt _ _
  · rw [if_neg (by omega)]
    have hd : D.down = true := h.down.2 (by have := h.le; omega)
    have : doesA D a = D := by
      unfold doesA Dv.does
      rw [down_flush hp hd, down_fence hp hd, down_store hp hd]
      split
      · rfl
      · split
        · rfl
        · split <;> rfl
    rw [this]; exact h
theorem sim_start (n k : Nat) (hn : 0 < n) : Sim k ((dev0 n).stop k) (dev0 n) := by
  unfold Dv.stop
  rw [if_neg (by simp [dev0]; omega)]
  refine ⟨rfl, rfl, dev0_up n, Nat.zero_le _, ?_, ?_⟩
  · simp only [dev0]; omega
  · simp only [dev0]; rw [decide_eq_true_iff]; omega
theorem sim_crash {k : Nat} {D E : Dv} (h : Sim k D E) (hp : 0 < D.ls.length) (ps : List (BitVec 8)) : E.crash ps = D.crash ps := by
  have h1 := h.ls
  have h2 := h.steps
  unfold Dv.crash
  rw [h1, if_neg (by omega), if_neg (by omega), h2]
theorem fence_up {D : Dv} (hu : D.Up) (hp : 0 < D.ls.length) : D.fence.2 = 0 := by
  have ha : D.ask 0 1 = 0 := by
    rw [ask_up hu hp, if_neg]
    unfold Dv.size
    rintro (h | h | h)
    · omega
    · omega
    · exact h (Int.tmod_one _)
  unfold Dv.fence; rw [if_pos ha]
end NM
/-- Two devices, apart. -/
structure St2 (W w : World) (p q : Nat) (F G : Nat → Prop) (D E : NM.Dv) : Prop where
  one : St W w p F D
  two : St W w q G E
  apart : ∀ k, F k → ¬ G k
section
variable {W w w' : World} {p q : Nat} {F F' G G' : Nat → Prop} {D D' E E' : NM.Dv}
theorem St2.first (h : St2 W w p q F G D E) (hd : DevB w' p F' D') (ht : Turn w F w' F') : St2 W w' p q F' G D' E := by
  obtain ⟨h1, h2⟩ := h.two.dev.other ht h.apart
  have h3 := h.one.step hd ht
  exact ⟨h3, ⟨h1, h3.bel, h.two.ge⟩, h2⟩
theorem St2.second (h : St2 W w p q F G D E) (hd : DevB w' q G' E') (ht : Turn w G w' G') : St2 W w' p q F G' D E' := by
  obtain ⟨h1, h2⟩ := h.one.dev.other ht (fun k hg hf => h.apart k hf hg)
  have h3 := h.two.step hd ht
  exact ⟨⟨h1, h3.bel, h.one.ge⟩, h3, fun k hf hg => h2 k hg hf⟩
theorem St2.next (h : St2 W w p q F G D E) (hb : Below w.heap.size w w') : St2 W w' p q F G D E := ⟨h.one.next hb, h.two.next hb, h.apart⟩
theorem St.drew (h : St W w p F D) : St W w.drew p F D := h.next ((Below.refl _ _).drew)
theorem St2.drew (h : St2 W w p q F G D E) : St2 W w.drew p q F G D E := h.next ((Below.refl _ _).drew)
/-- Bytes that came in lie apart from a device of ours. -/
theorem sepIn {a : Option Addr} {ps : List (BitVec 8)} {c : Nat} (h : SlIn .u8 W a ps c) (hF : ∀ k, F k → W.heap.size ≤ k) : ps ≠ [] → ∀ y, a = some y → ¬ F y.block := by
  intro h0 y hy hf
  rcases h.at_ with h1 | ⟨b, o, ha, hc⟩
  · exact h0 h1
  · rw [hy] at ha
    obtain rfl : y = _ := Option.some.inj ha
    have h2 := World.block_lt_of_cell? W _ (hc 0 (List.length_pos_iff.2 h0))
    have h3 := hF _ hf
    simp at h2 h3
    omega
end
/-- What an image is as text, wherever nothing turned it. -/
theorem img_str {w w' : World} {a : Option Addr} {l : List (BitVec 8)} {c n : Nat} (h : SlIn .u8 w a l c) (hn : n = l.length) (hb : Below w.heap.size w w') : (convert 23 9 (.slice a n c)).run Try.prog w' = .ok (.string (strB l)) w' :=
  conv_str (h.next hb).at_ hn c (fun h0 => by have := h.nil h0; have := h.le; omega)

set_option maxRecDepth 20000 in
set_option maxHeartbeats 8000000 in
set_option linter.unusedSimpArgs false in
theorem nvmStop_walk (a : Option Addr) (l : List ActV) (cap : Nat) (after : BitVec 8) (a2 : Option Addr) (ps : List (BitVec 8)) (c2 : Nat) (w0 : World) (hin : ActsIn w0 a l cap) (hps : SlIn .u8 w0 a2 ps c2) :
    Ret Try.prog 7 #[.slice a l.length cap, .int .u8 (uv after), .slice a2 ps.length c2] w0 fun v w' => v = .bool true ∧ Below w0.heap.size w0 w' := by
  have bel0 := Below.refl w0.heap.size w0
  have hmax := hin.max
  have hle := hin.le
  obtain ⟨k, hk, hk40⟩ : ∃ k : Nat, uv (after % 40#8) = (k : Int) ∧ k < 40 := ⟨(after % 40#8).toNat, rfl, by rw [BitVec.toNat_umod]; exact Nat.mod_lt _ (by decide)⟩
  have hwl := IntWalk.i64_in (k : Int) (by omega)
  refine ret_of (args := [_, _, _]) _ Try.func7 rfl Try.ntmps7 (by simp) ?_
  simp -implicitDefEqProofs [go_sem]
  refine callE_of (alive_calls w0) ?_
  rintro v w1 ⟨rfl, b1⟩
  have bel1 := bel0.trans (b1.mono bel0.size)
  replace hin := hin.next b1
  replace hps := hps.next b1
  simp -implicitDefEqProofs [go_sem]
  refine callE_of (heavy_calls a l cap w1 hin) ?_
  rintro v w2 ⟨rfl, b2⟩
  have bel2 := bel1.trans (b2.mono bel1.size)
  replace hin := hin.next b2
  replace hps := hps.next b2
  by_cases hh : heavyB l = true
  · simp -implicitDefEqProofs [go_sem, hh]
    refine body_tmp 6 rfl ?_
    simp -implicitDefEqProofs [go_sem]
    exact bel2
  replace hh : heavyB l = false := by simpa using hh
  have hlen := heavy_len hh
  by_cases hp1 : 100 < ps.length
  · have hp1' : (100 : Int) < ps.length := by omega
    simp -implicitDefEqProofs [go_sem, hh, hp1, hp1']
    refine body_tmp 6 rfl ?_
    simp -implicitDefEqProofs [go_sem]
    exact bel2
  have hp1' : ¬ (100 : Int) < ps.length := by omega
  simp -implicitDefEqProofs [go_sem, hh, hp1, hp1']
  refine callE_of (newB 8 w2 (i64_lit 8 (by decide))) ?_
  rintro v w3 ⟨b3, ⟨h, _⟩ | ⟨_, p, F3, rfl, h3, hF3⟩⟩
  · exact absurd ⟨by omega, by omega⟩ h
  simp -implicitDefEqProofs [go_sem]
  refine callE_of (newB 8 w3 (i64_lit 8 (by decide))) ?_
  rintro v w4 ⟨b4, ⟨h, _⟩ | ⟨_, q, G4, rfl, h4, hG4⟩⟩
  · exact absurd ⟨by omega, by omega⟩ h
  have hlt3 := h3.lt
  have b24 : Below w2.heap.size w2 w4 := b3.trans (b4.mono b3.size)
  have hst : St2 w2 w4 p q F3 G4 (NM.dev0 8) (NM.dev0 8) := ⟨⟨h3.next b4, b24, hF3⟩, ⟨h4, b24, fun j hj => by have := hG4 j hj; have := b3.size; omega⟩, fun j hf hg => by have := hlt3 j hf; have := hG4 j hg; omega⟩
  simp -implicitDefEqProofs [go_sem, hk, hwl]
  refine callE_of (stopB k w4 hst.one.dev (by omega)) ?_
  rintro v w5 ⟨rfl, F5, h5, t5⟩
  have hs5 := hst.first h5 t5
  have hsim := NM.sim_start 8 k (by decide)
  have hls : ((NM.dev0 8).stop k).ls.length = 8 := by rw [NM.stop_len]; rfl
  simp -implicitDefEqProofs [go_sem]
  refine wpE_loop (fun e' w' => ∃ (i : Nat) (F G : Nat → Prop) (D E : NM.Dv), i ≤ l.length ∧ e' 2 = .slice a2 ps.length c2 ∧ e' 7 = .pointer (some ⟨p, 0, none⟩) ∧ e' 8 = .pointer (some ⟨q, 0, none⟩) ∧ e' 9 = .int .i64 k ∧ e' 37 = .slice a l.length cap ∧ e' 38 = .int .i64 l.length ∧ e' 39 = .int .i64 i ∧ Sim k D E ∧ D.ls.length = 8 ∧ St2 w2 w' p q F G D E) (fun e' _ => l.length - (intOf (e' 39)).toNat) ?_ ?_
  · refine ⟨0, F5, G4, (NM.dev0 8).stop k, NM.dev0 8, by omega, ?_⟩
    simp -implicitDefEqProofs [go_sem]
    exact ⟨hsim, hls, hs5⟩
  · rintro e' w6 ⟨i, F, G, D, E, hi, g2, g7, g8, g9, g37, g38, g39, hsim, hl8, hs6⟩
    have hstep := hsim.le
    have hse := hsim.steps
    have hlE : E.ls.length = 8 := by rw [hsim.ls, hl8]
    by_cases hlt : i < l.length
    · have hlt' : (i : Int) < l.length := by omega
      have hwk := IntWalk.i64_in ((i : Int) + 1) (by omega)
      obtain ⟨b, o, rfl, hcell, hok⟩ := (hin.next hs6.one.bel).get hlt
      have hld := ldCells (P := Try.prog) (w := w6) (g := b) (o := o + i * 4) (cs := l[i].cs) Try.underlying30 rfl actI rfl hcell
      have hst := actNew l[i].cs rfl l[i].cs_one
      have hl2 := ldAll (P := Try.prog) (Blk.new w6 l[i].cs 30) Try.underlying30 rfl actI rfl
      have hsim' := NM.sim_does hsim (by omega) l[i]
      have hlD' : (doesA D l[i]).ls.length = 8 := by rw [doesA_len, hl8]
      simp -implicitDefEqProofs [go_sem, g2, g7, g8, g9, g37, g38, g39, hlt, hlt', ↓hld, ↓hst, ↓hl2]
      have b7 : Below w6.heap.size w6 (w6.alloc (.cells l[i].cs 30)) := (Below.refl _ _).alloc (Nat.le_refl _) _
      have hs7 := hs6.next b7
      have hN := Blk.new w6 l[i].cs 30
      have hNF : ∀ j, F j → j ≠ w6.heap.size := fun j hj e => by have := hs6.one.dev.lt j hj; omega
      generalize World.alloc w6 _ = w7 at *
      refine callE_of (does_calls l[i] w7 hs7.one.dev hok.off (by omega)) ?_
      rintro v w8 ⟨rfl, F8, h8, t8⟩
      have hs8 := hs7.first h8 t8
      have hN8 := hN.mod t8.mod (fun hf => hNF _ hf rfl)
      simp -implicitDefEqProofs [go_sem, g2, g7, g8, g9, g37, g38, g39]
      refine callE_of (stepsB w8 hs8.two.dev) ?_
      rintro v w9 ⟨rfl, rfl⟩
      by_cases hsk : E.steps < k
      · have hsk' : (E.steps : Int) < k := by omega
        rw [if_pos hsk] at hsim'
        have hl3 := ldAll (P := Try.prog) hN8 Try.underlying30 rfl actI rfl
        simp -implicitDefEqProofs [go_sem, g2, g7, g8, g9, g37, g38, g39, hsk, hsk', ↓hl3]
        refine callE_of (does_calls l[i] w9 hs8.two.dev hok.off (by omega)) ?_
        rintro v w10 ⟨rfl, G10, h10, t10⟩
        have hs10 := hs8.second h10 t10
        simp -implicitDefEqProofs [go_sem, g2, g7, g8, g9, g37, g38, g39, hwk]
        refine goE_round ⟨i + 1, F8, G10, doesA D l[i], doesA E l[i], by omega, ?_⟩ ?_
        · simp -implicitDefEqProofs [go_sem, g2, g7, g8, g9, g37, g38]
          exact ⟨hsim', hlD', hs10⟩
        · simp -implicitDefEqProofs [go_sem, intOf, g39, hwk]; omega
      · have hsk' : ¬ (E.steps : Int) < k := by omega
        rw [if_neg hsk] at hsim'
        simp -implicitDefEqProofs [go_sem, g2, g7, g8, g9, g37, g38, g39, hsk, hsk', hwk]
        refine goE_round ⟨i + 1, F8, G, doesA D l[i], E, by omega, ?_⟩ ?_
        · simp -implicitDefEqProofs [go_sem, g2, g7, g8, g9, g37, g38]
          exact ⟨hsim', hlD', hs8⟩
        · simp -implicitDefEqProofs [go_sem, intOf, g39, hwk]; omega
    · have hi' : i = l.length := by omega
      subst hi'
      simp -implicitDefEqProofs [go_sem, g2, g7, g8, g9, g37, g38, g39]
      have hsz : D.size = 512 := by unfold NM.Dv.size; rw [hl8]
      have hszE : E.size = 512 := by unfold NM.Dv.size; rw [hlE]
      have himg : E.image = D.image := by unfold NM.Dv.image; rw [hsim.ls]
      have hlenI := NM.image_len hs6.one.dev.ok
      rw [hsz] at hlenI
      refine drawE_mix [.pure 0, .pure 2, .run 1 [], .run 3 [], .pure 4, .pure 5, .pure 6, .pure 8, .run 7 [], .pure 9, .pure 10, .pure 11, .pure 12, .pure 15, .run 13 [], .take 14, .run 16 [14], .run 17 [14], .pure 18, .pure 19] mixed (by decide +kernel) (by simp only [withOps, MStep.num, List.filterMap_cons, List.filterMap_nil, List.getElem?_cons_succ, List.getElem?_cons_zero, Option.map_some]; rfl) ?_
      replace hs6 := hs6.drew
      generalize World.drew w6 = w7 at *
      simp -implicitDefEqProofs [go_sem, g2, g7, g8, g9]
      refine callE_of (stepsB w7 hs6.one.dev) ?_
      rintro v w8 ⟨rfl, rfl⟩
      simp -implicitDefEqProofs [go_sem, g2, g7, g8, g9]
      refine callE_of (stepsB w8 hs6.two.dev) ?_
      rintro v w9 ⟨rfl, rfl⟩
      have hkk : ¬ (k : Int) < D.steps := by omega
      have hkk2 : ¬ k < D.steps := by omega
      simp -implicitDefEqProofs [go_sem, g2, g7, g8, g9, hse]
      refine callE_of (stepsB w9 hs6.one.dev) ?_
      rintro v w10 ⟨rfl, rfl⟩
      simp -implicitDefEqProofs [go_sem, g2, g7, g8, g9, hse, hkk, hkk2]
      refine callE_of (imageB w10 hs6.one.dev) ?_
      rintro v w11 ⟨a11, c11, rfl, in11, b11, n11⟩
      rw [hsz]
      have hs11 := hs6.next b11
      refine ⟨.inr (by simp -implicitDefEqProofs [go_sem]), ?_⟩
      simp -implicitDefEqProofs [go_sem, g2, g7, g8, g9, hse, hkk, hkk2]
      refine onTake_of (fun w' => Below w11.heap.size w11 w') (.string (strB D.image)) (Below.refl _ _) (fun w' hw => by simp -implicitDefEqProofs [go_sem, img_str in11 hlenI.symm hw]) ?_
      simp -implicitDefEqProofs [go_sem, g2, g7, g8, g9, hse, hkk, hkk2]
      refine callE_of (imageB w11 hs11.two.dev) ?_
      rintro v w12 ⟨a12, c12, rfl, in12, b12, n12⟩
      rw [hszE]
      rw [himg] at in12
      have hs12 := hs11.next b12
      refine ⟨.inr (by simp -implicitDefEqProofs [go_sem]; exact b12), ?_⟩
      simp -implicitDefEqProofs [go_sem, g2, g7, g8, g9, hse, hkk, hkk2, img_str in12 hlenI.symm (Below.refl _ _)]
      refine callE_of (stepsB w12 hs12.one.dev) ?_
      rintro v w13 ⟨rfl, rfl⟩
      have hcr := NM.sim_crash hsim (by omega) ps
      by_cases hkd : D.steps = k
      · have hdn := hsim.down.2 hkd
        have d1 := NM.down_load (D := D) (by omega) hdn 0
        have d2 := NM.down_store (D := D) (by omega) hdn 0 1#64
        have d3 := NM.down_flush (D := D) (by omega) hdn 0
        have d4 := NM.down_fence (D := D) (by omega) hdn
        simp -implicitDefEqProofs [go_sem, g2, g7, g8, g9, hkd]
        refine callE_of (loadB 0 w13 hs12.one.dev (i64_lit 0 (by decide))) ?_
        rintro v w14 ⟨rfl, rfl⟩
        simp -implicitDefEqProofs [go_sem, g2, g7, g8, g9, d1, show uv 1#64 = 1 from rfl]
        refine callE_of (storeB 0 1#64 w14 hs12.one.dev (i64_lit 0 (by decide)) (by omega)) ?_
        rintro v w15 ⟨rfl, F15, h15, t15⟩
        rw [d2] at h15
        have h15 : DevB _ p _ D := h15
        have hs15 := hs12.first h15 t15
        simp -implicitDefEqProofs [go_sem, g2, g7, g8, g9, d2]
        refine callE_of (flushB 0 w15 hs15.one.dev (i64_lit 0 (by decide)) (by omega)) ?_
        rintro v w16 ⟨rfl, F16, h16, t16⟩
        rw [d3] at h16
        have h16 : DevB _ p _ D := h16
        have hs16 := hs15.first h16 t16
        simp -implicitDefEqProofs [go_sem, g2, g7, g8, g9, d3]
        refine callE_of (fenceB w16 hs16.one.dev (by omega)) ?_
        rintro v w17 ⟨rfl, F17, h17, t17⟩
        rw [d4] at h17
        have h17 : DevB _ p _ D := h17
        have hs17 := hs16.first h17 t17
        simp -implicitDefEqProofs [go_sem, g2, g7, g8, g9, d4]
        refine callE_of (crashB a2 c2 ps w17 hs17.one.dev (hps.next hs17.one.bel) (sepIn hps hs17.one.ge) (by omega)) ?_
        rintro v w18 ⟨rfl, F18, h18, t18⟩
        have hs18 := hs17.first h18 t18
        simp -implicitDefEqProofs [go_sem, g2, g7, g8, g9]
        refine callE_of (crashB a2 c2 ps w18 hs18.two.dev (hps.next hs18.two.bel) (sepIn hps hs18.two.ge) (by omega)) ?_
        rintro v w19 ⟨rfl, G19, h19, t19⟩
        have hs19 := (hs18.second h19 t19).drew
        rw [hcr] at hs19
        have hlc : (D.crash ps).ls.length = 8 := by rw [NM.crash_len, hl8]
        have hszc : (D.crash ps).size = 512 := by unfold NM.Dv.size; rw [hlc]
        have hlenC := NM.image_len hs19.one.dev.ok
        rw [hszc] at hlenC
        have hupc := NM.Dv.Up.crash (D := D) (by omega) ps
        have hfc := NM.fence_up hupc (by omega)
        have hstc : (D.crash ps).steps < 1099511627776 := by
          have : (D.crash ps).steps = D.steps := by unfold NM.Dv.crash; split <;> rfl
          omega
        simp -implicitDefEqProofs [go_sem, g2, g7, g8, g9]
        refine drawE_mix [.pure 0, .pure 3, .run 1 [], .take 2, .run 4 [2], .run 5 [2], .pure 6, .pure 7, .pure 8, .run 9 [], .pure 10, .pure 11, .pure 12] mixed (by decide +kernel) (by simp only [withOps, MStep.num, List.filterMap_cons, List.filterMap_nil, List.getElem?_cons_succ, List.getElem?_cons_zero, Option.map_some]; rfl) ?_
        generalize World.drew w19 = w20 at *
        simp -implicitDefEqProofs [go_sem, g2, g7, g8, g9]
        refine callE_of (imageB w20 hs19.one.dev) ?_
        rintro v w21 ⟨a21, c21, rfl, in21, b21, n21⟩
        rw [hszc]
        have hs21 := hs19.next b21
        refine ⟨.inr (by simp -implicitDefEqProofs [go_sem]), ?_⟩
        simp -implicitDefEqProofs [go_sem, g2, g7, g8, g9]
        refine onTake_of (fun w' => Below w21.heap.size w21 w') (.string (strB (D.crash ps).image)) (Below.refl _ _) (fun w' hw => by simp -implicitDefEqProofs [go_sem, img_str in21 hlenC.symm hw]) ?_
        simp -implicitDefEqProofs [go_sem, g2, g7, g8, g9]
        refine callE_of (imageB w21 hs21.two.dev) ?_
        rintro v w22 ⟨a22, c22, rfl, in22, b22, n22⟩
        rw [hszc]
        have hs22 := hs21.next b22
        refine ⟨.inr (by simp -implicitDefEqProofs [go_sem]; exact b22), ?_⟩
        simp -implicitDefEqProofs [go_sem, g2, g7, g8, g9, img_str in22 hlenC.symm (Below.refl _ _)]
        refine callE_of (fenceB w22 hs22.one.dev hstc) ?_
        rintro v w23 ⟨rfl, F23, h23, t23⟩
        have hs23 := hs22.first h23 t23
        refine ⟨.inr (by simp -implicitDefEqProofs [go_sem]), ?_⟩
        simp -implicitDefEqProofs [go_sem, g2, g7, g8, g9, hfc]
        refine body_tmp 6 rfl ?_
        simp -implicitDefEqProofs [go_sem]
        exact bel2.trans (hs23.one.bel.mono (by have := bel2.size; omega))
      · have hkd' : ((D.steps : Int) == k) = false := by rw [beq_eq_false_iff_ne]; omega
        have hs17 := hs12
        generalize w13 = w17 at *
        generalize F = F17 at *
        simp -implicitDefEqProofs [go_sem, g2, g7, g8, g9, hkd, hkd']
        refine callE_of (crashB a2 c2 ps w17 hs17.one.dev (hps.next hs17.one.bel) (sepIn hps hs17.one.ge) (by omega)) ?_
        rintro v w18 ⟨rfl, F18, h18, t18⟩
        have hs18 := hs17.first h18 t18
        simp -implicitDefEqProofs [go_sem, g2, g7, g8, g9]
        refine callE_of (crashB a2 c2 ps w18 hs18.two.dev (hps.next hs18.two.bel) (sepIn hps hs18.two.ge) (by omega)) ?_
        rintro v w19 ⟨rfl, G19, h19, t19⟩
        have hs19 := (hs18.second h19 t19).drew
        rw [hcr] at hs19
        have hlc : (D.crash ps).ls.length = 8 := by rw [NM.crash_len, hl8]
        have hszc : (D.crash ps).size = 512 := by unfold NM.Dv.size; rw [hlc]
        have hlenC := NM.image_len hs19.one.dev.ok
        rw [hszc] at hlenC
        have hupc := NM.Dv.Up.crash (D := D) (by omega) ps
        have hfc := NM.fence_up hupc (by omega)
        have hstc : (D.crash ps).steps < 1099511627776 := by
          have : (D.crash ps).steps = D.steps := by unfold NM.Dv.crash; split <;> rfl
          omega
        simp -implicitDefEqProofs [go_sem, g2, g7, g8, g9]
        refine drawE_mix [.pure 0, .pure 3, .run 1 [], .take 2, .run 4 [2], .run 5 [2], .pure 6, .pure 7, .pure 8, .run 9 [], .pure 10, .pure 11, .pure 12] mixed (by decide +kernel) (by simp only [withOps, MStep.num, List.filterMap_cons, List.filterMap_nil, List.getElem?_cons_succ, List.getElem?_cons_zero, Option.map_some]; rfl) ?_
        generalize World.drew w19 = w20 at *
        simp -implicitDefEqProofs [go_sem, g2, g7, g8, g9]
        refine callE_of (imageB w20 hs19.one.dev) ?_
        rintro v w21 ⟨a21, c21, rfl, in21, b21, n21⟩
        rw [hszc]
        have hs21 := hs19.next b21
        refine ⟨.inr (by simp -implicitDefEqProofs [go_sem]), ?_⟩
        simp -implicitDefEqProofs [go_sem, g2, g7, g8, g9]
        refine onTake_of (fun w' => Below w21.heap.size w21 w') (.string (strB (D.crash ps).image)) (Below.refl _ _) (fun w' hw => by simp -implicitDefEqProofs [go_sem, img_str in21 hlenC.symm hw]) ?_
        simp -implicitDefEqProofs [go_sem, g2, g7, g8, g9]
        refine callE_of (imageB w21 hs21.two.dev) ?_
        rintro v w22 ⟨a22, c22, rfl, in22, b22, n22⟩
        rw [hszc]
        have hs22 := hs21.next b22
        refine ⟨.inr (by simp -implicitDefEqProofs [go_sem]; exact b22), ?_⟩
        simp -implicitDefEqProofs [go_sem, g2, g7, g8, g9, img_str in22 hlenC.symm (Below.refl _ _)]
        refine callE_of (fenceB w22 hs22.one.dev hstc) ?_
        rintro v w23 ⟨rfl, F23, h23, t23⟩
        have hs23 := hs22.first h23 t23
        refine ⟨.inr (by simp -implicitDefEqProofs [go_sem]), ?_⟩
        simp -implicitDefEqProofs [go_sem, g2, g7, g8, g9, hfc]
        refine body_tmp 6 rfl ?_
        simp -implicitDefEqProofs [go_sem]
        exact bel2.trans (hs23.one.bel.mono (by have := bel2.size; omega))
end Go.Proofs.Ytkljlgahdlgmpaa
