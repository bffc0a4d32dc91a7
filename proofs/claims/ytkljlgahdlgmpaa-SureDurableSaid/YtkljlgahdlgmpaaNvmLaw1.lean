/- NvmLoads: its walk. -/
import Derived.Test.YtkljlgahdlgmpaaNvmPlain
import Derived.Test.YtkljlgahdlgmpaaNvmAlive
namespace Go.Proofs.Ytkljlgahdlgmpaa
open Go Go.RowKit

/-- The device that a law works on: behind p, in blocks that are new since W. -/
structure St (W w : World) (p : Nat) (F : Nat → Prop) (D : NM.Dv) : Prop where
  dev : DevB w p F D
  bel : Below W.heap.size W w
  ge : ∀ k, F k → W.heap.size ≤ k
section
variable {W w w' : World} {p : Nat} {F F' : Nat → Prop} {D D' : NM.Dv}
theorem St.step (h : St W w p F D) (hd : DevB w' p F' D') (ht : Turn w F w' F') : St W w' p F' D' :=
  ⟨hd, h.bel.trans (ht.below h.bel.size h.ge), ht.ge h.bel.size h.ge⟩
theorem St.next (h : St W w p F D) (hb : Below w.heap.size w w') : St W w' p F D := ⟨h.dev.next hb, h.bel.trans (hb.mono h.bel.size), h.ge⟩
/-- Bytes that lie apart from the device. -/
structure Apart (w : World) (F : Nat → Prop) (a : Option Addr) (l : List (BitVec 8)) (c : Nat) : Prop where
  in_ : SlIn .u8 w a l c
  sep : ∀ y, a = some y → y.block < w.heap.size ∧ ¬ F y.block
theorem Apart.turn {a : Option Addr} {l : List (BitVec 8)} {c : Nat} (h : Apart w F a l c) (ht : Turn w F w' F') : Apart w' F' a l c := by
  refine ⟨h.in_.mod ht.mod (fun b hb => ?_), fun y hy => ?_⟩
  · obtain ⟨o, ho⟩ := hb; exact (h.sep _ ho).2
  · obtain ⟨h1, h2⟩ := h.sep y hy
    refine ⟨by have := ht.size; omega, fun hf => ?_⟩
    rcases ht.new _ hf with h3 | h3
    · exact h2 h3
    · omega
theorem Apart.next {a : Option Addr} {l : List (BitVec 8)} {c : Nat} (h : Apart w F a l c) (hb : Below w.heap.size w w') : Apart w' F a l c := h.turn (.of hb)
theorem apart_new {a : Option Addr} {l : List (BitVec 8)} {c : Nat} (hd : DevB w p F D) (hin : SlIn .u8 w' a l c) (hnew : ∀ y, a = some y → w.heap.size ≤ y.block ∧ y.block < w'.heap.size) : Apart w' F a l c :=
  ⟨hin, fun y hy => ⟨(hnew y hy).2, fun hf => by have := hd.lt _ hf; have := (hnew y hy).1; omega⟩⟩
/-- Of a byte. -/
theorem Apart.at {a : Option Addr} {l : List (BitVec 8)} {c : Nat} (h : Apart w F a l c) {i : Nat} (hi : i < l.length) : ∃ b off, a = some ⟨b, off, none⟩ ∧ w.cell? ⟨b, off + i, none⟩ = some (.int .u8 (uv (l.getD i 0#8))) := h.in_.at_.cellD hi
end
theorem actNew : ∀ (cs : Array Value), cs.size = 4 → (∀ v ∈ cs.toList, v.oneCell' = true) → ∀ (w : World) (e : Env) (dst : Option Tmp) (x y : Operand) (ty' : TypeId) (pos : String) (af : Array Edge) (gd : Option (Nat × Bool)), ev e x = .pointer (some ⟨w.heap.size, 0, none⟩) → ev e y = .agg cs →
    xOp Try.prog e ⟨dst, .store 30 x y, ty', pos, af, gd⟩ (w.alloc (.cells #[.int .u8 0, .int .i64 0, .int .u64 0, .slice none 0 0] 30)) = .ok .skip (w.alloc (.cells cs 30)) := by
  intro cs hs h1
  exact stNew (P := Try.prog) (by rw [hs]; exact actI) (by rw [hs]; rfl) h1
theorem ActV.cs_one (a : ActV) : ∀ v ∈ a.cs.toList, v.oneCell' = true := by simp [ActV.cs, Value.oneCell']

theorem heavy_len {l : List ActV} (h : heavyB l = false) : l.length ≤ 150 := by
  unfold heavyB at h
  rw [Bool.or_eq_false_iff, decide_eq_false_iff_not] at h
  omega
theorem d8_size (l : List ActV) : (doesL (NM.dev0 8) l).size = 512 := by unfold NM.Dv.size; rw [doesL_len]; rfl
theorem right_iff {D : NM.Dv} (hu : D.Up) (hl : D.ls.length = 8) (off : Int) : D.ask off 8 = if 0 ≤ off ∧ off.tmod 8 = 0 ∧ off ≤ 504 then 0 else 4 := by
  rw [NM.ask_up hu (by omega)]
  unfold NM.Dv.size; rw [hl]
  by_cases h : 0 ≤ off ∧ off.tmod 8 = 0 ∧ off ≤ 504
  · rw [if_pos h, if_neg]
    rintro (h1 | h1 | h1)
    · omega
    · omega
    · exact h1 h.2.1
  · rw [if_neg h, if_pos]
    by_cases h0 : off < 0
    · exact .inl h0
    · by_cases h1 : off.tmod 8 = 0
      · right; left
        rw [Int.tmod_eq_emod_of_nonneg (by omega)] at h1 h
        omega
      · exact .inr (.inr h1)

set_option maxRecDepth 20000 in
set_option maxHeartbeats 4000000 in
set_option linter.unusedSimpArgs false in
theorem nvmLoads_walk (a : Option Addr) (l : List ActV) (cap : Nat) (off : Int) (n : BitVec 64) (w0 : World) (hin : ActsIn w0 a l cap) (ho : I64 off) :
    Ret Try.prog 5 #[.slice a l.length cap, .int .i64 off, .int .u64 (uv n)] w0 fun v w' => v = .bool true ∧ Below w0.heap.size w0 w' := by
  have bel0 := Below.refl w0.heap.size w0
  have hmax := hin.max
  have hle := hin.le
  refine ret_of (args := [_, _, _]) _ Try.func5 rfl Try.ntmps5 (by simp) ?_
  simp -implicitDefEqProofs [go_sem]
  refine callE_of (alive_calls w0) ?_
  rintro v w1 ⟨rfl, b1⟩
  have bel1 := bel0.trans (b1.mono bel0.size)
  replace hin := hin.next b1
  simp -implicitDefEqProofs [go_sem]
  refine callE_of (heavy_calls a l cap w1 hin) ?_
  rintro v w2 ⟨rfl, b2⟩
  have bel2 := bel1.trans (b2.mono bel1.size)
  replace hin := hin.next b2
  by_cases hh : heavyB l = true
  · simp -implicitDefEqProofs [go_sem, hh]
    refine body_tmp 6 rfl ?_
    simp -implicitDefEqProofs [go_sem]
    exact bel2
  replace hh : heavyB l = false := by simpa using hh
  have hlen := heavy_len hh
  simp -implicitDefEqProofs [go_sem, hh]
  refine callE_of (newB 8 w2 (i64_lit 8 (by decide))) ?_
  rintro v w3 ⟨b3, ⟨h, _⟩ | ⟨_, p, F3, rfl, h3, hF3⟩⟩
  · exact absurd ⟨by omega, by omega⟩ h
  have bel3 := bel2.trans (b3.mono bel2.size)
  have hst : St w2 w3 p F3 (NM.dev0 8) := ⟨h3, b3, hF3⟩
  simp -implicitDefEqProofs [go_sem]
  refine wpE_loop (fun e' w' => ∃ k F, k ≤ l.length ∧ e' 0 = .slice a l.length cap ∧ e' 1 = .int .i64 off ∧ e' 2 = .int .u64 (uv n) ∧ e' 7 = .pointer (some ⟨p, 0, none⟩) ∧ e' 24 = .slice a l.length cap ∧ e' 25 = .int .i64 l.length ∧ e' 26 = .int .i64 k ∧ St w2 w' p F (doesL (NM.dev0 8) (l.take k))) (fun e' _ => l.length - (intOf (e' 26)).toNat) ?_ ?_
  · refine ⟨0, F3, by omega, ?_⟩
    simp -implicitDefEqProofs [go_sem]
    exact hst
  · rintro e' w4 ⟨k, F, hk, g0, g1, g2, g7, g24, g25, g26, hs4⟩
    by_cases hlt : k < l.length
    · have hlt' : (k : Int) < l.length := by omega
      have hwk := IntWalk.i64_in ((k : Int) + 1) (by omega)
      obtain ⟨b, o, rfl, hcell, hok⟩ := (hin.next hs4.bel).get hlt
      have hld := ldCells (P := Try.prog) (w := w4) (g := b) (o := o + k * 4) (cs := l[k].cs) Try.underlying30 rfl actI rfl hcell
      have hst := actNew l[k].cs rfl l[k].cs_one
      have hl2 := ldAll (P := Try.prog) (Blk.new w4 l[k].cs 30) Try.underlying30 rfl actI rfl
      simp -implicitDefEqProofs [go_sem, g0, g1, g2, g7, g24, g25, g26, hlt, hlt', ↓hld, ↓hst, ↓hl2]
      have b5 : Below w4.heap.size w4 (w4.alloc (.cells l[k].cs 30)) := (Below.refl _ _).alloc (Nat.le_refl _) _
      have hs5 := hs4.next b5
      have hsteps := doesL_steps (NM.dev0 8) (l.take k)
      rw [List.length_take, show (NM.dev0 8).steps = 0 from rfl] at hsteps
      refine callE_of (does_calls l[k] _ hs5.dev hok.off (by omega)) ?_
      rintro v w6 ⟨rfl, F6, h6, t6⟩
      rw [← doesL_take _ _ _ hlt] at h6
      simp -implicitDefEqProofs [go_sem, g0, g1, g2, g7, g24, g25, g26, hwk]
      refine goE_round ⟨k + 1, F6, by omega, ?_⟩ ?_
      · simp -implicitDefEqProofs [go_sem, g0, g1, g2, g7, g24, g25]
        exact hs5.step h6 t6
      · simp -implicitDefEqProofs [go_sem, intOf, g26, hwk]; omega
    · have hk' : k = l.length := by omega
      subst hk'
      rw [List.take_length] at hs4
      have hsteps := doesL_steps (NM.dev0 8) l
      rw [show (NM.dev0 8).steps = 0 from rfl] at hsteps
      obtain ⟨D, hD⟩ : ∃ D, D = doesL (NM.dev0 8) l := ⟨_, rfl⟩
      have hup : D.Up := hD ▸ doesL_up (NM.dev0_up 8) l
      have hok : D.Ok := hD ▸ doesL_ok (NM.dev0_ok 8 (by omega)) l
      have hl8 : D.ls.length = 8 := by rw [hD, doesL_len]; rfl
      have hs512 : D.size = 512 := by unfold NM.Dv.size; rw [hl8]
      rw [← hD] at hs4 hsteps
      clear hD
      simp -implicitDefEqProofs [go_sem, g0, g1, g2, g7, g24, g25, g26]
      refine callE_of (imageB w4 hs4.dev) ?_
      rintro v w5 ⟨a5, c5, rfl, in5, b5, n5⟩
      have ap5 := apart_new hs4.dev in5 n5
      have hs5 := hs4.next b5
      rw [hs512]
      simp -implicitDefEqProofs [go_sem, g0, g1, g2, g7]
      refine callE_of (storeB off n w5 hs5.dev ho (by omega)) ?_
      rintro v w6 ⟨rfl, F6, h6, t6⟩
      have ap6 := ap5.turn t6
      have hs6 := hs5.step h6 t6
      have hu' := hup.store off n
      have hok' := hok.store off n
      have hl8' : (D.store off n).1.ls.length = 8 := by rw [NM.store_len, hl8]
      have hs512' : (D.store off n).1.size = 512 := by unfold NM.Dv.size; rw [hl8']
      simp -implicitDefEqProofs [go_sem, g0, g1, g2, g7]
      refine callE_of (imageB w6 hs6.dev) ?_
      rintro v w7 ⟨a7, c7, rfl, in7, b7, n7⟩
      have ap7 := apart_new hs6.dev in7 n7
      have ap7' := ap6.next b7
      have hs7 := hs6.next b7
      rw [hs512']
      simp -implicitDefEqProofs [go_sem, g0, g1, g2, g7]
      have hst2 := NM.store_err (D := D) off n
      have hld2 := NM.load_store hok hup (by omega) off n
      have hbyte := fun k (hk : k < 512) => NM.store_image hok (by omega) off n (k := k) (by omega)
      have hright := right_iff hup hl8 off
      have hlen5 : D.image.length = 512 := by rw [NM.image_len hok, hs512]
      have hlen7 : (D.store off n).1.image.length = 512 := by rw [NM.image_len hok', hs512']
      rw [hst2]
      generalize he : D.ask off 8 = e at *
      refine wpE_loop (fun e' w' => ∃ k : Nat, k ≤ 512 ∧ e' 1 = .int .i64 off ∧ e' 2 = .int .u64 (uv n) ∧ e' 7 = .pointer (some ⟨p, 0, none⟩) ∧ e' 10 = .slice a5 512 c5 ∧ e' 11 = .int .i64 e ∧ e' 12 = .slice a7 512 c7 ∧ e' 52 = .slice a7 512 c7 ∧ e' 53 = .int .i64 512 ∧ e' 54 = .int .i64 (k : Int) ∧ St w2 w' p F6 (D.store off n).1 ∧ Apart w' F6 a5 D.image c5 ∧ Apart w' F6 a7 (D.store off n).1.image c7) (fun e' _ => 512 - (intOf (e' 54)).toNat) ?_ ?_
      · refine ⟨0, by omega, ?_⟩
        simp -implicitDefEqProofs [go_sem, g1, g2, g7]
        exact ⟨hs7, ap7', ap7⟩
      · rintro e' w8 ⟨k, hk, g1, g2, g7, g10, g11, g12, g52, g53, g54, hs8, ap5, ap7⟩
        by_cases hlt : k < 512
        · have hlt' : (k : Int) < 512 := by omega
          have hwk := IntWalk.i64_in ((k : Int) + 1) (by omega)
          obtain ⟨b5, o5, rfl, hc5⟩ := ap5.at (i := k) (by omega)
          obtain ⟨b7, o7, rfl, hc7⟩ := ap7.at (i := k) (by omega)
          have hd : Below w8.heap.size w8 w8.drew := (Below.refl _ _).drew
          have hb := hbyte k hlt
          generalize D.image.getD k 0#8 = x at *
          generalize (D.store off n).1.image.getD k 0#8 = y at *
          simp -implicitDefEqProofs [go_sem, g1, g2, g7, g10, g11, g12, g52, g53, g54, hlt, hlt']
          refine drawE_still mixed (by decide +kernel) ?_
          by_cases hxy : y = x
          · simp -implicitDefEqProofs [go_sem, g1, g2, g7, g10, g11, g12, g52, g53, g54, hlt, hlt', hc5, hc7, hxy]
            unfold endE
            simp -implicitDefEqProofs [go_sem, g1, g2, g7, g10, g11, g12, g52, g53, g54, hwk]
            refine goE_round ⟨k + 1, by omega, ?_⟩ ?_
            · simp -implicitDefEqProofs [go_sem, g1, g2, g7, g10, g11, g12, g52, g53]
              exact ⟨hs8.next hd, ap5.next hd, ap7.next hd⟩
            · simp -implicitDefEqProofs [go_sem, intOf, g54, hwk]; omega
          · obtain ⟨he0, hk1, hk2⟩ := hb hxy
            have hxy1 : (y != x) = true := by rw [bne_iff_ne]; exact hxy
            have hxy2 : (y == x) = false := by rw [beq_eq_false_iff_ne]; exact hxy
            have hw8 := IntWalk.i64_in (off + 8) (by unfold I64 at ho; omega)
            have hk3 : ¬ ((k : Int) < off) := by omega
            have hk4 : ¬ (off + 8 ≤ (k : Int)) := by omega
            simp -implicitDefEqProofs [go_sem, g1, g2, g7, g10, g11, g12, g52, g53, g54, hlt, hlt', hc5, hc7, hxy1, hxy2, he0, hw8, hk3, hk4]
            unfold endE
            simp -implicitDefEqProofs [go_sem, g1, g2, g7, g10, g11, g12, g52, g53, g54, hwk]
            refine goE_round ⟨k + 1, by omega, ?_⟩ ?_
            · simp -implicitDefEqProofs [go_sem, g1, g2, g7, g10, g11, g12, g52, g53]
              exact ⟨hs8.next hd, ap5.next hd, ap7.next hd⟩
            · simp -implicitDefEqProofs [go_sem, intOf, g54, hwk]; omega
        · have hk' : k = 512 := by omega
          subst hk'
          simp -implicitDefEqProofs [go_sem, g1, g2, g7, g10, g11, g12, g52, g53, g54]
          refine callE_of (loadB off w8 hs8.dev ho) ?_
          rintro v w9 ⟨rfl, rfl⟩
          rw [hld2]
          by_cases hr : 0 ≤ off ∧ off.tmod 8 = 0 ∧ off ≤ 504
          · rw [if_pos hr] at hright
            obtain ⟨r1, r2, r3⟩ := hr
            have he0 : e = 0 := hright
            have r2' : (off.tmod 8 == 0) = true := by rw [beq_iff_eq]; exact r2
            simp -implicitDefEqProofs [go_sem, g1, g2, g7, g10, g11, g12, he0, r1, r2, r2', r3]
            refine body_tmp 6 rfl ?_
            simp -implicitDefEqProofs [go_sem]
            exact bel2.trans (hs8.bel.mono (by have := bel2.size; omega))
          · rw [if_neg hr] at hright
            have he0 : e = 4 := hright
            have fin : Below w0.heap.size w0 w9 := bel2.trans (hs8.bel.mono (by have := bel2.size; omega))
            by_cases r1 : 0 ≤ off
            · by_cases r2 : off.tmod 8 = 0
              · have r3 : ¬ off ≤ 504 := fun h => hr ⟨r1, r2, h⟩
                have r2' : (off.tmod 8 == 0) = true := by rw [beq_iff_eq]; exact r2
                simp -implicitDefEqProofs [go_sem, g1, g2, g7, g10, g11, g12, he0, r1, r2, r2', r3]
                refine body_tmp 6 rfl ?_
                simp -implicitDefEqProofs [go_sem]
                exact fin
              · have r2' : (off.tmod 8 == 0) = false := by rw [beq_eq_false_iff_ne]; exact r2
                simp -implicitDefEqProofs [go_sem, g1, g2, g7, g10, g11, g12, he0, r1, r2, r2']
                refine body_tmp 6 rfl ?_
                simp -implicitDefEqProofs [go_sem]
                exact fin
            · simp -implicitDefEqProofs [go_sem, g1, g2, g7, g10, g11, g12, he0, r1]
              refine body_tmp 6 rfl ?_
              simp -implicitDefEqProofs [go_sem]
              exact fin
end Go.Proofs.Ytkljlgahdlgmpaa
