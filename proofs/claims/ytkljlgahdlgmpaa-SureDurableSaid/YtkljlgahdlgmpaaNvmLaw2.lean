/- NvmMay: its walk. -/
import Derived.Test.YtkljlgahdlgmpaaNvmLaw1
import Derived.Test.YtkljlgahdlgmpaaBytes
namespace Go.Proofs.Ytkljlgahdlgmpaa
open Go Go.RowKit

namespace NM
open Go.Proofs.Ytkljlgahdlgmpaa.WM (getM putM putM_length putM_getD hasB get_put byteOf byteOf_wd wd)
/-- The bytes of a line in the whole. -/
theorem flat_piece : ∀ (ls : List Ln), (∀ l ∈ ls, l.now.length = 64) → ∀ q, q < ls.length → (((ls.map Ln.now).flatten).drop (64 * q)).take 64 = (ls.getD q line0).now
  | [], _, q, hq => by simp at hq
  | x :: ls, h, 0, _ => by
    have hx := h x List.mem_cons_self
    simp only [List.map_cons, List.flatten_cons, Nat.mul_zero, List.drop_zero]
    rw [List.take_append_of_le_length (by omega), List.take_of_length_le (by omega)]; rfl
  | x :: ls, h, q + 1, hq => by
    have hx := h x List.mem_cons_self
    have ih := flat_piece ls (fun l hl => h l (List.mem_cons_of_mem _ hl)) q (by simpa using hq)
    simp only [List.map_cons, List.flatten_cons]
    rw [List.drop_append, List.drop_eq_nil_of_le (by omega), List.nil_append, show 64 * (q + 1) - x.now.length = 64 * q by omega, ih]
    rfl
theorem image_piece {D : Dv} (h : D.Ok) {q : Nat} (hq : q < D.ls.length) : (D.image.drop (64 * q)).take 64 = (D.ln q).now := flat_piece D.ls (fun l hl => (h.line l hl).len) q hq
/-- A step of a line: what it is, and how many things it may be. -/
def LnStep (l l' : Ln) : Prop := (l'.now = l.now ∧ l'.chg.length ≤ l.chg.length) ∨ (l'.now ≠ l.now ∧ l'.chg.length = l.chg.length + 1)
theorem LnStep.refl (l : Ln) : LnStep l l := .inl ⟨rfl, Nat.le_refl _⟩
theorem setLn_step (D : Dv) (i : Nat) (hi : i < D.ls.length) (l' : Ln) (h : LnStep (D.ln i) l') (k : Nat) : LnStep (D.ln k) ((D.setLn i l').ln k) := by
  rw [Dv.setLn_ln D i l' hi]
  split
  · rename_i h2; subst h2; exact h
  · exact .refl _
theorem store_step {D : Dv} (h : D.Ok) (hp : 0 < D.ls.length) (off : Int) (n : BitVec 64) (k : Nat) : LnStep (D.ln k) ((D.store off n).1.ln k) := by
  by_cases ha : D.ask off 8 = 0
  · obtain ⟨o, rfl, ho8, hos⟩ := ask8 hp ha
    have hq : o / 64 < D.ls.length := by unfold Dv.size at hos; omega
    unfold Dv.store
    rw [if_pos ha, Int.toNat_natCast]
    by_cases hw : D.word o = n
    · simp only [hw, if_true]; exact .refl _
    · simp only [hw, if_false]
      show LnStep (D.ln k) ((D.setLn (o / 64) _).ln k)
      refine setLn_step D _ hq _ (.inr ⟨fun e => hw ?_, by simp [Ln.store]⟩) k
      have hlen := (Dv.Ok0.ln h.to0 (o / 64)).len
      obtain ⟨q, hq8⟩ : ∃ q, o % 64 = 8 * q := ⟨o % 64 / 8, by omega⟩
      have e' : putM (D.ln (o / 64)).now (o % 64) n = (D.ln (o / 64)).now := e
      show getM (D.ln (o / 64)).now (o % 64) = n
      rw [← e', hq8, get_put _ q q n (by omega), if_pos rfl]
  · rw [store_fail off n ha]; exact .refl _
theorem flush_step {D : Dv} (hp : 0 < D.ls.length) (off : Int) (k : Nat) : LnStep (D.ln k) ((D.flush off).1.ln k) := by
  unfold Dv.flush
  split
  · rename_i ha
    obtain ⟨o, rfl, hos⟩ := ask1 hp ha
    have hq : o / 64 < D.ls.length := by unfold Dv.size at hos; omega
    show LnStep (D.ln k) ((D.setLn _ _).ln k)
    rw [Int.toNat_natCast]
    exact setLn_step D _ hq { D.ln (o / 64) with mark := (D.ln (o / 64)).chg.length + 1 } (.inl ⟨rfl, Nat.le_refl _⟩) k
  · exact .refl _
theorem map_ln (D : Dv) (f : Ln → Ln) (k : Nat) (hk : k < D.ls.length) : ({ D with ls := D.ls.map f } : Dv).ln k = f (D.ln k) := by
  unfold Dv.ln; simp [List.getD, hk]
theorem fence_ln {D : Dv} (ha : D.ask 0 1 = 0) (k : Nat) (hk : k < D.ls.length) : D.fence.1.ln k = (D.ln k).fence := by
  unfold Dv.fence; rw [if_pos ha]
  exact map_ln D Ln.fence k hk
theorem fence_now (l : Ln) : l.fence.now = l.now := by unfold Ln.fence; split <;> rfl
theorem fence_step {D : Dv} (k : Nat) (hk : k < D.ls.length) : LnStep (D.ln k) (D.fence.1.ln k) := by
  by_cases ha : D.ask 0 1 = 0
  · rw [fence_ln ha k hk]
    refine .inl ⟨fence_now _, ?_⟩
    unfold Ln.fence; split
    · simp
    · exact Nat.le_refl _
  · unfold Dv.fence; rw [if_neg ha]; exact .refl _
theorem may_eq {D : Dv} {k : Nat} (hk : k < D.ls.length) : D.may (k : Int) = ((D.ln k).chg.length : Int) + 1 := by
  unfold Dv.may; rw [if_neg (by omega), Int.toNat_natCast]
/-- Behind a flush and a fence a line may be one thing alone. -/
theorem flush_fence {D : Dv} (hu : D.Up) (hp : 0 < D.ls.length) {k : Nat} (hk : k < D.ls.length) : (D.flush (64 * (k : Int))).2 = 0 ∧ (D.flush (64 * (k : Int))).1.fence.2 = 0 ∧ (D.flush (64 * (k : Int))).1.fence.1.may k = 1 := by
  have ha : D.ask (64 * (k : Int)) 1 = 0 := by
    rw [ask_up hu hp, if_neg]
    unfold Dv.size
    rintro (h | h | h)
    · omega
    · omega
    · exact h (Int.tmod_one _)
  have hu1 := hu.flush (64 * (k : Int))
  have hl1 := flush_len D (64 * (k : Int))
  have ha2 : (D.flush (64 * (k : Int))).1.ask 0 1 = 0 := by
    rw [ask_up hu1 (by omega), if_neg]
    unfold Dv.size
    rintro (h | h | h)
    · omega
    · omega
    · exact h (Int.tmod_one _)
  refine ⟨by unfold Dv.flush; rw [if_pos ha], by unfold Dv.fence; rw [if_pos ha2], ?_⟩
  rw [may_eq (by rw [fence_len]; omega), fence_ln ha2 k (by omega)]
  have : (D.flush (64 * (k : Int))).1.ln k = { D.ln k with mark := (D.ln k).chg.length + 1 } := by
    unfold Dv.flush
    rw [if_pos ha, show (64 * (k : Int)).toNat = 64 * k by omega, show 64 * k / 64 = k by omega]
    show (D.setLn k _).ln k = _
    rw [Dv.setLn_ln D k _ hk, if_pos rfl]
  rw [this]
  unfold Ln.fence
  simp
end NM
theorem doesA_step {D : NM.Dv} (h : D.Ok) (hp : 0 < D.ls.length) (a : ActV) (k : Nat) (hk : k < D.ls.length) : NM.LnStep (D.ln k) ((doesA D a).ln k) := by
  unfold doesA NM.Dv.does
  split
  · exact NM.flush_step hp _ _
  · split
    · exact NM.fence_step k hk
    · split
      · exact .refl _
      · exact NM.store_step h hp _ _ _

set_option maxRecDepth 20000 in
set_option maxHeartbeats 4000000 in
set_option linter.unusedSimpArgs false in
theorem nvmMay_walk (a : Option Addr) (l : List ActV) (cap : Nat) (line : BitVec 8) (w0 : World) (hin : ActsIn w0 a l cap) :
    Ret Try.prog 6 #[.slice a l.length cap, .int .u8 (uv line)] w0 fun v w' => v = .bool true ∧ Below w0.heap.size w0 w' := by
  have bel0 := Below.refl w0.heap.size w0
  have hmax := hin.max
  have hle := hin.le
  obtain ⟨q, hq, hq8⟩ : ∃ q : Nat, (uv line).tmod 8 = (q : Int) ∧ q < 8 := ⟨line.toNat % 8, by rw [Int.tmod_eq_emod_of_nonneg (uv_nonneg line), uv_def]; rfl, Nat.mod_lt _ (by decide)⟩
  have hl0 := uv_nonneg line
  have hl1 := uv_lt line
  have hwl := IntWalk.i64_in (uv line) (by omega)
  refine ret_of (args := [_, _]) _ Try.func6 rfl Try.ntmps6 (by simp) ?_
  simp -implicitDefEqProofs [go_sem]
  refine callE_of (alive_calls w0) ?_
  rintro v w1 ⟨rfl, b1⟩
  have bel1 := bel0.trans (b1.mono bel0.size)
  replace hin := hin.next b1
  simp -implicitDefEqProofs [go_sem]
  refine callE_of (heavy_calls a l cap w1 hin) ?_
  rintro v w2 ⟨rfl, b2⟩
  have bel2 := bel1.trans (b2.mono bel1.size)
  replace hin := hin.next b2
  by_cases hh : heavyB l = true
  · simp -implicitDefEqProofs [go_sem, hh]
    refine body_tmp 4 rfl ?_
    simp -implicitDefEqProofs [go_sem]
    exact bel2
  replace hh : heavyB l = false := by simpa using hh
  have hlen := heavy_len hh
  simp -implicitDefEqProofs [go_sem, hh]
  refine callE_of (newB 8 w2 (i64_lit 8 (by decide))) ?_
  rintro v w3 ⟨b3, ⟨h, _⟩ | ⟨_, p, F3, rfl, h3, hF3⟩⟩
  · exact absurd ⟨by omega, by omega⟩ h
  have bel3 := bel2.trans (b3.mono bel2.size)
  have hst : St w2 w3 p F3 (NM.dev0 8) := ⟨h3, b3, hF3⟩
  simp -implicitDefEqProofs [go_sem, hwl, hq]
  refine wpE_loop (fun e' w' => ∃ k F, k ≤ l.length ∧ e' 5 = .pointer (some ⟨p, 0, none⟩) ∧ e' 6 = .int .i64 q ∧ e' 24 = .slice a l.length cap ∧ e' 25 = .int .i64 l.length ∧ e' 26 = .int .i64 k ∧ St w2 w' p F (doesL (NM.dev0 8) (l.take k))) (fun e' _ => l.length - (intOf (e' 26)).toNat) ?_ ?_
  · refine ⟨0, F3, by omega, ?_⟩
    simp -implicitDefEqProofs [go_sem]
    exact hst
  · rintro e' w4 ⟨k, F, hk, g5, g6, g24, g25, g26, hs4⟩
    have hsteps := doesL_steps (NM.dev0 8) (l.take k)
    rw [List.length_take, show (NM.dev0 8).steps = 0 from rfl] at hsteps
    have hup : (doesL (NM.dev0 8) (l.take k)).Up := doesL_up (NM.dev0_up 8) _
    have hl8 : (doesL (NM.dev0 8) (l.take k)).ls.length = 8 := by rw [doesL_len]; rfl
    by_cases hlt : k < l.length
    · have hlt' : (k : Int) < l.length := by omega
      have hwk := IntWalk.i64_in ((k : Int) + 1) (by omega)
      obtain ⟨b, o, rfl, hcell, hok⟩ := (hin.next hs4.bel).get hlt
      have hld := ldCells (P := Try.prog) (w := w4) (g := b) (o := o + k * 4) (cs := l[k].cs) Try.underlying30 rfl actI rfl hcell
      have hst := actNew l[k].cs rfl l[k].cs_one
      have hl2 := ldAll (P := Try.prog) (Blk.new w4 l[k].cs 30) Try.underlying30 rfl actI rfl
      have hdt := doesL_take (NM.dev0 8) l k hlt
      generalize doesL (NM.dev0 8) (l.take k) = D at *
      have hDok := hs4.dev.ok
      have hst2 := doesA_step hDok (by omega) l[k] q (by omega)
      have hl8' : (doesA D l[k]).ls.length = 8 := by rw [doesA_len, hl8]
      have hsz : D.size = 512 := by unfold NM.Dv.size; rw [hl8]
      have hsz' : (doesA D l[k]).size = 512 := by unfold NM.Dv.size; rw [hl8']
      have hsp := doesA_steps D l[k]
      have hmay := NM.may_eq (D := D) (k := q) (by omega)
      have hmay' := NM.may_eq (D := doesA D l[k]) (k := q) (by omega)
      have hpc := NM.image_piece hDok (q := q) (by omega)
      simp -implicitDefEqProofs [go_sem, g5, g6, g24, g25, g26, hlt, hlt', ↓hld, ↓hst]
      have b5 : Below w4.heap.size w4 (w4.alloc (.cells l[k].cs 30)) := (Below.refl _ _).alloc (Nat.le_refl _) _
      have hs5 := hs4.next b5
      have hN := Blk.new w4 l[k].cs 30
      generalize World.alloc w4 _ = w5 at *
      refine callE_of (mayB q w5 hs5.dev (by omega)) ?_
      rintro v w6 ⟨rfl, rfl⟩
      simp -implicitDefEqProofs [go_sem, g5, g6]
      refine callE_of (imageB w6 hs5.dev) ?_
      rintro v w7 ⟨a7, c7, rfl, in7, b7, n7⟩
      have ap7 := apart_new hs5.dev in7 n7
      have hs7 := hs5.next b7
      have hN7 := hN.next b7
      have hl2 := ldAll (P := Try.prog) hN7 Try.underlying30 rfl actI rfl
      simp -implicitDefEqProofs [go_sem, g5, g6, ↓hl2]
      refine callE_of (does_calls l[k] w7 hs7.dev hok.off (by omega)) ?_
      rintro v w8 ⟨rfl, F8, h8, t8⟩
      have hs8 := hs7.step h8 t8
      have ap8 := ap7.turn t8
      have hDok' := h8.ok
      have hpc' := NM.image_piece hDok' (q := q) (by omega)
      simp -implicitDefEqProofs [go_sem, g5, g6]
      refine callE_of (mayB q w8 hs8.dev (by omega)) ?_
      rintro v w9 ⟨rfl, rfl⟩
      simp -implicitDefEqProofs [go_sem, g5, g6]
      refine callE_of (imageB w9 hs8.dev) ?_
      rintro v w10 ⟨a10, c10, rfl, in10, b10, n10⟩
      have ap10 := apart_new hs8.dev in10 n10
      have ap8' := ap8.next b10
      have hs10 := hs8.next b10
      have hd : Below w10.heap.size w10 w10.drew := (Below.refl _ _).drew
      rw [hdt.symm] at hs10
      have hw1 := IntWalk.i64_in (64 * (q : Int)) (by omega)
      have hw2 := IntWalk.i64_in (64 * (q : Int) + 64) (by omega)
      have hc1 := ap8'.in_.le
      have hc2 := ap10.in_.le
      rw [NM.image_len hDok, hsz] at hc1
      rw [NM.image_len hDok', hsz'] at hc2
      rw [hmay, hmay', hsz, hsz']
      have hn5 : ∀ (x : Option Addr) (c : Nat), (x = none → c = 0) → 512 ≤ c → (Option.map (fun x => x.add (64 * q)) x = none → 64 = 0) := fun x c h hc h0 => by
        cases x with
        | none => have := h rfl; omega
        | some x => cases h0
      have hB := fun c => conv_str (w := w10.drew) (n := 64) (by have := ap8'.in_.at_.drew.piece (64 * q) 64; rw [hpc] at this; exact this) ((NM.Dv.Ok0.ln hDok.to0 q).len).symm c (hn5 _ _ ap8'.in_.nil hc1)
      have hA := fun c => conv_str (w := w10.drew) (n := 64) (by have := ap10.in_.at_.drew.piece (64 * q) 64; rw [hpc'] at this; exact this) ((NM.Dv.Ok0.ln hDok'.to0 q).len).symm c (hn5 _ _ ap10.in_.nil hc2)
      have k1 : (64 * (q : Int)).toNat = 64 * q := by omega
      have k2 : (64 * (q : Int) + 64).toNat - 64 * q = 64 := by omega
      have k3 : (0 : Int) ≤ 64 * (q : Int) + 64 ∧ 64 * (q : Int) + 64 ≤ (c7 : Int) := by omega
      have k4 : (0 : Int) ≤ 64 * (q : Int) + 64 ∧ 64 * (q : Int) + 64 ≤ (c10 : Int) := by omega
      have k5 : (0 : Int) ≤ 64 * (q : Int) ∧ 64 * (q : Int) ≤ max (64 * (q : Int) + 64) 0 := by omega
      have k6 : ¬ c7 = 64 * q := by omega
      have k7 : ¬ c10 = 64 * q := by omega
      simp -implicitDefEqProofs [go_sem, g5, g6]
      refine drawE_still mixed (by decide +kernel) ?_
      simp -implicitDefEqProofs [go_sem, g5, g6, hw1, hw2, hA, hB, k1, k2, k3, k4, k5, k6, k7]
      unfold endE
      have hcl1 : (D.ln q).chg.length ≤ 1000 := by have := hDok.lnChg q; omega
      have hcl2 : ((doesA D l[k]).ln q).chg.length ≤ 1000 := by have := hDok'.lnChg q; omega
      have hw3 := IntWalk.i64_in (((D.ln q).chg.length : Int) + 1 + 1) (by omega)
      have e1 : ¬ (((doesA D l[k]).ln q).chg.length : Int) + 1 < 1 := by omega
      rcases hst2 with ⟨hs1, hs2⟩ | ⟨hs1, hs2⟩
      · have e2 : ¬ (((D.ln q).chg.length : Int) + 1 < ((doesA D l[k]).ln q).chg.length + 1) := by omega
        simp -implicitDefEqProofs [go_sem, g5, g6, g24, g25, g26, hs1, hw3, e1, e2, hwk]
        refine goE_round ⟨k + 1, F8, by omega, ?_⟩ ?_
        · simp -implicitDefEqProofs [go_sem, g5, g6, g24, g25]
          exact hs10.next hd
        · simp -implicitDefEqProofs [go_sem, intOf, g26, hwk]; omega
      · have e2 : ((((doesA D l[k]).ln q).chg.length : Int) + 1 != (D.ln q).chg.length + 1 + 1) = false := by rw [bne_eq_false_iff_eq]; omega
        simp -implicitDefEqProofs [go_sem, g5, g6, g24, g25, g26, hs1, hw3, e1, e2, hwk]
        refine goE_round ⟨k + 1, F8, by omega, ?_⟩ ?_
        · simp -implicitDefEqProofs [go_sem, g5, g6, g24, g25]
          exact hs10.next hd
        · simp -implicitDefEqProofs [go_sem, intOf, g26, hwk]; omega
    · have hk' : k = l.length := by omega
      subst hk'
      rw [List.take_length] at *
      generalize doesL (NM.dev0 8) l = D at *
      have hDok := hs4.dev.ok
      obtain ⟨f1, f2, f3⟩ := NM.flush_fence hup (by omega) (k := q) (by omega)
      have hw1 := IntWalk.i64_in (64 * (q : Int)) (by omega)
      have sp1 := flush_steps D (64 * (q : Int))
      have sp2 := fence_steps (D.flush (64 * (q : Int))).1
      have hlf := NM.fence_len (D.flush (64 * (q : Int))).1
      rw [NM.flush_len, hl8] at hlf
      simp -implicitDefEqProofs [go_sem, g5, g6, g24, g25, g26, hw1]
      refine callE_of (flushB (64 * (q : Int)) w4 hs4.dev (by unfold I64; omega) (by omega)) ?_
      rintro v w5 ⟨rfl, F5, h5, t5⟩
      have hs5 := hs4.step h5 t5
      simp -implicitDefEqProofs [go_sem, g5, g6, f1]
      refine callE_of (fenceB w5 hs5.dev (by omega)) ?_
      rintro v w6 ⟨rfl, F6, h6, t6⟩
      have hs6 := hs5.step h6 t6
      simp -implicitDefEqProofs [go_sem, g5, g6, f2]
      refine callE_of (mayB q w6 hs6.dev (by omega)) ?_
      rintro v w7 ⟨rfl, rfl⟩
      simp -implicitDefEqProofs [go_sem, g5, g6, f3]
      refine callE_of (mayB (-1) w7 hs6.dev (by omega)) ?_
      rintro v w8 ⟨rfl, rfl⟩
      have m1 : (D.flush (64 * (q : Int))).1.fence.1.may (-1) = 0 := by unfold NM.Dv.may; rw [if_pos (by omega)]
      have m2 : (D.flush (64 * (q : Int))).1.fence.1.may 8 = 0 := by unfold NM.Dv.may; rw [if_pos (by omega)]
      simp -implicitDefEqProofs [go_sem, g5, g6, m1]
      refine callE_of (mayB 8 w8 hs6.dev (by omega)) ?_
      rintro v w9 ⟨rfl, rfl⟩
      simp -implicitDefEqProofs [go_sem, m2]
      refine body_tmp 4 rfl ?_
      simp -implicitDefEqProofs [go_sem]
      exact bel2.trans (hs6.bel.mono (by have := bel2.size; omega))
end Go.Proofs.Ytkljlgahdlgmpaa
