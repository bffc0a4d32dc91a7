/- The document's device: Image, Right, Of. -/
import Derived.Test.YtkljlgahdlgmpaaNvmRef7
import Derived.Test.YtkljlgahdlgmpaaNvmOf
namespace Go.Proofs.Ytkljlgahdlgmpaa
set_option linter.unusedVariables false
set_option linter.unusedSimpArgs false
open Go Go.RowKit

section
set_option linter.unusedSimpArgs false
set_option maxHeartbeats 4000000
variable {F : Nat → Prop} {D : NM.Dv}
theorem push_cell {w0 w : World} {a : Option Addr} {len c : Nat} {xs : List Value} (base : Nat) (hown : w.ownsRow base 100 2 (.slice a len c) len xs) (hl : len ≤ 1000000) (hbase : base ≤ w.heap.size) (hb : Below base w0 w) (u1 u2 : Value) (hu1 : u1.oneCell' = true) (hu2 : u2.oneCell' = true) :
    ∃ g c2 w2, (appendB #[58, 58] 58 #[.slice a len c, .slice (some ⟨w.heap.size, 0, none⟩) 1 1]).run Try.prog (w.alloc (.cells #[u1, u2] 100)) = .ok (.slice (some ⟨g, 0, none⟩) (len + 1) c2) w2 ∧
      w2.ownsRow base 100 2 (.slice (some ⟨g, 0, none⟩) (len + 1) c2) (len + 1) (xs ++ [u1, u2]) ∧ Below base w0 w2 ∧ base ≤ w2.heap.size ∧
      Turn w (fun b => Value.ownBlock (.slice a len c) = some b) w2 (fun b => b = g) := by
  have ha : (w.alloc (.cells #[u1, u2] 100)).heap.size = w.heap.size + 1 := by simp
  obtain ⟨ti, tz, hti, htz, hts, htb, htc⟩ := rcellI
  obtain ⟨g, c2, w2, hr2, hown2, hgr, hwhere⟩ := run_append_where (P := Try.prog) (w := w.alloc (.cells #[u1, u2] 100)) base (t := 58) (ty := 58) Try.underlying58 hti htz hts htb htc (by decide) (hown.alloc (.cells #[u1, u2] 100)) ⟨w.heap.size, 0, none⟩ (m := 1) (c := 1) (news := [u1, u2]) rfl
    (fun j u hu => by rw [Addr.add_lit, Nat.zero_add, (Blk.new _ _ _).cell]; simpa using hu) (by intro u hu; simp at hu; rcases hu with rfl | rfl <;> assumption) (by decide) (by omega) (by omega) (by omega)
  have hb2 := (hb.alloc hbase (.cells #[u1, u2] 100)).grown hgr (by omega) (fun j hj => (hown.lt j hj).1)
  have hsz := hgr.size
  refine ⟨g, c2, w2, hr2, hown2, hb2, by omega, ⟨?_, fun b hb => ?_⟩⟩
  · exact ((Mod.refl (fun b => Value.ownBlock (.slice a len c) = some b) w).alloc _).trans (mod_of_grown hgr) (fun b hb _ => hb)
  · subst hb
    rcases hwhere with h | h
    · exact .inl h
    · exact .inr (by omega)
theorem rimage_calls (v : Value) (w0 : World) (h : RefV w0 F v D) (hok : D.Ok) (hc40 : D.steps < 1000000) :
    Ret Try.prog 37 #[v] w0 fun u w' => ∃ a c, u = .slice a D.size c ∧ SlIn .u8 w' a D.image c ∧ Below w0.heap.size w0 w' := by
  have bel0 := Below.refl w0.heap.size w0
  obtain ⟨cv, lf, rfl, hc, hlf, hI⟩ := h
  have hc0 := hc
  obtain ⟨g, o, c, xs, rfl, h0, hle, hmx, hglt, hcell⟩ := hc.open_
  have hmost := hok.most
  have hsz : D.size = 64 * D.ls.length := rfl
  refine ret_of (args := [_]) _ Try.func37 rfl Try.ntmps37 (by simp) ?_
  simp -implicitDefEqProofs [go_sem, devC]
  generalize hw1 : World.alloc w0 _ = w1 at *
  obtain ⟨hB1, b1, sz1⟩ := new_facts hw1
  have bel1 := bel0.trans (b1.mono bel0.size)
  refine wpE_loop (fun e' w' => ∃ (k : Nat) (a : Option Addr) (c' : Nat), k ≤ D.ls.length ∧ e' 1 = .pointer (some ⟨w0.heap.size, 0, none⟩) ∧ e' 3 = .slice a (64 * k) c' ∧ e' 4 = .int .i64 k ∧
    w'.ownsRow w1.heap.size 5 1 (.slice a (64 * k) c') (64 * k) (cellsK .u8 (imgK D k)) ∧ Below w1.heap.size w1 w') (fun e' _ => D.ls.length - (intOf (e' 4)).toNat) ?_ ?_
  · refine ⟨0, none, 0, by omega, ?_⟩
    simp -implicitDefEqProofs [go_sem, imgK_zero]
    exact ⟨World.ownsRow_nil _ _ _ _, Below.refl _ _⟩
  · rintro e' w' ⟨k, a, c', hk, g1, g3, g4, hown, bel⟩
    have hB := hB1.next bel
    by_cases hlt : k < D.ls.length
    · have hlt' : (k : Int) < D.ls.length := by omega
      have hw := IntWalk.i64_in ((k : Int) + 1) (by omega)
      have bel01 := bel1.trans (bel.mono bel1.size)
      obtain ⟨c1, c2, hL⟩ := hcell k hlt
      replace c1 := cell_below c1 bel01
      replace c2 := cell_below c2 bel01
      replace hL := hL.next bel01
      have hchg := NM.Dv.Ok.lnChg hok k
      simp -implicitDefEqProofs [go_sem, g1, g3, g4, hB.cell, hlt, hlt', c1, c2]
      refine callE_of (rnow_calls F (xs k) (NM.conts (D.ln k)) _ w' hL (by rw [NM.conts_len]; omega)) ?_
      rintro u w2 ⟨hcv, b2⟩
      rw [NM.conts_len, Nat.add_sub_cancel, NM.conts_last] at hcv
      obtain ⟨g3', o3, c3, rfl, hF3, hl3, hin3⟩ := hcv
      have bel2 := bel.trans (b2.mono bel.size)
      have hown2 := ownsRow_next hown b2
      obtain ⟨a2, c4, w4, hr4, hown4, hgr⟩ := run_append1 (P := Try.prog) w1.heap.size (t := 23) (bytes := 1) (z := .int .u8 0) 23 Try.underlying23 info_u8 rfl hown2 (a2 := some ⟨g3', o3, none⟩) (c2 := c3) (m := 64) (news := cellsK .u8 (D.ln k).now) (by rw [cellsK_length, hl3]) hin3.at_.src (by simp) (fun u hu => cellsK_one u hu) (by omega) (by omega) (by have := bel2.size; omega)
      have b4 := bel2.grown hgr (by have := bel2.size; omega) (fun j hj => (hown2.lt j hj).1)
      simp -implicitDefEqProofs [go_sem, g1, g3, g4, hr4, hw]
      refine goE_round ⟨k + 1, a2, c4, by omega, ?_⟩ ?_
      · simp -implicitDefEqProofs [go_sem, g1]
        refine ⟨by omega, ?_, b4⟩
        rw [imgK_succ D k hlt, cellsK_append, show 64 * (k + 1) = 64 * k + 64 by omega]
        exact hown4
      · simp -implicitDefEqProofs [go_sem, intOf, g4, hw]; omega
    · have hk' : k = D.ls.length := by omega
      subst hk'
      rw [imgK_all] at hown
      have hlen : D.image.length = 64 * D.ls.length := by rw [← imgK_all]; exact imgK_len D hok.to0 _ (Nat.le_refl _)
      simp -implicitDefEqProofs [go_sem, g1, g3, g4, hB.cell]
      refine body_tmp 2 rfl ?_
      simp -implicitDefEqProofs [go_sem]
      exact ⟨a, c', ⟨rfl, by rw [hsz], rfl⟩, owns_slIn hlen hown, bel1.trans (bel.mono bel1.size)⟩
theorem rright_calls (n : Nat) (w0 : World) (hn : n ≤ 9223372036854775807) : Ret Try.prog 28 #[.int .i64 n] w0 fun u w' => ∃ b, u = .bool b ∧ (b = true ↔ rightLen n) ∧ w' = w0 := by
  refine ret_of (args := [_]) _ Try.func28 rfl Try.ntmps28 (by simp) ?_
  by_cases h1 : 64 ≤ n
  · have h1' : (64 : Int) ≤ n := by omega
    have ht : (n : Int).tmod 64 = (n : Int) % 64 := Int.tmod_eq_emod_of_nonneg (by omega)
    by_cases h2 : n % 64 = 0
    · have h2' : (n : Int) % 64 = 0 := by omega
      simp -implicitDefEqProofs [go_sem, h1, h1', ht, h2']
      refine body_tmp 2 rfl ?_
      simp -implicitDefEqProofs [go_sem]
      unfold rightLen; omega
    · have h2' : ((n : Int) % 64 == 0) = false := by rw [beq_eq_false_iff_ne]; omega
      simp -implicitDefEqProofs [go_sem, h1, h1', ht, h2']
      refine body_tmp 2 rfl ?_
      simp -implicitDefEqProofs [go_sem]
      unfold rightLen; omega
  · have h1' : ¬ (64 : Int) ≤ n := by omega
    simp -implicitDefEqProofs [go_sem, h1, h1']
    refine body_tmp 2 rfl ?_
    simp -implicitDefEqProofs [go_sem]
    unfold rightLen; omega
set_option maxRecDepth 20000 in
theorem rof_calls (a : Option Addr) (l : List (BitVec 8)) (c : Nat) (w0 : World) (hin : SlIn .u8 w0 a l c) (hr : rightLen l.length) (hFs : ∀ k, F k → k < w0.heap.size) :
    Ret Try.prog 29 #[.slice a l.length c] w0 fun u w' => RefV w' F u (ofD l) ∧ Below w0.heap.size w0 w' := by
  have bel0 := Below.refl w0.heap.size w0
  have hst := Try.underlying60
  obtain ⟨r1, r2, r3⟩ := hr
  obtain ⟨N, hN⟩ : ∃ N, N = l.length / 64 := ⟨_, rfl⟩
  have hlen : l.length = 64 * N := by omega
  have hle := hin.le
  have hmx := hin.max
  refine ret_of (args := [_]) _ Try.func29 rfl Try.ntmps29 (by simp) ?_
  simp -implicitDefEqProofs [go_sem]
  generalize hw1 : World.alloc w0 _ = w1 at *
  obtain ⟨hB1, b1, sz1⟩ := new_facts hw1
  have bel1 := bel0.trans (b1.mono bel0.size)
  generalize hw2 : World.alloc w1 _ = w2 at *
  obtain ⟨hB2, b2, sz2⟩ := new_facts hw2
  have bel2 := bel1.trans (b2.mono bel1.size)
  replace hB1 := hB1.next b2
  have hB2p := hB2
  rw [sz1] at hB2p
  refine wpE_loop (fun e' w' => ∃ (k : Nat) (a' : Option Addr) (c' : Nat) (xs : List Value), k ≤ N ∧ e' 0 = .slice a l.length c ∧ e' 2 = .pointer (some ⟨w0.heap.size, 0, none⟩) ∧ e' 3 = .pointer (some ⟨w0.heap.size + 1, 0, none⟩) ∧ e' 4 = .int .i64 (64 * (k : Int)) ∧
    Blk w' (w0.heap.size + 1) #[.slice a' k c', .bool false, .int .i64 (-1), .int .i64 0] 60 ∧ Blk w' w0.heap.size #[.slice none 0 0, .bool false, .int .i64 0, .int .i64 0] 60 ∧
    w'.ownsRow w2.heap.size 100 2 (.slice a' k c') k xs ∧ (∀ j, j < k → LstV w' (fun b => (F b ∨ (w0.heap.size ≤ b ∧ b ≤ w0.heap.size + 1)) ∨ Value.ownBlock (.slice a' k c') = some b) (xs.getD (2 * j) undef) [(chunk l j).now] ∧ xs.getD (2 * j + 1) undef = .int .i64 (-1)) ∧ Below w0.heap.size w0 w' ∧ w2.heap.size ≤ w'.heap.size) (fun e' _ => (l.length - (intOf (e' 4)).toNat)) ?_ ?_
  · refine ⟨0, none, 0, [], by omega, ?_⟩
    simp -implicitDefEqProofs [go_sem]
    exact ⟨hB2p, hB1, World.ownsRow_nil _ _ _ _, bel2⟩
  · rintro e' w3 ⟨k, a', c', xs, hk, g0, g2, g3, g4, hBd, hBr, hown, hls, bel3, hsz3⟩
    have hxl : xs.length = 2 * k := by have := hown.1; omega
    have kw := IntWalk.i64_in (64 * (k : Int) + 64) (by omega)
    by_cases hlt : k < N
    · have hlt' : 64 * (k : Int) + 64 ≤ l.length := by omega
      have hin3 := hin.next bel3
      obtain ⟨b, o, rfl, hcl⟩ : ∃ b o, a = some ⟨b, o, none⟩ ∧ ∀ i (h : i < l.length), w3.cell? ⟨b, o + i, none⟩ = some (.int .u8 (uv l[i])) := by
        rcases hin3.at_ with h | h
        · rw [h] at hlen; simp at hlen; omega
        · exact h
      have hck : (chunk l k).Ok := chunk_ok (by omega)
      have hcn : (chunk l k).now.length = 64 := hck.len
      have n1 : (0 : Int) ≤ 64 * k := by omega
      have n2 : 64 * (k : Int) ≤ 64 * k + 64 := by omega
      have n3 : 64 * (k : Int) + 64 ≤ c := by omega
      have n4 : (64 * (k : Int)).toNat = 64 * k := by omega
      have n5 : (64 * (k : Int) + 64).toNat = 64 * k + 64 := by omega
      have n6 : ¬ c = 64 * k := by omega
      obtain ⟨ti, hti, hts0⟩ := byteI
      obtain ⟨g5, c5, w5, hr5, hg5, hown5, b5⟩ := copy_lit (t := 23) (m := 64) (c := c - 64 * k) (xs := cellsK .u8 (chunk l k).now) Try.underlying23 hti hts0.1 hts0.2.1 hts0.2.2 rfl (by decide) w3 ⟨b, o + 64 * k, none⟩ (by rw [cellsK_length, hcn]) (fun j u hu => by
        have hj : j < 64 := by
          rcases Nat.lt_or_ge j 64 with h | h
          · exact h
          · rw [List.getElem?_eq_none (by rw [cellsK_length, hcn]; exact h)] at hu; cases hu
        rw [Addr.add_lit, Nat.add_assoc, hcl (64 * k + j) (by omega), ← hu]
        simp [cellsK, chunk, hj, show 64 * k + j < l.length by omega]) (fun u hu => cellsK_one u hu) (by decide) (by decide) (by decide)
      have hBd5 := hBd.next b5
      simp -implicitDefEqProofs [go_sem, g0, g2, g3, g4, kw, hlt', n1, n2, n3, n4, n5, n6, hr5, hBd5.cell]
      have bel5 := bel3.trans (b5.mono bel3.size)
      generalize hw6 : World.alloc w5 _ = w6 at *
      obtain ⟨hB6, b6, sz6⟩ := new_facts hw6
      have bel6 := bel5.trans (b6.mono bel5.size)
      replace hBd5 := hBd5.next b6
      have hBr6 := (hBr.next b5).next b6
      have hown6 := ownsRow_next (ownsRow_next hown b5) b6
      obtain ⟨g8, c8, w8, hr8, hown8, b8, hsz8, t8⟩ := push_cell w2.heap.size hown6 (by omega) (by have := b5.size; omega) (Below.refl w2.heap.size w6) (.slice (some ⟨w5.heap.size, 0, none⟩) 1 1) (.int .i64 (-1)) rfl rfl
      rw [sz6] at hr8
      have hlt5 := hown6.lt
      have hBd8 := hBd5.below b8 (by omega)
      have hBr8 := hBr6.below b8 (by omega)
      have bel8 : Below w0.heap.size w0 w8 := bel6.trans (b8.mono (by omega))
      obtain ⟨X, hX⟩ : ∃ X : Nat → Prop, X = fun b => F b ∨ (w0.heap.size ≤ b ∧ b ≤ w0.heap.size + 1) := ⟨_, rfl⟩
      have hXd : X (w0.heap.size + 1) := by rw [hX]; exact .inr ⟨by omega, Nat.le_refl _⟩
      have hXlt : ∀ b, X b → b < w2.heap.size := fun b hb => by
        rw [hX] at hb
        rcases hb with h | h
        · have := hFs _ h; have := bel2.size; omega
        · omega
      have hls' : ∀ j, j < k → LstV w3 (fun b => X b ∨ Value.ownBlock (.slice a' k c') = some b) (xs.getD (2 * j) undef) [(chunk l j).now] ∧ xs.getD (2 * j + 1) undef = .int .i64 (-1) := by rw [hX]; exact hls
      have hnew : LstV w6 (fun b => X b ∨ Value.ownBlock (.slice a' k c') = some b) (.slice (some ⟨w5.heap.size, 0, none⟩) 1 1) [(chunk l k).now] := by
        have hbs := b5.size
        refine ⟨w5.heap.size, 0, 1, [.slice (some ⟨g5, 0, none⟩) 64 c5], rfl, fun h => ?_, by simp, rfl, ⟨vsAt_blk hB6 (fun i hi => ?_), by simp, by decide, fun h => by cases h⟩, fun i hi => ?_⟩
        · rcases h with h | h
          · have := hXlt _ h; omega
          · have := (hown.lt _ h).2; omega
        · have : i = 0 := by simpa using hi
          subst this; rfl
        · have : i = 0 := by simpa using hi
          subst this
          refine ⟨g5, 0, c5, rfl, fun h => ?_, hcn, (owns_slIn hcn hown5).next b6⟩
          rcases h with h | h
          · have := hXlt _ h; omega
          · have := (hown.lt _ h).2; omega
      have tr : Turn w6 (fun b => X b ∨ Value.ownBlock (.slice a' k c') = some b) w8 (fun b => X b ∨ Value.ownBlock (.slice (some ⟨g8, 0, none⟩) (k + 1) c8) = some b) :=
        ⟨t8.mod.mono (fun b hb _ => .inr hb), fun b hb => by
          rcases hb with h | h
          · exact .inl (.inl h)
          · have e : b = g8 := by simp [Value.ownBlock] at h; exact h.symm
            rcases t8.new b e with h2 | h2
            · exact .inl (.inr h2)
            · exact .inr h2⟩
      have hs8 := hBd8.set 0 (.slice (some ⟨g8, 0, none⟩) (k + 1) c8)
      have hr8' := hBr8.setOther (a := ⟨w0.heap.size + 1, 0, none⟩) (by simp) (.slice (some ⟨g8, 0, none⟩) (k + 1) c8)
      have m9 := (Mod.refl (fun b => X b ∨ Value.ownBlock (.slice (some ⟨g8, 0, none⟩) (k + 1) c8) = some b) w8).setCell (a := ⟨w0.heap.size + 1, 0, none⟩) (.inl (.inl hXd)) (.slice (some ⟨g8, 0, none⟩) (k + 1) c8)
      have m9' := (Mod.refl (fun b => b = w0.heap.size + 1) w8).setCell (a := ⟨w0.heap.size + 1, 0, none⟩) (.inl rfl) (.slice (some ⟨g8, 0, none⟩) (k + 1) c8)
      have hown9 := ownsRow_mod hown8 m9' (fun b hb e => by have := (hown8.lt b hb).1; omega)
      have bel9 := bel8.setCell (show w0.heap.size ≤ (⟨w0.heap.size + 1, 0, none⟩ : Addr).block from by simp) (.slice (some ⟨g8, 0, none⟩) (k + 1) c8)
      simp -implicitDefEqProofs [go_sem, hr8, g0, g2, g3, g4, hBd8.cell, hBd8.thaw, kw]
      generalize hw9 : World.setCell w8 _ _ = w9 at *
      have hsz9 : w9.heap.size = w8.heap.size := by rw [← hw9]; simp [World.setCell]
      refine goE_round ⟨k + 1, some ⟨g8, 0, none⟩, c8, xs ++ [.slice (some ⟨w5.heap.size, 0, none⟩) 1 1, .int .i64 (-1)], by omega, ?_, ?_, ?_, ?_, by simpa using hs8, hr8', hown9, fun j hj => ?_, bel9, by omega⟩ ?_
      · simp -implicitDefEqProofs [go_sem, g0]
      · simp -implicitDefEqProofs [go_sem, g2]
      · simp -implicitDefEqProofs [go_sem, g3]
      · simp -implicitDefEqProofs [go_sem]; omega
      · by_cases e : j = k
        · subst e
          have a1 : (xs ++ [Value.slice (some ⟨w5.heap.size, 0, none⟩) 1 1, .int .i64 (-1)]).getD (2 * j) undef = .slice (some ⟨w5.heap.size, 0, none⟩) 1 1 := by
            rw [List.getD_eq_getElem?_getD, List.getElem?_append_right (by omega), hxl]; simp
          have a2 : (xs ++ [Value.slice (some ⟨w5.heap.size, 0, none⟩) 1 1, .int .i64 (-1)]).getD (2 * j + 1) undef = .int .i64 (-1) := by
            rw [List.getD_eq_getElem?_getD, List.getElem?_append_right (by omega), hxl, show 2 * j + 1 - 2 * j = 1 by omega]; simp
          rw [a1, a2]
          refine ⟨?_, rfl⟩
          have := (hnew.turn tr).turn (F' := fun b => X b ∨ Value.ownBlock (.slice (some ⟨g8, 0, none⟩) (j + 1) c8) = some b) ⟨m9, fun b hb => .inl hb⟩
          rw [hX] at this; exact this
        · have hj' : j < k := by omega
          have a1 : (xs ++ [Value.slice (some ⟨w5.heap.size, 0, none⟩) 1 1, .int .i64 (-1)]).getD (2 * j) undef = xs.getD (2 * j) undef := by
            rw [List.getD_eq_getElem?_getD, List.getElem?_append_left (by omega), ← List.getD_eq_getElem?_getD]
          have a2 : (xs ++ [Value.slice (some ⟨w5.heap.size, 0, none⟩) 1 1, .int .i64 (-1)]).getD (2 * j + 1) undef = xs.getD (2 * j + 1) undef := by
            rw [List.getD_eq_getElem?_getD, List.getElem?_append_left (by omega), ← List.getD_eq_getElem?_getD]
          rw [a1, a2]
          obtain ⟨q1, q2⟩ := hls' j hj'
          refine ⟨?_, q2⟩
          have := ((((q1.next b5).next b6).turn tr)).turn (F' := fun b => X b ∨ Value.ownBlock (.slice (some ⟨g8, 0, none⟩) (k + 1) c8) = some b) ⟨m9, fun b hb => .inl hb⟩
          rw [hX] at this; exact this
      · simp -implicitDefEqProofs [go_sem, intOf, g4]; omega
    · have hk' : k = N := by omega
      have hlt' : ¬ 64 * (k : Int) + 64 ≤ l.length := by omega
      subst hk'
      obtain ⟨g9, C, rfl, hg9, hB9, hc9, hc9m, _, hC9⟩ := owns_row (by omega) hown
      have hsA := stAll (P := Try.prog) (ty := 60) (cs := devC (.slice (some ⟨g9, 0, none⟩) k c') false (-1) 0) hBr (rdevI _ _ _ _) rfl (devC_one rfl _ _ _)
      unfold devC at hsA
      simp -implicitDefEqProofs [go_sem, g0, g2, g3, g4, kw, hlt', hBd.cell, ↓hsA]
      refine bodyCell1 2 rfl (by simp -implicitDefEqProofs [go_sem, g2]) (hBr.row _) hst rfl (rdevI _ false (-1) 0) ?_
      have hlsl : (ofD l).ls.length = k := by unfold ofD; rw [partD_len, ← hN]
      have hcell : CellsV w3 (fun b => F b ∨ (w0.heap.size ≤ b ∧ b ≤ w0.heap.size + 1)) (.slice (some ⟨g9, 0, none⟩) k c') ((ofD l).ls.map lineR) := by
        refine ⟨g9, 0, c', xs, by simp [hlsl], fun h => by rcases h with h | h; have := hFs _ h; have := bel2.size; omega; omega, by simp [hlsl]; omega, by simp [hlsl, hxl], vsAt_blk hB9 (fun i hi => by rw [hC9 i hi]; simp [hi]), by simp [hlsl]; exact hc9, hc9m, fun i hi => ?_⟩
        have hi' : i < k := by simpa [hlsl] using hi
        have hln : (ofD l).ln i = chunk l i := by unfold ofD; rw [partD_ln _ _ _ _ (by omega), if_pos (by omega)]
        rw [map_ln _ (by omega), hln]
        obtain ⟨h1, h2⟩ := hls i hi'
        exact ⟨h1.turn ⟨Mod.refl _ _, fun b hb => .inl (.inl hb)⟩, h2⟩
      exact ⟨⟨_, -1, by rfl, hcell.turn ⟨(Mod.refl _ _).row (.inl (.inr ⟨Nat.le_refl _, by omega⟩)) _, fun b hb => .inl (.inl hb)⟩, fun _ => rfl, by unfold I64; omega⟩, Below.row bel3 (Nat.le_refl _) _⟩
end
end Go.Proofs.Ytkljlgahdlgmpaa
