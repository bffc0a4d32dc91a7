/- The document's device: Store, Fence, Crash. -/
import Derived.Test.YtkljlgahdlgmpaaNvmRef4
namespace Go.Proofs.Ytkljlgahdlgmpaa
set_option linter.unusedVariables false
set_option linter.unusedSimpArgs false
open Go Go.RowKit

/-- One value more behind a slice of the call's own. -/
theorem push_v {t e : TypeId} {z : Value} {bytes : Nat} (ht : Try.prog.underlying t = some (.slice e)) (hinfo : (Try.prog.info? e).map (fun i => (i.zero, i.size, i.bytes)) = some (some z, 1, bytes)) (hz : z.cells = #[z]) (hby : bytes ≤ 100)
    {w0 w : World} {a : Option Addr} {len c : Nat} {l : List Value} (base : Nat) (hown : w.ownsRow base e 1 (.slice a len c) len l) (hl : len ≤ 1000000) (hbase : base ≤ w.heap.size) (hb : Below base w0 w) (u : Value) (hu : u.oneCell' = true) :
    ∃ a2 c2 w2, (appendB #[t, t] t #[.slice a len c, .slice (some ⟨w.heap.size, 0, none⟩) 1 1]).run Try.prog (w.alloc (.cells #[u] e)) = .ok (.slice a2 (len + 1) c2) w2 ∧
      w2.ownsRow base e 1 (.slice a2 (len + 1) c2) (len + 1) (l ++ [u]) ∧ Below base w0 w2 ∧ base ≤ w2.heap.size := by
  have ha : (w.alloc (.cells #[u] e)).heap.size = w.heap.size + 1 := by simp
  have hbm : (len + 1) * bytes ≤ 140737488355328 := by
    have := Nat.mul_le_mul (show len + 1 ≤ 1000001 by omega) hby
    omega
  obtain ⟨a2, c2, w2, hr2, hown2, hgr⟩ := run_append1 (P := Try.prog) base (t := t) (bytes := bytes) (z := z) t ht hinfo hz (hown.alloc (.cells #[u] e)) (a2 := some ⟨w.heap.size, 0, none⟩) (c2 := 1) (m := 1) (news := [u]) rfl
    (.inr ⟨_, rfl, fun j u' hu' => by rw [Addr.add_lit, Nat.zero_add, (Blk.new _ _ _).cell]; simpa using hu'⟩) (by simp) (by simp [hu]) (by omega) hbm (by omega)
  have hb2 := (hb.alloc hbase (.cells #[u] e)).grown hgr (by omega) (fun j hj => (hown.lt j hj).1)
  refine ⟨a2, c2, w2, hr2, hown2, hb2, ?_⟩
  have := hgr.size
  omega
theorem info_rows : (Try.prog.info? 23).map (fun i => (i.zero, i.size, i.bytes)) = some (some (.slice none 0 0), 1, 24) := by kernel_rfl
theorem rowsI : ∃ i z, Try.prog.info? 23 = some i ∧ i.zero = some z ∧ i.size = 1 ∧ i.bytes = 24 ∧ z.cells.size = 1 := by
  have h : (Try.prog.info? 23).map (fun i => (i.zero.map (fun z => z.cells.size), i.size, i.bytes)) = some (some 1, 1, 24) := by kernel_rfl
  obtain ⟨i, hi, h2⟩ := Option.map_eq_some_iff.1 h
  simp only [Prod.mk.injEq] at h2
  obtain ⟨z, hz, h3⟩ := Option.map_eq_some_iff.1 h2.1
  exact ⟨i, z, hi, hz, h2.2.1, h2.2.2, h3⟩
/-- A list of the call's own. -/
theorem lst_owns {w : World} {F : Nat → Prop} {base m cap : Nat} {a : Option Addr} {vs : List Value} {bs : List (List (BitVec 8))} (h : w.ownsRow base 23 1 (.slice a m cap) m vs) (hm : bs.length = m) (h0 : 0 < m) (hv : vs.length = m)
    (hF : ∀ k, F k → k < base) (hc : ∀ i, i < bs.length → ContV w F (vs.getD i undef) (bs.getD i [])) : LstV w F (.slice a m cap) bs := by
  obtain ⟨g, C, rfl, hg, _⟩ := owns_row h0 h
  exact ⟨g, 0, cap, vs, by rw [hm], fun hf => by have := hF g hf; omega, by omega, by omega, owns_vsIn (by omega) h, hc⟩
section
set_option linter.unusedSimpArgs false
set_option maxHeartbeats 4000000
variable {F : Nat → Prop} {D : NM.Dv}
set_option maxRecDepth 20000 in
theorem rstore_calls (off : Int) (n : BitVec 64) (v : Value) (w0 : World) (h : RefV w0 F v D) (hFs : ∀ k, F k → k < w0.heap.size) (ho : I64 off) (hok : D.Ok) (hc40 : D.steps < 1000000) :
    Ret Try.prog 36 #[v, .int .i64 off, .int .u64 (uv n)] w0 fun u w' => ∃ v', u = .tuple #[v', .int .i64 (D.store off n).2] ∧ RefV w' F v' (D.store off n).1 ∧ Below w0.heap.size w0 w' := by
  have bel0 := Below.refl w0.heap.size w0
  have hst := Try.underlying60
  have hcst := Try.underlying100
  obtain ⟨cv, lf, rfl, hc, hlf, hI⟩ := h
  have hcv := hc.oneC
  have hc0 := hc
  have hc00 := hc
  obtain ⟨g, o, c, xs, rfl, h0, hle, hmx, hglt, hcell⟩ := hc.open_
  have hmost := hok.most
  refine ret_of (args := [_, _, _]) _ Try.func36 rfl Try.ntmps36 (by simp) ?_
  simp -implicitDefEqProofs [go_sem, devC]
  generalize hw1 : World.alloc w0 _ = w1 at *
  obtain ⟨hB1, b1, sz1⟩ := new_facts hw1
  have bel1 := bel0.trans (b1.mono bel0.size)
  replace hc0 := hc0.next b1
  generalize hw2 : World.alloc w1 _ = w2 at *
  obtain ⟨hB2, b2, sz2⟩ := new_facts hw2
  have bel2 := bel1.trans (b2.mono bel1.size)
  replace hB1 := hB1.next b2
  replace hc0 := hc0.next b2
  have hB2p := hB2
  rw [sz1] at hB2p
  have hsA := fun dn => stAll (P := Try.prog) (ty := 60) (cs := devC (.slice (some ⟨g, o, none⟩) D.ls.length c) dn lf D.steps) hB2p (rdevI _ _ _ _) rfl (devC_one rfl _ _ _)
  unfold devC at hsA
  have belS := fun dn => Below.row bel2 (g := w0.heap.size + 1) (by omega) (devC (.slice (some ⟨g, o, none⟩) D.ls.length c) dn lf D.steps)
  cases hd : D.down
  · have ha := ask_in (D := D) (off := off) hd h0
    have hin := rin_calls _ (D.ls.map lineR) F D.down lf D.steps off w2 hc0 (by rw [List.length_map]; omega) ho
    rw [List.length_map] at hin
    simp only [devC, hd] at hin
    simp -implicitDefEqProofs [go_sem, hB1.cell, hB1.thaw, hd]
    refine callE_of hin ?_
    rintro u w3 ⟨rfl, b3⟩
    have bel3 := bel2.trans (b3.mono bel2.size)
    replace hB1 := hB1.next b3
    replace hB2p := hB2p.next b3
    replace hc0 := hc0.next b3
    by_cases hi : 0 ≤ off ∧ off % 8 = 0 ∧ off ≤ 64 * (D.ls.length : Int) - 8
    · rw [if_pos hi] at ha
      obtain ⟨q, rfl⟩ := Int.eq_ofNat_of_zero_le hi.1
      obtain ⟨a, ha1⟩ : ∃ a, a = q / 64 := ⟨_, rfl⟩
      obtain ⟨b, hb1⟩ : ∃ b, b = q % 64 := ⟨_, rfl⟩
      obtain ⟨c1, c2, hL⟩ := hcell a (by omega)
      replace c1 := cell_below c1 bel3
      replace c2 := cell_below c2 bel3
      have hL0 := hL
      replace hL := hL.next bel3
      have hchg := NM.Dv.Ok.lnChg hok a
      have q1 : (q : Int).tdiv 64 = (a : Int) := by rw [Int.tdiv_eq_ediv_of_nonneg (by omega)]; omega
      have q2 : (q : Int).tmod 64 = (b : Int) := by rw [Int.tmod_eq_emod_of_nonneg (by omega)]; omega
      have q3 : (q : Int) / 64 = (a : Int) := by omega
      have q4 : (q : Int) % 64 = (b : Int) := by omega
      have k3 := IntWalk.i64_in (a : Int) (by omega)
      have q5 : (a : Int) < D.ls.length := by omega
      have q6 : a < D.ls.length := by omega
      have hi2 := hi.2.1
      have hi3 := hi.2.2
      have hLone := hL.oneC
      have hstC := stNew (P := Try.prog) (t := 100) (ty := 100) (cs := #[xs a, .int .i64 ((D.ln a).mark - 1)]) (C0 := #[.slice none 0 0, .int .i64 0]) rcellI2 rfl (by intro v hv; simp at hv; rcases hv with rfl | rfl <;> first | exact hLone | rfl)
      simp -implicitDefEqProofs [go_sem, hi2, hi3, q1, q2, q3, q4, k3, q5, q6, hB1.cell, c1, c2, hd, ↓hstC]
      generalize hw4 : World.alloc w3 _ = w4 at *
      obtain ⟨hB4, b4, sz4⟩ := new_facts hw4
      have bel4 := bel3.trans (b4.mono bel3.size)
      replace hB1 := hB1.next b4
      replace hB2p := hB2p.next b4
      obtain ⟨P, hP⟩ : ∃ P : Nat → Prop, P = fun k => F k ∨ (w0.heap.size ≤ k ∧ k ≤ w3.heap.size) := ⟨_, rfl⟩
      have hs3 := b3.size
      have tP : Turn w0 F w0 P := ⟨Mod.refl _ _, fun k hk => by rw [hP] at hk; rcases hk with h | h; exact .inl h; exact .inr h.1⟩
      have hPlt : ∀ k, P k → k < w4.heap.size := fun k hk => by
        rw [hP] at hk
        rcases hk with h | h
        · have := hFs k h; have := bel4.size; omega
        · have := sz4; omega
      have hPF : ∀ k, F k → P k := fun k hk => by rw [hP]; exact .inl hk
      have hP0 : ∀ k, w0.heap.size ≤ k → k ≤ w3.heap.size → P k := fun k h1 h2 => by rw [hP]; exact .inr ⟨h1, h2⟩
      have hLP : LstV w4 P (xs a) (NM.conts (D.ln a)) := (hL0.turn tP).next bel4
      have hcP : CellsV w4 P (.slice (some ⟨g, o, none⟩) D.ls.length c) (D.ls.map lineR) := (hc00.turn tP).next bel4
      refine callE_of (rnow_calls P (xs a) (NM.conts (D.ln a)) _ w4 hLP (by rw [NM.conts_len]; omega)) ?_
      rintro u w5 ⟨hcv5, b5⟩
      rw [NM.conts_len, Nat.add_sub_cancel, NM.conts_last] at hcv5
      obtain ⟨g5, o5, c5, rfl, hF5, hl5, hin5⟩ := hcv5
      have bel5 := bel4.trans (b5.mono bel4.size)
      replace hB1 := hB1.next b5
      replace hB2p := hB2p.next b5
      replace hB4 := hB4.next b5
      replace hLP := hLP.next b5
      replace hcP := hcP.next b5
      simp -implicitDefEqProofs [go_sem, q2, q4]
      refine callE_of (refGet_calls (some ⟨g5, o5, none⟩) (D.ln a).now 64 c5 b w5 hl5 (by decide) hin5.at_ (by omega) (by omega)) ?_
      rintro u w6 ⟨rfl, rfl⟩
      have hword : D.word q = WM.getM (D.ln a).now b := by unfold NM.Dv.word; rw [← ha1, ← hb1]
      by_cases hne : WM.getM (D.ln a).now b = n
      · have hne' : (WM.getM (D.ln a).now b != n) = false := by rw [hne]; simp
        have hfl : D.store (q : Int) n = (D.done, 0) := by
          unfold NM.Dv.store; rw [if_pos ha, Int.toNat_natCast, if_pos (by rw [hword]; exact hne)]
        have hlf' := hlf hd
        have hdn := rdone_calls (.slice (some ⟨g, o, none⟩) D.ls.length c) D w6 rfl hd hok.left (by omega)
        simp only [devC, hd] at hdn
        simp -implicitDefEqProofs [go_sem, hne', hB1.cell, hd, hlf']
        refine callE_of hdn ?_
        rintro u w7 ⟨rfl, b7⟩
        have bel7 := bel5.trans (b7.mono bel5.size)
        replace hB2p := hB2p.next b7
        replace hcP := hcP.next b7
        have hI2 : I64 D.done.left := by
          have := hok.left
          show I64 (if 0 < D.left then D.left - 1 else D.left)
          unfold I64; split <;> omega
        have hcE : CellsV w7 P (.slice (some ⟨g, o, none⟩) D.ls.length c) (D.done.ls.map lineR) := hcP
        generalize D.done = E at *
        have hs5 := stAll (P := Try.prog) (ty := 60) (cs := devC (.slice (some ⟨g, o, none⟩) D.ls.length c) E.down E.left E.steps) hB2p (rdevI _ _ _ _) rfl (devC_one rfl _ _ _)
        unfold devC at hs5
        simp -implicitDefEqProofs [go_sem, ↓hs5]
        refine bodyCell 6 7 rfl (by simp -implicitDefEqProofs [go_sem]) (hB2p.row _) hst rfl (rdevI _ E.down E.left E.steps) ?_
        simp -implicitDefEqProofs [go_sem, hfl]
        exact ⟨⟨_, E.left, rfl, hcE.turn ⟨(Mod.refl _ _).row (.inl (hP0 (w0.heap.size + 1) (by omega) (by omega))) _, fun k hk => .inl (hPF k hk)⟩, fun _ => rfl, hI2⟩, Below.row bel7 (by omega) _⟩
      · have hne' : (WM.getM (D.ln a).now b != n) = true := by rw [bne_iff_ne]; exact hne
        have hlf' := hlf hd
        simp -implicitDefEqProofs [go_sem, hne', hB1.cell, hB4.cell, hd]
        refine callE_of (rnow_calls P (xs a) (NM.conts (D.ln a)) _ w6 hLP (by rw [NM.conts_len]; omega)) ?_
        rintro u w7 ⟨hcv7, b7⟩
        rw [NM.conts_len, Nat.add_sub_cancel, NM.conts_last] at hcv7
        obtain ⟨g7, o7, c7, rfl, hF7, hl7, hin7⟩ := hcv7
        have bel7 := bel5.trans (b7.mono bel5.size)
        replace hB1 := hB1.next b7
        replace hB2p := hB2p.next b7
        replace hB4 := hB4.next b7
        replace hLP := hLP.next b7
        replace hcP := hcP.next b7
        simp -implicitDefEqProofs [go_sem, q2, q4]
        refine callE_of (refPut_calls (some ⟨g7, o7, none⟩) (D.ln a).now 64 c7 b n w7 hl7 (by decide) hin7 (by omega) (by omega)) ?_
        rintro u w8 ⟨g8, c8, rfl, hg8, hin8, b8⟩
        have bel8 := bel7.trans (b8.mono bel7.size)
        replace hB1 := hB1.next b8
        replace hB2p := hB2p.next b8
        replace hB4 := hB4.next b8
        replace hLP := hLP.next b8
        replace hcP := hcP.next b8
        have hNew : ContV w8 P (.slice (some ⟨g8, 0, none⟩) 64 c8) (WM.putM (D.ln a).now b n) := ⟨g8, 0, c8, rfl, fun h => by have := hPlt _ h; have := bel7.size; have := b5.size; have := b7.size; omega, by rw [WM.putM_length, hl7], hin8⟩
        obtain ⟨gl, ol, cl, vs, hxa, hFl, hl0, hvl, hinl, hcl⟩ := hLP
        rw [hxa] at hB4
        rw [NM.conts_len] at hl0 hvl hcl hB4
        obtain ⟨ri, rz, hri, hrz, hrs, hrb, hrc⟩ := rowsI
        obtain ⟨x, hx, hsrc⟩ : ∃ x, some (⟨gl, ol, none⟩ : Addr) = some x ∧ ∀ j u, vs[j]? = some u → w8.cell? (x.add j) = some u := by
          rcases hinl.at_.src with ⟨h, _⟩ | h
          · cases h
          · exact h
        obtain rfl := Option.some.inj hx
        have hone : ∀ u ∈ vs, u.oneCell' = true := fun u hu => by
          obtain ⟨j, hj, rfl⟩ := List.getElem_of_mem hu
          obtain ⟨_, _, _, hv, _⟩ := hcl j (by omega)
          have e : vs[j] = vs.getD j undef := by simp [List.getD, hj]
          rw [e, hv]; rfl
        obtain ⟨g9, c9, w9, hr9, hg9, hown9, b9⟩ := copy_lit (t := 98) (m := (D.ln a).chg.length + 1) (c := cl) Try.underlying98 hri hrz hrs hrb hrc (by decide) w8 ⟨gl, ol, none⟩ (by omega) hsrc hone hl0 (by omega) (by decide)
        obtain ⟨a10, c10, w10, hr10, hown10, b10, hsz10⟩ := push_v (t := 98) Try.underlying98 info_rows rfl (by decide) w8.heap.size hown9 (by omega) b9.size b9 (.slice (some ⟨g8, 0, none⟩) 64 c8) rfl
        have hB4b : Blk w10 w3.heap.size _ _ := hB4.below b10 (by have := b8.size; have := b7.size; have := b5.size; omega)
        have s10 := hB4b.set 0 (.slice a10 ((D.ln a).chg.length + 1 + 1) c10)
        have hw8s : w4.heap.size ≤ w8.heap.size := by have := b8.size; have := b7.size; have := b5.size; omega
        have hL10 : LstV w10 P (.slice a10 ((D.ln a).chg.length + 1 + 1) c10) (NM.conts (D.ln a) ++ [WM.putM (D.ln a).now b n]) := by
          refine lst_owns hown10 (by simp [NM.conts_len]) (by omega) (by simp [hvl]) (fun k hk => by have := hPlt k hk; omega) (fun i hi => ?_)
          rw [List.length_append, NM.conts_len, List.length_singleton] at hi
          by_cases hlast : i = (D.ln a).chg.length + 1
          · subst hlast
            have e1 : (vs ++ [Value.slice (some ⟨g8, 0, none⟩) 64 c8]).getD ((D.ln a).chg.length + 1) undef = .slice (some ⟨g8, 0, none⟩) 64 c8 := by
              rw [List.getD_eq_getElem?_getD, List.getElem?_append_right (by omega), hvl]; simp
            have e2 : (NM.conts (D.ln a) ++ [WM.putM (D.ln a).now b n]).getD ((D.ln a).chg.length + 1) [] = WM.putM (D.ln a).now b n := by
              rw [List.getD_eq_getElem?_getD, List.getElem?_append_right (by rw [NM.conts_len]; omega), NM.conts_len]; simp
            rw [e1, e2]; exact hNew.next b10
          · have e1 : (vs ++ [Value.slice (some ⟨g8, 0, none⟩) 64 c8]).getD i undef = vs.getD i undef := by
              rw [List.getD_eq_getElem?_getD, List.getElem?_append_left (by omega), ← List.getD_eq_getElem?_getD]
            have e2 : (NM.conts (D.ln a) ++ [WM.putM (D.ln a).now b n]).getD i [] = (NM.conts (D.ln a)).getD i [] := by
              rw [List.getD_eq_getElem?_getD, List.getElem?_append_left (by rw [NM.conts_len]; omega), ← List.getD_eq_getElem?_getD]
            rw [e1, e2]; exact (hcl i (by omega)).next b10
        have hnl := NM.Dv.Ok0.ln hok.to0 a
        rw [← NM.conts_store (D.ln a) b n (by rw [hnl.len]; omega)] at hL10
        have hB1b := (hB1.below b10 (by omega)).setOther (a := ⟨w3.heap.size, 0, none⟩) (by simp; omega) (.slice a10 ((D.ln a).chg.length + 1 + 1) c10)
        have hB2b := (hB2p.below b10 (by omega)).setOther (a := ⟨w3.heap.size, 0, none⟩) (by simp; omega) (.slice a10 ((D.ln a).chg.length + 1 + 1) c10)
        have bel10 := bel8.trans (b10.mono bel8.size)
        have bel11 := bel10.setCell (show w0.heap.size ≤ (⟨w3.heap.size, 0, none⟩ : Addr).block from by have := bel3.size; simpa using this) (.slice a10 ((D.ln a).chg.length + 1 + 1) c10)
        have t11 : Turn w10 P (w10.setCell ⟨w3.heap.size, 0, none⟩ (.slice a10 ((D.ln a).chg.length + 1 + 1) c10)) P := ⟨(Mod.refl P w10).setCell (.inl (hP0 _ (by have := bel3.size; simpa using this) (Nat.le_refl _))) _, fun k hk => .inl hk⟩
        have hL11 := hL10.turn t11
        have hc11 := (hcP.next b10).turn t11
        have hB1c := hB1.below b10 (by omega)
        simp -implicitDefEqProofs [go_sem, (hB4.alloc (.cells #[] 23)).cell, hr9, hr10, hB4b.cell, hB4b.thaw, hB1c.cell, hd, hlf', q1, q3, k3]
        generalize hw11 : World.setCell w10 _ _ = w11 at *
        have hs11 : w10.heap.size = w11.heap.size := by rw [← hw11]; simp [World.setCell]
        have hwi := rwith_calls P _ (D.ls.map lineR) a _ ⟨NM.conts ((D.ln a).store b n), ((D.ln a).mark : Int) - 1⟩ false D.left D.steps w11 (fun k hk => by have h1 := hPlt k hk; have h2 := b10.size; rw [← hs11]; omega) hc11 (by rw [List.length_map]; exact q6) hL11 (by rw [List.length_map]; omega)
        simp only [devC] at hwi
        refine callE_of hwi ?_
        rintro u w12 ⟨cv', rfl, hc12, b12⟩
        have hRL : (⟨NM.conts ((D.ln a).store b n), ((D.ln a).mark : Int) - 1⟩ : RL) = lineR ((D.ln a).store b n) := rfl
        rw [hRL, ← map_setLn] at hc12
        have hcv12 := hc12.oneC
        have bel12 := bel11.trans (b12.mono bel11.size)
        have hB1d := hB1b.below b12 (by omega)
        have hB2d := hB2b.below b12 (by omega)
        have hsB := stAll (P := Try.prog) (ty := 60) (cs := devC cv' false D.left D.steps) hB1d (rdevI _ _ _ _) rfl (devC_one hcv12 _ _ _)
        unfold devC at hsB
        have hB1e := hB1d.row #[cv', .bool false, .int .i64 D.left, .int .i64 D.steps]
        have hB2e := hB2d.rowOther (g := w0.heap.size) (by omega) #[cv', .bool false, .int .i64 D.left, .int .i64 D.steps]
        have bel13 := Below.row bel12 (g := w0.heap.size) (Nat.le_refl _) #[cv', .bool false, .int .i64 D.left, .int .i64 D.steps]
        have hc13 := hc12.turn (w' := w12.setRow w0.heap.size #[cv', .bool false, .int .i64 D.left, .int .i64 D.steps]) (F' := P) ⟨(Mod.refl _ _).row (.inl (hP0 w0.heap.size (Nat.le_refl _) (by omega))) _, fun k hk => .inl hk⟩
        simp -implicitDefEqProofs [go_sem, ↓hsB]
        generalize hw13 : World.setRow w12 _ _ = w13 at *
        have hdn := rdone_calls cv' (D.setLn a ((D.ln a).store b n)) w13 hcv12 hd hok.left (by show D.steps < _; omega)
        have e1 : (D.setLn a ((D.ln a).store b n)).down = D.down := rfl
        have e2 : (D.setLn a ((D.ln a).store b n)).left = D.left := rfl
        have e3 : (D.setLn a ((D.ln a).store b n)).steps = D.steps := rfl
        simp only [devC] at hdn
        rw [e1, hd, e2, e3] at hdn
        have hfl : D.store (q : Int) n = ((D.setLn a ((D.ln a).store b n)).done, 0) := by
          unfold NM.Dv.store; rw [if_pos ha, Int.toNat_natCast, if_neg (by rw [hword]; exact hne), ← ha1, ← hb1]
        have hI2 : I64 (D.setLn a ((D.ln a).store b n)).done.left := by
          have := hok.left
          show I64 (if 0 < D.left then D.left - 1 else D.left)
          unfold I64; split <;> omega
        simp -implicitDefEqProofs [go_sem, hB1e.cell]
        refine callE_of hdn ?_
        rintro u w14 ⟨rfl, b14⟩
        have bel14 := bel13.trans (b14.mono bel13.size)
        have hB2f := hB2e.below b14 (by have := hB2e.lt; omega)
        have hcE : CellsV w14 P cv' ((D.setLn a ((D.ln a).store b n)).done.ls.map lineR) := hc13.next b14
        generalize (D.setLn a ((D.ln a).store b n)).done = E at *
        have hs5 := stAll (P := Try.prog) (ty := 60) (cs := devC cv' E.down E.left E.steps) hB2f (rdevI _ _ _ _) rfl (devC_one hcv12 _ _ _)
        unfold devC at hs5
        simp -implicitDefEqProofs [go_sem, ↓hs5]
        refine bodyCell 6 7 rfl (by simp -implicitDefEqProofs [go_sem]) (hB2f.row _) hst rfl (rdevI _ E.down E.left E.steps) ?_
        simp -implicitDefEqProofs [go_sem, hfl]
        exact ⟨⟨_, E.left, rfl, hcE.turn ⟨(Mod.refl _ _).row (.inl (hP0 (w0.heap.size + 1) (by omega) (by omega))) _, fun k hk => .inl (hPF k hk)⟩, fun _ => rfl, hI2⟩, Below.row bel14 (by omega) _⟩
    · rw [if_neg hi] at ha
      have hi' := decide_eq_false hi
      have hfl : D.store off n = (D, 4) := by unfold NM.Dv.store; rw [ha]; rfl
      have hsA' := stAll (P := Try.prog) (ty := 60) (cs := devC (.slice (some ⟨g, o, none⟩) D.ls.length c) false lf D.steps) hB2p (rdevI _ _ _ _) rfl (devC_one rfl _ _ _)
      unfold devC at hsA'
      have belS' := Below.row bel3 (g := w0.heap.size + 1) (by omega) (devC (.slice (some ⟨g, o, none⟩) D.ls.length c) false lf D.steps)
      simp -implicitDefEqProofs [go_sem, hi', hd, hB1.cell, ↓hsA']
      refine bodyCell 6 7 rfl (by simp -implicitDefEqProofs [go_sem]) (hB2p.row _) hst rfl (rdevI _ false lf D.steps) ?_
      simp -implicitDefEqProofs [go_sem, hfl]
      exact ⟨⟨_, lf, by rw [hd]; rfl, hc00.next belS', hlf, hI⟩, belS'⟩
  · have ha := NM.ask_down h0 hd off 8
    have hfl : D.store off n = (D, 12) := by unfold NM.Dv.store; rw [ha]; rfl
    simp -implicitDefEqProofs [go_sem, hB1.cell, hB1.thaw, hd, ↓hsA true]
    refine bodyCell 6 7 rfl (by simp -implicitDefEqProofs [go_sem]) (hB2p.row _) hst rfl (rdevI _ true lf D.steps) ?_
    simp -implicitDefEqProofs [go_sem, hfl]
    exact ⟨⟨_, lf, by rw [hd]; rfl, hc00.next (belS true), hlf, hI⟩, belS true⟩
end
end Go.Proofs.Ytkljlgahdlgmpaa
