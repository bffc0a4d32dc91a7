/- The document's device: Crash. -/
import Derived.Test.YtkljlgahdlgmpaaNvmRef6
import Derived.Test.YtkljlgahdlgmpaaDraws
namespace Go.Proofs.Ytkljlgahdlgmpaa
set_option linter.unusedVariables false
set_option linter.unusedSimpArgs false
open Go Go.RowKit

theorem crashL_none (l : NM.Ln) (ls : List NM.Ln) (ps : List (BitVec 8)) (h : l.chg.length = 0) : NM.crashL (l :: ls) ps = l.crash 0 :: NM.crashL ls ps := crashL_cons0 _ _ _ (by omega)
theorem conts_crash1 (l : NM.Ln) (k : Nat) (h : k ≤ l.chg.length) : (NM.conts (l.crash k)).getD 0 [] = (NM.conts l).getD k [] := by rw [NM.conts_crash l k h]; rfl
theorem LstV.elem {w : World} {F : Nat → Prop} {g o c m : Nat} {bs : List (List (BitVec 8))} (h : LstV w F (.slice (some ⟨g, o, none⟩) m c) bs) {k : Nat} (hk : k < m) :
    ∃ gK oK cK, w.cell? ⟨g, o + k, none⟩ = some (.slice (some ⟨gK, oK, none⟩) 64 cK) ∧ ContV w F (.slice (some ⟨gK, oK, none⟩) 64 cK) (bs.getD k []) := by
  obtain ⟨g', o', c', vs, hv, hF, h0, hl, hin, hc⟩ := h
  simp only [Value.slice.injEq, Option.some.injEq, Addr.mk.injEq, and_true] at hv
  obtain ⟨⟨rfl, rfl⟩, rfl, rfl⟩ := hv
  have h1 := hc k hk
  have h2 := hin.at_.at2 (j := k) (by omega)
  obtain ⟨gK, oK, cK, hv, _⟩ := id h1
  rw [hv] at h1 h2
  exact ⟨gK, oK, cK, h2, h1⟩
section
set_option linter.unusedSimpArgs false
set_option maxHeartbeats 4000000
variable {F : Nat → Prop} {D : NM.Dv}
set_option maxRecDepth 20000 in
theorem rcrash_calls (ap : Option Addr) (ps : List (BitVec 8)) (cp : Nat) (v : Value) (w0 : World) (h : RefV w0 F v D) (hFs : ∀ k, F k → k < w0.heap.size) (hp : SlIn .u8 w0 ap ps cp) (hok : D.Ok) (hc40 : D.steps < 1000000) :
    Ret Try.prog 34 #[v, .slice ap ps.length cp] w0 fun u w' => RefV w' F u (D.crash ps) ∧ Below w0.heap.size w0 w' := by
  have bel0 := Below.refl w0.heap.size w0
  have hst := Try.underlying60
  obtain ⟨cv, lf, rfl, hc, hlf, hI⟩ := h
  have hcv := hc.oneC
  have h0 : 0 < D.ls.length := by obtain ⟨_, _, _, _, _, h, _⟩ := hc.open_; exact h
  have hmost := hok.most
  have hple := hp.le
  have hpmx := hp.max
  refine ret_of (args := [_, _]) _ Try.func34 rfl Try.ntmps34 (by simp) ?_
  simp -implicitDefEqProofs [go_sem, devC]
  generalize hw1 : World.alloc w0 _ = w1 at *
  obtain ⟨hB1, b1, sz1⟩ := new_facts hw1
  have bel1 := bel0.trans (b1.mono bel0.size)
  generalize hw2 : World.alloc w1 _ = w2 at *
  obtain ⟨hB2, b2, sz2⟩ := new_facts hw2
  have bel2 := bel1.trans (b2.mono bel1.size)
  replace hB1 := hB1.next b2
  have hB2p := hB2
  rw [sz1] at hB2p
  obtain ⟨P, hP⟩ : ∃ P : Nat → Prop, P = fun k => F k ∨ (w0.heap.size ≤ k ∧ k ≤ w1.heap.size) := ⟨_, rfl⟩
  have tP : Turn w0 F w0 P := ⟨Mod.refl _ _, fun k hk => by rw [hP] at hk; rcases hk with h | h; exact .inl h; exact .inr h.1⟩
  have hPlt : ∀ k, P k → k < w2.heap.size := fun k hk => by
    rw [hP] at hk
    rcases hk with h | h
    · have := hFs k h; have := bel2.size; omega
    · have := sz2; omega
  have hPF : ∀ k, F k → P k := fun k hk => by rw [hP]; exact .inl hk
  have hP0 : ∀ k, w0.heap.size ≤ k → k ≤ w1.heap.size → P k := fun k h1 h2 => by rw [hP]; exact .inr ⟨h1, h2⟩
  have hcP := (hc.turn tP).next bel2
  have hdc : crK D [] = ⟨D.ls, false, -1, D.steps⟩ := by simp [crK]
  refine wpE_loop (fun e' w' => ∃ (dn : List NM.Ln) (at_ : Nat) (cv' : Value), dn.length ≤ D.ls.length ∧ at_ ≤ dn.length ∧ NM.crashL D.ls ps = dn ++ NM.crashL (D.ls.drop dn.length) (ps.drop at_) ∧ e' 1 = .slice ap ps.length cp ∧ e' 2 = .pointer (some ⟨w0.heap.size, 0, none⟩) ∧ e' 4 = .pointer (some ⟨w0.heap.size + 1, 0, none⟩) ∧ e' 5 = .int .i64 at_ ∧ e' 6 = .int .i64 dn.length ∧
    Blk w' w0.heap.size #[cv', .bool false, .int .i64 (-1), .int .i64 D.steps] 60 ∧ Blk w' (w0.heap.size + 1) #[.slice none 0 0, .bool false, .int .i64 0, .int .i64 0] 60 ∧
    CellsV w' P cv' ((crK D dn).ls.map lineR) ∧ Below w0.heap.size w0 w' ∧ w2.heap.size ≤ w'.heap.size) (fun e' _ => D.ls.length - (intOf (e' 6)).toNat) ?_ ?_
  · refine ⟨[], 0, cv, by simp, by simp, by simp, ?_⟩
    simp -implicitDefEqProofs [go_sem]
    exact ⟨by simpa using hB1, hB2p, by rw [hdc]; exact hcP, bel2⟩
  · rintro e' w5 ⟨dn, at_, cv', hi, hat, hcr, g1, g2, g4, g5, g6, hB1', hB2', hc5, bel5, hsz5⟩
    have hcv5 := hc5.oneC
    have hlenK := crK_len D dn hi
    obtain ⟨g, o, c, xs, rfl, _, hle, hmx, hglt, hcell⟩ := hc5.open_
    rw [hlenK] at hle hcell hB1' hc5
    by_cases hlt : dn.length < D.ls.length
    · have hlt' : (dn.length : Int) < D.ls.length := by omega
      have kw1 := IntWalk.i64_in ((dn.length : Int) + 1) (by omega)
      have kwa := IntWalk.i64_in ((at_ : Int) + 1) (by omega)
      obtain ⟨c1, c2, hL⟩ := hcell dn.length hlt
      have hLone := hL.oneC
      have hchg := NM.Dv.Ok.lnChg hok dn.length
      rw [crK_ln D dn hlt] at c2 hL
      have hsucc := crK_succ D dn hlt
      have hdrop : D.ls.drop dn.length = D.ln dn.length :: D.ls.drop (dn.length + 1) := by
        rw [List.drop_eq_getElem_cons hlt]; congr 1; simp [NM.Dv.ln, List.getD, hlt]
      rw [hdrop] at hcr
      have hL0 := hL
      obtain ⟨g2', o2, cc, hx, hcc, hccm⟩ := hL.shape
      rw [NM.conts_len] at hx hcc
      have hstC := stNew (P := Try.prog) (t := 100) (ty := 100) (cs := #[xs dn.length, .int .i64 ((D.ln dn.length).mark - 1)]) (C0 := #[.slice none 0 0, .int .i64 0]) rcellI2 rfl (by intro v hv; simp at hv; rcases hv with rfl | rfl <;> first | exact hLone | rfl)
      have tc : Turn w5 P w5 (fun k => P k ∨ k = w5.heap.size) := turn_wide (Nat.le_refl _)
      generalize hm : (D.ln dn.length).chg.length = m at *
      cases m with
      | zero =>
        rw [crashL_none _ _ _ hm] at hcr
        rw [hx] at hstC c1
        obtain ⟨gK, oK, ccK, hcK, hCK⟩ := LstV.elem (hx ▸ hL0) (k := 0) (by omega)
        rw [Nat.add_zero] at hcK
        have hKc : (0 : Int) < 1 := by decide
        obtain ⟨lc, hlc0⟩ : ∃ lc, lc = (D.ln dn.length).crash 0 := ⟨_, rfl⟩
        have hlc : NM.conts lc = [(NM.conts (D.ln dn.length)).getD 0 []] := by rw [hlc0, NM.conts_crash _ _ (by omega)]
        have hRL : (⟨NM.conts lc, -1⟩ : RL) = lineR lc := by rw [hlc0]; rfl
        rw [← hlc0] at hcr
        replace hsucc := hsucc lc
        obtain ⟨atn, hat0⟩ : ∃ atn, atn = at_ := ⟨_, rfl⟩
        have hatn : (at_ : Int) = atn := by omega
        have hfin : NM.crashL D.ls ps = dn ++ lc :: NM.crashL (D.ls.drop (dn.length + 1)) (ps.drop atn) := by rw [hcr, hat0]
        simp -implicitDefEqProofs [go_sem, g1, g2, g4, g5, g6, hB1'.cell, hlt, hlt', c1, c2, ↓hstC]
        generalize hw6 : World.alloc w5 _ = w6 at *
        obtain ⟨hB6, b6, sz6⟩ := new_facts hw6
        have bel6 := bel5.trans (b6.mono bel5.size)
        have hB1a := hB1'.next b6
        have hB2a := hB2'.next b6
        refine drawE_mix [.pure 1, .pure 2, .pure 4, .take 0, .run 3 [0], .pure 5, .run 6 [0], .run 7 [0], .run 8 [0], .run 9 [], .run 10 []] mixed (by decide +kernel) (by simp only [withOps, MStep.num, List.filterMap_cons, List.filterMap_nil, List.getElem?_cons_succ, List.getElem?_cons_zero, Option.map_some]; rfl) ?_
        have bd : Below w6.heap.size w6 w6.drew := (Below.refl _ _).drew
        replace hB1a := hB1a.next bd
        replace hB2a := hB2a.next bd
        replace hB6 := hB6.next bd
        have bel7 := bel6.drew
        have b57 : Below w5.heap.size w5 w6.drew := b6.trans (bd.mono b6.size)
        have hs67 : w6.drew.heap.size = w6.heap.size := rfl
        generalize World.drew w6 = w7 at *
        replace hcK := cell_below hcK b57
        simp -implicitDefEqProofs [go_sem, g1, g2, g4, g5, g6]
        refine onTake_of (fun w' => Below w7.heap.size w7 w') (.agg #[.slice (some ⟨g, o, none⟩) D.ls.length c, .bool false, .int .i64 (-1), .int .i64 D.steps]) (Below.refl _ _) (fun w' hw => by simp -implicitDefEqProofs [go_sem, g2, (hB1a.next hw).cell]) ?_
        simp -implicitDefEqProofs [go_sem, g1, g2, g4, g5, g6, hB6.cell, hcK, hKc]
        refine ⟨.inr ((Below.refl _ _).alloc (Nat.le_refl _) _), ?_⟩
        generalize hw8 : World.alloc w7 _ = w8 at *
        obtain ⟨hB8, b8, sz8⟩ := new_facts hw8
        have bel8 := bel7.trans (b8.mono bel7.size)
        replace hB1a := hB1a.next b8
        replace hB2a := hB2a.next b8
        have b58 := b57.trans (b8.mono b57.size)
        have hPc : ∀ k, (P k ∨ k = w5.heap.size) → k < w6.heap.size := fun k hk => by rcases hk with hk | hk; have := hPlt k hk; omega; omega
        have hLn : LstV w8 (fun k => P k ∨ k = w5.heap.size) (.slice (some ⟨w7.heap.size, 0, none⟩) 1 1) (NM.conts lc) := by
          rw [hlc]
          refine ⟨w7.heap.size, 0, 1, [.slice (some ⟨gK, oK, none⟩) 64 ccK], rfl, fun h => by have := hPc _ h; omega, by simp, rfl, ⟨vsAt_blk hB8 fun j hj => ?_, by simp, by decide, fun h => by cases h⟩, fun j hj => ?_⟩
          · have : j = 0 := by simpa using hj
            subst this; rfl
          · have : j = 0 := by simpa using hj
            subst this
            exact (hCK.turn tc).next b58
        have hwi := rwith_calls (fun k => P k ∨ k = w5.heap.size) _ ((crK D dn).ls.map lineR) dn.length _ ⟨NM.conts lc, -1⟩ false (-1) D.steps w8 (fun k hk => by have := hPc k hk; omega) ((hc5.turn tc).next b58) (by rw [List.length_map, hlenK]; exact hlt) hLn (by rw [List.length_map, hlenK]; omega)
        simp only [devC] at hwi
        refine callE_of hwi ?_
        rintro u w9 ⟨cv9, rfl, hc9, b9⟩
        refine ⟨.inr (by simp -implicitDefEqProofs [go_sem]), ?_⟩
        rw [hRL, ← map_setLn, hsucc] at hc9
        have bel9 := bel8.trans (b9.mono bel8.size)
        have hcv9 := hc9.oneC
        have hB1b := hB1a.next b9
        have hB2b := hB2a.next b9
        have hsB := stAll (P := Try.prog) (ty := 60) (cs := devC cv9 false (-1) D.steps) hB1b (rdevI _ _ _ _) rfl (devC_one hcv9 _ _ _)
        unfold devC at hsB
        simp -implicitDefEqProofs [go_sem, g1, g2, g4, g5, g6, kw1, ↓hsB]
        refine goE_round ⟨dn ++ [lc], atn, cv9, by simp; omega, by simp; omega, by rw [hfin]; simp, ?_, ?_, ?_, ?_, ?_, hB1b.row _, hB2b.rowOther (by omega) _, hc9.turn ⟨(Mod.refl _ _).row (.inl (.inl (hP0 w0.heap.size (Nat.le_refl _) (by omega)))) _, fun k hk => .inl (.inl hk)⟩, Below.row bel9 (Nat.le_refl _) _, ?_⟩ ?_
        · simp -implicitDefEqProofs [go_sem, g1]
        · simp -implicitDefEqProofs [go_sem, g2]
        · simp -implicitDefEqProofs [go_sem, g4]
        · simp -implicitDefEqProofs [go_sem, g5, hatn]
        · simp -implicitDefEqProofs [go_sem]
        · have := b9.size; have := b58.size; simp; omega
        · simp -implicitDefEqProofs [go_sem, intOf, g6]; omega
      | succ m =>
        have hm1 : (1 : Int) < (m : Int) + 1 + 1 := by omega
        by_cases hpk : at_ < ps.length
        · have hpk' : (at_ : Int) < ps.length := by omega
          rw [hx] at hstC c1
          obtain ⟨K, hK0⟩ : ∃ K, K = ps[at_].toNat % (m + 1 + 1) := ⟨_, rfl⟩
          have hKlt : K < m + 1 + 1 := by rw [hK0]; exact Nat.mod_lt _ (by omega)
          obtain ⟨gK, oK, ccK, hcK, hCK⟩ := LstV.elem (hx ▸ hL0) (k := K) (by omega)
          have hKc : (K : Int) < (m : Int) + 1 + 1 := by omega
          obtain ⟨lc, hlc0⟩ : ∃ lc, lc = (D.ln dn.length).crash K := ⟨_, rfl⟩
          have hlc : NM.conts lc = [(NM.conts (D.ln dn.length)).getD K []] := by rw [hlc0, NM.conts_crash _ _ (by omega)]
          have hRL : (⟨NM.conts lc, -1⟩ : RL) = lineR lc := by rw [hlc0]; rfl
          replace hsucc := hsucc lc
          obtain ⟨atn, hat0⟩ : ∃ atn, atn = at_ + 1 := ⟨_, rfl⟩
          have hatn : (at_ : Int) + 1 = atn := by omega
          have hfin : NM.crashL D.ls ps = dn ++ lc :: NM.crashL (D.ls.drop (dn.length + 1)) (ps.drop atn) := by
            rw [hcr, List.drop_eq_getElem_cons hpk, crashL_consP _ _ _ _ (by omega), hm, hat0, hlc0, hK0]
          have hux : uv ps[at_] = (ps[at_].toNat : Int) := rfl
          have hrem : (uv ps[at_]).tmod ((m : Int) + 1 + 1) = (K : Int) := by
            rw [hux, Int.tmod_eq_emod_of_nonneg (by omega), hK0]; push_cast; rfl
          have hrem' : uv ps[at_] % ((m : Int) + 1 + 1) = (K : Int) := by
            rw [hux, hK0]; push_cast; rfl
          have kwu := IntWalk.i64_in (uv ps[at_]) (by rw [hux]; have := ps[at_].isLt; omega)
          have kwK := IntWalk.i64_in (K : Int) (by omega)
          have hz1 : (((m : Int) + 1 + 1) == 0) = false := by rw [beq_eq_false_iff_ne]; omega
          have hz2 : ¬ (m : Int) + 1 + 1 = 0 := by omega
          simp -implicitDefEqProofs [go_sem, g1, g2, g4, g5, g6, hB1'.cell, hlt, hlt', c1, c2, hm1, hpk, hpk', ↓hstC]
          generalize hw6a : World.alloc w5 _ = w6a at *
          obtain ⟨hB6a, b6a, sz6a⟩ := new_facts hw6a
          have bel6a := bel5.trans (b6a.mono bel5.size)
          refine drawE_mix [.pure 0, .pure 1, .pure 2, .pure 5, .take 3, .take 4, .run 6 [3, 4], .pure 7, .pure 8, .pure 9] mixed (by decide +kernel) (by simp only [withOps, MStep.num, List.filterMap_cons, List.filterMap_nil, List.getElem?_cons_succ, List.getElem?_cons_zero, Option.map_some]; rfl) ?_
          have b6 : Below w5.heap.size w5 w6a.drew := b6a.drew
          have bel6 := bel6a.drew
          have hB6 := hB6a.drew
          have sz6 : w6a.drew.heap.size = w5.heap.size + 1 := sz6a
          generalize World.drew w6a = w6 at *
          obtain ⟨bp, op, rfl, gp⟩ := (hp.at_.below bel6).cell hpk
          simp -implicitDefEqProofs [go_sem, g1, g2, g4, g5, g6, hpk, hpk']
          refine onTake_of (fun w' => Below w6.heap.size w6 w') (.int .u8 (uv ps[at_])) (Below.refl _ _) (fun w' hw => by simp -implicitDefEqProofs [go_sem, cell_below gp hw]) ?_
          simp -implicitDefEqProofs [go_sem]
          refine onTake_of (fun w' => Below w6.heap.size w6 w') (.int .i64 (uv ps[at_])) (Below.refl _ _) (fun w' hw => by simp -implicitDefEqProofs [go_sem, kwu]) ?_
          simp -implicitDefEqProofs [go_sem, hB6.cell, hrem, hrem', kwK, hz1, hz2, g5, kwa]
          have hB1a := hB1'.next b6
          have hB2a := hB2'.next b6
          refine drawE_mix [.pure 1, .pure 2, .pure 4, .take 0, .run 3 [0], .pure 5, .run 6 [0], .run 7 [0], .run 8 [0], .run 9 [], .run 10 []] mixed (by decide +kernel) (by simp only [withOps, MStep.num, List.filterMap_cons, List.filterMap_nil, List.getElem?_cons_succ, List.getElem?_cons_zero, Option.map_some]; rfl) ?_
          have bd : Below w6.heap.size w6 w6.drew := (Below.refl _ _).drew
          replace hB1a := hB1a.next bd
          replace hB2a := hB2a.next bd
          replace hB6 := hB6.next bd
          have bel7 := bel6.drew
          have b57 : Below w5.heap.size w5 w6.drew := b6.trans (bd.mono b6.size)
          have hs67 : w6.drew.heap.size = w6.heap.size := rfl
          generalize World.drew w6 = w7 at *
          replace hcK := cell_below hcK b57
          simp -implicitDefEqProofs [go_sem, g1, g2, g4, g5, g6]
          refine onTake_of (fun w' => Below w7.heap.size w7 w') (.agg #[.slice (some ⟨g, o, none⟩) D.ls.length c, .bool false, .int .i64 (-1), .int .i64 D.steps]) (Below.refl _ _) (fun w' hw => by simp -implicitDefEqProofs [go_sem, g2, (hB1a.next hw).cell]) ?_
          simp -implicitDefEqProofs [go_sem, g1, g2, g4, g5, g6, hB6.cell, hcK, hKc]
          refine ⟨.inr ((Below.refl _ _).alloc (Nat.le_refl _) _), ?_⟩
          generalize hw8 : World.alloc w7 _ = w8 at *
          obtain ⟨hB8, b8, sz8⟩ := new_facts hw8
          have bel8 := bel7.trans (b8.mono bel7.size)
          replace hB1a := hB1a.next b8
          replace hB2a := hB2a.next b8
          have b58 := b57.trans (b8.mono b57.size)
          have hPc : ∀ k, (P k ∨ k = w5.heap.size) → k < w6.heap.size := fun k hk => by rcases hk with hk | hk; have := hPlt k hk; omega; omega
          have hLn : LstV w8 (fun k => P k ∨ k = w5.heap.size) (.slice (some ⟨w7.heap.size, 0, none⟩) 1 1) (NM.conts lc) := by
            rw [hlc]
            refine ⟨w7.heap.size, 0, 1, [.slice (some ⟨gK, oK, none⟩) 64 ccK], rfl, fun h => by have := hPc _ h; omega, by simp, rfl, ⟨vsAt_blk hB8 fun j hj => ?_, by simp, by decide, fun h => by cases h⟩, fun j hj => ?_⟩
            · have : j = 0 := by simpa using hj
              subst this; rfl
            · have : j = 0 := by simpa using hj
              subst this
              exact (hCK.turn tc).next b58
          have hwi := rwith_calls (fun k => P k ∨ k = w5.heap.size) _ ((crK D dn).ls.map lineR) dn.length _ ⟨NM.conts lc, -1⟩ false (-1) D.steps w8 (fun k hk => by have := hPc k hk; omega) ((hc5.turn tc).next b58) (by rw [List.length_map, hlenK]; exact hlt) hLn (by rw [List.length_map, hlenK]; omega)
          simp only [devC] at hwi
          refine callE_of hwi ?_
          rintro u w9 ⟨cv9, rfl, hc9, b9⟩
          refine ⟨.inr (by simp -implicitDefEqProofs [go_sem]), ?_⟩
          rw [hRL, ← map_setLn, hsucc] at hc9
          have bel9 := bel8.trans (b9.mono bel8.size)
          have hcv9 := hc9.oneC
          have hB1b := hB1a.next b9
          have hB2b := hB2a.next b9
          have hsB := stAll (P := Try.prog) (ty := 60) (cs := devC cv9 false (-1) D.steps) hB1b (rdevI _ _ _ _) rfl (devC_one hcv9 _ _ _)
          unfold devC at hsB
          simp -implicitDefEqProofs [go_sem, g1, g2, g4, g5, g6, kw1, ↓hsB]
          refine goE_round ⟨dn ++ [lc], atn, cv9, by simp; omega, by simp; omega, by rw [hfin]; simp, ?_, ?_, ?_, ?_, ?_, hB1b.row _, hB2b.rowOther (by omega) _, hc9.turn ⟨(Mod.refl _ _).row (.inl (.inl (hP0 w0.heap.size (Nat.le_refl _) (by omega)))) _, fun k hk => .inl (.inl hk)⟩, Below.row bel9 (Nat.le_refl _) _, ?_⟩ ?_
          · simp -implicitDefEqProofs [go_sem, g1]
          · simp -implicitDefEqProofs [go_sem, g2]
          · simp -implicitDefEqProofs [go_sem, g4]
          · simp -implicitDefEqProofs [go_sem, g5, hatn]
          · simp -implicitDefEqProofs [go_sem]
          · have := b9.size; have := b58.size; simp; omega
          · simp -implicitDefEqProofs [go_sem, intOf, g6]; omega
        · have hpk' : ¬ (at_ : Int) < ps.length := by omega
          rw [hx] at hstC c1
          obtain ⟨gK, oK, ccK, hcK, hCK⟩ := LstV.elem (hx ▸ hL0) (k := 0) (by omega)
          rw [Nat.add_zero] at hcK
          have hKc : (0 : Int) < (m : Int) + 1 + 1 := by omega
          obtain ⟨lc, hlc0⟩ : ∃ lc, lc = (D.ln dn.length).crash 0 := ⟨_, rfl⟩
          have hlc : NM.conts lc = [(NM.conts (D.ln dn.length)).getD 0 []] := by rw [hlc0, NM.conts_crash _ _ (by omega)]
          have hRL : (⟨NM.conts lc, -1⟩ : RL) = lineR lc := by rw [hlc0]; rfl
          replace hsucc := hsucc lc
          obtain ⟨atn, hat0⟩ : ∃ atn, atn = at_ + 1 := ⟨_, rfl⟩
          have hatn : (at_ : Int) + 1 = atn := by omega
          have hfin : NM.crashL D.ls ps = dn ++ lc :: NM.crashL (D.ls.drop (dn.length + 1)) (ps.drop atn) := by
            have n1 : ps.drop at_ = [] := List.drop_eq_nil_of_le (by omega)
            have n2 : ps.drop (at_ + 1) = [] := List.drop_eq_nil_of_le (by omega)
            rw [hcr, n1, crashL_consN, hlc0, hat0, n2]
          simp -implicitDefEqProofs [go_sem, g1, g2, g4, g5, g6, hB1'.cell, hlt, hlt', c1, c2, hm1, hpk, hpk', kwa, ↓hstC]
          generalize hw6 : World.alloc w5 _ = w6 at *
          obtain ⟨hB6, b6, sz6⟩ := new_facts hw6
          have bel6 := bel5.trans (b6.mono bel5.size)
          have hB1a := hB1'.next b6
          have hB2a := hB2'.next b6
          refine drawE_mix [.pure 1, .pure 2, .pure 4, .take 0, .run 3 [0], .pure 5, .run 6 [0], .run 7 [0], .run 8 [0], .run 9 [], .run 10 []] mixed (by decide +kernel) (by simp only [withOps, MStep.num, List.filterMap_cons, List.filterMap_nil, List.getElem?_cons_succ, List.getElem?_cons_zero, Option.map_some]; rfl) ?_
          have bd : Below w6.heap.size w6 w6.drew := (Below.refl _ _).drew
          replace hB1a := hB1a.next bd
          replace hB2a := hB2a.next bd
          replace hB6 := hB6.next bd
          have bel7 := bel6.drew
          have b57 : Below w5.heap.size w5 w6.drew := b6.trans (bd.mono b6.size)
          have hs67 : w6.drew.heap.size = w6.heap.size := rfl
          generalize World.drew w6 = w7 at *
          replace hcK := cell_below hcK b57
          simp -implicitDefEqProofs [go_sem, g1, g2, g4, g5, g6]
          refine onTake_of (fun w' => Below w7.heap.size w7 w') (.agg #[.slice (some ⟨g, o, none⟩) D.ls.length c, .bool false, .int .i64 (-1), .int .i64 D.steps]) (Below.refl _ _) (fun w' hw => by simp -implicitDefEqProofs [go_sem, g2, (hB1a.next hw).cell]) ?_
          simp -implicitDefEqProofs [go_sem, g1, g2, g4, g5, g6, hB6.cell, hcK, hKc]
          refine ⟨.inr ((Below.refl _ _).alloc (Nat.le_refl _) _), ?_⟩
          generalize hw8 : World.alloc w7 _ = w8 at *
          obtain ⟨hB8, b8, sz8⟩ := new_facts hw8
          have bel8 := bel7.trans (b8.mono bel7.size)
          replace hB1a := hB1a.next b8
          replace hB2a := hB2a.next b8
          have b58 := b57.trans (b8.mono b57.size)
          have hPc : ∀ k, (P k ∨ k = w5.heap.size) → k < w6.heap.size := fun k hk => by rcases hk with hk | hk; have := hPlt k hk; omega; omega
          have hLn : LstV w8 (fun k => P k ∨ k = w5.heap.size) (.slice (some ⟨w7.heap.size, 0, none⟩) 1 1) (NM.conts lc) := by
            rw [hlc]
            refine ⟨w7.heap.size, 0, 1, [.slice (some ⟨gK, oK, none⟩) 64 ccK], rfl, fun h => by have := hPc _ h; omega, by simp, rfl, ⟨vsAt_blk hB8 fun j hj => ?_, by simp, by decide, fun h => by cases h⟩, fun j hj => ?_⟩
            · have : j = 0 := by simpa using hj
              subst this; rfl
            · have : j = 0 := by simpa using hj
              subst this
              exact (hCK.turn tc).next b58
          have hwi := rwith_calls (fun k => P k ∨ k = w5.heap.size) _ ((crK D dn).ls.map lineR) dn.length _ ⟨NM.conts lc, -1⟩ false (-1) D.steps w8 (fun k hk => by have := hPc k hk; omega) ((hc5.turn tc).next b58) (by rw [List.length_map, hlenK]; exact hlt) hLn (by rw [List.length_map, hlenK]; omega)
          simp only [devC] at hwi
          refine callE_of hwi ?_
          rintro u w9 ⟨cv9, rfl, hc9, b9⟩
          refine ⟨.inr (by simp -implicitDefEqProofs [go_sem]), ?_⟩
          rw [hRL, ← map_setLn, hsucc] at hc9
          have bel9 := bel8.trans (b9.mono bel8.size)
          have hcv9 := hc9.oneC
          have hB1b := hB1a.next b9
          have hB2b := hB2a.next b9
          have hsB := stAll (P := Try.prog) (ty := 60) (cs := devC cv9 false (-1) D.steps) hB1b (rdevI _ _ _ _) rfl (devC_one hcv9 _ _ _)
          unfold devC at hsB
          simp -implicitDefEqProofs [go_sem, g1, g2, g4, g5, g6, kw1, ↓hsB]
          refine goE_round ⟨dn ++ [lc], atn, cv9, by simp; omega, by simp; omega, by rw [hfin]; simp, ?_, ?_, ?_, ?_, ?_, hB1b.row _, hB2b.rowOther (by omega) _, hc9.turn ⟨(Mod.refl _ _).row (.inl (.inl (hP0 w0.heap.size (Nat.le_refl _) (by omega)))) _, fun k hk => .inl (.inl hk)⟩, Below.row bel9 (Nat.le_refl _) _, ?_⟩ ?_
          · simp -implicitDefEqProofs [go_sem, g1]
          · simp -implicitDefEqProofs [go_sem, g2]
          · simp -implicitDefEqProofs [go_sem, g4]
          · simp -implicitDefEqProofs [go_sem, g5, hatn]
          · simp -implicitDefEqProofs [go_sem]
          · have := b9.size; have := b58.size; simp; omega
          · simp -implicitDefEqProofs [go_sem, intOf, g6]; omega
    · have hi' : dn.length = D.ls.length := by omega
      have hlt' : ¬ (dn.length : Int) < D.ls.length := by omega
      have hall : (crK D dn) = D.crash ps := by
        rw [hi', List.drop_length] at hcr
        unfold crK NM.Dv.crash
        rw [if_neg (by omega), hcr, hi', List.drop_length]
        simp [NM.crashL]
      rw [hall] at hc5
      have e1 : (D.crash ps).down = false := by rw [← hall]; rfl
      have e2 : (D.crash ps).left = -1 := by rw [← hall]; rfl
      have e3 : (D.crash ps).steps = D.steps := by rw [← hall]; rfl
      have hs5 := stAll (P := Try.prog) (ty := 60) (cs := devC (.slice (some ⟨g, o, none⟩) D.ls.length c) false (-1) D.steps) hB2' (rdevI _ _ _ _) rfl (devC_one rfl _ _ _)
      unfold devC at hs5
      simp -implicitDefEqProofs [go_sem, g1, g2, g4, g5, g6, hB1'.cell, hlt', ↓hs5]
      refine bodyCell1 4 rfl (by simp -implicitDefEqProofs [go_sem, g4]) (hB2'.row _) hst rfl (rdevI _ false (-1) D.steps) ?_
      refine ⟨⟨_, -1, by rw [e1, e3]; rfl, hc5.turn ⟨(Mod.refl _ _).row (.inl (hP0 (w0.heap.size + 1) (by omega) (by omega))) _, fun k hk => .inl (hPF k hk)⟩, fun _ => e2.symm, by unfold I64; omega⟩, Below.row bel5 (by omega) _⟩
end
end Go.Proofs.Ytkljlgahdlgmpaa
