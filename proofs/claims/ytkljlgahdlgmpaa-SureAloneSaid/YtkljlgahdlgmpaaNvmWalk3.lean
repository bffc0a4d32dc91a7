/- Flush and Store: walks. -/
import Derived.Test.YtkljlgahdlgmpaaNvmWalk2
namespace Go.Proofs.Ytkljlgahdlgmpaa
open Go Go.RowKit

/-- A step of a device: its state, what was turned, and where it lies now. -/
def DevStep (w : World) (p lb : Nat) (D : NM.Dv) (S : Nat → Spot) (D' : NM.Dv) (w' : World) : Prop :=
  ∃ S', DevAt w' p lb D' S' ∧ Mod (DevF p lb D S) w w' ∧ ∀ k, DevF p lb D' S' k → DevF p lb D S k ∨ w.heap.size ≤ k
theorem DevStep.refl {w : World} {p lb : Nat} {D : NM.Dv} {S : Nat → Spot} (h : DevAt w p lb D S) : DevStep w p lb D S D w := ⟨S, h, Mod.refl _ _, fun _ hk => .inl hk⟩
theorem DevStep.head {w w1 w' : World} {p lb : Nat} {D D1 D' : NM.Dv} {S S1 : Nat → Spot} (_ : DevAt w1 p lb D1 S1) (hm1 : Mod (DevF p lb D S) w w1) (hw1 : ∀ k, DevF p lb D1 S1 k → DevF p lb D S k ∨ w.heap.size ≤ k) (h2 : DevStep w1 p lb D1 S1 D' w') : DevStep w p lb D S D' w' := by
  obtain ⟨S', hA, hm, hw⟩ := h2
  refine ⟨S', hA, hm1.trans hm (fun k hk hlt => ?_), fun k hk => ?_⟩
  · rcases hw1 k hk with h | h
    · exact h
    · omega
  · rcases hw k hk with h | h
    · exact hw1 k h
    · right; have := hm1.size; omega
theorem step_done {w w' : World} {p lb : Nat} {D : NM.Dv} {S : Nat → Spot} (h : DevAt w' p lb D.done S) (hm : Mod (fun k => k = p) w w') : DevStep w p lb D S D.done w' :=
  ⟨S, h, hm.mono (fun k hk _ => .inl hk), fun k hk => .inl (by
    rcases hk with rfl | rfl | ⟨i, hi, hk⟩
    · exact .inl rfl
    · exact .inr (.inl rfl)
    · exact .inr (.inr ⟨i, hi, hk⟩))⟩
/-- One line made anew, said of the blocks. -/
theorem setLine_F {p lb : Nat} {D : NM.Dv} {S : Nat → Spot} {i : Nat} {l' : NM.Ln} {s' : Spot} {w : World} (hi : i < D.ls.length) (hwhere : ∀ k, Value.ownBlock (spotV l' s') = some k → Value.ownBlock (spotV (D.ln i) (S i)) = some k ∨ w.heap.size ≤ k) :
    ∀ k, DevF p lb (D.setLn i l') (setS S i s') k → DevF p lb D S k ∨ w.heap.size ≤ k := by
  rintro k (rfl | rfl | ⟨j, hj, hk⟩)
  · exact .inl (.inl rfl)
  · exact .inl (.inr (.inl rfl))
  · rw [NM.Dv.setLn_len] at hj
    rw [NM.Dv.setLn_ln D i l' hi] at hk
    by_cases e : j = i
    · subst e
      rw [if_pos rfl] at hk
      simp only [setS, if_true] at hk
      rcases hwhere k hk with h | h
      · exact .inl (.inr (.inr ⟨j, hi, h⟩))
      · exact .inr h
    · rw [if_neg e] at hk
      simp only [setS, e, if_false] at hk
      exact .inl (.inr (.inr ⟨j, hj, hk⟩))
theorem ask1 {D : NM.Dv} {off : Int} (hp : 0 < D.ls.length) (h : D.ask off 1 = 0) : ∃ o : Nat, off = (o : Int) ∧ o < D.size := by
  unfold NM.Dv.ask at h
  rw [if_neg (by omega)] at h
  split at h
  · cases h
  · split at h
    · cases h
    · rename_i h3
      have h4 : 0 ≤ off := by
        apply Classical.byContradiction; intro h4; exact h3 (.inl (by omega))
      obtain ⟨o, rfl⟩ := Int.eq_ofNat_of_zero_le h4
      exact ⟨o, rfl, by apply Classical.byContradiction; intro h5; exact h3 (.inr (.inl (by omega)))⟩

set_option linter.unusedSimpArgs false in
theorem flush_calls {p lb : Nat} {D : NM.Dv} {S : Nat → Spot} (off : Int) (w0 : World) (h : DevAt w0 p lb D S) (ho : I64 off) (hc : D.steps < 1099511627776) (hok : D.Ok) :
    Ret Try.prog 17 #[.pointer (some ⟨p, 0, none⟩), .int .i64 off] w0 fun v w' => v = .int .i64 (D.flush off).2 ∧ DevStep w0 p lb D S (D.flush off).1 w' := by
  obtain ⟨ho1, ho2⟩ := ho
  refine ret_of (args := [_, _]) _ Try.func17 rfl Try.ntmps17 (by simp) ?_
  simp -implicitDefEqProofs [go_sem]
  refine callE_of (ask_calls off 1 w0 h (by decide)) ?_
  rintro v w1 ⟨rfl, rfl⟩
  by_cases ha : D.ask off 1 = 0
  · obtain ⟨o, rfl, hos⟩ := ask1 h.pos ha
    have hQ : o / 64 < D.ls.length := by unfold NM.Dv.size at hos; omega
    have hwq : IntKind.i64.wrap ((o : Int) / 64) = ((o / 64 : Nat) : Int) := by rw [IntWalk.i64_in _ (by omega)]; rfl
    have hQ' : ((o / 64 : Nat) : Int) < D.ls.length := by omega
    have hfl : D.flush (o : Int) = ((D.setLn (o / 64) { D.ln (o / 64) with mark := (D.ln (o / 64)).chg.length + 1 }).done, 0) := by unfold NM.Dv.flush; rw [if_pos ha, Int.toNat_natCast]
    rw [hfl]
    generalize o / 64 = Q at *
    have hl := NM.Dv.Ok0.ln h.ok Q
    have hcl := NM.Dv.Ok.lnChg hok Q
    have hw65 := IntWalk.i64_in (((D.ln Q).chg.length : Int) + 1) (by omega)
    obtain ⟨C, hL⟩ := h.lines
    have g64 := hL.blk.cell (Q * 66 + 64)
    rw [hL.chg Q hQ, spotV] at g64
    have g65 := hL.blk.cell (Q * 66 + 65)
    rw [hL.mark Q hQ] at g65
    have f65 := hL.blk.thaw (Q * 66 + 65)
    have hCs : Q * 66 + 66 ≤ C.size := by rw [hL.size]; omega
    have hm2 : Mod (fun k => k = lb) w1 (w1.setCell ⟨lb, Q * 66 + 65, none⟩ (.int .i64 (((D.ln Q).chg.length : Int) + 1))) := (Mod.refl (fun k => k = lb) w1).setCell (a := ⟨lb, Q * 66 + 65, none⟩) (.inl rfl) _
    have hown := h.ownMod hQ hm2 (fun k hk e => (h.notp Q hQ).2 (e ▸ hk))
    have hg : ∀ k, (C.setIfInBounds (Q * 66 + 65) (.int .i64 (((D.ln Q).chg.length : Int) + 1)))[k]? = if k = Q * 66 + 65 then some (.int .i64 (((D.ln Q).chg.length : Int) + 1)) else C[k]? := fun k => by
      rw [Array.getElem?_setIfInBounds]
      by_cases e : k = Q * 66 + 65
      · subst e; rw [if_pos rfl, if_pos rfl, if_pos (by omega)]
      · rw [if_neg (fun e2 => e e2.symm), if_neg e]
    have hD := h.setLine (l' := { D.ln Q with mark := (D.ln Q).chg.length + 1 }) (s' := S Q) hL hQ ⟨hl.len, hl.at_, Nat.le_refl _⟩ (hL.blk.set _ _) (by simp) (fun k hk => by rw [hg, if_neg (by omega)])
      (fun j hj => by rw [hg, if_neg (by omega)]; exact hL.now Q hQ j hj) (by rw [hg, if_neg (by omega)]; exact hL.chg Q hQ) (by rw [hg, if_pos rfl]; rfl) hm2 (fun k hk => .inl hk) hown (fun k hk => .inl hk)
    have hF := setLine_F (p := p) (lb := lb) (S := S) (l' := { D.ln Q with mark := (D.ln Q).chg.length + 1 }) (s' := S Q) (w := w1) hQ (fun k hk => .inl hk)
    have hdone := done_calls (w1.setCell ⟨lb, Q * 66 + 65, none⟩ (.int .i64 (((D.ln Q).chg.length : Int) + 1))) hD (by simpa [NM.Dv.setLn] using hc)
    simp -implicitDefEqProofs [go_sem, ha, h.dev.cell, hwq, hQ, hQ', g64, g65, f65, hw65]
    refine callE_of hdone ?_
    rintro v w2 ⟨rfl, hA2, hmd, _⟩
    simp -implicitDefEqProofs [go_sem]
    refine body_tmp 4 rfl ?_
    simp -implicitDefEqProofs [go_sem]
    exact DevStep.head hD (hm2.mono (fun k hk _ => .inr (.inl hk))) hF (step_done hA2 hmd)
  · have ha' : (D.ask off 1 != 0) = true := by rw [bne_iff_ne]; exact ha
    simp -implicitDefEqProofs [go_sem, ha, ha']
    refine body_tmp 4 rfl ?_
    simp -implicitDefEqProofs [go_sem, NM.Dv.flush, ha]
    exact DevStep.refl h
end Go.Proofs.Ytkljlgahdlgmpaa
