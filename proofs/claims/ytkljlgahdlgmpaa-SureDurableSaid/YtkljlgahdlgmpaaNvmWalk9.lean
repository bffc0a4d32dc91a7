/- Crash: its walk. -/
import Derived.Test.YtkljlgahdlgmpaaNvmCrash
namespace Go.Proofs.Ytkljlgahdlgmpaa
open Go Go.RowKit

theorem SlIn.tail {n : Nat} {k : IntKind} {w : World} {a : Option Addr} {x : BitVec n} {l : List (BitVec n)} {cap : Nat} (h : SlIn k w a (x :: l) cap) : SlIn k w (if cap = 1 then a else Option.map (fun y => y.add 1) a) l (cap - 1) := by
  have hle := h.le
  have hm := h.max
  simp only [List.length_cons] at hle
  have hn := h.nil
  refine ⟨?_, by omega, by omega, fun h0 => ?_⟩
  · rcases h.at_ with h1 | ⟨b, off, rfl, hc⟩
    · cases h1
    · by_cases h1 : cap = 1
      · left; exact List.eq_nil_of_length_eq_zero (by omega)
      · rw [if_neg h1]
        refine .inr ⟨b, off + 1, ?_, fun i hi => ?_⟩
        · show some ((⟨b, off, none⟩ : Addr).add 1) = _; rw [Addr.add_lit]
        · have := hc (i + 1) (by simpa using hi)
          rw [show off + 1 + i = off + (i + 1) by omega, this]; simp
  · split at h0
    · omega
    · cases a with
      | none => have := hn rfl; omega
      | some y => cases h0
theorem sep_tail {a : Option Addr} {cap : Nat} {F : Nat → Prop} (h : ∀ y, a = some y → F y.block) : ∀ y, (if cap = 1 then a else Option.map (fun y => y.add 1) a) = some y → F y.block := by
  intro y hy
  split at hy
  · exact h y hy
  · cases a with
    | none => cases hy
    | some z =>
      have e : y = z.add 1 := (Option.some.inj hy).symm
      have : y.block = z.block := by rw [e]; unfold Addr.add; rfl
      rw [this]; exact h z rfl
theorem SlIn.mod {n : Nat} {k : IntKind} {w w' : World} {a : Option Addr} {l : List (BitVec n)} {cap : Nat} {F : Nat → Prop} (h : SlIn k w a l cap) (hm : Mod F w w') (hF : ∀ b, (∃ o, a = some ⟨b, o, none⟩) → ¬ F b) : SlIn k w' a l cap := ⟨h.at_.mod hm hF, h.le, h.max, h.nil⟩

theorem SlIn.mod' {n : Nat} {k : IntKind} {w w' : World} {a : Option Addr} {l : List (BitVec n)} {cap : Nat} {F : Nat → Prop} (h : SlIn k w a l cap) (hm : Mod F w w') (hF : l ≠ [] → ∀ b, (∃ o, a = some ⟨b, o, none⟩) → ¬ F b) : SlIn k w' a l cap := by
  by_cases h0 : l = []
  · exact ⟨.inl h0, h.le, h.max, h.nil⟩
  · exact h.mod hm (hF h0)
open NM in
theorem crashL_cons0 (l : Ln) (ls : List Ln) (ps : List (BitVec 8)) (h : ¬ 0 < l.chg.length) : crashL (l :: ls) ps = l.crash 0 :: crashL ls ps := by
  rw [crashL.eq_def]; exact if_neg h
open NM in
theorem crashL_consN (l : Ln) (ls : List Ln) : crashL (l :: ls) [] = l.crash 0 :: crashL ls [] := by
  rw [crashL.eq_def]; exact ite_self _
open NM in
theorem crashL_consP (l : Ln) (ls : List Ln) (p : BitVec 8) (ps : List (BitVec 8)) (h : 0 < l.chg.length) : crashL (l :: ls) (p :: ps) = l.crash (p.toNat % (l.chg.length + 1)) :: crashL ls ps := by
  rw [crashL.eq_def]; exact if_pos h

/-- Where k lines have crashed. -/
def crK (D : NM.Dv) (done : List NM.Ln) : NM.Dv := { D with ls := done ++ D.ls.drop done.length, down := false, left := -1 }
theorem crK_len (D : NM.Dv) (done : List NM.Ln) (_ : done.length ≤ D.ls.length) : (crK D done).ls.length = D.ls.length := by simp [crK]; omega
theorem crK_ln (D : NM.Dv) (done : List NM.Ln) (hk : done.length < D.ls.length) : (crK D done).ln done.length = D.ln done.length := by
  unfold NM.Dv.ln crK
  simp only [List.getD_eq_getElem?_getD]
  rw [List.getElem?_append_right (Nat.le_refl _)]
  simp
theorem crK_succ (D : NM.Dv) (done : List NM.Ln) (hk : done.length < D.ls.length) (l : NM.Ln) : (crK D done).setLn done.length l = crK D (done ++ [l]) := by
  unfold NM.Dv.setLn crK
  simp only [NM.Dv.mk.injEq, and_true]
  have e : (D.ls.drop done.length).set 0 l = l :: D.ls.drop (done.length + 1) := by rw [List.drop_eq_getElem_cons hk]; rfl
  rw [List.set_append_right _ _ (Nat.le_refl _), Nat.sub_self, e, List.append_assoc]
  simp

set_option maxHeartbeats 2000000 in
set_option linter.unusedSimpArgs false in
theorem crash_calls {p lb : Nat} {D : NM.Dv} {S : Nat → Spot} (a0 : Option Addr) (c0 : Nat) (ps : List (BitVec 8)) (w0 : World) (h : DevAt w0 p lb D S) (hin : SlIn .u8 w0 a0 ps c0) (hsep : ps ≠ [] → ∀ y, a0 = some y → y.block ≠ p ∧ y.block ≠ lb) (hc : D.steps < 1099511627776) (hok : D.Ok) :
    Ret Try.prog 20 #[.pointer (some ⟨p, 0, none⟩), .slice a0 ps.length c0] w0 fun v w' => v = .tuple #[] ∧ DevStep w0 p lb D S (D.crash ps) w' := by
  have hpos := h.pos
  have hmost := h.ok.most
  have hs0 : ((D.size : Int) == 0) = false := by rw [beq_eq_false_iff_ne]; unfold NM.Dv.size; omega
  have hs0' : ¬ D.size = 0 := by unfold NM.Dv.size; omega
  have hl0 : ¬ D.ls.length = 0 := by omega
  have hB := h.dev
  refine ret_of (args := [_, _]) _ Try.func20 rfl Try.ntmps20 (by simp) ?_
  simp -implicitDefEqProofs [go_sem]
  refine callE_of (size_calls w0 h) ?_
  rintro v w1 ⟨rfl, rfl⟩
  have hB1 := hB.set 1 (.bool false)
  have hB2 := hB1.set 2 (.int .i64 (-1))
  have hm1 := (Mod.refl (fun k => k = p) w1).setCell (a := ⟨p, 1, none⟩) (.inl rfl) (.bool false)
  have hm2 := hm1.setCell (a := ⟨p, 2, none⟩) (.inl rfl) (.int .i64 (-1))
  have hA0 := h.head (D' := crK D []) (hB2.eq' (by simp [crK])) hm2 (by simp [crK]) ⟨by simpa [crK] using h.ok.line, by simpa [crK] using h.ok.most, by simp [crK]⟩
  have hin2 := hin.mod' hm2 (fun h0 b hb e => by obtain ⟨o, hb⟩ := hb; exact (hsep h0 _ hb).1 e)
  simp -implicitDefEqProofs [go_sem, hs0, hs0', hB.cell, hB.thaw, hB1.cell, hB1.thaw]
  generalize hw2 : World.setCell (World.setCell w1 _ _) _ _ = w2 at *
  have hdv2 := hA0.dev
  refine wpE_loop (fun e' w' => ∃ (done : List NM.Ln) (rem : List (BitVec 8)) (a : Option Addr) (c : Nat), done.length ≤ D.ls.length ∧ NM.crashL D.ls ps = done ++ NM.crashL (D.ls.drop done.length) rem ∧ e' 0 = .pointer (some ⟨p, 0, none⟩) ∧ e' 1 = .slice a rem.length c ∧ e' 21 = .int .i64 D.ls.length ∧ e' 22 = .int .i64 done.length ∧
    SlIn .u8 w' a rem c ∧ (rem ≠ [] → ∀ y, a = some y → y.block ≠ p ∧ y.block ≠ lb) ∧ DevStep w1 p lb D S (crK D done) w') (fun e' _ => D.ls.length - (intOf (e' 22)).toNat) ?_ ?_
  · refine ⟨[], ps, a0, c0, by simp, by simp, ?_⟩
    simp -implicitDefEqProofs [go_sem]
    exact ⟨hin2, hsep, S, hA0, hm2.mono (fun k hk _ => .inl hk), fun k hk => .inl (by
      rcases hk with hk | hk | ⟨i, hi, hk⟩
      · exact .inl hk
      · exact .inr (.inl hk)
      · have e : crK D [] = { D with down := false, left := -1 } := by simp [crK]
        rw [e] at hi hk
        exact .inr (.inr ⟨i, hi, hk⟩))⟩
  · rintro e' w' ⟨done, rem, a, c, hk, hcr, g0, g1, g21, g22, hin', hsep', S', hA, hm, hw⟩
    have hlk := crK_len D done hk
    by_cases hlt : done.length < D.ls.length
    · have hlt' : (done.length : Int) < D.ls.length := by omega
      have hwk := IntWalk.i64_in ((done.length : Int) + 1) (by omega)
      have hdev := hA.dev
      rw [hlk] at hdev
      have hlt2 : done.length < (crK D done).ls.length := by omega
      obtain ⟨C, hL⟩ := hA.lines
      have g64 := hL.blk.cell (done.length * 66 + 64)
      rw [hL.chg _ hlt2, spotV, crK_ln D done hlt] at g64
      have hcl := NM.Dv.Ok.lnChg hok done.length
      have hwm := IntWalk.i64_in (((D.ln done.length).chg.length : Int) + 1) (by omega)
      have hdrop : D.ls.drop done.length = D.ln done.length :: D.ls.drop (done.length + 1) := by
        rw [List.drop_eq_getElem_cons hlt]; congr 1; simp [NM.Dv.ln, List.getD, hlt]
      rw [hdrop] at hcr
      have fin : ∀ (e2 : Env) (w2 : World) (l' : NM.Ln) (rem2 : List (BitVec 8)) (a2 : Option Addr) (c2 : Nat), NM.crashL D.ls ps = done ++ l' :: NM.crashL (D.ls.drop (done.length + 1)) rem2 → e2 0 = .pointer (some ⟨p, 0, none⟩) → e2 1 = .slice a2 rem2.length c2 → e2 21 = .int .i64 D.ls.length → e2 22 = .int .i64 ((done.length : Int) + 1) →
          SlIn .u8 w2 a2 rem2 c2 → (rem2 ≠ [] → ∀ y, a2 = some y → y.block ≠ p ∧ y.block ≠ lb) → ∀ s', DevAt w2 p lb (crK D (done ++ [l'])) (setS S' done.length s') → Mod (fun k => k = lb) w' w2 → (∀ k, Value.ownBlock (spotV l' s') = some k → Value.ownBlock (spotV ((crK D done).ln done.length) (S' done.length)) = some k ∨ w'.heap.size ≤ k) →
          (∃ (done : List NM.Ln) (rem : List (BitVec 8)) (a : Option Addr) (c : Nat), done.length ≤ D.ls.length ∧ NM.crashL D.ls ps = done ++ NM.crashL (D.ls.drop done.length) rem ∧ e2 0 = .pointer (some ⟨p, 0, none⟩) ∧ e2 1 = .slice a rem.length c ∧ e2 21 = .int .i64 D.ls.length ∧ e2 22 = .int .i64 done.length ∧
            SlIn .u8 w2 a rem c ∧ (rem ≠ [] → ∀ y, a = some y → y.block ≠ p ∧ y.block ≠ lb) ∧ DevStep w1 p lb D S (crK D done) w2) := by
        intro e2 w2 l' rem2 a2 c2 h1 h2 h3 h4 h5 h6 h7 s' hA2 hm2 hwh
        refine ⟨done ++ [l'], rem2, a2, c2, by simp; omega, by simp [h1], h2, h3, h4, by rw [h5]; simp, h6, h7, DevStep.head hA hm hw ⟨_, hA2, hm2.mono (fun k hk _ => .inr (.inl hk)), ?_⟩⟩
        have := setLine_F (p := p) (lb := lb) (D := crK D done) (S := S') (i := done.length) (l' := l') (s' := s') (w := w') hlt2 hwh
        rw [crK_succ D done hlt] at this
        exact this
      have hcall : ∀ (k : Nat), k ≤ (D.ln done.length).chg.length → Ret Try.prog 47 #[.pointer (some ⟨lb, done.length * 66, none⟩), .int .i64 (k : Int)] w' fun v w2 => v = .tuple #[] ∧ DevAt w2 p lb (crK D (done ++ [(D.ln done.length).crash k])) (setS S' done.length (none, 0)) ∧ Mod (fun k => k = lb) w' w2 := by
        intro k hk
        have := lcrash_calls done.length k w' hA hlt2 (by rw [crK_ln D done hlt]; exact hk) (by rw [crK_ln D done hlt]; omega)
        rw [crK_ln D done hlt, crK_succ D done hlt] at this
        exact this
      have hnw : ∀ (k g : Nat), Value.ownBlock (spotV ((D.ln done.length).crash k) (none, 0)) = some g → Value.ownBlock (spotV ((crK D done).ln done.length) (S' done.length)) = some g ∨ w'.heap.size ≤ g := fun k g hg => by cases hg
      have zero : ∀ (hcr0 : NM.crashL (D.ln done.length :: D.ls.drop (done.length + 1)) rem = (D.ln done.length).crash 0 :: NM.crashL (D.ls.drop (done.length + 1)) rem), NM.crashL D.ls ps = done ++ (D.ln done.length).crash 0 :: NM.crashL (D.ls.drop (done.length + 1)) rem := fun h => by rw [hcr, h]
      generalize hck : (D.ln done.length).chg.length = m at *
      cases m with
      | zero =>
        have hz := zero (crashL_cons0 _ _ _ (by omega))
        have hca := hcall 0 (Nat.le_refl _)
        have hw1 : IntKind.i64.wrap 1 = 1 := by decide
        clear hwm
        simp -implicitDefEqProofs [go_sem, hw1, g0, g1, g21, g22, hlt, hlt', hdev.cell, g64]
        refine callE_of hca ?_
        rintro v w2 ⟨rfl, hA2, hm2⟩
        simp -implicitDefEqProofs [go_sem, g0, g1, g21, g22, hwk]
        refine goE_round (fin _ _ _ _ _ _ hz ?_ ?_ ?_ ?_ (hin'.mod' hm2 (fun h0 b hb e => by obtain ⟨o, hb⟩ := hb; exact (hsep' h0 _ hb).2 e)) hsep' _ hA2 hm2 (hnw 0)) ?_
        · simp -implicitDefEqProofs [go_sem, g0]
        · simp -implicitDefEqProofs [go_sem, g1]
        · simp -implicitDefEqProofs [go_sem, g21]
        · simp -implicitDefEqProofs [go_sem]
        · simp -implicitDefEqProofs [go_sem, intOf, g22, hwk]; omega
      | succ m =>
        have hm0 : (0 : Int) < (m : Int) + 1 := by omega
        have hw2 := IntWalk.i64_in ((m : Int) + 1 + 1) (by omega)
        clear hwm
        have hm2' : (1 : Int) < (m : Int) + 1 + 1 := by omega
        have hm1 : (1 : Int) < ((m + 1 : Nat) : Int) + 1 := by omega
        cases rem with
        | nil =>
          have hz := zero (crashL_consN _ _)
          have hca := hcall 0 (Nat.zero_le _)
          simp -implicitDefEqProofs [go_sem, g0, g1, g21, g22, hlt, hlt', hdev.cell, g64, hw2, hm2', hm1, hm0]
          refine callE_of hca ?_
          rintro v w2 ⟨rfl, hA2, hm2⟩
          simp -implicitDefEqProofs [go_sem, g0, g1, g21, g22, hwk]
          refine goE_round (fin _ _ _ _ _ _ hz ?_ ?_ ?_ ?_ (hin'.mod' hm2 (fun h0 b hb e => by obtain ⟨o, hb⟩ := hb; exact (hsep' h0 _ hb).2 e)) hsep' _ hA2 hm2 (hnw 0)) ?_
          · simp -implicitDefEqProofs [go_sem, g0]
          · simp -implicitDefEqProofs [go_sem, g1]
          · simp -implicitDefEqProofs [go_sem, g21]
          · simp -implicitDefEqProofs [go_sem]
          · simp -implicitDefEqProofs [go_sem, intOf, g22, hwk]; omega
        | cons x rem =>
          have hz : NM.crashL D.ls ps = done ++ (D.ln done.length).crash (x.toNat % (m + 1 + 1)) :: NM.crashL (D.ls.drop (done.length + 1)) rem := by
            rw [hcr, crashL_consP _ _ _ _ (by omega), hck]
          have hca := hcall (x.toNat % (m + 1 + 1)) (by have := Nat.mod_lt x.toNat (show 0 < m + 1 + 1 by omega); omega)
          obtain ⟨b, o, rfl, hc0⟩ := hin'.at_.cell (i := 0) (by simp)
          have hc0 : w'.cell? ⟨b, o, none⟩ = some (.int .u8 (uv x)) := hc0
          have hx := uv_lt x
          have hx0 := uv_nonneg x
          have hwx := IntWalk.i64_in (uv x) (by omega)
          have hmd : (uv x).tmod ((m : Int) + 1 + 1) = ((x.toNat % (m + 1 + 1) : Nat) : Int) := by
            rw [Int.tmod_eq_emod_of_nonneg hx0, uv_def, Int.natCast_emod]; push_cast; rfl
          have hrl : (0 : Int) < ((rem.length + 1 : Nat) : Int) := by omega
          have hle := hin'.le
          generalize hpk : x.toNat % (m + 1 + 1) = pk at *
          have hnz : ¬ (m : Int) + 1 + 1 = 0 := by omega
          have hrl' : (0 : Int) < (rem.length : Int) + 1 := by omega
          have hle1 : (1 : Int) ≤ (rem.length : Int) + 1 := by omega
          have htl := hin'.tail
          have hst := sep_tail (cap := c) (F := fun b => b ≠ p ∧ b ≠ lb) (hsep' (by simp))
          simp -implicitDefEqProofs [go_sem, g0, g1, g21, g22, hlt, hlt', hdev.cell, g64, hw2, hm2', hm1, hm0, hrl, hrl', hle1, hc0, hwx, hmd, hnz]
          refine callE_of hca ?_
          rintro v w2 ⟨rfl, hA2, hm2⟩
          simp -implicitDefEqProofs [go_sem, g0, g1, g21, g22, hwk]
          refine goE_round (fin _ _ _ _ _ _ hz ?_ ?_ ?_ ?_ (htl.mod' hm2 (fun _ b hb e => by obtain ⟨o, hb⟩ := hb; exact (hst _ hb).2 e)) (fun _ => hst) _ hA2 hm2 (hnw pk)) ?_
          · simp -implicitDefEqProofs [go_sem, g0]
          · simp -implicitDefEqProofs [go_sem, g1]
          · simp -implicitDefEqProofs [go_sem, g21]
          · simp -implicitDefEqProofs [go_sem]
          · simp -implicitDefEqProofs [go_sem, intOf, g22, hwk]; omega
    · have hk' : done.length = D.ls.length := by omega
      have hdr : D.ls.drop done.length = [] := List.drop_eq_nil_of_le (by omega)
      have hnil : ∀ r, NM.crashL [] r = [] := fun r => rfl
      rw [hdr, hnil, List.append_nil] at hcr
      have hfin : crK D done = D.crash ps := by unfold NM.Dv.crash crK; rw [if_neg hl0, hdr, List.append_nil, hcr]
      simp -implicitDefEqProofs [go_sem, g0, g21, g22, hk']
      refine body_end (body_none rfl ?_)
      rw [← hfin]
      exact ⟨rfl, S', hA, hm, hw⟩
end Go.Proofs.Ytkljlgahdlgmpaa
