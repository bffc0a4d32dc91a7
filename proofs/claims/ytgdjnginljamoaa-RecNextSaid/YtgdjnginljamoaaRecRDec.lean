/- Reading words: the reference's Decode. -/
import Derived.Test.YtgdjnginljamoaaRecDec
namespace Go.Proofs.Ytgdjnginljamoaa
open Go Go.RowKit

def goneR (l : List (BitVec 64)) : Bool := (l.getD 0 0#64) / 256#64 % 256#64 == 1#64
theorem textM_size (l : List (BitVec 64)) (n : Nat) : (textM l n).size = n := by simp [textM, ByteArray.size]
theorem enc_gone {l : List (BitVec 64)} {x1 x2 : BitVec 64} {g : Bool} {s : ByteArray} (h8 : l.length = 8) (hs : s.size ≤ 40) (h : encM x1 x2 g s = l) : goneM l = g ∧ goneR l = g := by
  have hr : rightB x1 g s = true := by
    cases hr : rightB x1 g s
    · rw [encM, hr] at h; rw [← h] at h8; simp at h8
    · rfl
  rw [encM, if_pos hr] at h
  have h0 : l.getD 0 0#64 = RM.w0 s.size g := by rw [← h]; rfl
  obtain ⟨_, h2, h3⟩ := RM.w0_facts s.size hs g
  exact ⟨by rw [goneM, h0]; exact h2, by rw [goneR, h0]; exact h3⟩
theorem div256 (x : BitVec 64) (j : Nat) : (x >>> (8 * j)) / 256#64 = x >>> (8 * (j + 1)) := by
  apply BitVec.eq_of_toNat_eq
  simp [BitVec.toNat_udiv, BitVec.toNat_ushiftRight, Nat.shiftRight_eq_div_pow]
  rw [Nat.div_div_eq_div_mul, show (256 : Nat) = 2 ^ 8 from rfl, ← Nat.pow_add]
  rfl
theorem div256' (x : BitVec 64) (j : Nat) : (x >>> (j * 8)) / 256#64 = x >>> ((j + 1) * 8) := by
  rw [Nat.mul_comm, div256, Nat.mul_comm]
theorem mod256 (x : BitVec 64) : (x % 256#64).setWidth 8 = x.setWidth 8 := by
  apply BitVec.eq_of_toNat_eq
  simp [BitVec.toNat_umod]
theorem textM_succ (l : List (BitVec 64)) (n : Nat) : textM l (n + 1) = textM l n ++ ⟨#[UInt8.ofBitVec (byteM l n)]⟩ := by
  apply ByteArray.ext
  simp [textM, List.range_succ]

set_option maxHeartbeats 1000000 in
set_option linter.unusedSimpArgs false in
theorem refDecode_calls (a : Option Addr) (l : List (BitVec 64)) (n c : Nat) (w : World) (hn : l.length = n) (hin : SlIn .u64 w a l c) :
    Ret Try.prog 12 #[.slice a n c] w fun v w' => v = .tuple #[decM l, .bool (okM l)] ∧ Below w.heap.size w w' := by
  subst hn
  have bel : ∀ o, Below w.heap.size w (w.alloc o) := fun o => (Below.refl _ _).alloc (Nat.le_refl _) _
  obtain ⟨x0, hx0⟩ : ∃ x, x = l.getD 0 0#64 := ⟨_, rfl⟩
  obtain ⟨x1, hx1⟩ : ∃ x, x = l.getD 1 0#64 := ⟨_, rfl⟩
  obtain ⟨x2, hx2⟩ : ∃ x, x = l.getD 2 0#64 := ⟨_, rfl⟩
  have hst := Try.underlying24
  have hsi : (Try.prog.info? 24).map (·.size) = some 4 := by kernel_rfl
  refine ret_of (args := [_]) _ Try.func12 rfl Try.ntmps12 (by simp) ?_
  simp -implicitDefEqProofs [go_sem]
  have hBz := Blk.new w #[.int .u64 0, .int .u64 0, .bool false, .string ⟨#[]⟩] 24
  have belz := bel (.cells #[.int .u64 0, .int .u64 0, .bool false, .string ⟨#[]⟩] 24)
  have hzs : (w.alloc (.cells #[.int .u64 0, .int .u64 0, .bool false, .string ⟨#[]⟩] 24)).heap.size = w.heap.size + 1 := by simp
  generalize w.alloc (.cells #[.int .u64 0, .int .u64 0, .bool false, .string ⟨#[]⟩] 24) = wz at *
  generalize hbp : w.heap.size = bp at *
  have gz0 := hBz.cell 0
  have gz1 := hBz.cell 1
  have gz2 := hBz.cell 2
  have gz3 := hBz.cell 3
  have fz0 := hBz.thaw 0
  have fz1 := hBz.thaw 1
  have fz2 := hBz.thaw 2
  have fz3 := hBz.thaw 3
  simp at gz0 gz1 gz2 gz3
  by_cases h8 : l.length = 8
  · obtain rfl | ⟨b, off, rfl, hc⟩ := hin.at_
    · simp at h8
    have h8' : ((l.length : Int) != 8) = false := by rw [bne_eq_false_iff_eq]; omega
    have hcell : ∀ w', Below bp w w' → ∀ i, i < 8 → w'.cell? ⟨b, off + i, none⟩ = some (.int .u64 (uv (l.getD i 0#64))) := by
      intro w' bw i hi
      have := hc i (by omega)
      rw [← hbp] at bw
      rw [(bw.cell (p := ⟨_, _, none⟩) (World.block_lt_of_cell? w _ this)), this]
      simp [List.getD, show i < l.length by omega]
    have g0 := hcell _ belz 0 (by omega)
    rw [← hx0, Nat.add_zero] at g0
    have hdiv : x0 / 65536#64 = x0 >>> 16 := by
      apply BitVec.eq_of_toNat_eq
      simp [BitVec.toNat_udiv, BitVec.toNat_ushiftRight, Nat.shiftRight_eq_div_pow]
    by_cases hs : sizeM l ≤ 40
    · have hs' : ¬ 40#64 < x0 >>> 16 := by
        rw [BitVec.lt_def]; unfold sizeM at hs; rw [← hx0] at hs; simp; simp at hs; omega
      obtain ⟨m, hm⟩ : ∃ m, m = sizeM l := ⟨_, rfl⟩
      have hmu : uv (x0 >>> 16) = (m : Int) := by rw [hm, hx0]; rfl
      have hms := hm ▸ hs
      have hr0 : ∀ w'', Below wz.heap.size wz w'' → w''.cell? ⟨b, off, none⟩ = some (.int .u64 (uv x0)) := fun w'' hb => by
        have := hcell _ (belz.trans (hb.mono (hbp ▸ belz.size))) 0 (by omega); rw [← hx0, Nat.add_zero] at this; exact this
      have hr1 : ∀ w'', Below wz.heap.size wz w'' → w''.cell? ⟨b, off + 1, none⟩ = some (.int .u64 (uv x1)) := fun w'' hb => by
        have := hcell _ (belz.trans (hb.mono (hbp ▸ belz.size))) 1 (by omega); rw [← hx1] at this; exact this
      have hr2 : ∀ w'', Below wz.heap.size wz w'' → w''.cell? ⟨b, off + 2, none⟩ = some (.int .u64 (uv x2)) := fun w'' hb => by
        have := hcell _ (belz.trans (hb.mono (hbp ▸ belz.size))) 2 (by omega); rw [← hx2] at this; exact this
      obtain ⟨S, hS⟩ : ∃ S : World → Prop, S = fun w2 => Below wz.heap.size wz w2 := ⟨_, rfl⟩
      simp -implicitDefEqProofs [go_sem, h8', g0, hs', h8, hdiv]
      refine drawE_held 13 (S) mixed (by decide +kernel) (by simp only [List.take_succ_cons, List.take_zero]; rfl) (by simp only [List.drop_succ_cons, List.drop_zero]; rfl) (by first | exact (Below.refl _ _).drew | (subst_vars; exact (Below.refl _ _).drew)) (fun hsome => ?_)
      simp -implicitDefEqProofs [go_sem, hsome, h8]
      refine onHeld_of (.int .u64 (uv x1)) (fun w2 hw2 => by rw [hS] at hw2; simp -implicitDefEqProofs [go_sem, hr1 w2 hw2]) ?_
      simp -implicitDefEqProofs [go_sem, hsome, h8]
      refine onHeld_of (.int .u64 (uv x2)) (fun w2 hw2 => by rw [hS] at hw2; simp -implicitDefEqProofs [go_sem, hr2 w2 hw2]) ?_
      simp -implicitDefEqProofs [go_sem, hsome, h8]
      refine onHeld_of (.int .u64 (uv x0)) (fun w2 hw2 => by rw [hS] at hw2; simp -implicitDefEqProofs [go_sem, hr0 w2 hw2]) ?_
      simp -implicitDefEqProofs [go_sem, hsome, h8]
      unfold endE
      simp -implicitDefEqProofs [go_sem]
      have hg : (x0 / 256#64 % 256#64 == 1#64) = goneR l := by rw [hx0]; rfl
      rw [hg]
      refine ⟨by rw [hS]; exact ((Below.refl _ _).alloc (Nat.le_refl _) _).drew, by rw [hS]; exact ((Below.refl _ _).alloc (Nat.le_refl _) _).drew, ?_⟩
      rw [hmu]
      refine wpE_loop (fun e' w' => ∃ k : Nat, k ≤ m ∧ e' 0 = .slice (some ⟨b, off, none⟩) 8 c ∧ e' 2 = .pointer (some ⟨bp, 0, none⟩) ∧ e' 4 = .int .u64 m ∧ e' 5 = .pointer (some ⟨wz.heap.size, 0, none⟩) ∧ e' 6 = .int .i64 k ∧
        Blk w' wz.heap.size #[.int .u64 (uv x1), .int .u64 (uv x2), .bool (goneR l), .string (textM l k)] 24 ∧ Below wz.heap.size wz w') (fun e' _ => m - (intOf (e' 6)).toNat) ?_ ?_
      · refine ⟨0, Nat.zero_le _, ?_⟩
        simp -implicitDefEqProofs [go_sem]
        exact ⟨(Blk.new _ _ _).drew, ((Below.refl _ _).alloc (Nat.le_refl _) _).drew⟩
      · rintro e' w' ⟨k, hk, h0, h2, h4, h5, h6, hB, bel3⟩
        have hwm' := IntWalk.i64_in (m : Int) (by omega)
        by_cases hlt : k < m
        · have hlt' : (k : Int) < m := by omega
          have hw := IntWalk.i64_in ((k : Int) + 1) (by omega)
          have gx := hcell w' (belz.trans (bel3.mono (hbp ▸ belz.size))) (3 + k / 8) (by omega)
          have hb := byteM.eq_1 l k
          have htx := textM_succ l k
          have hwq : IntKind.i64.wrap ((k : Int) / 8) = ((k / 8 : Nat) : Int) := by rw [IntWalk.i64_in _ (by omega)]; rfl
          have hwr : (k : Int).tmod 8 = ((k % 8 : Nat) : Int) := by rw [Int.tmod_eq_emod_of_nonneg (by omega)]; rfl
          have hQ : k / 8 < 5 := by omega
          have hR : k % 8 < 8 := by omega
          generalize k / 8 = Q at *
          generalize k % 8 = R at *
          have hw3 := IntWalk.i64_in (3 + (Q : Int)) (by omega)
          have hq0 : (0 : Int) ≤ 3 + Q := by omega
          have hq8 : (3 : Int) + Q < 8 := by omega
          have hqn : (3 + (Q : Int)).toNat = 3 + Q := by omega
          generalize l.getD (3 + Q) 0#64 = xq at *
          simp -implicitDefEqProofs [go_sem, h0, h2, h4, h5, h6, hwm', hlt', hwq, hw3, hq0, hq8, hqn, gx]
          refine wpE_loop (fun e'' w'' => w'' = w' ∧ ∃ j : Nat, j ≤ R ∧ e'' 0 = .slice (some ⟨b, off, none⟩) 8 c ∧ e'' 2 = .pointer (some ⟨bp, 0, none⟩) ∧ e'' 4 = .int .u64 m ∧ e'' 5 = .pointer (some ⟨wz.heap.size, 0, none⟩) ∧ e'' 6 = .int .i64 k ∧
            e'' 7 = .int .u64 (uv (xq >>> (j * 8))) ∧ e'' 8 = .int .i64 j) (fun e'' _ => R - (intOf (e'' 8)).toNat) ?_ ?_
          · refine ⟨rfl, 0, Nat.zero_le _, ?_⟩
            simp -implicitDefEqProofs [go_sem, h0, h2, h4, h5, h6]
          · rintro e'' w'' ⟨rfl, j, hj, g0', g2, g4, g5, g6, g7, g8⟩
            by_cases hjR : j < R
            · have hjR' : (j : Int) < R := by omega
              have hwj := IntWalk.i64_in ((j : Int) + 1) (by omega)
              simp -implicitDefEqProofs [go_sem, g0', g2, g4, g5, g6, g7, g8, hwr, hjR', hwj, div256']
              refine goE_round ⟨rfl, j + 1, by omega, ?_⟩ ?_
              · simp -implicitDefEqProofs [go_sem, g0', g2, g4, g5, g6]
              · simp -implicitDefEqProofs [go_sem, intOf, g8]; omega
            · have hjR' : j = R := by omega
              subst hjR'
              have gr3 := hB.cell 3
              have fr3 := hB.thaw 3
              simp at gr3
              rw [← mod256] at hb
              obtain ⟨by_, hby⟩ : ∃ y, y = byteM l k := ⟨_, rfl⟩
              rw [← hby] at hb
              have hb2 := Blk.new w'' #[.int .u8 (uv by_)] 5
              have hB2 := hB.alloc (.cells #[.int .u8 (uv by_)] 5)
              have gr3' := hB2.cell 3
              have fr3' := hB2.thaw 3
              simp at gr3'
              have hcv : (convert 43 9 (.slice (some ⟨w''.heap.size, 0, none⟩) 1 1)).run Try.prog (w''.alloc (.cells #[.int .u8 (uv by_)] 5)) = .ok (.string ⟨#[UInt8.ofBitVec by_]⟩) (w''.alloc (.cells #[.int .u8 (uv by_)] 5)) :=
                run_convert_bytes_back (P := Try.prog) (w''.alloc (.cells #[.int .u8 (uv by_)] 5)) 43 9 5 ⟨w''.heap.size, 0, none⟩ 1 [UInt8.ofBitVec by_] Try.underlying43 Try.underlying5 Try.underlying9 (by
                intro j hj
                have hj' : j = 0 := by simpa using hj
                subst hj'
                rw [Addr.add_lit, hb2.cell]
                rfl)
              have hset := hB2.set 3 (.string (textM l (k + 1)))
              have hszk : ¬ 9223372036854775807 < (textM l k).size + 1 := by rw [textM_size]; omega
              rw [← hby] at htx
              have htx' := htx.symm
              simp -implicitDefEqProofs [go_sem, g0', g2, g4, g5, g6, g7, g8, hwr, ← hb, gr3, hcv, gr3', fr3', hw, hszk, htx']
              refine goE_round ⟨k + 1, by omega, ?_⟩ ?_
              · simp -implicitDefEqProofs [go_sem, g0', g2, g4, g5]
                exact ⟨hset, (bel3.alloc bel3.size _).setCell (Nat.le_refl _) _⟩
              · simp -implicitDefEqProofs [go_sem, intOf, g6, h6]; omega
        · have hk' : k = m := by omega
          subst hk'
          have bel4 := belz.trans (bel3.mono (hbp ▸ belz.size))
          have gr0 := hB.cell 0
          have gr1 := hB.cell 1
          have gr2 := hB.cell 2
          have gr3 := hB.cell 3
          simp at gr0 gr1 gr2 gr3
          simp -implicitDefEqProofs [go_sem, h0, h2, h4, h5, h6, hwm', gr0, gr1, gr2, gr3]
          have hE := refEncode_calls x1 x2 (goneR l) (textM l k)
          unfold recV at hE
          refine callE_of (hE _) ?_
          rintro v w7 ⟨a7, c7, rfl, hin7, bel7⟩
          have bel7' := bel4.trans (bel7.mono (hbp ▸ bel4.size))
          have hBz7 := (hBz.below bel3 hBz.lt).below bel7 (hBz.below bel3 hBz.lt).lt
          have hB7 := hB.below bel7 hB.lt
          have okM_eq : okM l = decide (encM x1 x2 (goneR l) (textM l k) = l) := by
            rw [okM, decide_eq_true h8, decide_eq_true hs, ← hm, ← hx1, ← hx2]
            simp only [Bool.true_and]
            have hts : (textM l k).size ≤ 40 := by rw [textM_size]; omega
            rw [decide_eq_decide]
            constructor
            · intro h; rw [(enc_gone h8 hts h).2]; exact h
            · intro h; rw [(enc_gone h8 hts h).1]; exact h
          have hl7 : SlAt .u64 w7 (some ⟨b, off, none⟩) l := hin.at_.below (hbp ▸ bel7')
          cases hright : rightB x1 (goneR l) (textM l k)
          · have hok : okM l = false := by
              rw [okM_eq, encM, hright]
              simp
              intro h; rw [h] at h8; simp at h8
            have fz0 := hBz7.thaw 0
            have fz1 := hBz7.thaw 1
            have fz2 := hBz7.thaw 2
            have fz3 := hBz7.thaw 3
            have gz0 := hBz7.cell 0
            have gz1 := hBz7.cell 1
            have gz2 := hBz7.cell 2
            have gz3 := hBz7.cell 3
            simp at gz0 gz1 gz2 gz3
            simp -implicitDefEqProofs [go_sem, h0, h2, h8, gz0, gz1, gz2, gz3, fz0, fz1, fz2, fz3]
            refine body_cell_tmp 2 3 (ty := 24) rfl (by simp -implicitDefEqProofs [go_sem, h2]) (t' := 24) (g := bp) (cs := #[.int .u64 0, .int .u64 0, .bool false, .string ⟨#[]⟩]) ?_ hst rfl hsi ?_
            · exact hBz7.set4
            · simp -implicitDefEqProofs [go_sem, decM, hok]
              exact Below.own4 bel7' (Nat.le_refl _)
          · have he8 : (encM x1 x2 (goneR l) (textM l k)).length = 8 := by rw [encM, if_pos hright]; rfl
            generalize hel : encM x1 x2 (goneR l) (textM l k) = el at *
            simp -implicitDefEqProofs [go_sem, h0, h2, h5, h8, he8]
            refine wpE_loop (fun e' w' => ∃ i : Nat, i ≤ 8 ∧ el.take i = l.take i ∧ e' 0 = .slice (some ⟨b, off, none⟩) 8 c ∧ e' 2 = .pointer (some ⟨bp, 0, none⟩) ∧ e' 5 = .pointer (some ⟨wz.heap.size, 0, none⟩) ∧ e' 9 = .slice a7 8 c7 ∧ e' 11 = .int .i64 i ∧
              Below w7.heap.size w7 w') (fun e' _ => 8 - (intOf (e' 11)).toNat) ?_ ?_
            · refine ⟨0, Nat.zero_le _, by simp, ?_⟩
              simp -implicitDefEqProofs [go_sem, h0, h2, h5]
              exact Below.refl _ _
            · rintro e9 w9 ⟨i, hi, heq, q0, q2, q5, q9, q11, bel9⟩
              have bel9' := bel7'.trans (bel9.mono (hbp ▸ bel7'.size))
              have hBz8 := hBz7.below bel9 hBz7.lt
              have hB8 := hB7.below bel9 hB7.lt
              have fz0 := hBz8.thaw 0
              have fz1 := hBz8.thaw 1
              have fz2 := hBz8.thaw 2
              have fz3 := hBz8.thaw 3
              have gz0 := hBz8.cell 0
              have gz1 := hBz8.cell 1
              have gz2 := hBz8.cell 2
              have gz3 := hBz8.cell 3
              have gr0 := hB8.cell 0
              have gr1 := hB8.cell 1
              have gr2 := hB8.cell 2
              have gr3 := hB8.cell 3
              simp at gz0 gz1 gz2 gz3 gr0 gr1 gr2 gr3
              by_cases hi8 : i < 8
              · have hlt : i < el.length := by omega
                have hlb : i < l.length := by omega
                obtain ⟨ba, oa, rfl, ga⟩ := (hin7.at_.below bel9).cell hlt
                obtain ⟨bb, ob, hab, gb⟩ := (hl7.below bel9).cell hlb
                simp only [Option.some.injEq, Addr.mk.injEq, and_true] at hab
                obtain ⟨rfl, rfl⟩ := hab
                have hwi := IntWalk.i64_in ((i : Int) + 1) (by omega)
                have hi8' : (i : Int) < 8 := by omega
                simp -implicitDefEqProofs [go_sem, q0, q2, q5, q9, q11, hi8']
                refine drawE_still mixed (by decide +kernel) ?_
                simp -implicitDefEqProofs [go_sem, q0, q2, q5, q9, q11, hi8', hi8, ga, gb]
                unfold endE
                simp -implicitDefEqProofs [go_sem]
                by_cases hx : el[i] = l[i]
                · have hx' : (el[i] != l[i]) = false := by rw [hx]; simp
                  rw [hx']
                  simp -implicitDefEqProofs [go_sem, hwi, q11]
                  refine goE_round ⟨i + 1, by omega, ?_, ?_⟩ ?_
                  · rw [List.take_succ_eq_append_getElem hlt, List.take_succ_eq_append_getElem hlb, heq, hx]
                  · simp -implicitDefEqProofs [go_sem, q0, q2, q5, q9]
                    exact bel9.drew
                  · simp -implicitDefEqProofs [go_sem, intOf, q11]; omega
                · have hx' : (el[i] != l[i]) = true := by rw [bne_iff_ne]; exact hx
                  have hok : okM l = false := by
                    rw [okM_eq, decide_eq_false_iff_not]; rintro rfl; exact hx rfl
                  rw [hx']
                  simp -implicitDefEqProofs [go_sem, q0, q2, gz0, gz1, gz2, gz3, fz0, fz1, fz2, fz3]
                  refine body_cell_tmp 2 3 (ty := 24) rfl (by simp -implicitDefEqProofs [go_sem, q2]) (t' := 24) (g := bp) (cs := #[.int .u64 0, .int .u64 0, .bool false, .string ⟨#[]⟩]) ?_ hst rfl hsi ?_
                  · exact hBz8.drew.set4
                  · simp -implicitDefEqProofs [go_sem, decM, hok]
                    exact Below.own4 bel9'.drew (Nat.le_refl _)
              · have hi' : i = 8 := by omega
                have e : el = l := by
                  rw [hi', List.take_of_length_le (by omega), List.take_of_length_le (by omega)] at heq
                  exact heq
                have hok : okM l = true := by rw [okM_eq]; exact decide_eq_true e
                have hi8' : ¬ (i : Int) < 8 := by omega
                simp -implicitDefEqProofs [go_sem, q0, q2, q5, q9, q11, hi8', gz0, gz1, gz2, gz3, fz0, fz1, fz2, fz3, gr0, gr1, gr2, gr3]
                refine body_cell_tmp 2 3 (ty := 24) rfl (by simp -implicitDefEqProofs [go_sem, q2]) (t' := 24) (g := bp) (cs := #[.int .u64 (uv x1), .int .u64 (uv x2), .bool (goneR l), .string (textM l k)]) ?_ hst rfl hsi ?_
                · exact hBz8.set4
                · have hgg : goneM l = goneR l := (enc_gone h8 (by rw [textM_size]; omega) (hel.trans e)).1
                  have hdec : decM l = .agg #[.int .u64 (uv x1), .int .u64 (uv x2), .bool (goneR l), .string (textM l k)] := by
                    rw [decM, if_pos hok, ← hm, ← hx1, ← hx2, hgg]; rfl
                  simp -implicitDefEqProofs [go_sem, hdec, hok]
                  exact Below.own4 bel9' (Nat.le_refl _)
    · have hs' : 40#64 < x0 >>> 16 := by
        rw [BitVec.lt_def]; unfold sizeM at hs; rw [← hx0] at hs; simp; simp at hs; omega
      have hok : okM l = false := by simp [okM, hs]
      simp -implicitDefEqProofs [go_sem, h8', g0, hs', h8, hdiv, gz0, gz1, gz2, gz3, fz0, fz1, fz2, fz3]
      refine body_cell_tmp 2 3 (ty := 24) rfl rfl (t' := 24) (g := bp) (cs := #[.int .u64 0, .int .u64 0, .bool false, .string ⟨#[]⟩]) ?_ hst rfl hsi ?_
      · exact hBz.set4
      · simp -implicitDefEqProofs [go_sem, decM, hok]
        exact Below.own4 belz (Nat.le_refl _)
  · have h8' : ((l.length : Int) != 8) = true := by rw [bne_iff_ne]; omega
    have hok : okM l = false := by simp [okM, h8]
    simp -implicitDefEqProofs [go_sem, h8', undef, gz0, gz1, gz2, gz3, fz0, fz1, fz2, fz3]
    refine body_cell_tmp 2 3 (ty := 24) rfl rfl (t' := 24) (g := bp) (cs := #[.int .u64 0, .int .u64 0, .bool false, .string ⟨#[]⟩]) ?_ hst rfl hsi ?_
    · exact hBz.set4
    · simp -implicitDefEqProofs [go_sem, decM, hok]
      exact Below.own4 belz (Nat.le_refl _)
end Go.Proofs.Ytgdjnginljamoaa
