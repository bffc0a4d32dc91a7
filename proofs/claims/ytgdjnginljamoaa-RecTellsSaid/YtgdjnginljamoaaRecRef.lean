/- The reference's words of a version. -/
import Derived.Test.YtgdjnginljamoaaRecWalk
namespace Go.Proofs.Ytgdjnginljamoaa
open Go Go.RowKit

set_option maxHeartbeats 1000000 in
set_option linter.unusedSimpArgs false in
theorem refEncode_calls (st nx : BitVec 64) (gone : Bool) (s : ByteArray) (w : World) :
    Ret Try.prog 10 #[recV st nx gone s] w fun v w' => ∃ a c, v = .tuple #[.slice a (encM st nx gone s).length c, .bool (rightB st gone s)] ∧
      SlIn .u64 w' a (encM st nx gone s) c ∧ Below w.heap.size w w' := by
  have hr := refRight_calls st nx gone s
  unfold recV at hr ⊢
  have bel : ∀ o, Below w.heap.size w (w.alloc o) := fun o => (Below.refl _ _).alloc (Nat.le_refl _) _
  refine ret_of (args := [_]) _ Try.func10 rfl Try.ntmps10 (by simp) ?_
  simp -implicitDefEqProofs [go_sem]
  refine callE_of (hr _) ?_
  rintro v w1 ⟨rfl, bel1⟩
  cases hright : rightB st gone s
  · simp -implicitDefEqProofs [go_sem]
    refine body_tmp2 2 3 rfl ?_
    simp -implicitDefEqProofs [go_sem, encM, hright]
    exact ⟨none, 0, ⟨rfl, rfl⟩, ⟨.inl rfl, by simp, by simp, fun _ => rfl⟩, (bel _).trans (bel1.mono (bel _).size)⟩
  · have hs : s.size ≤ 40 := by
      simp [rightB] at hright; omega
    have hsz := bel1.size
    have hsz0 : (w.alloc (.cells #[.int .u64 (uv st), .int .u64 (uv nx), .bool gone, .string s] 24)).heap.size = w.heap.size + 1 := by simp
    rw [hsz0] at hsz
    have hP0 := (Blk.new w #[.int .u64 (uv st), .int .u64 (uv nx), .bool gone, .string s] 24).below bel1 (by rw [hsz0]; omega)
    have bel2 := (bel (.cells #[.int .u64 (uv st), .int .u64 (uv nx), .bool gone, .string s] 24)).trans (bel1.mono (bel _).size)
    have gp0 := hP0.cell 0
    have gp1 := hP0.cell 1
    have gp2 := hP0.cell 2
    have gp3 := hP0.cell 3
    simp at gp0 gp1 gp2 gp3
    generalize hbp : w.heap.size = bp at *
    have hlt : bp < w1.heap.size := by omega
    obtain ⟨hd, hhd⟩ : ∃ hd, hd = RM.w0 s.size gone := ⟨_, rfl⟩
    have he : encM st nx gone s = RM.ws hd st nx (tx s) s.size := by rw [encM, if_pos hright, hhd]; rfl
    obtain ⟨hf0, hf1⟩ := RM.w0_ref s.size hs
    have bel0 : Below w1.heap.size w1 (w1.alloc (.cells #[.int .u64 (uv hd), .int .u64 (uv st), .int .u64 (uv nx)] 22)) := (Below.refl _ _).alloc (Nat.le_refl _) _
    have hlit := World.ownsRow_lit (base := w1.heap.size) (e := 22) (size := 1) w1 #[.int .u64 (uv hd), .int .u64 (uv st), .int .u64 (uv nx)] 3 (Nat.le_refl _) (by decide) rfl
    have hinfo : (Try.prog.info? 22).map (fun i => (i.zero, i.size, i.bytes)) = some (some (Value.int .u64 0), 1, 8) := by kernel_rfl
    cases gone
    all_goals
      simp -implicitDefEqProofs [go_sem, gp0, gp1, gp2, gp3, hf0, hf1]
      rw [← hhd]
      refine wpE_loop (fun e' w' => ∃ (k : Nat) (a : Option Addr) (c : Nat), k ≤ 5 ∧ e' 1 = .pointer (some ⟨bp, 0, none⟩) ∧ e' 5 = .slice a (3 + k) c ∧ e' 6 = .int .i64 k ∧
        w'.ownsRow w1.heap.size 22 1 (.slice a (3 + k) c) (3 + k) (cellsK .u64 ((RM.ws hd st nx (tx s) s.size).take (3 + k))) ∧ Below w1.heap.size w1 w') (fun e' _ => 5 - (intOf (e' 6)).toNat) ?_ ?_
      · refine ⟨0, some ⟨w1.heap.size, 0, none⟩, 3, Nat.zero_le _, ?_⟩
        simp -implicitDefEqProofs [go_sem]
        exact ⟨hlit, bel0⟩
      · rintro e' w' ⟨k, a, c, hk, h1, h5, h6, hown, bel3⟩
        have gp3' := (hP0.below (bel3.mono (Nat.le_refl _)) (by omega)).cell 3
        simp at gp3'
        by_cases hlt' : k < 5
        · have hw := IntWalk.i64_in ((k : Int) + 1) (by omega)
          have hlt'' : (k : Int) < 5 := by omega
          simp -implicitDefEqProofs [go_sem, h1, h5, h6, hlt'']
          refine wpE_loop (fun e'' w'' => w'' = w' ∧ ∃ (j : Nat) (z : Int), j ≤ 8 ∧ z = 7 - j ∧ e'' 1 = .pointer (some ⟨bp, 0, none⟩) ∧ e'' 5 = .slice a (3 + k) c ∧ e'' 6 = .int .i64 k ∧ e'' 8 = .int .i64 z ∧
            e'' 7 = .int .u64 (uv (RM.horner (tx s) s.size k j))) (fun e'' _ => (intOf (e'' 8) + 1).toNat) ?_ ?_
          · refine ⟨rfl, 0, 7, by omega, by omega, ?_⟩
            simp -implicitDefEqProofs [go_sem, h1, h5, h6, RM.horner]
            simp [uv]
          · rintro e'' w'' ⟨rfl, j, z, hj, hz, g1, g5, g6, g8, g7⟩
            by_cases hj8 : j < 8
            · obtain ⟨m, hm⟩ : ∃ m : Nat, 7 - j = m := ⟨_, rfl⟩
              have hzm : z = m := by omega
              have hwz := IntWalk.i64_in ((m : Int) - 1) (by omega)
              have hw1 := IntWalk.i64_in (8 * (k : Int)) (by omega)
              have hw2 := IntWalk.i64_in (8 * (k : Int) + m) (by omega)
              have h00 : (0 : Int) ≤ 8 * (k : Int) + m := by omega
              have htn : (8 * (k : Int) + m).toNat = 8 * k + m := by omega
              rw [hzm] at g8
              have hho : RM.horner (tx s) s.size k (j + 1) = RM.horner (tx s) s.size k j * 256#64 + (if 8 * k + m < s.size then (tx s (8 * k + m)).setWidth 64 else 0#64) := by
                rw [RM.horner, hm]
              by_cases hc : 8 * k + m < s.size
              · have hc' : 8 * (k : Int) + m < s.size := by omega
                have gt' : tx s (8 * k + m) = (s[8 * k + m]).toBitVec := tx_at s _ hc
                rw [if_pos hc] at hho
                simp -implicitDefEqProofs [go_sem, g1, g5, g6, g7, g8, gp3', hw1, hw2, hc', hc, hwz, h00, htn, u8_int, ← gt']
                refine goE_round ⟨rfl, j + 1, (m : Int) - 1, by omega, by omega, ?_⟩ ?_
                · simp -implicitDefEqProofs [go_sem, g1, g5, g6, hho]
                · simp -implicitDefEqProofs [go_sem, intOf, g8]
              · have hc' : ¬ 8 * (k : Int) + m < s.size := by omega
                rw [if_neg hc] at hho
                simp -implicitDefEqProofs [go_sem, g1, g5, g6, g7, g8, gp3', hw1, hw2, hc', hwz]
                refine goE_round ⟨rfl, j + 1, (m : Int) - 1, by omega, by omega, ?_⟩ ?_
                · simp -implicitDefEqProofs [go_sem, g1, g5, g6, hho]
                · simp -implicitDefEqProofs [go_sem, intOf, g8]
            · have hj' : j = 8 := by omega
              subst hj'
              have hz' : z = -1 := by omega
              rw [hz'] at g8
              rw [RM.horner_all] at g7
              have ha : (w''.alloc (.cells #[.int .u64 (uv (RM.tw (tx s) s.size k))] 22)).heap.size = w''.heap.size + 1 := by simp
              have hsz3 := bel3.size
              obtain ⟨a2, c2, w2, hr2, hown2, hgr⟩ := run_append1 (P := Try.prog) w1.heap.size (t := 25) (bytes := 8) (z := .int .u64 0) 25 (by kernel_rfl) hinfo rfl (hown.alloc (.cells #[.int .u64 (uv (RM.tw (tx s) s.size k))] 22)) (a2 := some ⟨w''.heap.size, 0, none⟩) (c2 := 1) (m := 1) (news := [.int .u64 (uv (RM.tw (tx s) s.size k))]) rfl
                (.inr ⟨_, rfl, fun i u hu => by rw [Addr.add_lit, Nat.zero_add, (Blk.new _ _ _).cell]; simpa using hu⟩) (by simp) (by simp [Value.oneCell']) (by omega) (by omega) (by rw [ha]; omega)
              simp -implicitDefEqProofs [go_sem, g1, g5, g6, g7, g8, hw, hr2]
              refine goE_round ⟨k + 1, a2, c2, by omega, ?_⟩ ?_
              · simp -implicitDefEqProofs [go_sem, g1]
                refine ⟨rfl, ?_, (bel3.alloc hsz3 _).grown hgr (by rw [ha]; omega) (fun j hj => (hown.lt j hj).1)⟩
                rw [← RM.ws_take _ _ _ _ _ _ hlt', cellsK_append]
                exact hown2
              · simp -implicitDefEqProofs [go_sem, intOf, g6, h6]; omega
        · have hk' : k = 5 := by omega
          subst hk'
          simp -implicitDefEqProofs [go_sem, h1, h5, h6]
          refine body_tmp2 2 3 rfl ?_
          simp -implicitDefEqProofs [go_sem]
          rw [he]
          exact ⟨a, c, ⟨rfl, rfl, rfl⟩, owns_slIn rfl hown, bel2.trans (bel3.mono (by omega))⟩
end Go.Proofs.Ytgdjnginljamoaa
