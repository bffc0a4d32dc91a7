/- Comparing slices of words. -/
import Derived.Test.YtejpophjiinijaaDoorBase
import Derived.Test.YtejpophjiinijaaDoorCore
namespace Go.Proofs.YtejpophjiinijaaDoor
set_option linter.unusedVariables false
set_option linter.unusedSimpArgs false
set_option maxRecDepth 100000
open Go Go.RowKit

section
set_option linter.unusedSimpArgs false
theorem equal_calls (a b : Option Addr) (la lb : List (BitVec 64)) (na nb ca cb : Nat) (w : World) (hna : la.length = na) (hnb : lb.length = nb) (h63 : na ≤ 9223372036854775807) (ha : SlAt .u64 w a la) (hb : SlAt .u64 w b lb) :
    Ret Tryd.prog 62 #[.slice a na ca, .slice b nb cb] w fun v w' => v = .bool (decide (la = lb)) ∧ Below w.heap.size w w' := by
  subst hna
  subst hnb
  refine ret_of (args := [_, _]) _ Tryd.func62 rfl Tryd.ntmps62 (by simp) ?_
  by_cases hn : la.length = lb.length
  · simp -implicitDefEqProofs [go_sem, hn]
    refine wpE_loop (fun e' w' => ∃ k : Nat, k ≤ la.length ∧ la.take k = lb.take k ∧ e' 0 = .slice a la.length ca ∧ e' 1 = .slice b lb.length cb ∧ e' 12 = .int .i64 la.length ∧ e' 13 = .int .i64 k ∧ Below w.heap.size w w') (fun e' _ => la.length - (intOf (e' 13)).toNat) ?_ ?_
    · refine ⟨0, Nat.zero_le _, by simp, ?_⟩
      simp -implicitDefEqProofs [go_sem, hn]
      exact Below.refl _ _
    · rintro e' w' ⟨k, hk, heq, h0, h1, h12, h5, bel⟩
      by_cases hlt : k < la.length
      · have hlb : k < lb.length := by omega
        obtain ⟨ba, oa, rfl, ga⟩ := (ha.below bel).cell hlt
        obtain ⟨bb, ob, rfl, gb⟩ := (hb.below bel).cell hlb
        have hw := IntWalk.i64_in ((k : Int) + 1) (by omega)
        simp -implicitDefEqProofs [go_sem, h0, h1, h12, h5, hlt]
        refine drawE_still mixed (by decide +kernel) ?_
        simp -implicitDefEqProofs [go_sem, h0, h1, h12, h5, hlt, hlb, ga, gb]
        unfold endE
        simp -implicitDefEqProofs [go_sem]
        by_cases hx : la[k] = lb[k]
        · have hx' : (la[k] != lb[k]) = false := by rw [hx]; simp
          rw [hx']
          simp -implicitDefEqProofs [go_sem, hw, h5]
          refine goE_round ⟨k + 1, by omega, ?_, ?_⟩ ?_
          · rw [List.take_succ_eq_append_getElem hlt, List.take_succ_eq_append_getElem hlb, heq, hx]
          · simp -implicitDefEqProofs [go_sem, h0, h1, h12]
            exact bel.drew
          · simp -implicitDefEqProofs [go_sem, intOf, h5]; omega
        · have hx' : (la[k] != lb[k]) = true := by rw [bne_iff_ne]; exact hx
          have hne : decide (la = lb) = false := by
            rw [decide_eq_false_iff_not]; rintro rfl; exact hx rfl
          rw [hx', hne]
          simp -implicitDefEqProofs [go_sem]
          refine body_tmp 4 rfl ?_
          simp -implicitDefEqProofs [go_sem]
          exact bel.drew
      · have hk' : k = la.length := by omega
        have e : la = lb := by
          rw [hk'] at heq
          rw [List.take_length, List.take_of_length_le (by omega)] at heq
          exact heq
        simp -implicitDefEqProofs [go_sem, h0, h1, h12, h5, hlt]
        refine body_tmp 4 rfl ?_
        simp -implicitDefEqProofs [go_sem, e]
        exact bel
  · have hne : decide (la = lb) = false := by
      rw [decide_eq_false_iff_not]; intro e; exact hn (by rw [e])
    have hn' : ((la.length : Int) != lb.length) = true := by rw [bne_iff_ne]; omega
    rw [hne]
    simp -implicitDefEqProofs [go_sem, hn']
    refine body_tmp 4 rfl ?_
    simp -implicitDefEqProofs [go_sem]
    exact Below.refl _ _
end
end Go.Proofs.YtejpophjiinijaaDoor
