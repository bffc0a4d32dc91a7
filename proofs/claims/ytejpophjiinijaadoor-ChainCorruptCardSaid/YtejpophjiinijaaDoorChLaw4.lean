/- ChainCorrupt: its walk. -/
import Derived.Test.YtejpophjiinijaaDoorChLaw2
namespace Go.Proofs.YtejpophjiinijaaDoor
set_option linter.unusedVariables false
set_option linter.unusedSimpArgs false
set_option maxRecDepth 100000
open Go Go.RowKit

section
set_option linter.unusedSimpArgs false
set_option maxHeartbeats 8000000
variable {p : Nat} {F : Nat → Prop} {D : NM.Dv}
theorem sizeN_calls (w : World) : Ret Tryd.prog 52 #[.pointer none] w fun v w' => v = .int .i64 0 ∧ w' = w := by
  refine ret_of (args := [_]) _ Tryd.func52 rfl Tryd.ntmps52 (by simp) ?_
  simp -implicitDefEqProofs [go_sem]
  refine body_tmp 2 rfl ?_
  simp -implicitDefEqProofs [go_sem]
theorem noneN_calls (w : World) (x : Value) : Ret Tryd.prog 33 #[.pointer none, x] w fun v w' => v = .bool true ∧ w' = w := by
  refine ret_of (args := [_, _]) _ Tryd.func33 rfl Tryd.ntmps33 (by simp) ?_
  simp -implicitDefEqProofs [go_sem]
  refine callE_of (sizeN_calls w) ?_
  rintro v w1 ⟨rfl, rfl⟩
  simp -implicitDefEqProofs [go_sem]
  refine body_tmp 4 rfl ?_
  simp -implicitDefEqProofs [go_sem]
theorem noneP_ch (w : World) (h : DevB w p F D) : Ret Tryd.prog 33 #[.pointer (some ⟨p, 0, none⟩), .pointer none] w fun v w' => v = .bool true ∧ w' = w := by
  have hp := h.pos
  have hs : ((D.size : Int) == 0) = false := by rw [beq_eq_false_iff_ne]; unfold NM.Dv.size; omega
  refine ret_of (args := [_, _]) _ Tryd.func33 rfl Tryd.ntmps33 (by simp) ?_
  simp -implicitDefEqProofs [go_sem]
  refine callE_of (sizeB w h) ?_
  rintro v w1 ⟨rfl, rfl⟩
  simp -implicitDefEqProofs [go_sem, hs]
  refine body_tmp 4 rfl ?_
  simp -implicitDefEqProofs [go_sem]
theorem listN_ch (w : World) (x : Value) (first : BitVec 64) : Ret Tryd.prog 19 #[.pointer none, x, .int .u64 (uv first)] w fun v w' => v = .tuple #[.slice none 0 0, .int .i64 1] ∧ w' = w := by
  refine ret_of (args := [_, _, _]) _ Tryd.func19 rfl Tryd.ntmps19 (by simp) ?_
  simp -implicitDefEqProofs [go_sem]
  refine callE_of (noneN_calls w x) ?_
  rintro v w1 ⟨rfl, rfl⟩
  simp -implicitDefEqProofs [go_sem]
  refine body_tmp2 6 7 rfl ?_
  simp -implicitDefEqProofs [go_sem]
theorem trimN_ch (w : World) : Ret Tryd.prog 20 #[.pointer none, .pointer none, .slice none 0 0, .int .i64 1] w fun v w' => v = .int .i64 1 ∧ w' = w := by
  refine ret_of (args := [_, _, _, _]) _ Tryd.func20 rfl Tryd.ntmps20 (by simp) ?_
  simp -implicitDefEqProofs [go_sem]
  refine callE_of (noneN_calls w _) ?_
  rintro v w1 ⟨rfl, rfl⟩
  simp -implicitDefEqProofs [go_sem]
  refine body_tmp 8 rfl ?_
  simp -implicitDefEqProofs [go_sem]
end
end Go.Proofs.YtejpophjiinijaaDoor
namespace Go.Proofs.YtejpophjiinijaaDoor.Dq
set_option linter.unusedVariables false
set_option linter.unusedSimpArgs false
set_option maxRecDepth 100000
open Go Go.RowKit
section
set_option linter.unusedSimpArgs false
set_option maxHeartbeats 4000000
variable {p : Nat} {F : Nat → Prop} {D : NM.Dv}
theorem addN_calls (r : LinkV) (w0 : World) (h : DevB w0 p F D) : Ret Tryd.prog 25 #[.pointer (some ⟨p, 0, none⟩), .pointer none, .agg r.rc] w0 fun v w' => v = .tuple #[.int .u64 (uv 0#64), .int .i64 1] ∧ Below w0.heap.size w0 w' := by
  have bel0 := Below.refl w0.heap.size w0
  refine defD_of (args := [_, _, _]) _ Tryd.func25 rfl Tryd.ntmps25 (by simp) ?_
  refine @rawSeq D0 _ _ _ _ _ _ _ _ ?_
  simp -implicitDefEqProofs [go_sem]
  generalize hw1 : World.alloc w0 _ = w1 at *
  obtain ⟨hB1, b1, sz1⟩ := new_facts hw1
  have bel1 := bel0.trans (b1.mono bel0.size)
  replace h := h.next b1
  generalize hw2 : World.alloc w1 _ = w2 at *
  obtain ⟨hB2, b2, sz2⟩ := new_facts hw2
  have bel2 := bel1.trans (b2.mono bel1.size)
  replace h := h.next b2
  replace hB1 := hB1.next b2
  generalize hw3 : World.alloc w2 _ = w3 at *
  obtain ⟨hB3, b3, sz3⟩ := new_facts hw3
  have bel3 := bel2.trans (b3.mono bel2.size)
  replace h := h.next b3
  replace hB1 := hB1.next b3
  replace hB2 := hB2.next b3
  rw [sz2, sz1] at hB3
  obtain ⟨g7, hg7⟩ : ∃ g, g = w0.heap.size + 1 + 1 := ⟨_, rfl⟩
  rw [← hg7] at hB3 ⊢
  refine goE_raw ?_
  refine @rawSeq D0 _ _ _ _ _ _ _ _ ?_
  simp -implicitDefEqProofs [go_sem, hB1.cell]
  refine callE_of (noneP_ch w3 h) ?_
  rintro v w4 ⟨rfl, rfl⟩
  simp -implicitDefEqProofs [go_sem, hB3.cell, hB3.thaw]
  refine out0 _ (fun tmps ht => resAdd ht (x := 0#64) (g := g7) (z := 1) (by simp -implicitDefEqProofs [go_sem]; rfl) (by simp -implicitDefEqProofs [go_sem]) (hB3.set 0 _)) ⟨rfl, bel3.setCell (show w0.heap.size ≤ g7 by omega) _⟩
end
end Go.Proofs.YtejpophjiinijaaDoor.Dq
namespace Go.Proofs.YtejpophjiinijaaDoor
set_option linter.unusedVariables false
set_option linter.unusedSimpArgs false
set_option maxRecDepth 100000
open Go Go.RowKit
section
set_option linter.unusedSimpArgs false
set_option maxHeartbeats 8000000
theorem chainCorrupt_walk (a0 : Option Addr) (l : List LinkV) (cap : Nat) (t0 t1 from_ : BitVec 64) (w0 : World) (hF : Fours w0) (hT : Tabs w0) (hin : RcsIn w0 a0 l cap) :
    Ret Tryd.prog 5 #[.slice a0 l.length cap, .agg #[.int .u64 (uv t0), .int .u64 (uv t1)], .int .u64 (uv from_)] w0 fun v w' => v = .bool true ∧ Below w0.heap.size w0 w' := by
  have bel0 := Below.refl w0.heap.size w0
  obtain ⟨m, hm⟩ : ∃ m : Nat, m = 12 := ⟨_, rfl⟩
  refine ret_of (args := [_, _, _]) _ Tryd.func5 rfl Tryd.ntmps5 (by simp) ?_
  simp -implicitDefEqProofs [go_sem]
  generalize hw1 : World.alloc w0 _ = w1 at *
  obtain ⟨hB1, b1, sz1⟩ := new_facts hw1
  have bel1 := bel0.trans (b1.mono bel0.size)
  refine callE_of (chAlive_calls w1 (hF.next bel1) (hT.next bel1)) ?_
  rintro v w2 ⟨rfl, b2⟩
  have bel2 := bel1.trans (b2.mono bel1.size)
  simp -implicitDefEqProofs [go_sem]
  refine callE_of (few_calls (hin.next bel2)) ?_
  rintro v w3 ⟨rfl, b3⟩
  have bel3 := bel2.trans (b3.mono bel2.size)
  cases hfew : fewB l
  · simp -implicitDefEqProofs [go_sem]
    refine body_tmp 6 rfl ?_
    simp -implicitDefEqProofs [go_sem]
    exact bel3
  have hl40 : l.length ≤ 40 := by unfold fewB at hfew; simp at hfew; exact hfew.2
  have hB3 := (hB1.next b2).next b3
  simp -implicitDefEqProofs [go_sem]
  refine callE_of (built_calls hm a0 l cap w3 (hF.next bel3) (hT.next bel3) (hin.next bel3) hl40) ?_
  have hBl := blt hm l hl40 l.length (Nat.le_refl _)
  generalize bldS m l l.length = S at *
  obtain ⟨⟨n, hn, hC⟩, hu, hst, -⟩ := hBl
  have hMn := hC.len
  rintro v w4 ⟨p, b, tb, tc, hb, hc, F, am, cm, rfl, hP, hge, hinM, hsep, b4⟩
  have bel4 := bel3.trans (b4.mono bel3.size)
  have hB4 := hB3.next b4
  have hge0 : ∀ k, PdK b tb hb F k → w0.heap.size ≤ k := fun k hk => by have := hge k hk; have := bel3.size; omega
  obtain ⟨j, hj⟩ : ∃ j : Nat, j = (t0 % 500#64).toNat := ⟨_, rfl⟩
  have hj5 : j < 500 := by rw [hj]; simp; omega
  have hju : uv (t0 % 500#64) = (j : Int) := by rw [hj]; rfl
  have i1 := IntWalk.i64_in (j : Int) (by omega)
  have i2 := IntWalk.i64_in (8 * (j : Int)) (by omega)
  have i3 := IntWalk.i64_in (192 + 8 * (j : Int)) (by omega)
  obtain ⟨o, ho⟩ : ∃ o : Nat, o = 192 + 8 * j := ⟨_, rfl⟩
  have hoj : 192 + 8 * (j : Int) = (o : Int) := by omega
  have i4 := IntWalk.i64_in (o : Int) (by omega)
  have hoI : I64 (o : Int) := by unfold I64; omega
  have hlines := hC.soft.ds.lines
  have hsz : S.V.D.size = 64 * (188 + m) := by unfold NM.Dv.size; rw [hlines]
  have hld := loadB (o : Int) w4 hP.dev hoI
  rw [load_in (by rw [hlines]; omega) (by omega) (by rw [hsz]; omega), hu.down, if_neg (by decide)] at hld
  simp -implicitDefEqProofs [go_sem, hB4.cell, hju, i1, i2, i3, hoj, i4]
  refine callE_of hld ?_
  rintro v w5 ⟨rfl, rfl⟩
  obtain ⟨x, hx⟩ : ∃ x, x = S.V.D.word o ^^^ t1 := ⟨_, rfl⟩
  have hst1 := step_up (D := S.V.D) (by rw [hlines]; omega) hu.down (s := .store (o : Int) x) ⟨o, rfl, by omega, by rw [hlines]; omega⟩
  have hst1 : (S.V.D.store (o : Int) x).2 = 0 := hst1
  have hup : (S.V.D.store (o : Int) x).1.Up := step_upUp hu (.store (o : Int) x)
  have hlen : (S.V.D.store (o : Int) x).1.ls.length = 188 + m := by rw [NM.store_len]; exact hlines
  have hsteps := store_steps S.V.D (o : Int) x
  simp -implicitDefEqProofs [go_sem, hB4.cell, ← hx]
  refine callE_of (storeB (o : Int) x w5 hP.dev hoI (by omega)) ?_
  rintro v w6 ⟨rfl, F6, hd6, t6⟩
  rw [hst1]
  obtain ⟨D, hD⟩ : ∃ D, D = (S.V.D.store (o : Int) x).1 := ⟨_, rfl⟩
  rw [← hD] at hup hlen hsteps hd6
  have hP6 := hP.turn hd6 t6
  have tt6 := turn_pd (b := b) (tb := tb) (hb := hb) t6
  have bel6 := bel4.trans (tt6.mod.below bel4.size hge0)
  have hS := hC.soft
  have hQ6 := hP6
  rw [hS.held] at hQ6
  have hcnt : ((List.range (16 * m)).filter (tkn S.V.T)).length ≤ 40 := by
    have e : (List.range (16 * m)).filter (tkn S.V.T) = (List.range (16 * m)).filter (fun j => decide (0 ≤ j ∧ j < n)) := List.filter_congr fun j hj => by
      rw [hC.tab, tkn_tkL (List.mem_range.1 hj)]
      exact decide_eq_decide.2 ⟨fun h => ⟨Nat.zero_le _, h⟩, fun h => h.2⟩
    rw [e, range_between 0 n (Nat.zero_le _)]; omega
  have hlist := fun (y : BitVec 64) (w : World) (h : PD w b p (shN m) S.V.T (zL m) tb tc hb hc F6 D) => chList_calls y w h (by rw [hS.small.len]; omega) (dat_ok m) (fun off h => get_class hm hS.small hlen hup.down off h) 40 (fun acc z h1 h2 => Nat.le_trans (list_len hm hS.small h1 h2) hcnt) (by omega)
  simp -implicitDefEqProofs [go_sem]
  generalize hw7 : World.alloc w6 _ = w7 at *
  obtain ⟨hB7, b7, sz7⟩ := new_facts hw7
  have bel7 := bel6.trans (b7.mono bel6.size)
  replace hQ6 := hQ6.next b7
  obtain ⟨g, hg⟩ : ∃ g, g = w6.heap.size := ⟨_, rfl⟩
  rw [← hg] at hB7 ⊢
  refine wpE_loop (fun e' w' => ∃ k : Nat, k ≤ 2 ∧ e' 7 = .pointer (some ⟨p, 0, none⟩) ∧ e' 8 = .pointer (some ⟨b, 0, none⟩) ∧ e' 9 = .int .u64 (uv S.first) ∧ e' 60 = .slice (some ⟨g, 0, none⟩) 2 2 ∧ e' 61 = .int .i64 2 ∧ e' 62 = .int .i64 k ∧ Below w7.heap.size w7 w') (fun e' _ => 2 - (intOf (e' 62)).toNat) ?_ ?_
  · refine ⟨0, by omega, ?_⟩
    simp -implicitDefEqProofs [go_sem]
    exact Below.refl _ _
  · rintro e' w8 ⟨k, hk, q7, q8, q9, q60, q61, q62, b8⟩
    have bel8 := bel7.trans (b8.mono bel7.size)
    by_cases hlt : k < 2
    · have hlt' : (k : Int) < 2 := by omega
      have hwk := IntWalk.i64_in ((k : Int) + 1) (by omega)
      obtain ⟨y, hy⟩ : ∃ y : BitVec 64, #[Value.int .u64 (uv S.first), Value.int .u64 (uv from_)][k]? = some (.int .u64 (uv y)) := by
        have : k = 0 ∨ k = 1 := by omega
        rcases this with rfl | rfl
        · exact ⟨_, rfl⟩
        · exact ⟨_, rfl⟩
      have hcy := ((hB7.next b8).cell k).trans hy
      simp -implicitDefEqProofs [go_sem, q7, q8, q9, q60, q61, q62, hlt, hlt', hcy]
      refine callE_of (hlist y w8 (hQ6.next b8)) ?_
      rintro v w9 ⟨hLP, b9⟩
      have b89 := b8.trans (b9.mono b8.size)
      rcases hLP with ⟨L, aL, cL, hseg, hfall, rfl, hinL, -⟩ | ⟨-, rfl⟩
      · have hLl := Nat.le_trans (list_len hm hS.small hseg hfall) hcnt
        have hL41 : ¬ 41 < L.length := by omega
        have hL41' : ¬ (41 : Int) < L.length := by omega
        simp -implicitDefEqProofs [go_sem, q7, q8, q9, q60, q61, q62]
        refine callE_of (ours_calls aL L cL w9 hinL (by omega)) ?_
        rintro v w10 ⟨a10, c10, rfl, hin10, b10, -⟩
        have b810 := b89.trans (b10.mono b89.size)
        simp -implicitDefEqProofs [go_sem, q7, q8, q9, q60, q61, q62]
        refine callE_of (chFall_calls hin10) ?_
        rintro v w11 ⟨rfl, b11⟩
        have b811 := b810.trans (b11.mono b810.size)
        simp -implicitDefEqProofs [go_sem, q7, q8, q9, q60, q61, q62, hfall, hL41, hL41', hwk]
        refine goE_round ⟨k + 1, by omega, ?_⟩ ?_
        · simp -implicitDefEqProofs [go_sem, q7, q8, q9, q60, q61]; exact b811
        · simp -implicitDefEqProofs [go_sem, intOf, q62, hwk]; omega
      · have hnl : LksIn w9 none [] 0 := ⟨.inl rfl, Nat.le_refl _, by decide, fun _ => rfl⟩
        have hno := ours_calls none [] 0 w9 hnl (by decide)
        simp -implicitDefEqProofs [go_sem, q7, q8, q9, q60, q61, q62]
        refine callE_of hno ?_
        rintro v w10 ⟨a10, c10, rfl, hin10, b10, -⟩
        have b810 := b89.trans (b10.mono b89.size)
        have hnf := chFall_calls hin10
        simp -implicitDefEqProofs [go_sem, q7, q8, q9, q60, q61, q62]
        refine callE_of hnf ?_
        rintro v w11 ⟨rfl, b11⟩
        have b811 := b810.trans (b11.mono b810.size)
        have hf0 : FallL [] := trivial
        simp -implicitDefEqProofs [go_sem, q7, q8, q9, q60, q61, q62, hf0, hwk]
        refine goE_round ⟨k + 1, by omega, ?_⟩ ?_
        · simp -implicitDefEqProofs [go_sem, q7, q8, q9, q60, q61]; exact b811
        · simp -implicitDefEqProofs [go_sem, intOf, q62, hwk]; omega
    · have hn' : ¬ (k : Int) < 2 := by omega
      have hk2 : k = 2 := by omega
      simp -implicitDefEqProofs [go_sem, q7, q8, q9, q60, q61, q62, hn', hlt, hk2]
      refine callE_of (listN_ch w8 _ S.first) ?_
      rintro v w9 ⟨rfl, rfl⟩
      have hP9 := hQ6.next b8
      simp -implicitDefEqProofs [go_sem, q7, q8, q9]
      refine callE_of (Dq.addN_calls ⟨0, 1#64, 0#64, false, ⟨#[]⟩⟩ w9 hP9.dev) ?_
      rintro v w10 ⟨rfl, b10⟩
      have bel10 := bel8.trans (b10.mono bel8.size)
      have hP10 := hP9.next b10
      have hres := (res_facts (m := m) (n := n) (D := D) hm (by omega)).1
      rw [← hC.tab] at hres
      have hadd := Dq.add_calls ⟨S.V.T, zL m, D⟩ ⟨0, 0#64, 0#64, false, ⟨#[]⟩⟩ w10 hP10 (hT.next bel10) (tab128 m) (show S.V.T.length ≤ 64 by rw [hS.small.len]; omega) (show D.steps + 2000000 < 1099511627776 by omega) (dat_ok m) (by rw [hres]; unfold I64; dsimp only; omega)
      rw [add_wrong (by decide)] at hadd
      simp -implicitDefEqProofs [go_sem, q7, q8]
      refine callE_of hadd ?_
      rintro v w11 ⟨rfl, F11, hP11, t11⟩
      have bel11 := bel10.trans (t11.mod.below bel10.size (fun j hj => by
        have := t6.ge (B := w0.heap.size) (by have := bel4.size; omega) (fun k hk => hge0 k (.inl hk))
        rcases hj with hj | hj
        · exact this j hj
        · exact hge0 j (.inr hj)))
      simp -implicitDefEqProofs [go_sem]
      refine callE_of (trimN_ch w11) ?_
      rintro v w12 ⟨rfl, rfl⟩
      simp -implicitDefEqProofs [go_sem]
      refine body_tmp 6 rfl ?_
      simp -implicitDefEqProofs [go_sem]
      exact bel11
end
end Go.Proofs.YtejpophjiinijaaDoor
