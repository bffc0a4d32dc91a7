/- The laws of rec: RecSizes, RecTurned. -/
import Derived.Test.YtgdjnginljamoaaRecLaw
namespace Go.Proofs.Ytgdjnginljamoaa
open Go Go.RowKit

theorem w0_gone (n : Nat) (hn : n ≤ 40) (g : Bool) : ((RM.w0 n g) >>> 8 &&& 1#64 == 1#64) = g := by
  have : ∀ n, n < 41 → ∀ g : Bool, ((RM.w0 n g) >>> 8 &&& 1#64 == 1#64) = g := by decide +kernel
  exact this n (by omega) g

set_option maxHeartbeats 1000000 in
set_option linter.unusedSimpArgs false in
theorem recSizes_walk (st nx : BitVec 64) (gone : Bool) (s : ByteArray) (w0 : World) :
    Ret Try.prog 6 #[recV st nx gone s] w0 fun v w' => v = .bool true ∧ Below w0.heap.size w0 w' := by
  have hE := encode_calls st nx gone s
  have hR := right_calls st nx gone s
  have bel0 := Below.refl w0.heap.size w0
  unfold recV at hE hR ⊢
  refine ret_of (args := [_]) _ Try.func6 rfl Try.ntmps6 (by simp) ?_
  simp -implicitDefEqProofs [go_sem]
  generalize hw1 : World.alloc w0 _ = w1 at *
  obtain ⟨hB1, b1, sz1⟩ := new_facts hw1
  have bel1 := bel0.trans (b1.mono bel0.size)
  refine callE_of (alive_calls w1) ?_
  rintro v w2 ⟨rfl, b2⟩
  have bel2 := bel1.trans (b2.mono bel1.size)
  replace hB1 := hB1.next b2
  by_cases hs : (200 : Int) < s.size
  · simp -implicitDefEqProofs [go_sem, hB1.cell, hs]
    refine body_tmp 2 rfl ?_
    simp -implicitDefEqProofs [go_sem]
    exact bel2
  simp -implicitDefEqProofs [go_sem, hB1.cell, hs]
  refine callE_of (hE _) ?_
  rintro v w3 ⟨a3, c3, rfl, hin3, b3⟩
  have bel3 := bel2.trans (b3.mono bel2.size)
  replace hB1 := hB1.next b3
  cases hr : rightB st gone s
  · rw [hr] at hR
    simp -implicitDefEqProofs [go_sem, encM, hr, hB1.cell]
    refine callE_of (hR _) ?_
    rintro v w4 ⟨rfl, b4⟩
    have bel4 := bel3.trans (b4.mono bel3.size)
    simp -implicitDefEqProofs [go_sem]
    refine body_tmp 2 rfl ?_
    simp -implicitDefEqProofs [go_sem]
    exact bel4
  · have hs40 := right_size hr
    have e1 : encM st nx gone s = wsOf st nx gone s := by rw [encM, if_pos hr]
    rw [e1] at hin3 ⊢
    have l1 : (wsOf st nx gone s).length = 8 := rfl
    obtain ⟨h16, _, _⟩ := RM.w0_facts s.size hs40 gone
    have h8 := w0_gone s.size hs40 gone
    have d0 : (wsOf st nx gone s).getD 0 0#64 = RM.w0 s.size gone := rfl
    have d1 : (wsOf st nx gone s).getD 1 0#64 = st := rfl
    have d2 : (wsOf st nx gone s).getD 2 0#64 = nx := rfl
    have hbyte := byte_ws st nx gone s
    generalize wsOf st nx gone s = L at *
    generalize RM.w0 s.size gone = x0 at *
    obtain ⟨b, o, rfl, g0⟩ := hin3.at_.cellD (i := 0) (by omega)
    obtain ⟨b', o', he, g1⟩ := hin3.at_.cellD (i := 1) (by omega)
    obtain ⟨rfl, rfl⟩ : b = b' ∧ o = o' := by simpa using he
    obtain ⟨b', o', he, g2⟩ := hin3.at_.cellD (i := 2) (by omega)
    obtain ⟨rfl, rfl⟩ : b = b' ∧ o = o' := by simpa using he
    rw [d0, Nat.add_zero] at g0
    rw [d1] at g1
    rw [d2] at g2
    have hu : uv (BitVec.ofNat 64 s.size) = (s.size : Int) := by
      unfold uv; rw [BitVec.toNat_ofNat, Nat.mod_eq_of_lt (by omega)]
    have hwn := IntWalk.i64_in (s.size : Int) (by omega)
    simp -implicitDefEqProofs [go_sem, l1]
    refine drawE_still mixed (by decide +kernel) ?_
    simp -implicitDefEqProofs [go_sem, l1, g0, g1, g2, hB1.cell, h16, hu, hwn, h8]
    unfold endE
    simp -implicitDefEqProofs [go_sem]
    refine wpE_loop (fun e' w' => ∃ k : Nat, k ≤ 40 ∧ e' 1 = .pointer (some ⟨w0.heap.size, 0, none⟩) ∧ e' 3 = .slice (some ⟨b, o, none⟩) 8 c3 ∧ e' 69 = .int .i64 k ∧ Below w3.heap.size w3 w') (fun e' _ => 40 - (intOf (e' 69)).toNat) ?_ ?_
    · refine ⟨0, by omega, ?_⟩
      simp -implicitDefEqProofs [go_sem]
      exact (Below.refl _ _).drew
    · rintro e' w' ⟨k, hk, h1, h3, h69, bel⟩
      by_cases hlt : k < 40
      · have hw := IntWalk.i64_in ((k : Int) + 1) (by omega)
        have hlt' : (k : Int) < 40 := by omega
        have hq := hbyte k hlt
        unfold byteM at hq
        have hwq : IntKind.i64.wrap ((k : Int) / 8) = ((k / 8 : Nat) : Int) := by rw [IntWalk.i64_in _ (by omega)]; rfl
        have hwr : (k : Int).tmod 8 = ((k % 8 : Nat) : Int) := by rw [Int.tmod_eq_emod_of_nonneg (by omega)]; rfl
        have hQ : k / 8 < 5 := by omega
        have hRR : k % 8 < 8 := by omega
        generalize k / 8 = Q at *
        generalize k % 8 = T at *
        obtain ⟨b', o', he, gx⟩ := (hin3.next bel).at_.cellD (i := 3 + Q) (by omega)
        obtain ⟨rfl, rfl⟩ : b = b' ∧ o = o' := by simpa using he
        have hw3 := IntWalk.i64_in (3 + (Q : Int)) (by omega)
        have hwm := IntWalk.i64_in (8 * (T : Int)) (by omega)
        have hq0 : (0 : Int) ≤ 3 + Q := by omega
        have hq8 : (3 : Int) + Q < 8 := by omega
        have hqn : (3 + (Q : Int)).toNat = 3 + Q := by omega
        have hRn : (8 * (T : Int)).toNat = T * 8 := by omega
        generalize L.getD (3 + Q) 0#64 = xq at *
        have hBk := hB1.next bel
        by_cases hks : k < s.size
        · have hks' : (k : Int) < s.size := by omega
          have hks2 : ¬ (s.size : Int) ≤ k := by omega
          rw [if_pos hks] at hq
          replace hq : BitVec.setWidth 8 (xq >>> (T * 8)) = s[k].toBitVec := hq.trans (tx_at s k hks)
          simp -implicitDefEqProofs [go_sem, h1, h3, h69, hlt, hlt', hwq, hwr, hw3, hwm, hq0, hq8, hqn, hRn, gx, hBk.cell, hks, hks', hks2, hq, u8_int]
          refine goE_round ⟨k + 1, by omega, ?_⟩ ?_
          · simp -implicitDefEqProofs [go_sem, h1, h3, hw]
            exact bel
          · simp -implicitDefEqProofs [go_sem, intOf, h69, hw]; omega
        · have hks' : ¬ (k : Int) < s.size := by omega
          have hks2 : (s.size : Int) ≤ k := by omega
          rw [if_neg hks] at hq
          simp -implicitDefEqProofs [go_sem, h1, h3, h69, hlt, hlt', hwq, hwr, hw3, hwm, hq0, hq8, hqn, hRn, gx, hBk.cell, hks', hks2, hq]
          refine goE_round ⟨k + 1, by omega, ?_⟩ ?_
          · simp -implicitDefEqProofs [go_sem, h1, h3, hw]
            exact bel
          · simp -implicitDefEqProofs [go_sem, intOf, h69, hw]; omega
      · have hk' : k = 40 := by omega
        subst hk'
        simp -implicitDefEqProofs [go_sem, h1, h3, h69]
        refine body_tmp 2 rfl ?_
        simp -implicitDefEqProofs [go_sem]
        exact bel3.trans (bel.mono bel3.size)

/-- What a slice of the call's own is, if it holds anything. -/
theorem owns_blk {n : Nat} {k : IntKind} {w : World} {a : Option Addr} {l : List (BitVec n)} {base m cap : Nat} {e : TypeId} (hl : l.length = m) (hm : 0 < m) (h : w.ownsRow base e 1 (.slice a m cap) m (cellsK k l)) :
    ∃ g C, a = some ⟨g, 0, none⟩ ∧ base ≤ g ∧ Blk w g C e ∧ m ≤ cap ∧ cap ≤ 9223372036854775807 ∧ ∀ i, (hi : i < m) → C[i]? = some (.int k (uv (l.getD i 0#n))) := by
  obtain ⟨_, ⟨hv, h0⟩ | ⟨g, cap2, cur, hv, hg, hblk, hcap, hmx, hsz, htake⟩⟩ := h
  · omega
  · simp only [Value.slice.injEq] at hv
    obtain ⟨rfl, _, rfl⟩ := hv
    have hblk : Blk w g cur e := hblk
    refine ⟨g, cur, rfl, hg, hblk, by omega, by unfold maxLen at hmx; omega, fun i hi => ?_⟩
    rw [Nat.mul_one] at htake
    have h1 := congrArg (fun z : List Value => z[i]?) htake
    simp only [List.getElem?_take, show i < m by omega, if_true, Array.getElem?_toList] at h1
    rw [h1]
    simp [cellsK, show i < l.length by omega]
theorem flip_ne (x : BitVec 64) (b : Nat) (hb : b < 64) : x ^^^ (1#64 <<< b) ≠ x := by
  intro h
  have h1 := congrArg (fun z => z.getLsbD b) h
  simp [BitVec.getLsbD_xor, hb] at h1

set_option maxHeartbeats 1000000 in
set_option linter.unusedSimpArgs false in
theorem recTurned_walk (st nx : BitVec 64) (gone : Bool) (s : ByteArray) (word bit : BitVec 8) (w0 : World) :
    Ret Try.prog 7 #[recV st nx gone s, .int .u8 (uv word), .int .u8 (uv bit)] w0 fun v w' => v = .bool true ∧ Below w0.heap.size w0 w' := by
  have hE := encode_calls st nx gone s
  have bel0 := Below.refl w0.heap.size w0
  unfold recV at hE ⊢
  refine ret_of (args := [_, _, _]) _ Try.func7 rfl Try.ntmps7 (by simp) ?_
  simp -implicitDefEqProofs [go_sem]
  generalize hw1 : World.alloc w0 _ = w1 at *
  obtain ⟨hB1, b1, sz1⟩ := new_facts hw1
  have bel1 := bel0.trans (b1.mono bel0.size)
  refine callE_of (alive_calls w1) ?_
  rintro v w2 ⟨rfl, b2⟩
  have bel2 := bel1.trans (b2.mono bel1.size)
  replace hB1 := hB1.next b2
  by_cases hs : (200 : Int) < s.size
  · simp -implicitDefEqProofs [go_sem, hB1.cell, hs]
    refine body_tmp 6 rfl ?_
    simp -implicitDefEqProofs [go_sem]
    exact bel2
  simp -implicitDefEqProofs [go_sem, hB1.cell, hs]
  refine callE_of (hE _) ?_
  rintro v w3 ⟨a3, c3, rfl, hin3, b3⟩
  have bel3 := bel2.trans (b3.mono bel2.size)
  replace hB1 := hB1.next b3
  cases hr : rightB st gone s
  · simp -implicitDefEqProofs [go_sem, hr]
    refine body_tmp 6 rfl ?_
    simp -implicitDefEqProofs [go_sem]
    exact bel3
  have hlen : (encM st nx gone s).length = 8 := by rw [encM, if_pos hr]; rfl
  have hinj := fun y1 y2 y3 y4 (h : rightB y1 y3 y4 = true) => enc_inj (nx := y2) (nx' := nx) h hr
  generalize hL : encM st nx gone s = L at *
  have hinfo : (Try.prog.info? 22).map (fun i => (i.zero, i.size, i.bytes)) = some (some (Value.int .u64 0), 1, 8) := by kernel_rfl
  obtain ⟨a4, c4, w4, hr4, hown, hgr⟩ := run_append1 (P := Try.prog) w3.heap.size (t := 25) (bytes := 8) (z := .int .u64 0) 25 (by kernel_rfl) hinfo rfl (World.ownsRow_nil w3 w3.heap.size 22 1) (a2 := a3) (c2 := c3) (m := L.length) (news := cellsK .u64 L) (cellsK_length) hin3.at_.src hin3.nil (fun u hu => cellsK_one u hu) (by omega) (by omega) (Nat.le_refl _)
  rw [List.nil_append, Nat.zero_add] at hown
  rw [Nat.zero_add] at hr4
  have b4 : Below w3.heap.size w3 w4 := (Below.refl _ _).grown hgr (Nat.le_refl _) (fun j hj => by cases hj)
  have bel4 := bel3.trans (b4.mono bel3.size)
  replace hB1 := hB1.next b4
  obtain ⟨g, C, rfl, hg, hBg, hc4, hm4, hC⟩ := owns_blk (l := L) rfl (by omega) hown
  obtain ⟨i, hi⟩ : ∃ i, i = idx (word % 8#8) := ⟨_, rfl⟩
  have hi8 : i < 8 := by rw [hi]; unfold idx; rw [BitVec.toNat_umod]; exact Nat.mod_lt _ (by decide)
  have hui : uv (word % 8#8) = (i : Int) := by rw [hi]; rfl
  have hbi : idx (bit % 64#8) < 64 := by unfold idx; rw [BitVec.toNat_umod]; exact Nat.mod_lt _ (by decide)
  have hui8 : (i : Int) < L.length := by omega
  have hgi := hBg.cell i
  rw [hC i (by omega)] at hgi
  have hfi := hBg.thaw i
  simp -implicitDefEqProofs [go_sem, hr, hr4, hui, hui8, hgi, hfi]
  have hBs := hBg.set i (.int .u64 (uv (L.getD i 0#64 ^^^ 1#64 <<< idx (bit % 64#8))))
  obtain ⟨M, hM⟩ : ∃ M, M = L.set i (L.getD i 0#64 ^^^ 1#64 <<< idx (bit % 64#8)) := ⟨_, rfl⟩
  have hMl : M.length = L.length := by rw [hM]; simp
  have hML : M ≠ L := by
    intro h
    have h1 := congrArg (fun z : List (BitVec 64) => z.getD i 0#64) (hM.symm.trans h)
    have hiL : i < L.length := by omega
    simp [hiL] at h1
    exact flip_ne _ _ hbi h1
  have b5 : Below w4.heap.size w4 w4 := Below.refl _ _
  have bel5 : Below w0.heap.size w0 (w4.setCell ⟨g, i, none⟩ (.int .u64 (uv (L.getD i 0#64 ^^^ 1#64 <<< idx (bit % 64#8))))) := bel4.setCell (by show w0.heap.size ≤ g; have := bel3.size; omega) _
  have hB15 : Blk (w4.setCell ⟨g, i, none⟩ (.int .u64 (uv (L.getD i 0#64 ^^^ 1#64 <<< idx (bit % 64#8))))) w0.heap.size _ _ := hB1.setOther (a := ⟨g, i, none⟩) (by show g ≠ w0.heap.size; have := b2.size; have := b3.size; omega) _
  have hinM : SlIn .u64 (w4.setCell ⟨g, i, none⟩ (.int .u64 (uv (L.getD i 0#64 ^^^ 1#64 <<< idx (bit % 64#8))))) (some ⟨g, 0, none⟩) M c4 := by
    refine ⟨slAt_blk hBs fun j hj => ?_, by omega, hm4, by simp⟩
    have hjL : j < L.length := by omega
    rw [Array.getElem?_setIfInBounds]
    have hCs : C.size > i := by
      have := hC i (by omega)
      rcases Nat.lt_or_ge i C.size with h | h
      · exact h
      · rw [Array.getElem?_eq_none h] at this; cases this
    by_cases h : i = j
    · subst h; rw [if_pos rfl, if_pos hCs]; subst hM; simp
    · rw [if_neg h, hC j hjL]; subst hM; simp [h, hjL]
  simp only [List.getD_eq_getElem?_getD] at *
  generalize w4.setCell ⟨g, i, none⟩ (.int .u64 (uv (L[i]?.getD 0#64 ^^^ 1#64 <<< idx (bit % 64#8)))) = w5 at *
  refine callE_of (decode_calls _ M L.length c4 w5 hMl hinM) ?_
  rintro v w6 ⟨rfl, b6⟩
  have bel6 := bel5.trans (b6.mono bel5.size)
  replace hB15 := hB15.next b6
  obtain ⟨y1, y2, y3, y4, hy, hyt, hyf⟩ := dec_form M
  rw [hy]
  unfold recV
  simp -implicitDefEqProofs [go_sem]
  generalize hw7 : World.alloc w6 _ = w7 at *
  obtain ⟨hB7, b7, sz7⟩ := new_facts hw7
  have bel7 := bel6.trans (b7.mono bel6.size)
  replace hB15 := hB15.next b7
  cases hok : okM M
  · obtain ⟨rfl, rfl, rfl, rfl⟩ := hyf hok
    simp -implicitDefEqProofs [go_sem, hB7.cell, hB15.cell]
    refine body_tmp 6 rfl ?_
    simp -implicitDefEqProofs [go_sem]
    exact bel7
  · obtain ⟨hyr, hye⟩ := hyt hok
    have hne : ¬ (y1 = st ∧ y2 = nx ∧ y3 = gone ∧ y4 = s) := by
      rintro ⟨rfl, rfl, rfl, rfl⟩
      exact hML (hye.symm.trans hL)
    simp -implicitDefEqProofs [go_sem, hB7.cell, hB15.cell]
    have hv : (!decide (y1 = st) || (!decide (y2 = nx) || (!decide (y3 = gone) || !decide (y4 = s)))) = true := by
      by_cases h1 : y1 = st
      · by_cases h2 : y2 = nx
        · by_cases h3 : y3 = gone
          · have h4 : ¬ y4 = s := fun h4 => hne ⟨h1, h2, h3, h4⟩
            simp [h4]
          · simp [h3]
        · simp [h2]
      · simp [h1]
    refine body_tmp 6 rfl ?_
    simp -implicitDefEqProofs [go_sem, hv]
    exact bel7
end Go.Proofs.Ytgdjnginljamoaa
