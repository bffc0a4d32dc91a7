/- The reference's shapes and words: walks. -/
import Derived.Test.YtfppphmlepdopaaDoorHeadWords
import Derived.Test.YtfppphmlepdopaaDoorPush
namespace Go.Proofs.YtfppphmlepdopaaDoor
set_option linter.unusedVariables false
set_option linter.unusedSimpArgs false
open Go Go.RowKit

theorem owns_next {base : Nat} {e : TypeId} {k : Nat} {v : Value} {n : Nat} {xs : List Value} {w w' : World} (h : w.ownsRow base e k v n xs) (hb : Below w.heap.size w w') : w'.ownsRow base e k v n xs := by
  obtain ⟨hl, h⟩ := h
  refine ⟨hl, ?_⟩
  rcases h with h | ⟨g, cap, cur, hv, hg, hblk, rest⟩
  · exact .inl h
  · have hB : Blk w g cur e := hblk
    exact .inr ⟨g, cap, cur, hv, hg, hB.next hb, rest⟩
section
set_option linter.unusedSimpArgs false
theorem up_calls (s : Nat) (w : World) (hs : s ≤ 1000000) : Ret Tryd.prog 32 #[.int .i64 s] w fun v w' => v = .int .i64 (((s + 7) / 8 : Nat) : Int) ∧ w' = w := by
  have h1 := IntWalk.i64_in ((s : Int) + 7) (by omega)
  have e3 : ((s : Int) + 7).tdiv 8 = ((s + 7) / 8 : Nat) := by rw [Int.tdiv_eq_ediv_of_nonneg (by omega)]; omega
  have h3 := IntWalk.i64_in (((s : Int) + 7) / 8) (by omega)
  refine ret_of (args := [_]) _ Tryd.func32 rfl Tryd.ntmps32 (by simp) ?_
  simp -implicitDefEqProofs [go_sem, h1, e3, h3]
  refine body_tmp 2 rfl ?_
  simp -implicitDefEqProofs [go_sem, h3]
set_option maxHeartbeats 1000000 in
theorem refOf_calls (n : Int) (w0 : World) (hn : I64 n) : Ret Tryd.prog 13 #[.int .i64 n] w0 fun v w' => v = .tuple #[.agg (shapeC (HM.of n).1), .bool (HM.of n).2] ∧ Below w0.heap.size w0 w' := by
  have bel0 := Below.refl w0.heap.size w0
  have hst : Tryd.prog.underlying 23 = _ := Tryd.underlying23
  refine ret_of (args := [_]) _ Tryd.func13 rfl Tryd.ntmps13 (by simp) ?_
  simp -implicitDefEqProofs [go_sem]
  generalize hw1 : World.alloc w0 _ = w1 at *
  obtain ⟨hB1, b1, sz1⟩ := new_facts hw1
  have bel1 := bel0.trans (b1.mono bel0.size)
  have hz := stAll (P := Tryd.prog) (cs := #[.int .i64 0, .int .i64 0, .int .i64 0, .int .i64 0]) hB1 rshapeI4 rfl (shapeC_one HM.none4)
  have hBz : Blk (w1.setRow w0.heap.size #[.int .i64 0, .int .i64 0, .int .i64 0, .int .i64 0]) w0.heap.size #[.int .i64 0, .int .i64 0, .int .i64 0, .int .i64 0] 23 := hB1.row _
  by_cases hbig : 1024 < n
  · simp -implicitDefEqProofs [go_sem, hbig, ↓hz]
    refine bodyCell 2 3 rfl (by simp -implicitDefEqProofs [go_sem]) hBz hst rfl rshapeI4 ?_
    have e : HM.of n = (HM.none4, false) := by unfold HM.of; rw [if_pos hbig]
    rw [e]
    simp -implicitDefEqProofs [go_sem, shapeC, HM.none4]
    exact Below.row bel1 (Nat.le_refl _) _
  · simp -implicitDefEqProofs [go_sem, hbig]
    refine wpE_loop (fun e' w' => w' = w1 ∧ ∃ k : Nat, (k = 0 ∨ (HM.need k : Int) ≤ n) ∧ e' 0 = .int .i64 n ∧ e' 2 = .pointer (some ⟨w0.heap.size, 0, none⟩) ∧ e' 4 = .int .i64 k) (fun e' _ => 64 - (intOf (e' 4)).toNat) ?_ ?_
    · refine ⟨rfl, 0, .inl rfl, ?_⟩
      simp -implicitDefEqProofs [go_sem]
    · rintro e' w' ⟨rfl, k, hk, g0, g2, g4⟩
      have hk63 : k ≤ 63 := by
        rcases hk with hk | hk
        · omega
        · unfold HM.need at hk; omega
      have kw1 := IntWalk.i64_in ((k : Int) + 1) (by omega)
      simp -implicitDefEqProofs [go_sem, g0, g2, g4, kw1]
      refine callE_of (up_calls (k + 1) w' (by omega)) ?_
      rintro v w3 ⟨rfl, rfl⟩
      have hw2 := IntWalk.i64_in (2 + ((k : Int) + 1 + 7) / 8) (by omega)
      have hw3 := IntWalk.i64_in (16 * ((k : Int) + 1)) (by omega)
      have hw4 := IntWalk.i64_in (2 + ((k : Int) + 1 + 7) / 8 + 16 * ((k : Int) + 1)) (by omega)
      have en : ((HM.need (k + 1) : Nat) : Int) = 2 + ((k : Int) + 1 + 7) / 8 + 16 * ((k : Int) + 1) := by unfold HM.need; omega
      by_cases hle : (HM.need (k + 1) : Int) ≤ n
      · have hle' := hle
        rw [en] at hle'
        simp -implicitDefEqProofs [go_sem, g0, g2, g4, kw1, hw2, hw3, hw4, hle']
        refine goE_round ⟨rfl, k + 1, .inr hle, ?_⟩ ?_
        · simp -implicitDefEqProofs [go_sem, g0, g2]
        · simp -implicitDefEqProofs [go_sem, intOf, g4]; omega
      · have hle' := hle
        rw [en] at hle'
        have hs : HM.slabs n = k := slabs_int (by omega) hk (by omega)
        by_cases h0 : k = 0
        · have h0' : (k : Int) < 1 := by omega
          have hz3 := hz
          simp -implicitDefEqProofs [go_sem, g0, g2, g4, kw1, hw2, hw3, hw4, hle', h0', ↓hz3]
          refine bodyCell 2 3 rfl (by simp -implicitDefEqProofs [go_sem, g2]) hBz hst rfl rshapeI4 ?_
          have e : HM.of n = (HM.none4, false) := by unfold HM.of; rw [if_neg hbig, if_pos (by omega)]
          rw [e]
          simp -implicitDefEqProofs [go_sem, shapeC, HM.none4]
          exact Below.row bel1 (Nat.le_refl _) _
        · have h0' : ¬ (k : Int) < 1 := by omega
          simp -implicitDefEqProofs [go_sem, g0, g2, g4, kw1, hw2, hw3, hw4, hle', h0, h0']
          refine callE_of (up_calls k w3 (by omega)) ?_
          rintro v w4 ⟨rfl, rfl⟩
          have h5 := IntWalk.i64_in (2 + ((k : Int) + 7) / 8) (by omega)
          have h6 := IntWalk.i64_in (64 * (2 + ((k : Int) + 7) / 8)) (by omega)
          have hz2 := stAll (P := Tryd.prog) (cs := #[.int .i64 n, .int .i64 k, .int .i64 128, .int .i64 (64 * (2 + ((k : Int) + 7) / 8))]) hB1 rshapeI4 rfl (shapeC_one ⟨n, k, 128, 64 * (2 + ((k : Int) + 7) / 8)⟩)
          have hBz2 := hB1.row #[.int .i64 n, .int .i64 k, .int .i64 128, .int .i64 (64 * (2 + ((k : Int) + 7) / 8))]
          simp -implicitDefEqProofs [go_sem, g0, g2, g4, h5, h6, ↓hz2]
          refine bodyCell 2 3 rfl (by simp -implicitDefEqProofs [go_sem, g2]) hBz2 hst rfl rshapeI4 ?_
          have e : HM.of n = (HM.shapeOf n, true) := by unfold HM.of; rw [if_neg hbig, if_neg (by omega)]
          rw [e]
          refine ⟨?_, Below.row bel1 (Nat.le_refl _) _⟩
          simp -implicitDefEqProofs [go_sem, shapeC, HM.shapeOf, hs]
theorem owns_ge {w : World} {base m cap k : Nat} {e : TypeId} {a : Option Addr} {xs : List Value} (h : w.ownsRow base e k (.slice a m cap) m xs) : ∀ y, a = some y → base ≤ y.block := by
  rintro y rfl
  obtain ⟨_, ⟨hv, h0⟩ | ⟨g, cap2, cur, hv, hg, _⟩⟩ := h
  · cases hv
  · simp only [Value.slice.injEq, Option.some.injEq] at hv
    rw [hv.1]; exact hg
theorem byteOf_mod (x : BitVec 64) (k : Nat) : (x >>> (8 * k) % 256#64).setWidth 8 = WM.byteOf x k := by
  unfold WM.byteOf
  apply BitVec.eq_of_toNat_eq
  simp only [BitVec.toNat_setWidth, BitVec.toNat_umod]
  rw [show (256#64).toNat = 256 from rfl, Nat.mod_mod_of_dvd _ (by decide)]
theorem shr_div (x : BitVec 64) (k : Nat) : x >>> (8 * k) / 256#64 = x >>> (8 * (k + 1)) := by
  apply BitVec.eq_of_toNat_eq
  simp only [BitVec.toNat_udiv, BitVec.toNat_ushiftRight, Nat.shiftRight_eq_div_pow]
  rw [show (256#64).toNat = 256 from rfl, Nat.div_div_eq_div_mul, show 8 * (k + 1) = 8 * k + 8 by omega, Nat.pow_add]
set_option maxHeartbeats 1000000 in
theorem refBytes_calls (a : Option Addr) (l : List (BitVec 64)) (n c : Nat) (w0 : World) (hn : l.length = n) (hl : n ≤ 1000) (hin : SlAt .u64 w0 a l) : Ret Tryd.prog 35 #[.slice a n c] w0 fun v w' =>
    ∃ a' c', v = .slice a' (8 * n) c' ∧ SlIn .u8 w' a' (HM.wbytes l) c' ∧ Below w0.heap.size w0 w' ∧ (∀ y, a' = some y → w0.heap.size ≤ y.block) := by
  subst hn
  have bel0 := Below.refl w0.heap.size w0
  refine ret_of (args := [_]) _ Tryd.func35 rfl Tryd.ntmps35 (by simp) ?_
  simp -implicitDefEqProofs [go_sem]
  refine wpE_loop (fun e' w' => ∃ (k len : Nat) (b : Option Addr) (d : Nat), k ≤ l.length ∧ e' 0 = .slice a l.length c ∧ e' 3 = .slice b len d ∧ e' 4 = .int .i64 k ∧ len = 8 * k ∧
    w'.ownsRow w0.heap.size 5 1 (.slice b len d) len (cellsK .u8 (HM.wbytes (l.take k))) ∧ Below w0.heap.size w0 w' ∧ w0.heap.size ≤ w'.heap.size) (fun e' _ => l.length - (intOf (e' 4)).toNat) ?_ ?_
  · refine ⟨0, 0, none, 0, by omega, ?_⟩
    simp -implicitDefEqProofs [go_sem, HM.wbytes]
    exact ⟨World.ownsRow_nil _ _ _ _, bel0⟩
  · rintro e' w1 ⟨k, len, b, d, hk, g0, g3, g4, hlen, hown, bel, hsz⟩
    by_cases hlt : k < l.length
    · have hlt' : (k : Int) < l.length := by omega
      have kw1 := IntWalk.i64_in ((k : Int) + 1) (by omega)
      obtain ⟨ba, oa, rfl, ga⟩ := (hin.below bel).cell hlt
      simp -implicitDefEqProofs [go_sem, g0, g3, g4, hlt, hlt', ga]
      refine wpE_loop (fun e'' w'' => ∃ (m len2 : Nat) (b : Option Addr) (d : Nat), m ≤ 8 ∧ e'' 0 = .slice (some ⟨ba, oa, none⟩) l.length c ∧ e'' 3 = .slice b len2 d ∧ e'' 4 = .int .i64 k ∧ e'' 5 = .int .u64 (uv (l[k] >>> (8 * m))) ∧ e'' 6 = .int .i64 m ∧ len2 = 8 * k + m ∧
        w''.ownsRow w0.heap.size 5 1 (.slice b len2 d) len2 (cellsK .u8 (HM.wbytes (l.take k) ++ (List.range m).map (WM.byteOf l[k]))) ∧ Below w0.heap.size w0 w'' ∧ w0.heap.size ≤ w''.heap.size) (fun e'' _ => 8 - (intOf (e'' 6)).toNat) ?_ ?_
      · refine ⟨0, len, b, d, by omega, ?_⟩
        simp -implicitDefEqProofs [go_sem, g0, g3, g4, hlen]
        subst hlen
        exact ⟨hown, bel, hsz⟩
      · rintro e'' w2 ⟨m, len2, b2, d2, hm, q0, q3, q4, q5, q6, hlen2, hown2, bel2, hsz2⟩
        by_cases hlt2 : m < 8
        · have hlt2' : (m : Int) < 8 := by omega
          have kw2 := IntWalk.i64_in ((m : Int) + 1) (by omega)
          obtain ⟨b3, d3, w3, hr3, hown3, bel3, hsz3⟩ := push_u8 w0.heap.size hown2 (by omega) hsz2 bel2 (WM.byteOf l[k] m)
          simp -implicitDefEqProofs [go_sem, q0, q3, q4, q5, q6, hlt2, hlt2', kw2, byteOf_mod, shr_div, hr3]
          refine goE_round ⟨m + 1, len2 + 1, b3, d3, by omega, ?_⟩ ?_
          · simp -implicitDefEqProofs [go_sem, q0, q4]
            refine ⟨by omega, ?_, bel3, hsz3⟩
            rw [← List.append_assoc]
            exact hown3
          · simp -implicitDefEqProofs [go_sem, intOf, q6]; omega
        · have hm' : m = 8 := by omega
          subst hm'
          simp -implicitDefEqProofs [go_sem, q0, q3, q4, q6, kw1]
          refine goE_round ⟨k + 1, len2, b2, d2, by omega, ?_⟩ ?_
          · simp -implicitDefEqProofs [go_sem, q0, q3]
            refine ⟨by omega, ?_, bel2, hsz2⟩
            rw [List.take_succ_eq_append_getElem hlt, HM.wbytes_snoc]
            exact hown2
          · simp -implicitDefEqProofs [go_sem, intOf, g4]; omega
    · have hk' : k = l.length := by omega
      subst hk'
      subst hlen
      rw [List.take_length] at hown
      simp -implicitDefEqProofs [go_sem, g0, g3, g4]
      refine body_tmp 2 rfl ?_
      simp -implicitDefEqProofs [go_sem]
      exact ⟨b, d, ⟨rfl, rfl⟩, owns_slIn (by rw [HM.wbytes_len]) hown, bel, owns_ge hown⟩
set_option maxHeartbeats 1000000 in
theorem refWords_calls (s : HM.Shape) (w0 : World) (hs : s.I) : Ret Tryd.prog 16 #[.agg (shapeC s)] w0 fun v w' => Below w0.heap.size w0 w' ∧
    ∃ a c, v = .slice a (HM.words s).length c ∧ SlIn .u64 w' a (HM.words s) c := by
  have bel0 := Below.refl w0.heap.size w0
  have hst : Tryd.prog.underlying 23 = _ := Tryd.underlying23
  refine ret_of (args := [_]) _ Tryd.func16 rfl Tryd.ntmps16 (by simp) ?_
  simp -implicitDefEqProofs [go_sem, shapeC_0]
  generalize hw1 : World.alloc w0 _ = w1 at *
  obtain ⟨hB1, b1, sz1⟩ := new_facts hw1
  have bel1 := bel0.trans (b1.mono bel0.size)
  refine callE_of (refOf_calls s.lines w1 hs.lines) ?_
  rintro v w2 ⟨rfl, b2⟩
  have bel2 := bel1.trans (b2.mono bel1.size)
  replace hB1 := hB1.next b2
  simp -implicitDefEqProofs [go_sem, ↓stRShape (HM.of s.lines).1]
  generalize hw3 : World.alloc w2 _ = w3 at *
  obtain ⟨hB3, b3, sz3⟩ := new_facts hw3
  have bel3 := bel2.trans (b3.mono bel2.size)
  replace hB1 := hB1.next b3
  have l1 := ldAll (P := Tryd.prog) hB1 hst rfl rshapeI4 rfl
  have l3 := ldAll (P := Tryd.prog) hB3 hst rfl rshapeI4 rfl
  cases hb : (HM.of s.lines).2
  · have hw : HM.words s = [] := by unfold HM.words; rw [if_neg]; rw [hb]; simp
    rw [hw]
    simp -implicitDefEqProofs [go_sem, ↓l1, ↓l3]
    refine body_tmp 2 rfl ?_
    simp -implicitDefEqProofs [go_sem]
    exact ⟨bel3, none, 0, ⟨rfl, rfl⟩, ⟨.inl rfl, Nat.le_refl _, by decide, fun _ => rfl⟩⟩
  generalize ht : (HM.of s.lines).1 = t at *
  by_cases hts : ¬ t = s
  · have hw : HM.words s = [] := HM.words_none (.inr (by rw [ht]; exact hts))
    rw [hw]
    simp -implicitDefEqProofs [go_sem, ↓l1, ↓l3, shapeC_0, shapeC_1, shapeC_2, shapeC_3, shape_ne, hts]
    refine body_tmp 2 rfl ?_
    simp -implicitDefEqProofs [go_sem]
    exact ⟨bel3, none, 0, ⟨rfl, rfl⟩, ⟨.inl rfl, Nat.le_refl _, by decide, fun _ => rfl⟩⟩
  replace hts : t = s := by simpa using hts
  subst hts
  have hw : HM.words t = HM.six t ++ [(Crc.next 0#32 (HM.wbytes (HM.six t))).setWidth 64, 0#64] := by unfold HM.words; rw [if_pos ⟨hb, ht⟩]
  simp -implicitDefEqProofs [go_sem, ↓l1, ↓l3, shapeC_0, shapeC_1, shapeC_2, shapeC_3, shape_ne, hB1.cell]
  have hown := World.ownsRow_lit (base := w0.heap.size) (e := 38) (size := 1) w3 #[.int .u64 465675318387, .int .u64 1, .int .u64 (uv (BitVec.ofInt 64 t.lines)), .int .u64 (uv (BitVec.ofInt 64 t.slabs)), .int .u64 (uv (BitVec.ofInt 64 t.table)), .int .u64 (uv (BitVec.ofInt 64 t.data))] 6 bel3.size (by decide) rfl
  generalize hw4 : World.alloc w3 _ = w4 at *
  obtain ⟨hB4, b4, sz4⟩ := new_facts hw4
  have bel4 := bel3.trans (b4.mono bel3.size)
  have hcells : (#[.int .u64 465675318387, .int .u64 1, .int .u64 (uv (BitVec.ofInt 64 t.lines)), .int .u64 (uv (BitVec.ofInt 64 t.slabs)), .int .u64 (uv (BitVec.ofInt 64 t.table)), .int .u64 (uv (BitVec.ofInt 64 t.data))] : Array Value).toList = cellsK .u64 (HM.six t) := rfl
  have hin4 : SlAt .u64 w4 (some ⟨w3.heap.size, 0, none⟩) (HM.six t) := slAt_blk hB4 (fun i hi => by
    have hi6 : i < 6 := by simpa [HM.six] using hi
    have : i = 0 ∨ i = 1 ∨ i = 2 ∨ i = 3 ∨ i = 4 ∨ i = 5 := by omega
    rcases this with rfl | rfl | rfl | rfl | rfl | rfl <;> rfl)
  refine callE_of (refBytes_calls _ (HM.six t) 6 6 w4 rfl (by omega) hin4) ?_
  rintro v w5 ⟨a5, c5, rfl, hin5, b5, _⟩
  have bel5 := bel4.trans (b5.mono bel4.size)
  simp -implicitDefEqProofs [go_sem]
  refine callE_of (refSum_calls a5 (HM.wbytes (HM.six t)) 48 c5 w5 (by rw [HM.wbytes_len]; rfl) (by omega) hin5.at_) ?_
  rintro v w6 ⟨rfl, rfl⟩
  simp -implicitDefEqProofs [go_sem]
  rw [hcells] at hown
  replace hown := owns_next hown b5
  have ha : (w6.alloc (.cells #[.int .u64 (uv ((Crc.next 0#32 (HM.wbytes (HM.six t))).setWidth 64)), .int .u64 0] 38)).heap.size = w6.heap.size + 1 := by simp
  have hsz6 := bel5.size
  obtain ⟨a2, c2, w7, hr7, hown7, hgr⟩ := run_append1 (P := Tryd.prog) w0.heap.size (t := 31) (bytes := 8) (z := .int .u64 0) 31 Tryd.underlying31 info_u64 rfl (hown.alloc (.cells #[.int .u64 (uv ((Crc.next 0#32 (HM.wbytes (HM.six t))).setWidth 64)), .int .u64 0] 38)) (a2 := some ⟨w6.heap.size, 0, none⟩) (c2 := 2) (m := 2) (news := [.int .u64 (uv ((Crc.next 0#32 (HM.wbytes (HM.six t))).setWidth 64)), .int .u64 0]) rfl
    (.inr ⟨_, rfl, fun j u hu => by rw [Addr.add_lit, Nat.zero_add, (Blk.new _ _ _).cell]; simpa using hu⟩) (by simp) (by simp [Value.oneCell']) (by omega) (by omega) (by omega)
  have hb7 := (bel5.alloc hsz6 (.cells #[.int .u64 (uv ((Crc.next 0#32 (HM.wbytes (HM.six t))).setWidth 64)), .int .u64 0] 38)).grown hgr (by omega) (fun j hj => (hown.lt j hj).1)
  have ec : cellsK .u64 (HM.six t) ++ [.int .u64 (uv ((Crc.next 0#32 (HM.wbytes (HM.six t))).setWidth 64)), .int .u64 0] = cellsK .u64 (HM.words t) := by
    rw [hw, cellsK_append]; rfl
  rw [ec] at hown7
  simp -implicitDefEqProofs [go_sem, hr7]
  refine body_tmp 2 rfl ?_
  have hl8 : (HM.words t).length = 8 := by rw [hw]; rfl
  simp -implicitDefEqProofs [go_sem, hl8]
  exact ⟨hb7, a2, c2, ⟨rfl, rfl⟩, owns_slIn hl8 hown7⟩
end
end Go.Proofs.YtfppphmlepdopaaDoor
