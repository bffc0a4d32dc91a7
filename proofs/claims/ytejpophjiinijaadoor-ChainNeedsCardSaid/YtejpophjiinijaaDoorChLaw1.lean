/- ChainSees, ChainNeeds, ChainPast: their walks. -/
import Derived.Test.YtejpophjiinijaaDoorChAlive
namespace Go.Proofs.YtejpophjiinijaaDoor
set_option linter.unusedVariables false
set_option linter.unusedSimpArgs false
set_option maxRecDepth 100000
open Go Go.RowKit

theorem LksIn.flat {w : World} {b off cap : Nat} {l : List LinkV} (h : ∀ i (h : i < l.length), ∀ j (hj : j < l[i].cs.size), w.cell? ⟨b, off + i * 5 + j, none⟩ = some l[i].cs[j]) : ∀ j u, (flat l)[j]? = some u → w.cell? ((⟨b, off, none⟩ : Addr).add j) = some u := by
  intro j u hu
  have hj : j < (Go.Proofs.YtejpophjiinijaaDoor.flat l).length := by
    rcases Nat.lt_or_ge j (Go.Proofs.YtejpophjiinijaaDoor.flat l).length with h | h
    · exact h
    · rw [List.getElem?_eq_none h] at hu; cases hu
  rw [flat_len] at hj
  have hi : j / 5 < l.length := by omega
  have h1 := h (j / 5) hi (j % 5) (by rw [LinkV.cs_size]; omega)
  have h2 := flat_get l (j / 5) hi (j % 5) (by omega)
  rw [show j / 5 * 5 + j % 5 = j by omega, hu, LinkV.cs_get _ _ (by omega)] at h2
  rw [Addr.add_lit, show off + j = off + j / 5 * 5 + j % 5 by omega, h1, h2]
/-- One link ahead of others, that came in. -/
theorem prep_in {t e : TypeId} (ht : Tryd.prog.underlying t = some (.slice e)) (hI : LkInfo e) {w : World} {a : Option Addr} {c : Nat} {l : List LinkV} (h : LksIn w a l c) (hl : l.length ≤ 1000000) (k : LinkV) :
    ∃ g c2 w2, (appendB #[t, t] t #[.slice (some ⟨w.heap.size, 0, none⟩) 1 1, .slice a l.length c]).run Tryd.prog (w.alloc (.cells k.cs e)) = .ok (.slice (some ⟨g, 0, none⟩) (l.length + 1) c2) w2 ∧
      LksIn w2 (some ⟨g, 0, none⟩) (k :: l) c2 ∧ Below w.heap.size w w2 := by
  have ha : (w.alloc (.cells k.cs e)).heap.size = w.heap.size + 1 := by simp
  obtain ⟨ti, tz, hti, htz, hts, htb, htc⟩ := hI.get
  have hlit := World.ownsRow_lit (base := w.heap.size) (e := e) (size := 5) w k.cs 1 (Nat.le_refl _) (by decide) (by rw [k.cs_size])
  have b1 : Below w.heap.size w (w.alloc (.cells k.cs e)) := (Below.refl _ _).alloc (Nat.le_refl _) _
  have fin : ∀ (news : List Value) (x : Addr), news = flat l → (∀ j u, news[j]? = some u → (w.alloc (.cells k.cs e)).cell? (x.add j) = some u) →
      ∃ g c2 w2, (appendB #[t, t] t #[.slice (some ⟨w.heap.size, 0, none⟩) 1 1, .slice (some x) l.length c]).run Tryd.prog (w.alloc (.cells k.cs e)) = .ok (.slice (some ⟨g, 0, none⟩) (l.length + 1) c2) w2 ∧ LksIn w2 (some ⟨g, 0, none⟩) (k :: l) c2 ∧ Below w.heap.size w w2 := fun news x hn hc => by
    obtain ⟨v', w', hr, ho, hg, _⟩ := run_append_own (P := Tryd.prog) (w.alloc (.cells k.cs e)) w.heap.size t t e ti tz 5 48 ht hti htz hts htb htc (by decide) _ _ _ hlit x l.length c news (by rw [hn, flat_len]) hc (by rw [hn]; exact flat_one_cell) (by unfold maxLen; omega) (by omega) (by omega)
    have b2 : Below w.heap.size w w' := b1.grown hg (by omega) (fun j hj => by simp [Value.ownBlock] at hj; omega)
    rw [Nat.add_comm 1 l.length] at ho
    rcases ho.2 with ⟨_, h0⟩ | ⟨g, cap', cur', rfl, _⟩
    · omega
    · rw [hn, ← flat_cons] at ho
      exact ⟨g, cap', w', hr, owns_lks (by simp) ho, b2⟩
  have hle := h.le
  cases a with
  | none =>
    have hc0 := h.nil rfl
    have hl0 : l.length = 0 := by omega
    have hnil : l = [] := List.eq_nil_of_length_eq_zero hl0
    subst hnil
    subst hc0
    refine ⟨w.heap.size, 1, w.alloc (.cells k.cs e), ?_, ?_, b1⟩
    · exact run_append_owned_none _ w.heap.size t t e ti 5 ht hti _ _ _ hlit
    · exact owns_lks (base := w.heap.size) (m := 1) rfl (by rw [flat_one]; exact hlit)
  | some x =>
    rcases h.at_ with hnil | ⟨b, off, hx, hc⟩
    · subst hnil
      exact fin [] x rfl (fun j u hu => by simp at hu)
    · obtain rfl := Option.some.inj hx
      refine fin (Go.Proofs.YtejpophjiinijaaDoor.flat l) _ rfl (LksIn.flat (cap := c) fun i hi j hj => ?_)
      have h1 := hc i hi j hj
      exact (b1.cell (p := ⟨_, _, none⟩) (World.block_lt_of_cell? w _ h1)).trans h1
section
set_option linter.unusedSimpArgs false
set_option maxHeartbeats 8000000
theorem chainSees_walk (a0 : Option Addr) (l : List LinkV) (cap : Nat) (at_ : BitVec 64) (w0 : World) (hF : Fours w0) (hT : Tabs w0) (hin : LksIn w0 a0 l cap) :
    Ret Tryd.prog 3 #[.slice a0 l.length cap, .int .u64 (uv at_)] w0 fun v w' => v = .bool true ∧ Below w0.heap.size w0 w' := by
  have bel0 := Below.refl w0.heap.size w0
  have hmax := hin.max
  have hle := hin.le
  refine ret_of (args := [_, _]) _ Tryd.func3 rfl Tryd.ntmps3 (by simp) ?_
  simp -implicitDefEqProofs [go_sem]
  refine callE_of (chAlive_calls w0 hF hT) ?_
  rintro v w1 ⟨rfl, bel1⟩
  by_cases h40 : 40 < l.length
  · have h40' : (40 : Int) < l.length := by omega
    simp -implicitDefEqProofs [go_sem, h40, h40']
    refine body_tmp 4 rfl ?_
    simp -implicitDefEqProofs [go_sem]
    exact bel1
  have h40' : ¬ (40 : Int) < l.length := by omega
  simp -implicitDefEqProofs [go_sem, h40, h40']
  refine wpE_loop (fun e' w' => ∃ k : Nat, k ≤ l.length ∧ e' 0 = .slice a0 l.length cap ∧ e' 1 = .int .u64 (uv at_) ∧ e' 16 = .slice a0 l.length cap ∧ e' 17 = .int .i64 l.length ∧ e' 18 = .int .i64 k ∧ Below w0.heap.size w0 w') (fun e' _ => l.length - (intOf (e' 18)).toNat) ?_ ?_
  · refine ⟨0, by omega, ?_⟩
    simp -implicitDefEqProofs [go_sem]
    exact bel1
  · clear bel1
    rintro e' w1 ⟨k, hk, g0, g1, g16, g17, g18, bel1⟩
    by_cases hlt : k < l.length
    · have hlt' : (k : Int) < l.length := by omega
      have hwk := IntWalk.i64_in ((k : Int) + 1) (by omega)
      obtain ⟨b, off, rfl, hcell⟩ := (hin.next bel1).get hlt
      have hld := ldCells (P := Tryd.prog) (w := w1) (g := b) (o := off + k * 5) (cs := l[k].cs) Tryd.underlying28 rfl lkI_ref.five rfl hcell
      have hst := stNew (P := Tryd.prog) (t := 28) (cs := l[k].cs) (C0 := #[.int .i64 0, .int .u64 0, .int .u64 0, .bool false, .string ⟨#[]⟩]) lkI_ref.five rfl (l[k].cs_one)
      simp -implicitDefEqProofs [go_sem, g0, g1, g16, g17, g18, hlt, hlt', ↓hld, ↓hst]
      generalize hw2 : World.alloc w1 _ = w2 at *
      obtain ⟨hB2, b2, sz2⟩ := new_facts hw2
      have bel2 := bel1.trans (b2.mono bel1.size)
      by_cases h1 : 100 < l[k].text.size
      · have h1' : (100 : Int) < l[k].text.size := by omega
        simp -implicitDefEqProofs [go_sem, g0, g1, g16, g17, g18, hB2.cell, LinkV.cs_4, h1, h1']
        refine body_tmp 4 rfl ?_
        simp -implicitDefEqProofs [go_sem]
        exact bel2
      · have h1' : ¬ (100 : Int) < l[k].text.size := by omega
        simp -implicitDefEqProofs [go_sem, g0, g1, g16, g17, g18, hB2.cell, LinkV.cs_4, h1, h1', hwk]
        refine goE_round ⟨k + 1, by omega, ?_⟩ ?_
        · simp -implicitDefEqProofs [go_sem, g0, g1, g16, g17]; exact bel2
        · simp -implicitDefEqProofs [go_sem, intOf, g18, hwk]; omega
    · have hn' : ¬ (k : Int) < l.length := by omega
      simp -implicitDefEqProofs [go_sem, g0, g1, g16, g17, g18, hlt, hn']
      refine callE_of (theirs_calls a0 l cap w1 (hin.next bel1) (by omega)) ?_
      rintro v w2 ⟨a2, c2, rfl, h2, b2, -⟩
      have bel2 := bel1.trans (b2.mono bel1.size)
      simp -implicitDefEqProofs [go_sem, g0, g1]
      refine callE_of (chSee_calls at_ h2) ?_
      rintro v w3 ⟨rfl, b3⟩
      have bel3 := bel2.trans (b3.mono bel2.size)
      simp -implicitDefEqProofs [go_sem, g0, g1]
      refine callE_of (rsee_calls at_ (hin.next bel3)) ?_
      rintro v w4 ⟨rfl, rfl⟩
      simp -implicitDefEqProofs [go_sem, g0, g1]
      refine callE_of (chFall_calls (hin.next bel3)) ?_
      rintro v w5 ⟨rfl, b5⟩
      have bel5 := bel3.trans (b5.mono bel3.size)
      by_cases hf : FallL l
      · simp -implicitDefEqProofs [go_sem, g0, g1, hf]
        refine callE_of (theirs_calls a0 l cap w5 (hin.next bel5) (by omega)) ?_
        rintro v w6 ⟨a6, c6, rfl, h6, b6, -⟩
        have bel6 := bel5.trans (b6.mono bel5.size)
        simp -implicitDefEqProofs [go_sem, g0, g1]
        refine callE_of (chNeed_calls at_ h6) ?_
        rintro v w7 ⟨rfl, b7⟩
        have bel7 := bel6.trans (b7.mono bel6.size)
        rw [need_eq at_ hf]
        simp -implicitDefEqProofs [go_sem, g0, g1]
        refine callE_of (rneed_calls at_ (hin.next bel7)) ?_
        rintro v w8 ⟨rfl, rfl⟩
        simp -implicitDefEqProofs [go_sem]
        refine body_tmp 4 rfl ?_
        simp -implicitDefEqProofs [go_sem]
        exact bel7
      · simp -implicitDefEqProofs [go_sem, g0, g1, hf]
        refine body_tmp 4 rfl ?_
        simp -implicitDefEqProofs [go_sem]
        exact bel5
theorem chainNeeds_walk (a0 : Option Addr) (l : List LinkV) (cap : Nat) (low high : BitVec 64) (w0 : World) (hF : Fours w0) (hT : Tabs w0) (hin : LksIn w0 a0 l cap) :
    Ret Tryd.prog 7 #[.slice a0 l.length cap, .int .u64 (uv low), .int .u64 (uv high)] w0 fun v w' => v = .bool true ∧ Below w0.heap.size w0 w' := by
  have bel0 := Below.refl w0.heap.size w0
  have hmax := hin.max
  have hle := hin.le
  refine ret_of (args := [_, _, _]) _ Tryd.func7 rfl Tryd.ntmps7 (by simp) ?_
  simp -implicitDefEqProofs [go_sem]
  refine callE_of (chAlive_calls w0 hF hT) ?_
  rintro v w1 ⟨rfl, bel1⟩
  by_cases h40 : 40 < l.length
  · have h40' : (40 : Int) < l.length := by omega
    simp -implicitDefEqProofs [go_sem, h40, h40']
    refine body_tmp 6 rfl ?_
    simp -implicitDefEqProofs [go_sem]
    exact bel1
  have h40' : ¬ (40 : Int) < l.length := by omega
  simp -implicitDefEqProofs [go_sem, h40, h40']
  refine callE_of (chFall_calls (hin.next bel1)) ?_
  rintro v w2 ⟨rfl, b2⟩
  have bel2 := bel1.trans (b2.mono bel1.size)
  by_cases hf : FallL l
  · by_cases hlh : high < low
    · simp -implicitDefEqProofs [go_sem, hf, hlh]
      refine body_tmp 6 rfl ?_
      simp -implicitDefEqProofs [go_sem]
      exact bel2
    · simp -implicitDefEqProofs [go_sem, hf, hlh]
      refine callE_of (theirs_calls a0 l cap w2 (hin.next bel2) (by omega)) ?_
      rintro v w3 ⟨a3, c3, rfl, h3, b3, -⟩
      have bel3 := bel2.trans (b3.mono bel2.size)
      simp -implicitDefEqProofs [go_sem]
      refine callE_of (chNeed_calls low h3) ?_
      rintro v w4 ⟨rfl, b4⟩
      have bel4 := bel3.trans (b4.mono bel3.size)
      rw [need_eq low hf]
      simp -implicitDefEqProofs [go_sem]
      refine callE_of (theirs_calls a0 l cap w4 (hin.next bel4) (by omega)) ?_
      rintro v w5 ⟨a5, c5, rfl, h5, b5, -⟩
      have bel5 := bel4.trans (b5.mono bel4.size)
      simp -implicitDefEqProofs [go_sem]
      refine callE_of (chNeed_calls high h5) ?_
      rintro v w6 ⟨rfl, b6⟩
      have bel6 := bel5.trans (b6.mono bel5.size)
      rw [need_eq high hf]
      have m1 : (needP high l : Int) ≤ needP low l := by
        have := need_mono (low := low) (high := high) (by rw [BitVec.lt_def] at hlh; omega) l
        omega
      have m2 : (needP low l : Int) ≤ l.length := by have := need_le low l; omega
      have m3 : (0 : Int) ≤ needP high l := by omega
      have m2' : needP low l ≤ l.length := by omega
      have m1' : needP high l ≤ needP low l := by omega
      rcases List.eq_nil_or_concat l with hnil | ⟨pre, z, hl2⟩
      · have hl0 : l.length = 0 := by rw [hnil]; rfl
        rw [hl0] at m2 m2'
        have hn0 : needP low l = 0 := by rw [hnil]; rfl
        have hn1 : needP high l = 0 := by rw [hnil]; rfl
        rw [hn0, hn1]
        simp -implicitDefEqProofs [go_sem, hl0]
        refine body_tmp 6 rfl ?_
        simp -implicitDefEqProofs [go_sem]
        exact bel6
      · have hlen : l.length = pre.length + 1 := by rw [hl2]; simp
        have hl0 : ((l.length : Int) == 0) = false := by rw [beq_eq_false_iff_ne]; omega
        have hidx : (l.length : Int) - 1 = (pre.length : Int) := by omega
        have hwi := IntWalk.i64_in (pre.length : Int) (by omega)
        have hplt : pre.length < l.length := by omega
        obtain ⟨b5, o5, rfl, -, cz, -⟩ := (hin.next bel6).cells (i := pre.length) hplt
        have hz : l[pre.length] = z := by simp [hl2]
        rw [hz] at cz
        by_cases hz0 : z.stamp = 0#64
        · have hzs : (z.stamp == 0#64) = true := by rw [beq_iff_eq]; exact hz0
          simp -implicitDefEqProofs [go_sem, m1, m1', m2, m2', m3, hl0, hidx, hwi, hplt, cz, hzs]
          refine body_tmp 6 rfl ?_
          simp -implicitDefEqProofs [go_sem]
          exact bel6
        · have hzs : (z.stamp == 0#64) = false := by rw [beq_eq_false_iff_ne]; exact hz0
          have hth := theirs_calls (some ⟨b5, o5, none⟩) l cap w6 (hin.next bel6) (by omega)
          simp -implicitDefEqProofs [go_sem, m1, m1', m2, m2', m3, hl0, hidx, hwi, hplt, cz, hzs]
          refine callE_of hth ?_
          rintro v w7 ⟨a7, c7, rfl, h7, b7, -⟩
          have bel7 := bel6.trans (b7.mono bel6.size)
          simp -implicitDefEqProofs [go_sem]
          refine callE_of (chNeed_calls 0#64 h7) ?_
          rintro v w8 ⟨rfl, b8⟩
          have bel8 := bel7.trans (b8.mono bel7.size)
          have hne : l ≠ [] := by rw [hl2]; simp
          have hgl : l.getLast hne = z := by simp [hl2]
          rw [need_eq 0#64 hf, need_last hne hf (by rw [hgl]; exact hz0)]
          simp -implicitDefEqProofs [go_sem]
          refine body_tmp 6 rfl ?_
          simp -implicitDefEqProofs [go_sem]
          exact bel8
  · simp -implicitDefEqProofs [go_sem, hf]
    refine body_tmp 6 rfl ?_
    simp -implicitDefEqProofs [go_sem]
    exact bel2
theorem chainPast_walk (a0 : Option Addr) (l : List LinkV) (cap : Nat) (r : LinkV) (at_ : BitVec 64) (w0 : World) (hF : Fours w0) (hT : Tabs w0) (hin : LksIn w0 a0 l cap) :
    Ret Tryd.prog 6 #[.slice a0 l.length cap, .agg r.rc, .int .u64 (uv at_)] w0 fun v w' => v = .bool true ∧ Below w0.heap.size w0 w' := by
  have bel0 := Below.refl w0.heap.size w0
  have hmax := hin.max
  have hle := hin.le
  refine ret_of (args := [_, _, _]) _ Tryd.func6 rfl Tryd.ntmps6 (by simp) ?_
  simp -implicitDefEqProofs [go_sem]
  generalize hw1 : World.alloc w0 _ = w1 at *
  obtain ⟨hB1, b1, sz1⟩ := new_facts hw1
  have bel1 := bel0.trans (b1.mono bel0.size)
  refine callE_of (chAlive_calls w1 (hF.next bel1) (hT.next bel1)) ?_
  rintro v w2 ⟨rfl, b2⟩
  have bel2 := bel1.trans (b2.mono bel1.size)
  have hB2 := hB1.next b2
  have hB3 := hB2.next (Below.refl _ _).drew
  have bel3 := bel2.drew
  have hin3 := hin.next bel3
  by_cases h40 : 40 < l.length
  · have h40' : (40 : Int) < l.length := by omega
    simp -implicitDefEqProofs [go_sem, h40, h40']
    refine drawE_mix [.pure 0, .pure 1, .pure 2, .pure 3, .pure 4, .run 5 [], .pure 6, .pure 7, .pure 8, .pure 9, .pure 10, .run 11 [], .pure 12, .pure 13, .pure 14, .pure 15, .pure 16, .pure 17, .pure 18, .pure 19, .pure 21, .pure 22, .pure 23, .pure 24, .take 20, .run 25 [20], .pure 26, .pure 27, .pure 28] mixed (by decide +kernel) (by simp only [withOps, MStep.num, List.filterMap_cons, List.filterMap_nil, List.getElem?_cons_succ, List.getElem?_cons_zero, Option.map_some]; rfl) ?_
    generalize World.drew w2 = w3 at *
    simp -implicitDefEqProofs [go_sem, h40']
    refine body_tmp 6 rfl ?_
    simp -implicitDefEqProofs [go_sem]
    exact bel3
  have h40' : ¬ (40 : Int) < l.length := by omega
  by_cases h100 : 100 < r.text.size
  · have h100' : (100 : Int) < r.text.size := by omega
    simp -implicitDefEqProofs [go_sem, h40, h40']
    refine drawE_mix [.pure 0, .pure 1, .pure 2, .pure 3, .pure 4, .run 5 [], .pure 6, .pure 7, .pure 8, .pure 9, .pure 10, .run 11 [], .pure 12, .pure 13, .pure 14, .pure 15, .pure 16, .pure 17, .pure 18, .pure 19, .pure 21, .pure 22, .pure 23, .pure 24, .take 20, .run 25 [20], .pure 26, .pure 27, .pure 28] mixed (by decide +kernel) (by simp only [withOps, MStep.num, List.filterMap_cons, List.filterMap_nil, List.getElem?_cons_succ, List.getElem?_cons_zero, Option.map_some]; rfl) ?_
    generalize World.drew w2 = w3 at *
    simp -implicitDefEqProofs [go_sem, h40', hB3.cell, LinkV.rc_3, h100, h100']
    refine body_tmp 6 rfl ?_
    simp -implicitDefEqProofs [go_sem]
    exact bel3
  have h100' : ¬ (100 : Int) < r.text.size := by omega
  simp -implicitDefEqProofs [go_sem, h40, h40']
  refine drawE_mix [.pure 0, .pure 1, .pure 2, .pure 3, .pure 4, .run 5 [], .pure 6, .pure 7, .pure 8, .pure 9, .pure 10, .run 11 [], .pure 12, .pure 13, .pure 14, .pure 15, .pure 16, .pure 17, .pure 18, .pure 19, .pure 21, .pure 22, .pure 23, .pure 24, .take 20, .run 25 [20], .pure 26, .pure 27, .pure 28] mixed (by decide +kernel) (by simp only [withOps, MStep.num, List.filterMap_cons, List.filterMap_nil, List.getElem?_cons_succ, List.getElem?_cons_zero, Option.map_some]; rfl) ?_
  generalize World.drew w2 = w3 at *
  simp -implicitDefEqProofs [go_sem, h40', hB3.cell, LinkV.rc_3, h100, h100']
  refine callE_of (chFall_calls hin3) ?_
  rintro v w4 ⟨rfl, b4⟩
  have bel4 := bel3.trans (b4.mono bel3.size)
  have hB4 := hB3.next b4
  have hin4 := hin.next bel4
  by_cases hf : FallL l
  · by_cases hl0 : 0 < l.length
    · have hl0' : (0 : Int) < l.length := by omega
      obtain ⟨b0, o0, rfl, -, c1, -⟩ := hin4.cells hl0
      simp -implicitDefEqProofs [go_sem, hf, hl0, hl0']
      refine onTake_of (fun w' => Below w4.heap.size w4 w') (.int .u64 (uv r.stamp)) (Below.refl _ _) (fun w' hw => by simp -implicitDefEqProofs [go_sem, (hB4.next hw).cell, LinkV.rc_0]) ?_
      by_cases hrs : r.stamp ≤ l[0].stamp
      · simp -implicitDefEqProofs [go_sem, c1, hrs]
        refine body_tmp 6 rfl ?_
        simp -implicitDefEqProofs [go_sem]
        exact bel4
      · have ldR := ldAll (P := Tryd.prog) hB4 Tryd.underlying26 rfl recI_ref (n := 4) r.rc_size
        obtain ⟨g, c2, w5, hr5, hin5, b5⟩ := prep_in (t := 22) (e := 28) Tryd.underlying22 lkI_ref hin4 (by omega) { r with off := 0 }
        have bel5 := bel4.trans (b5.mono bel4.size)
        have hB5 := hB4.next b5
        simp only [LinkV.cs] at hr5
        simp -implicitDefEqProofs [go_sem, c1, hrs, ↓ldR, LinkV.rc, hr5]
        have hth := theirs_calls (some ⟨g, 0, none⟩) ({ r with off := 0 } :: l) c2 w5 hin5 (by simp; omega)
        have hlc : ({ r with off := 0 } :: l : List LinkV).length = l.length + 1 := rfl
        rw [hlc] at hth
        refine callE_of hth ?_
        rintro v w6 ⟨a6, c6, rfl, hin6, b6, -⟩
        have bel6 := bel5.trans (b6.mono bel5.size)
        have hB6 := hB5.next b6
        simp -implicitDefEqProofs [go_sem]
        have hse := chSee_calls at_ hin6
        rw [hlc] at hse
        refine callE_of hse ?_
        rintro v w7 ⟨rfl, b7⟩
        have bel7 := bel6.trans (b7.mono bel6.size)
        have hB7 := hB6.next b7
        simp -implicitDefEqProofs [go_sem]
        refine callE_of (theirs_calls _ l cap w7 (hin.next bel7) (by omega)) ?_
        rintro v w8 ⟨a8, c8, rfl, hin8, b8, -⟩
        have bel8 := bel7.trans (b8.mono bel7.size)
        have hB8 := hB7.next b8
        simp -implicitDefEqProofs [go_sem]
        refine callE_of (chSee_calls at_ hin8) ?_
        rintro v w9 ⟨rfl, b9⟩
        have bel9 := bel8.trans (b9.mono bel8.size)
        have hB9 := hB8.next b9
        rw [see_more at_]
        by_cases hlt : at_ < r.stamp
        · have hlt' : at_.toNat < r.stamp.toNat := by rw [BitVec.lt_def] at hlt; exact hlt
          rw [if_pos hlt']
          simp -implicitDefEqProofs [go_sem, hB9.cell, LinkV.rc_0, LinkV.rc_2, LinkV.rc_3, hlt]
          refine body_tmp 6 rfl ?_
          simp -implicitDefEqProofs [go_sem]
          exact bel9
        · have hlt' : ¬ at_.toNat < r.stamp.toNat := by rw [BitVec.lt_def] at hlt; exact hlt
          rw [if_neg hlt']
          dsimp only
          cases hg : r.gone
          · simp -implicitDefEqProofs [go_sem, hB9.cell, LinkV.rc_0, LinkV.rc_2, LinkV.rc_3, hlt, hg]
            refine body_tmp 6 rfl ?_
            simp -implicitDefEqProofs [go_sem]
            exact bel9
          · rw [show (ByteArray.empty : ByteArray) = ⟨#[]⟩ from rfl]
            simp -implicitDefEqProofs [go_sem, hB9.cell, LinkV.rc_0, LinkV.rc_2, LinkV.rc_3, hlt, hg]
            refine body_tmp 6 rfl ?_
            simp -implicitDefEqProofs [go_sem]
            exact bel9
    · have hl0' : ¬ (0 : Int) < l.length := by omega
      have ldR := ldAll (P := Tryd.prog) hB4 Tryd.underlying26 rfl recI_ref (n := 4) r.rc_size
      obtain ⟨g, c2, w5, hr5, hin5, b5⟩ := prep_in (t := 22) (e := 28) Tryd.underlying22 lkI_ref hin4 (by omega) { r with off := 0 }
      have bel5 := bel4.trans (b5.mono bel4.size)
      have hB5 := hB4.next b5
      simp only [LinkV.cs] at hr5
      simp -implicitDefEqProofs [go_sem, hf, hl0, hl0', ↓ldR, LinkV.rc, hr5]
      have hth := theirs_calls (some ⟨g, 0, none⟩) ({ r with off := 0 } :: l) c2 w5 hin5 (by simp; omega)
      have hlc : ({ r with off := 0 } :: l : List LinkV).length = l.length + 1 := rfl
      rw [hlc] at hth
      refine callE_of hth ?_
      rintro v w6 ⟨a6, c6, rfl, hin6, b6, -⟩
      have bel6 := bel5.trans (b6.mono bel5.size)
      have hB6 := hB5.next b6
      simp -implicitDefEqProofs [go_sem]
      have hse := chSee_calls at_ hin6
      rw [hlc] at hse
      refine callE_of hse ?_
      rintro v w7 ⟨rfl, b7⟩
      have bel7 := bel6.trans (b7.mono bel6.size)
      have hB7 := hB6.next b7
      simp -implicitDefEqProofs [go_sem]
      refine callE_of (theirs_calls _ l cap w7 (hin.next bel7) (by omega)) ?_
      rintro v w8 ⟨a8, c8, rfl, hin8, b8, -⟩
      have bel8 := bel7.trans (b8.mono bel7.size)
      have hB8 := hB7.next b8
      simp -implicitDefEqProofs [go_sem]
      refine callE_of (chSee_calls at_ hin8) ?_
      rintro v w9 ⟨rfl, b9⟩
      have bel9 := bel8.trans (b9.mono bel8.size)
      have hB9 := hB8.next b9
      rw [see_more at_]
      by_cases hlt : at_ < r.stamp
      · have hlt' : at_.toNat < r.stamp.toNat := by rw [BitVec.lt_def] at hlt; exact hlt
        rw [if_pos hlt']
        simp -implicitDefEqProofs [go_sem, hB9.cell, LinkV.rc_0, LinkV.rc_2, LinkV.rc_3, hlt]
        refine body_tmp 6 rfl ?_
        simp -implicitDefEqProofs [go_sem]
        exact bel9
      · have hlt' : ¬ at_.toNat < r.stamp.toNat := by rw [BitVec.lt_def] at hlt; exact hlt
        rw [if_neg hlt']
        dsimp only
        cases hg : r.gone
        · simp -implicitDefEqProofs [go_sem, hB9.cell, LinkV.rc_0, LinkV.rc_2, LinkV.rc_3, hlt, hg]
          refine body_tmp 6 rfl ?_
          simp -implicitDefEqProofs [go_sem]
          exact bel9
        · rw [show (ByteArray.empty : ByteArray) = ⟨#[]⟩ from rfl]
          simp -implicitDefEqProofs [go_sem, hB9.cell, LinkV.rc_0, LinkV.rc_2, LinkV.rc_3, hlt, hg]
          refine body_tmp 6 rfl ?_
          simp -implicitDefEqProofs [go_sem]
          exact bel9
  · simp -implicitDefEqProofs [go_sem, hf]
    refine body_tmp 6 rfl ?_
    simp -implicitDefEqProofs [go_sem]
    exact bel4
end
end Go.Proofs.YtejpophjiinijaaDoor
