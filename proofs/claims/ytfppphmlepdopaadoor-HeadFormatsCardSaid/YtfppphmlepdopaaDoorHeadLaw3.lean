/- HeadTurned: its walk. -/
import Derived.Test.YtfppphmlepdopaaDoorHeadLaw1
import Derived.Test.YtfppphmlepdopaaDoorHeadTorn0
import Derived.Test.YtfppphmlepdopaaDoorBytes
import Derived.Test.YtfppphmlepdopaaDoorTwoN
namespace Go.Proofs.YtfppphmlepdopaaDoor
set_option linter.unusedVariables false
set_option linter.unusedSimpArgs false
open Go Go.RowKit

theorem umod_nat8 (x : BitVec 8) (m : BitVec 8) (hm : 0 < m.toNat) : ∃ n : Nat, uv (x % m) = n ∧ n < m.toNat := ⟨(x % m).toNat, rfl, by rw [BitVec.toNat_umod]; exact Nat.mod_lt _ hm⟩
namespace NM
/-- With a word of the first line turned. -/
theorem turned_open {D : Dv} (hok : D.Ok) (hu : D.Up) (hp : 0 < D.ls.length) (hof : (HM.of D.ls.length).2 = true) {q : Nat} (hq : q < 8) (y : BitVec 64) :
    ((D.format.1.store ((8 * q : Nat) : Int) (D.format.1.word (8 * q) ^^^ y)).1.openH = if y = 0#64 then ((HM.of D.ls.length).1, 0) else (HM.none4, 5)) ∧ (D.format.1.store ((8 * q : Nat) : Int) (D.format.1.word (8 * q) ^^^ y)).2 = 0 := by
  obtain ⟨hn1, hn2, hn3, _⟩ := HM.of_some hof
  have hwl : (HM.words (HM.of D.ls.length).1).length = 8 := by rw [hn3]; exact HM.words_len (by omega) (by omega)
  obtain ⟨f1, f2, f3, f4, f5, _⟩ := format_up hok hu hp hof
  generalize D.format.1 = E at *
  have ha : E.ask ((8 * q : Nat) : Int) 8 = 0 := ask_nat (e := 8) (by omega) f2.down (by unfold Dv.size; omega) (by omega)
  refine ⟨?_, by rw [store_err]; exact ha⟩
  have hlen : (E.store ((8 * q : Nat) : Int) (E.word (8 * q) ^^^ y)).1.ls.length = E.ls.length := step_len E (.store _ _)
  have hdn : (E.store ((8 * q : Nat) : Int) (E.word (8 * q) ^^^ y)).1.down = false := (f2.store _ _).down
  have hwd := fun x hx => store_word f3 (o := 8 * q) (E.word (8 * q) ^^^ y) ha (by omega) (by unfold Dv.size; omega) (x := x) hx
  rw [open_up (by omega) hdn, hlen, f4]
  have hall : wordsAt (E.store ((8 * q : Nat) : Int) (E.word (8 * q) ^^^ y)).1 0 8 = HM.words (HM.of D.ls.length).1 ↔ y = 0#64 := by
    rw [words_eq hwl]
    constructor
    · intro h
      have h1 := h q hq
      rw [hwd (8 * q) (by omega), if_pos rfl, f5 (8 * q) (by omega) (by unfold Dv.size; omega), show 8 * q / 8 = q by omega] at h1
      have h2 := congrArg (fun z => (HM.words (HM.of D.ls.length).1).getD q 0#64 ^^^ z) h1
      simpa [← BitVec.xor_assoc] using h2
    · rintro rfl i hi
      rw [hwd (8 * i) (by omega)]
      have h5 := f5 (8 * i) (by omega) (by unfold Dv.size; omega)
      rw [show 8 * i / 8 = i by omega] at h5
      split
      · rename_i e
        obtain rfl : i = q := by omega
        rw [BitVec.xor_zero, h5]
      · exact h5
  by_cases hy : y = 0#64
  · rw [if_pos hy, if_pos ⟨hof, hall.2 hy⟩]
  · rw [if_neg hy, if_neg (fun h => hy (hall.1 h.2))]
end NM
section
set_option linter.unusedSimpArgs false
set_option maxHeartbeats 4000000 in
theorem headTurned_walk (x z : BitVec 8) (y : BitVec 64) (w0 : World) (hF : Fours w0) : Ret Tryd.prog 7 #[.int .u8 (uv x), .int .u8 (uv z), .int .u64 (uv y)] w0 fun v w' => v = .bool true ∧ Below w0.heap.size w0 w' := by
  have bel0 := Below.refl w0.heap.size w0
  have hst : Tryd.prog.underlying 25 = _ := Tryd.underlying25
  obtain ⟨n, hn, hlt⟩ := umod_nat8 x 60#8 (by decide)
  replace hlt : n < 60 := hlt
  obtain ⟨c, hc⟩ : ∃ c : Nat, uv z = c := ⟨z.toNat, rfl⟩
  have hc2 : c < 256 := by have := z.isLt; have h : (z.toNat : Int) = c := hc; omega
  refine ret_of (args := [_, _, _]) _ Tryd.func7 rfl Tryd.ntmps7 (by simp) ?_
  simp -implicitDefEqProofs [go_sem]
  refine callE_of (alive_calls w0 hF) ?_
  rintro v w1 ⟨rfl, b1⟩
  have bel1 := bel0.trans (b1.mono bel0.size)
  have hwn := IntWalk.i64_in (n : Int) (by omega)
  have hwn1 := IntWalk.i64_in ((n : Int) + 19) (by omega)
  simp -implicitDefEqProofs [go_sem, hn, hwn, hwn1]
  have e19 : ((n : Int) + 19).toNat = n + 19 := by omega
  refine callE_of (newB ((n : Int) + 19) w1 (by unfold I64; omega)) ?_
  rintro v w2 ⟨b2, ⟨hno, rfl⟩ | ⟨_, p, F2, rfl, h2, hg2⟩⟩
  · omega
  rw [e19] at h2
  have bel2 := bel1.trans (b2.mono bel1.size)
  have hS2 : St w0 w2 p F2 (NM.dev0 (n + 19)) := ⟨h2, bel2, fun k hk => by have := hg2 k hk; have := bel1.size; omega⟩
  have hlen0 := dev0_len (n + 19)
  have hof : (HM.of (NM.dev0 (n + 19)).ls.length).2 = true := by rw [hlen0]; exact (HM.of_nat (by omega) (by omega)).1
  obtain ⟨f1, f2, f3, f4, f5, _⟩ := NM.format_up (NM.dev0_ok (n + 19) (by omega)) (NM.dev0_up (n + 19)) (by rw [hlen0]; omega) hof
  have ht := fun q hq => NM.turned_open (NM.dev0_ok (n + 19) (by omega)) (NM.dev0_up (n + 19)) (by rw [hlen0]; omega) hof (q := q) hq y
  simp -implicitDefEqProofs [go_sem]
  refine callE_of (format_calls w2 hS2 hF (by show 0 + 3000000 < 1099511627776; omega)) ?_
  rintro v w3 ⟨rfl, F3, h3, t3⟩
  have hS3 := hS2.step h3 t3
  rw [f1]
  have hsteps : (NM.dev0 (n + 19)).format.1.steps ≤ 0 + 100000 := NM.format_steps (D := NM.dev0 (n + 19)) (by rw [hlen0]; omega)
  have hEl : (NM.dev0 (n + 19)).format.1.ls.length = n + 19 := by rw [f4, hlen0]
  clear f4 f5
  generalize (NM.dev0 (n + 19)).format.1 = E at *
  have bel3 := hS3.bel
  obtain ⟨q, hq⟩ : ∃ q, q = c % 8 := ⟨_, rfl⟩
  have hq8 : q < 8 := by omega
  have hwc := IntWalk.i64_in (c : Int) (by omega)
  have htm : (c : Int).tmod 8 = (q : Int) := by rw [Int.tmod_eq_emod_of_nonneg (by omega), hq]; omega
  have htm' : (c : Int) % 8 = (q : Int) := by omega
  have hwq := IntWalk.i64_in (8 * (q : Int)) (by omega)
  have hwq' := IntWalk.i64_in (q : Int) (by omega)
  simp -implicitDefEqProofs [go_sem, ↓stShape (HM.of (NM.dev0 (n + 19)).ls.length).1, hc, hwc, htm, htm', hwq, hwq']
  generalize hw4 : World.alloc w3 _ = w4 at *
  obtain ⟨hB4, b4, sz4⟩ := new_facts hw4
  have bel4 := bel3.trans (b4.mono bel3.size)
  replace hS3 := hS3.next b4
  generalize (HM.of (NM.dev0 (n + 19)).ls.length).1 = sh at *
  clear hof f1 hlen0
  obtain ⟨ht1, ht2⟩ := ht q hq8
  have eq8 : ((8 * q : Nat) : Int) = 8 * (q : Int) := by omega
  rw [eq8] at ht1 ht2
  have hld : E.load (8 * (q : Int)) = (E.word (8 * q), 0) := by
    have := load_in (D := E) (by omega) (o := 8 * q) (by omega) (by unfold NM.Dv.size; omega)
    rw [eq8, if_neg (by rw [f2.down]; simp)] at this
    exact this
  refine callE_of (loadB (8 * (q : Int)) w4 hS3.dev (by unfold I64; omega)) ?_
  rintro v w5 ⟨rfl, rfl⟩
  rw [hld]
  simp -implicitDefEqProofs [go_sem]
  refine callE_of (storeB (8 * (q : Int)) (E.word (8 * q) ^^^ y) w5 hS3.dev (by unfold I64; omega) (by omega)) ?_
  rintro v w6 ⟨rfl, F6, h6, t6⟩
  have hS6 := hS3.step h6 t6
  rw [ht2]
  have hok6 := f3.store (8 * (q : Int)) (E.word (8 * q) ^^^ y)
  have hF6 := hF.below hS6.bel
  generalize (E.store (8 * (q : Int)) (E.word (8 * q) ^^^ y)).1 = G at *
  simp -implicitDefEqProofs [go_sem]
  refine callE_of (imageB w6 hS6.dev) ?_
  rintro v w7 ⟨a7, c7, rfl, in7, b7, n7⟩
  have hS7 := hS6.next b7
  have ap7 := apart_new hS6.dev in7 n7
  replace hF6 := hF6.below b7
  simp -implicitDefEqProofs [go_sem]
  refine callE_of (openH_calls w7 hS7.dev hF6) ?_
  rintro v w8 ⟨rfl, b8⟩
  have hS8 := hS7.next b8
  have ap8 := ap7.next b8
  have bel8 := hS8.bel
  have hlen7 := NM.image_len hS8.dev.ok
  rw [ht1]
  by_cases hy : y = 0#64
  · rw [if_pos hy]
    simp -implicitDefEqProofs [go_sem, ↓stShape sh, hy]
    generalize hw9 : World.alloc w8 _ = w9 at *
    obtain ⟨hB9, b9, sz9⟩ := new_facts hw9
    have bel9 := bel8.trans (b9.mono bel8.size)
    replace hS8 := hS8.next b9
    replace ap8 := ap8.next b9
    refine drawE_mix [.pure 0, .pure 1, .pure 2, .pure 3, .pure 4, .pure 5, .pure 6, .pure 7, .pure 8, .pure 9, .pure 10, .pure 11, .pure 12, .pure 13, .pure 14, .pure 17, .take 18, .run 15 [18], .run 16 [18], .pure 19, .pure 20, .pure 21] mixed (by decide +kernel) (by simp only [withOps, MStep.num, List.filterMap_cons, List.filterMap_nil, List.getElem?_cons_succ, List.getElem?_cons_zero, Option.map_some]; rfl) ?_
    have hd : Below w9.heap.size w9 w9.drew := (Below.refl _ _).drew
    replace hS8 := hS8.next hd
    replace ap8 := ap8.next hd
    generalize World.drew w9 = w10 at *
    simp -implicitDefEqProofs [go_sem, hy]
    refine onTake_of (fun w' => Below w10.heap.size w10 w') (.string (strB G.image)) (Below.refl _ _) (fun w' hw => by simp -implicitDefEqProofs [go_sem, img_str ap8.in_ hlen7.symm hw]) ?_
    simp -implicitDefEqProofs [go_sem, hy]
    refine callE_of (imageB w10 hS8.dev) ?_
    rintro v w11 ⟨a11, c11, rfl, in11, b11, n11⟩
    have hS11 := hS8.next b11
    refine ⟨.inr (by simp -implicitDefEqProofs [go_sem]; exact b11), ?_⟩
    simp -implicitDefEqProofs [go_sem, hy, img_str in11 hlen7.symm (Below.refl _ _)]
    refine body_tmp 6 rfl ?_
    simp -implicitDefEqProofs [go_sem]
    exact hS11.bel
  · have hy' : (y == 0#64) = false := beq_eq_false_iff_ne.2 hy
    rw [if_neg hy]
    simp -implicitDefEqProofs [go_sem, ↓stShape HM.none4, hy]
    generalize hw9 : World.alloc w8 _ = w9 at *
    obtain ⟨hB9, b9, sz9⟩ := new_facts hw9
    have bel9 := bel8.trans (b9.mono bel8.size)
    replace hS8 := hS8.next b9
    replace ap8 := ap8.next b9
    refine drawE_mix [.pure 0, .pure 1, .pure 2, .pure 3, .pure 4, .pure 5, .pure 6, .pure 7, .pure 8, .pure 9, .pure 10, .pure 11, .pure 12, .pure 13, .pure 14, .pure 17, .take 18, .run 15 [18], .run 16 [18], .pure 19, .pure 20, .pure 21] mixed (by decide +kernel) (by simp only [withOps, MStep.num, List.filterMap_cons, List.filterMap_nil, List.getElem?_cons_succ, List.getElem?_cons_zero, Option.map_some]; rfl) ?_
    have hd : Below w9.heap.size w9 w9.drew := (Below.refl _ _).drew
    replace hS8 := hS8.next hd
    replace ap8 := ap8.next hd
    generalize World.drew w9 = w10 at *
    simp -implicitDefEqProofs [go_sem, hy, hy']
    refine onTake_of (fun w' => Below w10.heap.size w10 w') (.string (strB G.image)) (Below.refl _ _) (fun w' hw => by simp -implicitDefEqProofs [go_sem, img_str ap8.in_ hlen7.symm hw]) ?_
    simp -implicitDefEqProofs [go_sem, hy, hy']
    refine callE_of (imageB w10 hS8.dev) ?_
    rintro v w11 ⟨a11, c11, rfl, in11, b11, n11⟩
    have hS11 := hS8.next b11
    refine ⟨.inr (by simp -implicitDefEqProofs [go_sem]; exact b11), ?_⟩
    simp -implicitDefEqProofs [go_sem, hy, hy', img_str in11 hlen7.symm (Below.refl _ _)]
    refine body_tmp 6 rfl ?_
    simp -implicitDefEqProofs [go_sem]
    exact hS11.bel
end
end Go.Proofs.YtfppphmlepdopaaDoor
