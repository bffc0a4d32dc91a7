/- HeadFormats: its walk. -/
import Derived.Test.YtfppphmlepdopaaDoorHeadRef2
import Derived.Test.YtfppphmlepdopaaDoorHeadLaw3
namespace Go.Proofs.YtfppphmlepdopaaDoor
set_option linter.unusedVariables false
set_option linter.unusedSimpArgs false
open Go Go.RowKit

namespace NM
open WM
/-- The bytes, where the words are the document's. -/
theorem image_format {E : Dv} {n : Nat} (hok : E.Ok) (hl : E.ls.length = n) (hof : (HM.of n).2 = true) (hw : ∀ x, x % 8 = 0 → x < E.size → E.word x = (HM.words (HM.of n).1).getD (x / 8) 0#64) : E.image = HM.imageR (HM.of n).1 := by
  obtain ⟨hn1, hn2, hn3, _⟩ := HM.of_some hof
  have hwl : (HM.words (HM.of n).1).length = 8 := by rw [hn3]; exact HM.words_len (by omega) (by omega)
  have hlines : (HM.of n).1.lines = n := by rw [hn3]; rfl
  have hsz : E.size = 64 * n := by unfold Dv.size; rw [hl]
  have h1 := image_len hok
  have h2 : (HM.imageR (HM.of n).1).length = 64 * n := by
    unfold HM.imageR
    rw [List.length_append, HM.wbytes_len, hwl, List.length_replicate, hlines]; omega
  apply List.ext_getElem
  · omega
  · intro j hj1 hj2
    have hj : j < E.size := by omega
    have h3 := image_byte hok hj
    rw [hw (8 * (j / 8)) (by omega) (by omega), show 8 * (j / 8) / 8 = j / 8 by omega] at h3
    have e1 : E.image[j] = E.image.getD j 0#8 := by simp [List.getD, hj1]
    have e2 : (HM.imageR (HM.of n).1)[j] = (HM.imageR (HM.of n).1).getD j 0#8 := by simp [List.getD, hj2]
    rw [e1, e2, h3]
    unfold HM.imageR
    rw [List.getD_eq_getElem?_getD (l := HM.wbytes _ ++ _), List.getElem?_append, HM.wbytes_len, hwl]
    by_cases h64 : j < 8 * 8
    · rw [if_pos h64, ← List.getD_eq_getElem?_getD, HM.wbytes_getD _ _ (by omega)]
    · rw [if_neg h64, List.getD_eq_getElem?_getD, List.getElem?_eq_none (by omega), List.getElem?_replicate]
      have hz : WM.byteOf 0#64 (j % 8) = 0#8 := by unfold WM.byteOf; simp
      split <;> exact hz
/-- A crash changes no word of a line that has one content alone. -/
theorem crash_word {E : Dv} (ps : List (BitVec 8)) (hc : ∀ i, i < E.ls.length → (E.ln i).chg = []) {x : Nat} (hx : x < E.size) : (E.crash ps).word x = E.word x := by
  unfold Dv.word
  have hi : x / 64 < E.ls.length := by unfold Dv.size at hx; omega
  rw [crash_same ps hi (hc _ hi)]
theorem open_words {E : Dv} {n : Nat} (hl : E.ls.length = n) (hd : E.down = false) (hof : (HM.of n).2 = true) (hw : ∀ x, x % 8 = 0 → x < E.size → E.word x = (HM.words (HM.of n).1).getD (x / 8) 0#64) : E.openH = ((HM.of n).1, 0) := by
  obtain ⟨hn1, hn2, hn3, _⟩ := HM.of_some hof
  have hwl : (HM.words (HM.of n).1).length = 8 := by rw [hn3]; exact HM.words_len (by omega) (by omega)
  rw [open_up (by omega) hd, hl, if_pos]
  refine ⟨hof, (words_eq hwl).2 fun i hi => ?_⟩
  rw [hw (8 * i) (by omega) (by unfold Dv.size; omega)]
  congr 1; omega
end NM
section
set_option linter.unusedSimpArgs false
set_option maxHeartbeats 4000000 in
theorem headFormats_walk (x : BitVec 8) (al : Option Addr) (l : List (BitVec 64)) (cl : Nat) (ap : Option Addr) (ps : List (BitVec 8)) (cp : Nat) (w0 : World) (hF : Fours w0) (hl : SlIn .u64 w0 al l cl) (hp : SlIn .u8 w0 ap ps cp) :
    Ret Tryd.prog 9 #[.int .u8 (uv x), .slice al l.length cl, .slice ap ps.length cp] w0 fun v w' => v = .bool true ∧ Below w0.heap.size w0 w' := by
  have bel0 := Below.refl w0.heap.size w0
  have hst : Tryd.prog.underlying 25 = _ := Tryd.underlying25
  have hrst : Tryd.prog.underlying 23 = _ := Tryd.underlying23
  obtain ⟨n0, hn, hlt⟩ := umod_nat8 x 60#8 (by decide)
  replace hlt : n0 < 60 := hlt
  have hle := hl.le
  have hmx := hl.max
  have hle2 := hp.le
  have hmx2 := hp.max
  have hW := hF
  refine ret_of (args := [_, _, _]) _ Tryd.func9 rfl Tryd.ntmps9 (by simp) ?_
  simp -implicitDefEqProofs [go_sem]
  refine callE_of (alive_calls w0 hF) ?_
  rintro v w1 ⟨rfl, b1⟩
  have bel1 := bel0.trans (b1.mono bel0.size)
  by_cases hb1 : (60 : Int) < l.length
  · simp -implicitDefEqProofs [go_sem, hb1]
    refine body_tmp 6 rfl ?_
    simp -implicitDefEqProofs [go_sem]
    exact bel1
  by_cases hb2 : (300 : Int) < ps.length
  · simp -implicitDefEqProofs [go_sem, hb1, hb2]
    refine body_tmp 6 rfl ?_
    simp -implicitDefEqProofs [go_sem]
    exact bel1
  have hwn := IntWalk.i64_in (n0 : Int) (by omega)
  have hwn1 := IntWalk.i64_in ((n0 : Int) + 1) (by omega)
  obtain ⟨n, hnn⟩ : ∃ n, n = n0 + 1 := ⟨_, rfl⟩
  have en : (n0 : Int) + 1 = (n : Int) := by omega
  rw [en] at hwn1
  simp -implicitDefEqProofs [go_sem, hb1, hb2, hn, hwn, hwn1, en]
  refine callE_of (newB (n : Int) w1 (by unfold I64; omega)) ?_
  rintro v w2 ⟨b2, ⟨hno, rfl⟩ | ⟨_, p, F2, rfl, h2, hg2⟩⟩
  · omega
  rw [Int.toNat_natCast] at h2
  have bel2 := bel1.trans (b2.mono bel1.size)
  have hS2 : St w0 w2 p F2 (NM.dev0 n) := ⟨h2, bel2, fun k hk => by have := hg2 k hk; have := bel1.size; omega⟩
  simp -implicitDefEqProofs [go_sem]
  refine wpE_loop (fun e' w' => ∃ (k : Nat) (F : Nat → Prop) (D : NM.Dv), k ≤ l.length ∧ e' 2 = .slice ap ps.length cp ∧ e' 7 = .int .i64 n ∧ e' 8 = .pointer (some ⟨p, 0, none⟩) ∧ e' 35 = .slice al l.length cl ∧ e' 36 = .int .i64 l.length ∧ e' 37 = .int .i64 k ∧
    St w0 w' p F D ∧ D.Up ∧ D.ls.length = n ∧ D.steps ≤ k) (fun e' _ => l.length - (intOf (e' 37)).toNat) ?_ ?_
  · refine ⟨0, F2, NM.dev0 n, by omega, ?_, ?_, ?_, ?_, ?_, ?_, hS2, NM.dev0_up n, dev0_len n, Nat.le_refl _⟩ <;> simp -implicitDefEqProofs [go_sem]
  · rintro e' w3 ⟨k, F, D, hk, g2, g7, g8, g35, g36, g37, hS3, hu, hDl, hst3⟩
    by_cases hlt2 : k < l.length
    · have hlt2' : (k : Int) < l.length := by omega
      have kw1 := IntWalk.i64_in ((k : Int) + 1) (by omega)
      have kw7 := IntWalk.i64_in ((k : Int) * 7) (by omega)
      have kw8 := IntWalk.i64_in (8 * (n : Int)) (by omega)
      obtain ⟨q, hq⟩ : ∃ q, q = k * 7 % (8 * n) := ⟨_, rfl⟩
      have hqlt : q < 8 * n := by rw [hq]; exact Nat.mod_lt _ (by omega)
      have hq' : ((k : Int) * 7) % (8 * (n : Int)) = (q : Int) := by rw [hq]; push_cast; rfl
      have hqt : ((k : Int) * 7).tmod (8 * (n : Int)) = (q : Int) := by rw [Int.tmod_eq_emod_of_nonneg (by omega)]; exact hq'
      have hn0 : ((8 * (n : Int)) == 0) = false := by rw [beq_eq_false_iff_ne]; omega
      have hn0' : ¬ 8 * (n : Int) = 0 := by omega
      have kq := IntWalk.i64_in (q : Int) (by omega)
      have kq8 := IntWalk.i64_in (8 * (q : Int)) (by omega)
      obtain ⟨ba, oa, rfl, ga⟩ := (hl.at_.below hS3.bel).cell hlt2
      simp -implicitDefEqProofs [go_sem, g2, g7, g8, g35, g36, g37, hlt2, hlt2', ga, kw7, kw8, hq', hqt, hn0, hn0', kq, kq8]
      refine callE_of (storeB (8 * (q : Int)) l[k] w3 hS3.dev (by unfold I64; omega) (by omega)) ?_
      rintro v w4 ⟨rfl, F4, h4, t4⟩
      have hS4 := hS3.step h4 t4
      simp -implicitDefEqProofs [go_sem, g2, g7, g8, g35, g36, g37, kw1]
      refine goE_round ⟨k + 1, F4, _, by omega, ?_, ?_, ?_, ?_, ?_, ?_, hS4, hu.store _ _, by rw [NM.store_len]; exact hDl, by have := store_steps D (8 * (q : Int)) l[k]; omega⟩ ?_
      · simp -implicitDefEqProofs [go_sem, g2]
      · simp -implicitDefEqProofs [go_sem, g7]
      · simp -implicitDefEqProofs [go_sem, g8]
      · simp -implicitDefEqProofs [go_sem, g35]
      · simp -implicitDefEqProofs [go_sem, g36]
      · simp -implicitDefEqProofs [go_sem]
      · simp -implicitDefEqProofs [go_sem, intOf, g37]; omega
    · have hlt2' : ¬ (k : Int) < l.length := by omega
      have bel3 := hS3.bel
      have hFlt := hS3.dev.lt
      simp -implicitDefEqProofs [go_sem, g2, g7, g8, g35, g36, g37, hlt2']
      refine callE_of (refOf_calls (n : Int) w3 (by unfold I64; omega)) ?_
      rintro v w4 ⟨rfl, b4⟩
      have bel4 := bel3.trans (b4.mono bel3.size)
      replace hS3 := hS3.next b4
      simp -implicitDefEqProofs [go_sem, g2, g7, g8, ↓stRShape (HM.of (n : Int)).1]
      generalize hw5 : World.alloc w4 _ = w5 at *
      obtain ⟨hB5, b5, sz5⟩ := new_facts hw5
      have bel5 := bel4.trans (b5.mono bel4.size)
      replace hS3 := hS3.next b5
      refine callE_of (format_calls w5 hS3 hW (by omega)) ?_
      rintro v w6 ⟨rfl, F6, h6, t6⟩
      have hnF : ¬ F w4.heap.size := fun hf => by have h1 := hFlt _ hf; have h2 := b4.size; omega
      have hS6 := hS3.step h6 t6
      have bel6 := hS6.bel
      replace hB5 := hB5.turn t6 hnF
      have hnF6 : ¬ F6 w4.heap.size := fun hf => by
        rcases t6.new _ hf with h | h
        · exact hnF h
        · have := sz5; omega
      cases hof : (HM.of (n : Int)).2
      · rw [NM.format_none (by rw [hDl]; exact hof)]
        simp -implicitDefEqProofs [go_sem, g2, g7, g8, hof, ↓stShape HM.none4]
        generalize hw7 : World.alloc w6 _ = w7 at *
        obtain ⟨hB7, b7, sz7⟩ := new_facts hw7
        have bel7 := bel6.trans (b7.mono bel6.size)
        simp -implicitDefEqProofs [go_sem, hB7.cell, shapeC_0, shapeC_1, shapeC_2, shapeC_3, HM.none4]
        refine body_tmp 6 rfl ?_
        simp -implicitDefEqProofs [go_sem]
        exact bel7
      · obtain ⟨f1, f2, f3, f4, f5, f6⟩ := NM.format_up hS3.dev.ok hu (by omega) (by rw [hDl]; exact hof)
        have hfs := NM.format_steps (D := D) (by omega)
        rw [hDl] at f1 f5
        have f5' := fun x h1 (h2 : x < D.format.1.size) => f5 x h1 (by unfold NM.Dv.size at h2 ⊢; omega)
        have hsh := shape_eq (HM.of (n : Int)).1 (HM.of (n : Int)).1
        rw [decide_eq_true rfl] at hsh
        have hsn := shape_ne (HM.of (n : Int)).1 (HM.of (n : Int)).1
        rw [decide_eq_true rfl] at hsn
        rw [f1]
        rw [hDl] at f4
        have him := NM.image_format f3 f4 hof f5'
        generalize D.format.1 = E at *
        obtain ⟨s, hs⟩ : ∃ s, s = (HM.of (n : Int)).1 := ⟨_, rfl⟩
        have hRI := fun w => refImage_calls n w hof
        rw [← hs] at hB5 him hsh hsn hRI ⊢
        simp -implicitDefEqProofs [go_sem, g2, g7, g8, hof, ↓stShape s]
        generalize hw7 : World.alloc w6 _ = w7 at *
        obtain ⟨hB7, b7, sz7⟩ := new_facts hw7
        have bel7 := bel6.trans (b7.mono bel6.size)
        replace hS6 := hS6.next b7
        replace hB5 := hB5.next b7
        have hEsz : E.size = 64 * n := by unfold NM.Dv.size; omega
        have himl := NM.image_len hS6.dev.ok
        refine drawE_mix [.pure 0, .pure 1, .pure 2, .take 3, .run 4 [3], .pure 5, .pure 6, .pure 7, .pure 8, .take 11, .run 9 [11], .take 10, .run 12 [10], .run 13 [10], .pure 14, .pure 15] mixed (by decide +kernel) (by simp only [withOps, MStep.num, List.filterMap_cons, List.filterMap_nil, List.getElem?_cons_succ, List.getElem?_cons_zero, Option.map_some]; rfl) ?_
        have bd : Below w7.heap.size w7 w7.drew := (Below.refl _ _).drew
        have bel8 := bel7.drew
        replace hB5 := hB5.next bd
        replace hB7 := hB7.next bd
        replace hS6 := hS6.next bd
        generalize World.drew w7 = w8 at *
        simp -implicitDefEqProofs [go_sem, g2, g7, g8]
        refine onTake_of (fun w' => Below w8.heap.size w8 w') (.agg (shapeC s)) (Below.refl _ _) (fun w' hw => by simp -implicitDefEqProofs [go_sem, (hB7.next hw).cell, shapeC]) ?_
        simp -implicitDefEqProofs [go_sem, g2, g7, g8, hB5.cell, shapeC_0, shapeC_1, shapeC_2, shapeC_3, hsn]
        refine onTake_of (fun w' => Below w8.heap.size w8 w') (.agg (shapeC s)) (Below.refl _ _) (fun w' hw => by simp -implicitDefEqProofs [go_sem, (hB5.next hw).cell, shapeC]) ?_
        simp -implicitDefEqProofs [go_sem, g2, g7, g8]
        refine callE_of (imageB w8 hS6.dev) ?_
        rintro v w9 ⟨a9, c9, rfl, in9, b9, n9⟩
        refine ⟨.inr (by simp -implicitDefEqProofs [go_sem]; exact b9), ?_⟩
        simp -implicitDefEqProofs [go_sem]
        refine onTake_of (fun w' => Below w9.heap.size w9 w') (.string (strB E.image)) (Below.refl _ _) (fun w' hw => by simp -implicitDefEqProofs [go_sem, img_str in9 himl.symm hw]) ?_
        simp -implicitDefEqProofs [go_sem]
        refine callE_of (hRI w9) ?_
        rintro v w10 ⟨a10, c10, rfl, in10, l10, b10⟩
        refine ⟨.inr (by simp -implicitDefEqProofs [go_sem]; exact b10), ?_⟩
        simp -implicitDefEqProofs [go_sem, g2, g7, g8, img_str in10 l10.symm (Below.refl _ _), him]
        have b8_10 : Below w8.heap.size w8 w10 := b9.trans (b10.mono b9.size)
        have bel10 := bel8.trans (b8_10.mono bel8.size)
        replace hB5 := hB5.next b8_10
        replace hB7 := hB7.next b8_10
        replace hS6 := hS6.next b8_10
        refine callE_of (crashB ap cp ps w10 hS6.dev (hp.below bel10) (sepIn hp (fun k hk => hS6.ge k hk)) (by omega)) ?_
        rintro v w11 ⟨rfl, F11, h11, t11⟩
        have hS11 := hS6.step h11 t11
        have bel11 := hS11.bel
        replace hB5 := hB5.turn t11 hnF6
        replace hB7 := hB7.turn t11 (fun hf => by have := h6.lt _ hf; omega)
        have hGl : (E.crash ps).ls.length = n := by rw [NM.crash_len]; exact f4
        have hGsz : (E.crash ps).size = E.size := by unfold NM.Dv.size; rw [NM.crash_len]
        have hGw := fun x h1 (h2 : x < (E.crash ps).size) => (NM.crash_word ps (fun i hi => f6 i (by omega)) (x := x) (by omega)).trans (f5' x h1 (by omega))
        have hGu := NM.Dv.Up.crash (D := E) (by omega) ps
        have hGo := NM.open_words hGl hGu.down hof hGw
        have hGi := NM.image_format hS11.dev.ok hGl hof hGw
        have hGm := NM.image_len hS11.dev.ok
        have hF11 := hW.below bel11
        rw [← hs] at hGo hGi
        generalize E.crash ps = G at *
        simp -implicitDefEqProofs [go_sem, g2, g7, g8]
        refine callE_of (openH_calls w11 hS11.dev hF11) ?_
        rintro v w12 ⟨rfl, b12⟩
        have bel12 := bel11.trans (b12.mono bel11.size)
        replace hS11 := hS11.next b12
        replace hB5 := hB5.next b12
        replace hB7 := hB7.next b12
        rw [hGo]
        simp -implicitDefEqProofs [go_sem, g2, g7, g8, ↓stShape s]
        generalize hw13 : World.alloc w12 _ = w13 at *
        obtain ⟨hB13, b13, sz13⟩ := new_facts hw13
        have bel13 := bel12.trans (b13.mono bel12.size)
        replace hS11 := hS11.next b13
        replace hB5 := hB5.next b13
        replace hB7 := hB7.next b13
        refine drawE_mix [.pure 0, .pure 1, .pure 2, .take 3, .run 4 [3], .pure 5, .pure 6, .pure 7, .pure 8, .take 11, .run 9 [11], .take 10, .run 12 [10], .run 13 [10], .pure 14, .pure 15, .pure 16] mixed (by decide +kernel) (by simp only [withOps, MStep.num, List.filterMap_cons, List.filterMap_nil, List.getElem?_cons_succ, List.getElem?_cons_zero, Option.map_some]; rfl) ?_
        have bd2 : Below w13.heap.size w13 w13.drew := (Below.refl _ _).drew
        have bel14 := bel13.drew
        replace hB5 := hB5.next bd2
        replace hB7 := hB7.next bd2
        replace hB13 := hB13.next bd2
        replace hS11 := hS11.next bd2
        generalize World.drew w13 = w14 at *
        simp -implicitDefEqProofs [go_sem, g2, g7, g8]
        refine onTake_of (fun w' => Below w14.heap.size w14 w') (.agg (shapeC s)) (Below.refl _ _) (fun w' hw => by simp -implicitDefEqProofs [go_sem, (hB13.next hw).cell, shapeC]) ?_
        simp -implicitDefEqProofs [go_sem, g2, g7, g8, hB7.cell, shapeC_0, shapeC_1, shapeC_2, shapeC_3, hsh]
        refine onTake_of (fun w' => Below w14.heap.size w14 w') (.agg (shapeC s)) (Below.refl _ _) (fun w' hw => by simp -implicitDefEqProofs [go_sem, (hB5.next hw).cell, shapeC]) ?_
        simp -implicitDefEqProofs [go_sem, g2, g7, g8]
        refine callE_of (imageB w14 hS11.dev) ?_
        rintro v w15 ⟨a15, c15, rfl, in15, b15, n15⟩
        refine ⟨.inr (by simp -implicitDefEqProofs [go_sem]; exact b15), ?_⟩
        simp -implicitDefEqProofs [go_sem]
        refine onTake_of (fun w' => Below w15.heap.size w15 w') (.string (strB G.image)) (Below.refl _ _) (fun w' hw => by simp -implicitDefEqProofs [go_sem, img_str in15 hGm.symm hw]) ?_
        simp -implicitDefEqProofs [go_sem]
        refine callE_of (hRI w15) ?_
        rintro v w16 ⟨a16, c16, rfl, in16, l16, b16⟩
        refine ⟨.inr (by simp -implicitDefEqProofs [go_sem]; exact b16), ?_⟩
        simp -implicitDefEqProofs [go_sem, g2, g7, g8, img_str in16 l16.symm (Below.refl _ _), hGi]
        refine body_tmp 6 rfl ?_
        simp -implicitDefEqProofs [go_sem]
        have b14_16 : Below w14.heap.size w14 w16 := b15.trans (b16.mono b15.size)
        exact bel14.trans (b14_16.mono bel14.size)
end
end Go.Proofs.YtfppphmlepdopaaDoor
