/- The laws of rec: RecBack. -/
import Derived.Test.YtgdjnginljamoaaRecLaw
namespace Go.Proofs.Ytgdjnginljamoaa
open Go Go.RowKit


set_option maxHeartbeats 1000000 in
set_option linter.unusedSimpArgs false in
theorem recBack_walk (st nx : BitVec 64) (gone : Bool) (s : ByteArray) (st2 nx2 : BitVec 64) (gone2 : Bool) (s2 : ByteArray) (a : Option Addr) (l : List (BitVec 64)) (cap : Nat) (w0 : World) (hin : SlIn .u64 w0 a l cap) :
    Ret Try.prog 4 #[recV st nx gone s, recV st2 nx2 gone2 s2, .slice a l.length cap] w0 fun v w' => v = .bool true ∧ Below w0.heap.size w0 w' := by
  have hE := encode_calls st nx gone s
  have hE2 := encode_calls st2 nx2 gone2 s2
  have bel0 := Below.refl w0.heap.size w0
  unfold recV at hE hE2 ⊢
  refine ret_of (args := [_, _, _]) _ Try.func4 rfl Try.ntmps4 (by simp) ?_
  simp -implicitDefEqProofs [go_sem]
  generalize hw1 : World.alloc w0 _ = w1 at *
  obtain ⟨hB1, b1, sz1⟩ := new_facts hw1
  have bel1 := bel0.trans (b1.mono bel0.size)
  replace hin := hin.next b1
  rw [← sz1]
  generalize hw2 : World.alloc w1 _ = w2 at *
  obtain ⟨hB2, b2, sz2⟩ := new_facts hw2
  have bel2 := bel1.trans (b2.mono bel1.size)
  replace hin := hin.next b2
  replace hB1 := hB1.next b2
  refine callE_of (alive_calls w2) ?_
  rintro v w3 ⟨rfl, b3⟩
  have bel3 := bel2.trans (b3.mono bel2.size)
  replace hin := hin.next b3
  replace hB1 := hB1.next b3
  replace hB2 := hB2.next b3
  by_cases hs : (200 : Int) < s.size
  · simp -implicitDefEqProofs [go_sem, hB1.cell, hs]
    refine body_tmp 6 rfl ?_
    simp -implicitDefEqProofs [go_sem]
    exact bel3
  by_cases hs2 : (200 : Int) < s2.size
  · simp -implicitDefEqProofs [go_sem, hB1.cell, hB2.cell, hs, hs2]
    refine body_tmp 6 rfl ?_
    simp -implicitDefEqProofs [go_sem]
    exact bel3
  by_cases hl : (200 : Int) < l.length
  · simp -implicitDefEqProofs [go_sem, hB1.cell, hB2.cell, hs, hs2, hl]
    refine body_tmp 6 rfl ?_
    simp -implicitDefEqProofs [go_sem]
    exact bel3
  simp -implicitDefEqProofs [go_sem, hB1.cell, hB2.cell, hs, hs2, hl]
  refine callE_of (hE _) ?_
  rintro v w4 ⟨a4, c4, rfl, hin4, b4⟩
  have bel4 := bel3.trans (b4.mono bel3.size)
  replace hin := hin.next b4
  replace hB1 := hB1.next b4
  replace hB2 := hB2.next b4
  simp -implicitDefEqProofs [go_sem, hB1.cell, hB2.cell]
  refine callE_of (hE2 _) ?_
  rintro v w5 ⟨a5, c5, rfl, hin5, b5⟩
  have bel5 := bel4.trans (b5.mono bel4.size)
  replace hin := hin.next b5
  replace hB1 := hB1.next b5
  replace hB2 := hB2.next b5
  replace hin4 := hin4.next b5
  cases hr : rightB st gone s
  · obtain ⟨w7, rfl⟩ : ∃ w7, w7 = w5 := ⟨_, rfl⟩
    have bel7 := bel5
    simp -implicitDefEqProofs [go_sem]
    obtain ⟨S, hS⟩ : ∃ S : World → Prop, S = fun w' => Below w7.heap.size w7 w' := ⟨_, rfl⟩
    refine drawE_quiet S mixed (by decide +kernel) (by subst_vars; first | exact (Below.refl _ _).drew | assumption) (fun hsome => ?_)
    have hb : ∀ w', S w' → Below w7.heap.size w7 w' := fun w' h => by rw [hS] at h; exact h
    have hto : ∀ w', S w' → ∀ w'', Below w'.heap.size w' w'' → S w'' := fun w' h w'' h2 => by rw [hS] at h ⊢; exact h.trans (h2.mono h.size)
    simp -implicitDefEqProofs +contextual [go_sem, hsome]
    unfold endE
    intro w8 h8
    have b8 := hb _ h8
    have bel8 := bel7.trans (b8.mono bel7.size)
    replace hin := hin.next b8
    simp -implicitDefEqProofs [go_sem]
    refine callE_of (decode_calls a l _ cap w8 rfl hin) ?_
    rintro v w9 ⟨rfl, b9⟩
    have bel9 := bel8.trans (b9.mono bel8.size)
    replace hin := hin.next b9
    obtain ⟨y1, y2, y3, y4, hy, hyt, hyf⟩ := dec_form l
    rw [hy]
    unfold recV
    simp -implicitDefEqProofs [go_sem]
    generalize hw10 : World.alloc w9 _ = w10 at *
    obtain ⟨hB10, b10, sz10⟩ := new_facts hw10
    have bel10 := bel9.trans (b10.mono bel9.size)
    replace hin := hin.next b10
    cases hok : okM l
    · simp -implicitDefEqProofs [go_sem]
      refine body_tmp 6 rfl ?_
      simp -implicitDefEqProofs [go_sem]
      exact bel10
    · obtain ⟨hyr, hye⟩ := hyt hok
      have hE3 := encode_calls y1 y2 y3 y4
      unfold recV at hE3
      simp -implicitDefEqProofs [go_sem, hB10.cell]
      refine callE_of (hE3 _) ?_
      rintro v w11 ⟨a11, c11, rfl, hin11, b11⟩
      have bel11 := bel10.trans (b11.mono bel10.size)
      replace hin := hin.next b11
      simp -implicitDefEqProofs [go_sem, hyr]
      rw [hye] at hin11 ⊢
      refine callE_of (sameWords_calls a11 a l l _ _ c11 cap w11 rfl rfl (by have := hin11.le; have := hin11.max; omega) hin11.at_ hin.at_) ?_
      rintro v w12 ⟨rfl, b12⟩
      have bel12 := bel11.trans (b12.mono bel11.size)
      simp -implicitDefEqProofs [go_sem]
      refine body_tmp 6 rfl ?_
      simp -implicitDefEqProofs [go_sem]
      exact bel12
  · obtain ⟨hok, hdec⟩ := enc_back (nx := nx) hr
    have hlen : (encM st nx gone s).length = 8 := by rw [encM, if_pos hr]; rfl
    have hnx : (encM st nx gone s)[2]?.getD 0#64 = nx := by rw [encM, if_pos hr]; rfl
    have hD := decode_calls a4 (encM st nx gone s) (encM st nx gone s).length c4 w5 rfl hin4
    rw [hok, hdec] at hD
    unfold recV at hD
    simp -implicitDefEqProofs [go_sem]
    refine callE_of hD ?_
    rintro v w6 ⟨rfl, b6⟩
    have bel6 := bel5.trans (b6.mono bel5.size)
    replace hin := hin.next b6
    replace hB1 := hB1.next b6
    replace hB2 := hB2.next b6
    replace hin4 := hin4.next b6
    replace hin5 := hin5.next b6
    simp -implicitDefEqProofs [go_sem]
    generalize hw7 : World.alloc w6 _ = w7 at *
    obtain ⟨hB7, b7, sz7⟩ := new_facts hw7
    have bel7 := bel6.trans (b7.mono bel6.size)
    replace hin := hin.next b7
    replace hB1 := hB1.next b7
    replace hB2 := hB2.next b7
    replace hin4 := hin4.next b7
    replace hin5 := hin5.next b7
    obtain ⟨ba, oa, rfl, ga⟩ := hin4.at_.cellD (i := 2) (by omega)
    refine drawE_still mixed (by decide +kernel) ?_
    simp -implicitDefEqProofs [go_sem, hB1.cell, hB7.cell, hlen, ga, hnx]
    unfold endE
    have hnx' : ∀ h : 2 < (encM st nx gone s).length, (encM st nx gone s)[2] = nx := fun h => by
      rw [List.getElem?_eq_getElem h] at hnx; simpa using hnx
    simp -implicitDefEqProofs [go_sem, hnx']
    replace hB1 := hB1.drew
    replace hB2 := hB2.drew
    replace bel7 := bel7.drew
    replace hin := (show SlIn .u64 w7.drew a l cap from ⟨hin.at_.drew, hin.le, hin.max, hin.nil⟩)
    replace hin4 := (show SlIn .u64 w7.drew _ _ c4 from ⟨hin4.at_.drew, hin4.le, hin4.max, hin4.nil⟩)
    replace hin5 := (show SlIn .u64 w7.drew a5 _ c5 from ⟨hin5.at_.drew, hin5.le, hin5.max, hin5.nil⟩)
    generalize w7.drew = w7 at *
    cases hr2 : rightB st2 gone2 s2
    · obtain ⟨S, hS⟩ : ∃ S : World → Prop, S = fun w' => Below w7.heap.size w7 w' := ⟨_, rfl⟩
      refine drawE_quiet S mixed (by decide +kernel) (by subst_vars; first | exact (Below.refl _ _).drew | assumption) (fun hsome => ?_)
      have hb : ∀ w', S w' → Below w7.heap.size w7 w' := fun w' h => by rw [hS] at h; exact h
      have hto : ∀ w', S w' → ∀ w'', Below w'.heap.size w' w'' → S w'' := fun w' h w'' h2 => by rw [hS] at h ⊢; exact h.trans (h2.mono h.size)
      simp -implicitDefEqProofs +contextual [go_sem, hsome]
      unfold endE
      intro w8 h8
      have b8 := hb _ h8
      have bel8 := bel7.trans (b8.mono bel7.size)
      replace hin := hin.next b8
      simp -implicitDefEqProofs [go_sem]
      refine callE_of (decode_calls a l _ cap w8 rfl hin) ?_
      rintro v w9 ⟨rfl, b9⟩
      have bel9 := bel8.trans (b9.mono bel8.size)
      replace hin := hin.next b9
      obtain ⟨y1, y2, y3, y4, hy, hyt, hyf⟩ := dec_form l
      rw [hy]
      unfold recV
      simp -implicitDefEqProofs [go_sem]
      generalize hw10 : World.alloc w9 _ = w10 at *
      obtain ⟨hB10, b10, sz10⟩ := new_facts hw10
      have bel10 := bel9.trans (b10.mono bel9.size)
      replace hin := hin.next b10
      cases hok : okM l
      · simp -implicitDefEqProofs [go_sem]
        refine body_tmp 6 rfl ?_
        simp -implicitDefEqProofs [go_sem]
        exact bel10
      · obtain ⟨hyr, hye⟩ := hyt hok
        have hE3 := encode_calls y1 y2 y3 y4
        unfold recV at hE3
        simp -implicitDefEqProofs [go_sem, hB10.cell]
        refine callE_of (hE3 _) ?_
        rintro v w11 ⟨a11, c11, rfl, hin11, b11⟩
        have bel11 := bel10.trans (b11.mono bel10.size)
        replace hin := hin.next b11
        simp -implicitDefEqProofs [go_sem, hyr]
        rw [hye] at hin11 ⊢
        refine callE_of (sameWords_calls a11 a l l _ _ c11 cap w11 rfl rfl (by have := hin11.le; have := hin11.max; omega) hin11.at_ hin.at_) ?_
        rintro v w12 ⟨rfl, b12⟩
        have bel12 := bel11.trans (b12.mono bel11.size)
        simp -implicitDefEqProofs [go_sem]
        refine body_tmp 6 rfl ?_
        simp -implicitDefEqProofs [go_sem]
        exact bel12
    · obtain ⟨S, hS⟩ : ∃ S : World → Prop, S = fun w' => Below w7.heap.size w7 w' := ⟨_, rfl⟩
      refine drawE_quiet S mixed (by decide +kernel) (by subst_vars; first | exact (Below.refl _ _).drew | assumption) (fun hsome => ?_)
      have hb : ∀ w', S w' → Below w7.heap.size w7 w' := fun w' h => by rw [hS] at h; exact h
      have hto : ∀ w', S w' → ∀ w'', Below w'.heap.size w' w'' → S w'' := fun w' h w'' h2 => by rw [hS] at h ⊢; exact h.trans (h2.mono h.size)
      have k1 := fun w' h => (hB1.next (hb w' h)).cell
      have k2 := fun w' h => (hB2.next (hb w' h)).cell
      simp -implicitDefEqProofs +contextual [go_sem, hsome]
      have hq : decide (encM st nx gone s = encM st2 nx2 gone2 s2) = decide (st = st2 ∧ nx = nx2 ∧ gone = gone2 ∧ s = s2) := by
        apply decide_eq_decide.2
        exact ⟨fun h => enc_inj hr hr2 h, fun ⟨h1, h2, h3, h4⟩ => by rw [h1, h2, h3, h4]⟩
      generalize encM st nx gone s = la at *
      generalize encM st2 nx2 gone2 s2 = lb at *
      have hSW := fun w' hw => sameWords_calls (some ⟨ba, oa, none⟩) a5 la lb 8 lb.length c4 c5 w' hlen rfl (by decide) (hin4.next (hb w' hw)).at_ (hin5.next (hb w' hw)).at_
      refine onQuiet_call _ (fun w' hw => (hSW w' hw).mono fun v w'' h => ⟨h.1, hto _ hw _ h.2⟩) ?_
      rw [hq]
      simp -implicitDefEqProofs [go_sem, hsome]
      refine onQuiet_of (.agg #[.int .u64 (uv st), .int .u64 (uv nx), .bool gone, .string s]) (fun w2 hw2 => by simp -implicitDefEqProofs [go_sem, k1 w2 hw2]) ?_
      simp -implicitDefEqProofs [go_sem, hsome]
      refine onQuiet_of (.agg #[.int .u64 (uv st2), .int .u64 (uv nx2), .bool gone2, .string s2]) (fun w2 hw2 => by simp -implicitDefEqProofs [go_sem, k2 w2 hw2]) ?_
      by_cases he : st = st2 ∧ nx = nx2 ∧ gone = gone2 ∧ s = s2
      · obtain ⟨rfl, rfl, rfl, rfl⟩ := he
        simp -implicitDefEqProofs [go_sem, hsome]
        unfold endE
        intro w8 h8
        have b8 := hb _ h8
        have bel8 := bel7.trans (b8.mono bel7.size)
        replace hin := hin.next b8
        simp -implicitDefEqProofs [go_sem]
        refine callE_of (decode_calls a l _ cap w8 rfl hin) ?_
        rintro v w9 ⟨rfl, b9⟩
        have bel9 := bel8.trans (b9.mono bel8.size)
        replace hin := hin.next b9
        obtain ⟨y1, y2, y3, y4, hy, hyt, hyf⟩ := dec_form l
        rw [hy]
        unfold recV
        simp -implicitDefEqProofs [go_sem]
        generalize hw10 : World.alloc w9 _ = w10 at *
        obtain ⟨hB10, b10, sz10⟩ := new_facts hw10
        have bel10 := bel9.trans (b10.mono bel9.size)
        replace hin := hin.next b10
        cases hok : okM l
        · simp -implicitDefEqProofs [go_sem]
          refine body_tmp 6 rfl ?_
          simp -implicitDefEqProofs [go_sem]
          exact bel10
        · obtain ⟨hyr, hye⟩ := hyt hok
          have hE3 := encode_calls y1 y2 y3 y4
          unfold recV at hE3
          simp -implicitDefEqProofs [go_sem, hB10.cell]
          refine callE_of (hE3 _) ?_
          rintro v w11 ⟨a11, c11, rfl, hin11, b11⟩
          have bel11 := bel10.trans (b11.mono bel10.size)
          replace hin := hin.next b11
          simp -implicitDefEqProofs [go_sem, hyr]
          rw [hye] at hin11 ⊢
          refine callE_of (sameWords_calls a11 a l l _ _ c11 cap w11 rfl rfl (by have := hin11.le; have := hin11.max; omega) hin11.at_ hin.at_) ?_
          rintro v w12 ⟨rfl, b12⟩
          have bel12 := bel11.trans (b12.mono bel11.size)
          simp -implicitDefEqProofs [go_sem]
          refine body_tmp 6 rfl ?_
          simp -implicitDefEqProofs [go_sem]
          exact bel12
      · simp -implicitDefEqProofs [go_sem, hsome]
        unfold endE
        intro w8 h8
        have b8 := hb _ h8
        have bel8 := bel7.trans (b8.mono bel7.size)
        replace hin := hin.next b8
        simp -implicitDefEqProofs [go_sem]
        refine callE_of (decode_calls a l _ cap w8 rfl hin) ?_
        rintro v w9 ⟨rfl, b9⟩
        have bel9 := bel8.trans (b9.mono bel8.size)
        replace hin := hin.next b9
        obtain ⟨y1, y2, y3, y4, hy, hyt, hyf⟩ := dec_form l
        rw [hy]
        unfold recV
        simp -implicitDefEqProofs [go_sem]
        generalize hw10 : World.alloc w9 _ = w10 at *
        obtain ⟨hB10, b10, sz10⟩ := new_facts hw10
        have bel10 := bel9.trans (b10.mono bel9.size)
        replace hin := hin.next b10
        cases hok : okM l
        · simp -implicitDefEqProofs [go_sem]
          refine body_tmp 6 rfl ?_
          simp -implicitDefEqProofs [go_sem]
          exact bel10
        · obtain ⟨hyr, hye⟩ := hyt hok
          have hE3 := encode_calls y1 y2 y3 y4
          unfold recV at hE3
          simp -implicitDefEqProofs [go_sem, hB10.cell]
          refine callE_of (hE3 _) ?_
          rintro v w11 ⟨a11, c11, rfl, hin11, b11⟩
          have bel11 := bel10.trans (b11.mono bel10.size)
          replace hin := hin.next b11
          simp -implicitDefEqProofs [go_sem, hyr]
          rw [hye] at hin11 ⊢
          refine callE_of (sameWords_calls a11 a l l _ _ c11 cap w11 rfl rfl (by have := hin11.le; have := hin11.max; omega) hin11.at_ hin.at_) ?_
          rintro v w12 ⟨rfl, b12⟩
          have bel12 := bel11.trans (b12.mono bel11.size)
          simp -implicitDefEqProofs [go_sem]
          refine body_tmp 6 rfl ?_
          simp -implicitDefEqProofs [go_sem]
          exact bel12
end Go.Proofs.Ytgdjnginljamoaa
