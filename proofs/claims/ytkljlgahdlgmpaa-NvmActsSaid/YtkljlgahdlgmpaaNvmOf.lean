/- A device of bytes: Of, its walk. -/
import Derived.Test.YtkljlgahdlgmpaaNvmB
import Derived.Test.YtkljlgahdlgmpaaDraws
namespace Go.Proofs.Ytkljlgahdlgmpaa
set_option linter.unusedVariables false
set_option linter.unusedSimpArgs false
open Go Go.RowKit

def chunk (l : List (BitVec 8)) (i : Nat) : NM.Ln := ⟨(l.drop (64 * i)).take 64, [], 0⟩
/-- Of n lines the first i are a text's. -/
def partD (l : List (BitVec 8)) (n i : Nat) : NM.Dv := ⟨(List.range n).map fun j => if j < i then chunk l j else NM.line0, false, -1, 0⟩
def ofD (l : List (BitVec 8)) : NM.Dv := partD l (l.length / 64) (l.length / 64)
def rightLen (n : Nat) : Prop := n % 64 = 0 ∧ 1 ≤ n / 64 ∧ n / 64 ≤ 1024
theorem partD_len (l : List (BitVec 8)) (n i : Nat) : (partD l n i).ls.length = n := by simp [partD]
theorem partD_ln (l : List (BitVec 8)) (n i j : Nat) (hj : j < n) : (partD l n i).ln j = if j < i then chunk l j else NM.line0 := by
  unfold NM.Dv.ln partD
  simp [List.getD, hj]
theorem partD_zero (l : List (BitVec 8)) (n : Nat) : partD l n 0 = NM.dev0 n := by
  unfold partD NM.dev0
  simp only [Nat.not_lt_zero, if_false, NM.Dv.mk.injEq, and_true]
  rw [List.map_const', List.length_range]
theorem partD_succ (l : List (BitVec 8)) (n i : Nat) (hi : i < n) : (partD l n i).setLn i (chunk l i) = partD l n (i + 1) := by
  unfold NM.Dv.setLn partD
  simp only [NM.Dv.mk.injEq, and_true]
  apply List.ext_getElem (by simp)
  intro j h1 h2
  simp only [List.length_map, List.length_range] at h2
  rw [List.getElem_set]
  simp only [List.getElem_map, List.getElem_range]
  by_cases e : i = j
  · subst e; rw [if_pos rfl, if_pos (by omega)]
  · rw [if_neg e]
    by_cases e2 : j < i
    · rw [if_pos e2, if_pos (by omega)]
    · rw [if_neg e2, if_neg (by omega)]
theorem chunk_ok {l : List (BitVec 8)} {i : Nat} (h : 64 * i + 64 ≤ l.length) : (chunk l i).Ok := ⟨by simp [chunk]; omega, by simp [chunk], by simp [chunk]⟩
theorem ofD_ok {l : List (BitVec 8)} (h : rightLen l.length) : (ofD l).Ok := by
  obtain ⟨h1, h2, h3⟩ := h
  have hm : ∀ x ∈ (ofD l).ls, ∃ i, i < l.length / 64 ∧ x = chunk l i := by
    intro x hx
    obtain ⟨i, hi, rfl⟩ := List.mem_map.1 hx
    have := List.mem_range.1 hi
    exact ⟨i, this, by rw [if_pos this]⟩
  refine ⟨fun x hx => ?_, by simp [ofD, partD]; omega, fun x hx => ?_, by simp [ofD, partD]⟩
  · obtain ⟨i, hi, rfl⟩ := hm x hx; exact chunk_ok (by omega)
  · obtain ⟨i, hi, rfl⟩ := hm x hx; simp [chunk]

set_option maxRecDepth 100000 in
set_option maxHeartbeats 4000000 in
set_option linter.unusedSimpArgs false in
theorem of_calls (a : Option Addr) (l : List (BitVec 8)) (c : Nat) (w0 : World) (hin : SlIn .u8 w0 a l c) :
    Ret Try.prog 27 #[.slice a l.length c] w0 fun v w' => Below w0.heap.size w0 w' ∧
      ((¬ rightLen l.length ∧ v = .pointer none) ∨ (rightLen l.length ∧ ∃ p F, v = .pointer (some ⟨p, 0, none⟩) ∧ DevB w' p F (ofD l) ∧ ∀ k, F k → w0.heap.size ≤ k)) := by
  have bel0 := Below.refl w0.heap.size w0
  have harr := Try.underlying89
  have hle := hin.le
  have hmax := hin.max
  obtain ⟨n, hnn⟩ : ∃ n, n = l.length / 64 := ⟨_, rfl⟩
  obtain ⟨r, hrr⟩ : ∃ r, r = l.length % 64 := ⟨_, rfl⟩
  have hmd : (l.length : Int).tmod 64 = (r : Int) := by rw [Int.tmod_eq_emod_of_nonneg (by omega)]; omega
  have hmd' : (l.length : Int) % 64 = (r : Int) := by omega
  have hdq : (l.length : Int) / 64 = (n : Int) := by omega
  have hdt : (l.length : Int).tdiv 64 = (n : Int) := by rw [Int.tdiv_eq_ediv_of_nonneg (by omega)]; omega
  have hdv := IntWalk.i64_in (n : Int) (by omega)
  refine ret_of (args := [_]) _ Try.func27 rfl Try.ntmps27 (by simp) ?_
  by_cases h64 : r = 0
  · subst h64
    simp -implicitDefEqProofs [go_sem, hmd, hmd', hdv, hdq, hdt]
    refine callE_of (new_calls (n : Int) w0 (by unfold I64; omega)) ?_
    rintro v w1 ⟨b1, ⟨hn, rfl⟩ | ⟨hn, p, lb, rfl, hA, hp, hlb⟩⟩
    · simp -implicitDefEqProofs [go_sem]
      refine body_tmp 2 rfl ?_
      simp -implicitDefEqProofs [go_sem]
      exact ⟨b1, fun h => hn ⟨by have := h.2.1; omega, by have := h.2.2; omega⟩⟩
    · rw [Int.toNat_natCast] at hA
      have hr : rightLen l.length := ⟨by omega, by omega, by omega⟩
      have hlA : (NM.dev0 n).ls.length = n := by simp [NM.dev0]
      have hdv1 := hA.dev
      rw [hlA] at hdv1
      simp -implicitDefEqProofs [go_sem, hdv1.cell]
      rw [← partD_zero l n] at hA
      refine wpE_loop (fun e' w' => ∃ i, i ≤ n ∧ e' 0 = .slice a l.length c ∧ e' 3 = .pointer (some ⟨p, 0, none⟩) ∧ e' 19 = .int .i64 n ∧ e' 20 = .int .i64 i ∧ DevAt w' p lb (partD l n i) S0 ∧ Below w0.heap.size w0 w') (fun e' _ => n - (intOf (e' 20)).toNat) ?_ ?_
      · refine ⟨0, by omega, ?_⟩
        simp -implicitDefEqProofs [go_sem]
        exact ⟨hA, b1⟩
      · rintro e' w2 ⟨i, hi, g0, g3, g19, g20, h2, b2⟩
        by_cases hlt : i < n
        · have hlt' : (i : Int) < n := by omega
          have hwi := IntWalk.i64_in ((i : Int) + 1) (by omega)
          simp -implicitDefEqProofs [go_sem, g0, g3, g19, g20, hlt, hlt']
          refine drawE_mix [.pure 0, .pure 1, .pure 2, .pure 4, .pure 5, .pure 6, .pure 7, .take 3, .run 8 [3], .run 9 [3], .run 10 [3], .pure 11, .pure 12, .run 13 []] mixed (by decide +kernel) (by simp only [withOps, MStep.num, List.filterMap_cons, List.filterMap_nil, List.getElem?_cons_succ, List.getElem?_cons_zero, Option.map_some]; rfl) ?_
          have hd : Below w2.heap.size w2 w2.drew := (Below.refl _ _).drew
          replace h2 := h2.next hd
          replace b2 := b2.drew
          generalize World.drew w2 = w3 at *
          have hin3 := hin.below b2
          have hlen := partD_len l n i
          have hdev := h2.dev
          rw [hlen] at hdev
          have hck : (chunk l i).Ok := chunk_ok (by omega)
          obtain h0 | ⟨b, o, rfl, hc⟩ := hin3.at_
          · rw [h0] at hr; exact absurd hr.2.1 (by simp)
          obtain ⟨C, hL⟩ := h2.lines
          have hsz : i * 66 + 66 ≤ C.size := by rw [hL.size, hlen]; omega
          have hb64 : (byteCs (chunk l i).now).size = 64 := by rw [byteCs_size, hck.len]
          have hld := ldCells (P := Try.prog) (w := w3) (g := b) (o := o + i * 64) (cs := byteCs (chunk l i).now) harr rfl arrI hb64 (fun j hj => by
            have hj' : j < 64 := by rw [hb64] at hj; exact hj
            have h3 := hc (i * 64 + j) (by omega)
            rw [Nat.add_assoc, h3]
            simp [byteCs, cellsK, chunk, Nat.mul_comm])
          have hst := stE (P := Try.prog) (ty := 89) (o := i * 66) (cs := byteCs (chunk l i).now) hL.blk (by rw [hb64]; exact arrI) (by omega) (byteCs_one _)
          have hm2 : Mod (fun k => k = lb) w3 (w3.setRow lb (segPut C (i * 66) (byteCs (chunk l i).now))) := (Mod.refl (fun k => k = lb) w3).row (g := lb) (.inl rfl) _
          have hown := h2.ownMod (i := i) (by omega) hm2 (fun k hk e => (h2.notp i (by omega)).2 (e ▸ hk))
          have hg := segPut_get C (i * 66) (byteCs (chunk l i).now) (by omega)
          rw [hb64] at hg
          have hlnI := partD_ln l n i i hlt
          rw [if_neg (by omega)] at hlnI
          have hD := h2.setLine (i := i) (l' := chunk l i) (s' := S0 i) hL (by omega) hck (hL.blk.row _) (segPut_size _ _ _ (by omega)) (fun k hk => by rw [hg, if_neg (by omega)])
            (fun j hj => by rw [hg, if_pos (by omega), show i * 66 + j - i * 66 = j by omega, byteCs_get _ _ (by rw [hck.len]; omega)])
            (by rw [hg, if_neg (by omega)]; have := hL.chg i (by omega); rw [hlnI] at this; exact this) (by rw [hg, if_neg (by omega)]; have := hL.mark i (by omega); rw [hlnI] at this; exact this) hm2 (fun k hk => .inl hk)
            (by rw [hlnI] at hown; exact hown) (fun k hk => .inl (by rw [hlnI]; exact hk))
          rw [setS_same, partD_succ l n i hlt] at hD
          simp -implicitDefEqProofs [go_sem, g0, g3, g19, g20, hlt, hlt']
          refine onTake_of (fun w' => Below w3.heap.size w3 w') (.slice (some ⟨lb, 0, none⟩) n n) (Below.refl _ _) (fun w' hw => by simp -implicitDefEqProofs [go_sem, (hdev.next hw).cell, g3]) ?_
          have hw64 := IntWalk.i64_in ((i : Int) * 64) (by omega)
          have hif : (0 ≤ (i : Int) * 64 ∧ (i : Int) * 64 ≤ (l.length : Int)) = True := eq_true (by omega)
          have e64 : ((i : Int) * 64).toNat = i * 64 := by omega
          have hcne : (c = i * 64) = False := eq_false (by omega)
          have h64l : 64 ≤ l.length - i * 64 := by omega
          have hwi := IntWalk.i64_in ((i : Int) + 1) (by omega)
          have har := fun w a => run_arrayAt (P := Try.prog) (w := w) 89 5 64 a (l.length - i * 64) (c - i * 64) harr h64l
          simp -implicitDefEqProofs [go_sem, g0, g3, g19, g20, hlt, hlt', hw64, hif, e64, hcne, har, hwi, ↓hld, ↓hst]
          refine goE_round ⟨i + 1, by omega, ?_, ?_, ?_, ?_, hD, ?_⟩ ?_
          · simp -implicitDefEqProofs [go_sem, g0]
          · simp -implicitDefEqProofs [go_sem, g3]
          · simp -implicitDefEqProofs [go_sem, g19]
          · simp -implicitDefEqProofs [go_sem]
          · exact hm2.below b2.size (fun k hk => hk ▸ hlb) |> b2.trans
          · simp -implicitDefEqProofs [go_sem, intOf, g20]; omega
        · have hi' : i = n := by omega
          have hlt' : ¬ (i : Int) < n := by omega
          rw [hi'] at h2
          simp -implicitDefEqProofs [go_sem, g0, g3, g19, g20, hlt']
          refine body_tmp 2 rfl ?_
          simp -implicitDefEqProofs [go_sem]
          have hofD : ofD l = partD l n n := by unfold ofD; rw [hnn]
          refine ⟨b2, hr, DevF p lb (ofD l) S0, ⟨lb, S0, by rw [hofD]; exact h2, rfl, ofD_ok hr⟩, ?_⟩
          rintro k (rfl | rfl | ⟨j, hj, hk⟩)
          · exact hp
          · exact hlb
          · rw [hofD, partD_len] at hj
            rw [hofD, partD_ln l n n j hj, if_pos hj] at hk
            cases hk
  · have h64' : ((r : Int) != 0) = true := by rw [bne_iff_ne]; omega
    have h64'' : ((r : Int) = 0) = False := eq_false (by omega)
    simp -implicitDefEqProofs [go_sem, hmd, hmd', h64', h64'']
    refine body_tmp 2 rfl ?_
    simp -implicitDefEqProofs [go_sem]
    exact ⟨bel0, fun h => h64 (by have := h.1; omega)⟩
end Go.Proofs.Ytkljlgahdlgmpaa
