/- What the document's pool says of a pool (plain). -/
import Derived.Test.YtcpackbljaabnaaGreatDoorPoolDur
namespace Go.Proofs.YtcpackbljaabnaaGreatDoor
set_option linter.unusedVariables false
set_option linter.unusedSimpArgs false
set_option maxRecDepth 100000
open Go Go.RowKit

/-- The slabs' words with what is reserved. -/
def bL (V : PV) : List (BitVec 64) := (List.range V.T.length).map (bF V.T V.H)
theorem bL_len (V : PV) : (bL V).length = V.T.length := by simp [bL]
theorem bL_get (V : PV) {i : Nat} (hi : i < V.T.length) : (bL V).getD i 0#64 = bF V.T V.H i := by simp [bL, List.getD, hi]
theorem bL_ext {l : List (BitVec 64)} {V : PV} (hl : l.length = V.T.length) (h : ∀ i, i < V.T.length → l.getD i 0#64 = bF V.T V.H i) : l = bL V := by
  refine List.ext_getElem (by rw [bL_len, hl]) fun i h1 h2 => ?_
  have hi : i < V.T.length := by omega
  have e1 := h i hi
  have e2 := bL_get V hi
  rw [← e2] at e1
  simpa [List.getD, h1, h2] using e1
/-- Which slab the document takes. -/
def rPick (l : List (BitVec 64)) (c : Int) : Option Nat :=
  match (List.range l.length).find? (fun i => (l.getD i 0#64 != 0#64) && decide (0 ≤ WM.nextM (l.getD i 0#64) c)) with
  | some i => some i
  | none => (List.range l.length).find? (fun i => l.getD i 0#64 == 0#64)
theorem next_zero {c : Nat} (hc : c = 1 ∨ c = 2) : 0 ≤ WM.nextM 0#64 c := by
  rcases hc with rfl | rfl <;> decide +kernel
section
variable {m : Nat} {V : PV} {s : HM.Shape}
theorem find_congr {p q : Nat → Bool} : ∀ {l : List Nat}, (∀ i ∈ l, p i = q i) → l.find? p = l.find? q
  | [], _ => rfl
  | a :: l, h => by
    have h1 := h a List.mem_cons_self
    have h2 := find_congr (p := p) (q := q) (l := l) (fun i hi => h i (List.mem_cons_of_mem _ hi))
    rw [List.find?_cons, List.find?_cons, h1, h2]
theorem rPick_eq (h : Well m V) {c : Nat} (hc : c = 1 ∨ c = 2) : rPick (bL V) c = pickP (bF V.T V.H) m c := by
  have hrb : ∀ i, i < m → WM.rB (bF V.T V.H i) = true := fun i hi => (h.pair i hi).both.1
  unfold rPick pickP fnd clsL
  rw [bL_len, h.len, List.find?_filter, List.find?_filter]
  have e1 : (List.range m).find? (fun i => ((bL V).getD i 0#64 != 0#64) && decide (0 ≤ WM.nextM ((bL V).getD i 0#64) c)) = (List.range m).find? (fun i => decide (WM.classM (bF V.T V.H i) = (c : Int)) && decide (0 ≤ WM.nextM (bF V.T V.H i) c)) := by
    refine find_congr fun i hi => ?_
    have hi := List.mem_range.1 hi
    rw [bL_get V (by rw [h.len]; exact hi), WM.cR_class]
    have hz := WM.cR_zero (hrb i hi)
    have hn := WM.next_ref (bF V.T V.H i) c
    by_cases hx : bF V.T V.H i = 0#64
    · have h0 : WM.cR (bF V.T V.H i) = 0 := hz.2 hx
      rw [h0, hx]
      have : ¬ ((0 : Nat) : Int) = (c : Int) := by omega
      rw [decide_eq_false this]; rfl
    · have h0 : ¬ WM.cR (bF V.T V.H i) = 0 := fun e => hx (hz.1 e)
      have hb : (bF V.T V.H i != 0#64) = true := by rw [bne_iff_ne]; exact hx
      rw [hb, Bool.true_and]
      by_cases hcc : WM.cR (bF V.T V.H i) = c
      · rw [decide_eq_true (by rw [hcc] : ((WM.cR (bF V.T V.H i) : Nat) : Int) = (c : Int)), Bool.true_and]
      · have h3 : ¬ ((WM.cR (bF V.T V.H i) : Nat) : Int) = (c : Int) := by omega
        rw [decide_eq_false h3, Bool.false_and]
        rw [if_neg (by omega)] at hn
        rw [hn]; rfl
  have e2 : (List.range m).find? (fun i => (bL V).getD i 0#64 == 0#64) = (List.range m).find? (fun i => decide (WM.classM (bF V.T V.H i) = ((0 : Nat) : Int)) && decide (0 ≤ WM.nextM (bF V.T V.H i) c)) := by
    refine find_congr fun i hi => ?_
    have hi := List.mem_range.1 hi
    rw [bL_get V (by rw [h.len]; exact hi), WM.cR_class]
    have hz := WM.cR_zero (hrb i hi)
    by_cases hx : bF V.T V.H i = 0#64
    · have h0 : WM.cR (bF V.T V.H i) = 0 := hz.2 hx
      rw [h0, hx, decide_eq_true (next_zero hc)]; rfl
    · have h0 : ¬ ((WM.cR (bF V.T V.H i) : Nat) : Int) = ((0 : Nat) : Int) := fun e => hx (hz.1 (by omega))
      rw [decide_eq_false h0, Bool.false_and, beq_eq_false_iff_ne]; exact hx
  rw [e1, e2]
  simp only [Bool.decide_and, Bool.decide_eq_true]
  cases (List.range m).find? (fun i => decide (WM.classM (bF V.T V.H i) = (c : Int)) && decide (0 ≤ WM.nextM (bF V.T V.H i) c)) <;> rfl
/-- At most one block is at a place. -/
theorem at_uniq {B : Nat → BitVec 64} {off : Int} {i q i' q' : Nat} (hq : q < 16) (hq' : q' < 16) (ht : WM.tR (B i) q = true) (ht' : WM.tR (B i') q' = true) (h : off = placeI s i (WM.cR (B i) : Nat) q) (h' : off = placeI s i' (WM.cR (B i') : Nat) q') : i = i' ∧ q = q' := by
  obtain ⟨k1, k2⟩ := tR_cls hq ht
  obtain ⟨k3, k4⟩ := tR_cls hq' ht'
  obtain ⟨e1, e2⟩ := place_inj k1 k3 k2 k4 (h.symm.trans h')
  subst e1
  exact ⟨rfl, e2 rfl⟩
/-- What Find answers: a block of some words at a place, or there is none. -/
def FoundP (s : HM.Shape) (l : List (BitVec 64)) (off : Int) (i q : Nat) : Prop := i < l.length ∧ q < 16 ∧ WM.tR (l.getD i 0#64) q = true ∧ off = placeI s i (WM.cR (l.getD i 0#64) : Nat) q
def NoneFound (s : HM.Shape) (l : List (BitVec 64)) (off : Int) : Prop := ∀ i q, i < l.length → q < 16 → WM.tR (l.getD i 0#64) q = true → off ≠ placeI s i (WM.cR (l.getD i 0#64) : Nat) q
theorem tB (h : Well m V) {i q : Nat} (hi : i < m) (hq : q < 16) : WM.tR (bF V.T V.H i) q = (WM.tR (V.T.getD i 0#64) q || WM.tR (V.H.getD i 0#64) q) := (h.pair i hi).both.2.2 q hq
theorem cT_eq (h : Well m V) {i q : Nat} (hi : i < m) (hq : q < 16) (ht : WM.tR (V.T.getD i 0#64) q = true) : WM.cR (V.T.getD i 0#64) = WM.cR (bF V.T V.H i) := by
  have := (WM.tR_lt hq ht).1
  rcases (h.pair i hi).cT with e | e
  · exact absurd e this
  · exact e
theorem cH_eq (h : Well m V) {i q : Nat} (hi : i < m) (hq : q < 16) (ht : WM.tR (V.H.getD i 0#64) q = true) : WM.cR (V.H.getD i 0#64) = WM.cR (bF V.T V.H i) := by
  have := (WM.tR_lt hq ht).1
  rcases (h.pair i hi).cH with e | e
  · exact absurd e this
  · exact e
theorem takV_none (h : Well m V) (hm : 1 ≤ m ∧ m ≤ 4) {off : Int} (hn : NoneFound s (bL V) off) : takeV s V off = (V, 7) := by
  rcases takV (s := s) h hm off with e | ⟨i, q, -, hi, hq, ht, hx, -⟩
  · exact e
  · refine absurd hx ?_
    have := hn i q (by rw [bL_len, h.len]; exact hi) hq
    rw [bL_get V (by rw [h.len]; exact hi)] at this
    exact this (by rw [tB h hi hq, ht, Bool.or_true])
theorem takV_old (h : Well m V) (hm : 1 ≤ m ∧ m ≤ 4) {off : Int} {i q : Nat} (hf : FoundP s V.T off i q) : takeV s V off = (V, 7) := by
  obtain ⟨hi, hq, ht, hx⟩ := hf
  rw [h.len] at hi
  rw [cT_eq h hi hq ht] at hx
  rcases takV (s := s) h hm off with e | ⟨i', q', -, hi', hq', ht', hx', -⟩
  · exact e
  · obtain ⟨rfl, rfl⟩ := at_uniq (s := s) (B := bF V.T V.H) hq hq' (by rw [tB h hi hq, ht, Bool.true_or]) (by rw [tB h hi' hq', ht', Bool.or_true]) hx hx'
    rw [(h.pair i hi).dis q hq ht] at ht'
    cases ht'
theorem found_held (h : Well m V) {off : Int} {i q : Nat} (hf : FoundP s (bL V) off i q) (hn : NoneFound s V.T off) : i < m ∧ q < 16 ∧ WM.tR (V.H.getD i 0#64) q = true ∧ findP s m (bF V.T V.H) off = some (i, q) ∧ off = placeI s i (WM.cR (bF V.T V.H i) : Nat) q := by
  obtain ⟨hi, hq, ht, hx⟩ := hf
  rw [bL_len, h.len] at hi
  rw [bL_get V (by rw [h.len]; exact hi)] at ht hx
  obtain ⟨k1, k2⟩ := tR_cls hq ht
  have hf := findP_place (s := s) (n := m) (B := bF V.T V.H) hi k1 rfl k2
  rw [← hx] at hf
  refine ⟨hi, hq, ?_, hf, hx⟩
  rw [tB h hi hq] at ht
  cases hT : WM.tR (V.T.getD i 0#64) q with
  | false => rw [hT] at ht; simpa using ht
  | true => exact absurd (by rw [cT_eq h hi hq hT]; exact hx) (hn i q (by rw [h.len]; exact hi) hq hT)
theorem takV_at (h : Well m V) (hm : 1 ≤ m ∧ m ≤ 4) {off : Int} {i q : Nat} (hf : FoundP s (bL V) off i q) (hn : NoneFound s V.T off) : i < m ∧ q < 16 ∧ (takeV s V off).2 = 0 ∧ (takeV s V off).1.T = V.T.set i (WM.takeW (V.T.getD i 0#64) (WM.cR (bF V.T V.H i) : Nat) q) ∧ bL (takeV s V off).1 = bL V := by
  obtain ⟨hi, hq, ht, hfp, hx⟩ := found_held h hf hn
  rcases takV (s := s) h hm off with e | ⟨i', q', hf', hi', hq', ht', hx', D', e, -⟩
  · exfalso
    unfold takeV at e
    rw [h.len, hfp] at e
    dsimp only at e
    rw [WM.has_ref _ _ hq, ht, if_pos rfl] at e
    have hs : V.D.size = 64 * (3 + 16 * m) := by unfold NM.Dv.size; rw [h.lines]
    obtain ⟨u1, -⟩ := put_up h.ok h.up (by rw [h.lines]; omega) (o := 128 + 8 * i) (by omega) (by omega) (WM.takeW (V.T.getD i 0#64) (WM.classM (V.H.getD i 0#64)) q)
    have e1 : (putV V i (WM.takeW (V.T.getD i 0#64) (WM.classM (V.H.getD i 0#64)) q)).2 = 0 := u1
    rw [if_pos e1] at e
    cases congrArg Prod.snd e
  · rw [hfp] at hf'
    simp only [Option.some.injEq, Prod.mk.injEq] at hf'
    obtain ⟨rfl, rfl⟩ := hf'
    rw [e]
    refine ⟨hi, hq, rfl, by rw [cH_eq h hi hq ht], ?_⟩
    symm
    refine bL_ext (by rw [bL_len, List.length_set]) fun j hj => ?_
    have hjm : j < m := by rw [List.length_set, h.len] at hj; exact hj
    rw [bL_get V (by rw [h.len]; exact hjm), bF_TH h.len h.lenH _ _ hjm]
    by_cases ej : j = i
    · subst ej; rw [if_pos rfl]; exact ((h.pair j hi).keep hq ht).2.2.symm
    · rw [if_neg ej]
theorem drpV_none (h : Well m V) (hm : 1 ≤ m ∧ m ≤ 4) {off : Int} (hn : NoneFound s (bL V) off) : dropV s V off = (V, 7) := by
  rcases drpV (s := s) h hm off with ⟨e, -⟩ | ⟨i, q, -, hi, hq, hx, hc⟩
  · exact e
  · refine absurd hx ?_
    have := hn i q (by rw [bL_len, h.len]; exact hi) hq
    rw [bL_get V (by rw [h.len]; exact hi)] at this
    refine this ?_
    rw [tB h hi hq]
    rcases hc with ⟨e, -⟩ | ⟨-, e, -⟩
    · rw [e, Bool.or_true]
    · rw [e, Bool.true_or]
theorem drpV_at (h : Well m V) (hm : 1 ≤ m ∧ m ≤ 4) {off : Int} {i q : Nat} (hf : FoundP s (bL V) off i q) : i < m ∧ q < 16 ∧ (dropV s V off).2 = 0 ∧ bL (dropV s V off).1 = (bL V).set i (WM.dropW (bF V.T V.H i) q) ∧
    (dropV s V off).1.T = (if WM.hasM (V.T.getD i 0#64) q = true then V.T.set i (WM.dropW (V.T.getD i 0#64) q) else V.T) := by
  obtain ⟨hi, hq, ht, hx⟩ := hf
  rw [bL_len, h.len] at hi
  rw [bL_get V (by rw [h.len]; exact hi)] at ht hx
  rcases drpV (s := s) h hm off with ⟨-, e⟩ | ⟨i', q', hf', hi', hq', hx', hc⟩
  · have := sizeF_ne (s := s) hi hq ht
    rw [← hx] at this; omega
  · obtain ⟨k1, k2⟩ := tR_cls hq ht
    have hfp := findP_place (s := s) (n := m) (B := bF V.T V.H) hi k1 rfl k2
    rw [← hx, hf'] at hfp
    simp only [Option.some.injEq, Prod.mk.injEq] at hfp
    obtain ⟨rfl, rfl⟩ := hfp
    rcases hc with ⟨hH, e⟩ | ⟨hH, hT, e⟩
    · rw [e]
      have hT : WM.tR (V.T.getD i' 0#64) q' = false := by
        cases hT : WM.tR (V.T.getD i' 0#64) q' with
        | false => rfl
        | true => rw [(h.pair i' hi).dis q' hq hT] at hH; cases hH
      refine ⟨hi, hq, rfl, ?_, ?_⟩
      · symm
        refine bL_ext (by rw [List.length_set, bL_len]) fun j hj => ?_
        have hjm : j < m := by rw [h.len] at hj; exact hj
        rw [wordsSet (m := m) (by rw [bL_len, h.len]) hjm, bF_H h.lenH _ hjm]
        by_cases ej : j = i'
        · subst ej; rw [if_pos rfl, if_pos rfl]; exact ((h.pair j hi).dropH hq hH).2.symm
        · rw [if_neg ej, if_neg ej, bL_get V (by rw [h.len]; exact hjm)]
      · rw [WM.has_ref _ _ hq, hT, if_neg (by decide)]
    · rw [e]
      refine ⟨hi, hq, rfl, ?_, ?_⟩
      · symm
        refine bL_ext (by rw [List.length_set, bL_len, List.length_set]) fun j hj => ?_
        have hjm : j < m := by rw [List.length_set, h.len] at hj; exact hj
        rw [wordsSet (m := m) (by rw [bL_len, h.len]) hjm, bF_T h.len _ hjm]
        by_cases ej : j = i'
        · subst ej; rw [if_pos rfl, if_pos rfl]; exact ((h.pair j hi).dropT hq hT).2.symm
        · rw [if_neg ej, if_neg ej, bL_get V (by rw [h.len]; exact hjm)]
      · rw [WM.has_ref _ _ hq, hT, if_pos rfl]
/-- Reserve, by the document's pick. -/
theorem resV_pick (h : Well m V) {c : Nat} (hc : c = 1 ∨ c = 2) : (rPick (bL V) c = none ∧ reserveV s V c = (V, 0, 6)) ∨ ∃ i q : Nat, rPick (bL V) c = some i ∧ i < m ∧ q < 16 ∧ WM.nextM (bF V.T V.H i) c = q ∧ (reserveV s V c).2 = (placeI s i c q, 0) ∧
    (reserveV s V c).1.T = V.T ∧ bL (reserveV s V c).1 = (bL V).set i (WM.takeW (bF V.T V.H i) c q) := by
  rw [rPick_eq h hc]
  unfold reserveV
  rw [h.len]
  cases hp : pickP (bF V.T V.H) m c with
  | none => exact .inl ⟨rfl, rfl⟩
  | some i =>
    obtain ⟨hi, hge⟩ := pickP_of hp
    obtain ⟨q, hq, hqb, hok, _, _⟩ := takeOk_next (x := bF V.T V.H i) (h.pair i hi).both.1 hc hge
    dsimp only
    rw [hq, Int.toNat_natCast]
    refine .inr ⟨i, q, rfl, hi, Nat.lt_of_lt_of_le hqb (WM.bl_le c), hq, rfl, rfl, ?_⟩
    symm
    refine bL_ext (by rw [List.length_set, bL_len]) fun j hj => ?_
    have hjm : j < m := by rw [h.len] at hj; exact hj
    rw [wordsSet (m := m) (by rw [bL_len, h.len]) hjm, bF_H h.lenH _ hjm]
    by_cases ej : j = i
    · subst ej; rw [if_pos rfl, if_pos rfl]; exact ((h.pair j hi).reserve (q := q) hok).2.2.symm
    · rw [if_neg ej, if_neg ej, bL_get V (by rw [h.len]; exact hjm)]
/-- What is held, as the document counts it. -/
theorem many_eq (h : Well m V) : ∀ n, n ≤ m → manyL (bL V) n = manyL V.T n + manyL V.H n
  | 0, _ => rfl
  | n + 1, hn => by
    have h1 := many_eq h n (by omega)
    have hnm : n < m := hn
    show manyL (bL V) n + (WM.listM ((bL V).getD n 0#64)).length = manyL V.T n + (WM.listM (V.T.getD n 0#64)).length + (manyL V.H n + (WM.listM (V.H.getD n 0#64)).length)
    rw [bL_get V (by rw [h.len]; exact hnm), WM.list_len, WM.list_len, WM.list_len]
    have hc : ∀ j, j ≤ 16 → WM.cnt (WM.tR (bF V.T V.H n)) j = WM.cnt (WM.tR (V.T.getD n 0#64)) j + WM.cnt (WM.tR (V.H.getD n 0#64)) j := by
      intro j
      induction j with
      | zero => intro _; rfl
      | succ j ih =>
        intro hj
        rw [WM.cnt_succ, WM.cnt_succ, WM.cnt_succ, ih (by omega), tB h hnm (by omega)]
        have hd := (h.pair n hnm).dis j (by omega)
        cases e1 : WM.tR (V.T.getD n 0#64) j <;> cases e2 : WM.tR (V.H.getD n 0#64) j
        · simp
        · simp; omega
        · simp; omega
        · rw [hd e1] at e2; cases e2
    rw [hc 16 (Nat.le_refl _)]
    omega
end
end Go.Proofs.YtcpackbljaabnaaGreatDoor
