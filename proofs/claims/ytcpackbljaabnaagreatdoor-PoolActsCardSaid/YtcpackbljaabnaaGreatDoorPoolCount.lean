/- One block more, or one less: all other places are listed as they were; each place once (plain). -/
import Derived.Test.YtcpackbljaabnaaGreatDoorPoolGood
namespace Go.Proofs.YtcpackbljaabnaaGreatDoor
set_option linter.unusedVariables false
set_option linter.unusedSimpArgs false
set_option maxRecDepth 100000
open Go Go.RowKit

/-- How many entries are x. -/
def cntN (x : Nat) : List Nat → Nat
  | [] => 0
  | y :: l => (if y = x then 1 else 0) + cntN x l
theorem cnt_filter (x : Nat) : ∀ l : List Nat, (l.filter (fun y => decide (y ≠ x))).length + cntN x l = l.length
  | [] => rfl
  | y :: l => by
    have h := cnt_filter x l
    by_cases e : y = x
    · rw [List.filter_cons_of_neg (by simp [e])]
      show _ + ((if y = x then 1 else 0) + cntN x l) = l.length + 1
      rw [if_pos e]; omega
    · rw [List.filter_cons_of_pos (by simp [e])]
      show (List.filter _ l).length + 1 + ((if y = x then 1 else 0) + cntN x l) = l.length + 1
      rw [if_neg e]; omega
theorem cnt_append (x : Nat) : ∀ a b : List Nat, cntN x (a ++ b) = cntN x a + cntN x b
  | [], b => by show cntN x b = 0 + _; omega
  | y :: a, b => by show _ + cntN x (a ++ b) = _ + cntN x a + _; rw [cnt_append x a b]; omega
theorem cnt_zero (x : Nat) : ∀ l : List Nat, (∀ y ∈ l, y ≠ x) → cntN x l = 0
  | [], _ => rfl
  | y :: l, h => by
    show (if y = x then 1 else 0) + cntN x l = 0
    rw [if_neg (h y List.mem_cons_self), cnt_zero x l (fun z hz => h z (List.mem_cons_of_mem _ hz))]
theorem cnt_take (x : Nat) (l : List Nat) {k : Nat} (hk : k < l.length) : cntN x (l.take (k + 1)) = cntN x (l.take k) + (if l[k] = x then 1 else 0) := by
  rw [List.take_succ_eq_append_getElem hk, cnt_append]; rfl
theorem cnt_le (x : Nat) (l : List Nat) : cntN x l ≤ l.length := by have := cnt_filter x l; omega
theorem cnt_map {f : Nat → Nat} {x : Nat} : ∀ {l : List Nat}, l.Nodup → (∀ a ∈ l, ∀ b ∈ l, f a = f b → a = b) → cntN x (l.map f) ≤ 1
  | [], _, _ => by show (0 : Nat) ≤ 1; omega
  | a :: l, hn, hf => by
    have h1 := List.nodup_cons.1 hn
    show (if f a = x then 1 else 0) + cntN x (l.map f) ≤ 1
    by_cases e : f a = x
    · rw [if_pos e, cnt_zero x _ (fun y hy => by
        obtain ⟨b, hb, rfl⟩ := List.mem_map.1 hy
        intro e2
        have := hf a List.mem_cons_self b (List.mem_cons_of_mem _ hb) (e.trans e2.symm)
        exact h1.1 (this ▸ hb))]
      omega
    · rw [if_neg e]
      have := cnt_map (f := f) (x := x) h1.2 (fun a ha b hb => hf a (List.mem_cons_of_mem _ ha) b (List.mem_cons_of_mem _ hb))
      omega
section
variable {s : HM.Shape}
theorem placeN_inj (hd : 0 ≤ s.data) {i i' q q' c c' : Nat} (hc : c = 1 ∨ c = 2) (hc' : c' = 1 ∨ c' = 2) (hq : q < WM.bl c) (hq' : q' < WM.bl c') (h : placeN s i c q = placeN s i' c' q') : i = i' ∧ (c = c' → q = q') := by
  refine place_inj (s := s) hc hc' hq hq' ?_
  rw [placeN_int s hd, placeN_int s hd, h]
theorem row_cnt (hd : 0 ≤ s.data) (x k : Nat) (t : BitVec 64) : cntN x (rowK s k t) ≤ 1 := by
  unfold rowK
  rw [WM.list_ref, WM.cR_class]
  refine cnt_map (List.Nodup.sublist List.filter_sublist List.nodup_range) (fun a ha b hb e => ?_)
  rw [List.mem_filter, List.mem_range] at ha hb
  obtain ⟨k1, k2⟩ := tR_cls ha.1 ha.2
  obtain ⟨-, k4⟩ := tR_cls hb.1 hb.2
  exact (placeN_inj hd k1 k1 k2 k4 e).2 rfl
theorem all_cnt (hd : 0 ≤ s.data) (x : Nat) (T : List (BitVec 64)) : ∀ n, cntN x (allK s T n) ≤ 1
  | 0 => by show (0 : Nat) ≤ 1; omega
  | n + 1 => by
    show cntN x (allK s T n ++ rowK s n (T.getD n 0#64)) ≤ 1
    rw [cnt_append]
    have h1 := all_cnt hd x T n
    have h2 := row_cnt hd x n (T.getD n 0#64)
    by_cases e : cntN x (allK s T n) = 0
    · omega
    · rw [cnt_zero x (rowK s n (T.getD n 0#64)) ?_]
      · omega
      · rintro y hy rfl
        have hm : y ∈ allK s T n := Decidable.byContradiction fun h => e (cnt_zero y _ (fun z hz e2 => h (e2 ▸ hz)))
        obtain ⟨i, q, hi, hq, ht, e1⟩ := mem_all hm
        unfold rowK at hy
        obtain ⟨q', hq', e2⟩ := List.mem_map.1 hy
        rw [WM.list_ref, List.mem_filter, List.mem_range] at hq'
        obtain ⟨k1, k2⟩ := tR_cls hq ht
        obtain ⟨k3, k4⟩ := tR_cls hq'.1 hq'.2
        rw [WM.cR_class] at e1 e2
        have := (placeN_inj hd k3 k1 k4 k2 (e2.trans e1)).1
        omega
/-- Two words that differ at one block. -/
theorem row_filter (hd : 0 ≤ s.data) {i q c : Nat} {t t' : BitVec 64} (hc : c = 1 ∨ c = 2) (hq : q < WM.bl c) (h : WM.cR t = 0 ∨ WM.cR t = c) (h' : WM.cR t' = 0 ∨ WM.cR t' = c) (hb : ∀ j, j < 16 → j ≠ q → WM.tR t' j = WM.tR t j) :
    (rowK s i t').filter (fun y => decide (y ≠ placeN s i c q)) = (rowK s i t).filter (fun y => decide (y ≠ placeN s i c q)) := by
  have hrow : ∀ u : BitVec 64, (WM.cR u = 0 ∨ WM.cR u = c) → (rowK s i u).filter (fun y => decide (y ≠ placeN s i c q)) = (((List.range 16).filter (fun j => WM.tR u j && decide (j ≠ q))).map (placeN s i c)) := fun u hu => by
    unfold rowK
    rw [WM.list_ref, WM.cR_class]
    rcases hu with hu | hu
    · have hz : ∀ j ∈ List.range 16, ¬ WM.tR u j = true := fun j hj h => (WM.tR_lt (List.mem_range.1 hj) h).1 hu
      have e1 : (List.range 16).filter (WM.tR u) = [] := List.filter_eq_nil_iff.2 hz
      have e2 : (List.range 16).filter (fun j => WM.tR u j && decide (j ≠ q)) = [] := List.filter_eq_nil_iff.2 (fun j hj => by have := hz j hj; simp [this])
      rw [e1, e2]; rfl
    · rw [hu, List.filter_map, List.filter_filter]
      congr 1
      refine List.filter_congr fun j hj => ?_
      have hj16 := List.mem_range.1 hj
      cases ht : WM.tR u j with
      | false => simp
      | true =>
        obtain ⟨k1, k2⟩ := tR_cls hj16 ht
        rw [hu] at k2
        have : placeN s i c j = placeN s i c q ↔ j = q := ⟨fun e => (placeN_inj hd hc hc k2 hq e).2 rfl, fun e => by rw [e]⟩
        simp [this]
  rw [hrow t' h', hrow t h]
  congr 1
  refine List.filter_congr fun j hj => ?_
  by_cases e : j = q
  · simp [e]
  · rw [hb j (List.mem_range.1 hj) e]
theorem all_filter (hd : 0 ≤ s.data) {m i q c : Nat} {T : List (BitVec 64)} {t' : BitVec 64} (hT : T.length = m) (hc : c = 1 ∨ c = 2) (hq : q < WM.bl c) (h : WM.cR (T.getD i 0#64) = 0 ∨ WM.cR (T.getD i 0#64) = c) (h' : WM.cR t' = 0 ∨ WM.cR t' = c)
    (hb : ∀ j, j < 16 → j ≠ q → WM.tR t' j = WM.tR (T.getD i 0#64) j) : ∀ n, n ≤ m → (allK s (T.set i t') n).filter (fun y => decide (y ≠ placeN s i c q)) = (allK s T n).filter (fun y => decide (y ≠ placeN s i c q))
  | 0, _ => rfl
  | n + 1, hn => by
    show (allK s (T.set i t') n ++ rowK s n ((T.set i t').getD n 0#64)).filter _ = (allK s T n ++ rowK s n (T.getD n 0#64)).filter _
    rw [List.filter_append, List.filter_append, all_filter hd hT hc hq h h' hb n (by omega), wordsSet hT (by omega : n < m)]
    by_cases e : n = i
    · subst e; rw [if_pos rfl, row_filter hd hc hq h h' hb]
    · rw [if_neg e]
end
end Go.Proofs.YtcpackbljaabnaaGreatDoor
