/- Slices of slices of bytes that come in; what the reach says of their lengths. -/
import Derived.Test.YtgdjnginljamoaaDoorOpen
import Derived.Test.YtgdjnginljamoaaDoorCrcLaw2
import Derived.Deep.Slices
namespace Go.Proofs.YtgdjnginljamoaaDoor
open Go Go.RowKit Go.ChangeShapes Go.WideShapes Go.ChangeAt

section
variable {P : Program} {H : Type} {enc : TypeId × Value → H} {w : World} {base : Nat} {spare : Nat → Bool} {held : Bool}

def Fit (l : List Nat) : Prop := ∀ n ∈ l, n ≤ 140737488351232
theorem fit_of {l : List Nat} (h : l.all (fun x => decide (x ≤ reachBytes)) = true) : Fit l := fun n hn => by
  have := List.all_eq_true.1 h n hn
  have h2 : n ≤ reachBytes := by simpa using this
  unfold reachBytes at h2; omega
theorem fit_each {t : TypeId} {ts : List TypeId} {d : DataW H} {ds : List (DataW H)} (h : Fit (DataW.weightsEach P (t :: ts) (d :: ds))) : Fit (d.weights P t) ∧ Fit (DataW.weightsEach P ts ds) := by
  simp only [DataW.weightsEach] at h
  exact ⟨fun n hn => h n (List.mem_append_left _ hn), fun n hn => h n (List.mem_append_right _ hn)⟩
theorem fit_all {e : TypeId} : ∀ {l : List (DataW H)}, Fit (DataW.weightsAll P e l) → ∀ d ∈ l, Fit (d.weights P e) := by
  intro l
  induction l with
  | nil => intro _ d hd; cases hd
  | cons x l ih =>
    intro h d hd
    simp only [DataW.weightsAll] at h
    rcases List.mem_cons.1 hd with rfl | hd
    · exact fun n hn => h n (List.mem_append_left _ hn)
    · exact ih (fun n hn => h n (List.mem_append_right _ hn)) d hd
theorem fit_slice {t e : TypeId} {elems rest : List (DataW H)} (ht : P.underlying t = some (.slice e)) (h : Fit ((DataW.slice elems rest).weights P t)) :
    (elems.length + rest.length) * P.bytesOf e ≤ 140737488351232 ∧ ∀ d ∈ elems, Fit (d.weights P e) := by
  simp only [DataW.weights, ht] at h
  exact ⟨h _ (List.mem_cons_self), fit_all (fun n hn => h n (List.mem_cons_of_mem _ (List.mem_append_left _ hn)))⟩

theorem rowsIn_of {t s e : TypeId} {a : Option Addr} {len cap : Nat} {d : DataW H} {p : List MemPlace}
    (ht : P.underlying t = some (.slice s)) (hs : P.underlying s = some (.slice e)) (he : P.underlying e = some (.int .u8)) (hcs : P.cellsOf s = 1) (hce : P.cellsOf e = 1) (hbe : P.bytesOf e = 1)
    (h : DataW.Trod enc P w base spare held t (.slice a len cap) d p) (hf : Fit (d.weights P t)) : ∃ ls : List (List (BitVec 8)), ls.length = len ∧ RowsIn w a ls cap := by
  obtain ⟨fuel, hx⟩ := h
  rcases Deep.open_slice1 ht hcs hx with ⟨h1, h2⟩ | ⟨y, l, c, m, n, V, D, Pl, h1, _, hl, hm, hmm, h2, hcell⟩
  · simp [Value.cells] at h1
    obtain ⟨rfl, rfl, rfl⟩ := h1
    exact ⟨[], rfl, .inl rfl, Nat.le_refl _, by decide, fun i hi => by simp at hi⟩
  · simp [Value.cells] at h1
    obtain ⟨rfl, rfl, rfl⟩ := h1
    simp only [Prod.mk.injEq] at h2
    obtain ⟨hd, _⟩ := h2
    rw [hd] at hf
    have hfit := (fit_slice ht hf).2
    have hlm : len ≤ m := by split at hmm <;> omega
    -- each element
    have each : ∀ i, i < len → ∃ (ai : Option Addr) (ci : Nat) (li : List (BitVec 8)), V i = .slice ai li.length ci ∧ BytesIn w ai li ci ∧ li.length ≤ 140737488351232 := by
      intro i hi
      obtain ⟨_, hi2⟩ := hcell i (by omega)
      have hfi := hfit (D i) (List.mem_map.2 ⟨i, List.mem_range.2 hi, rfl⟩)
      rcases DataW.trod_slice hs hi2 with ⟨h3, h4⟩ | ⟨a3, len3, cap3, elems, rest, n3, _, h3, h4, _, _, _, hlen3, _⟩
      · have h3' : V i = .slice none 0 0 := by simpa using h3
        refine ⟨none, 0, [], h3', ⟨.inl rfl, Nat.le_refl _, by decide, fun _ => rfl⟩, by simp⟩
      · have h3' : V i = .slice (some a3) len3 cap3 := by simpa using h3
        have hT : DataW.Trod enc P w base spare held s (.slice (some a3) len3 cap3) (D i) (Pl i) := ⟨n, by rw [← h3']; rw [h3'] at hi2 ⊢; exact hi2⟩
        obtain ⟨li, hli, hin⟩ := bytesIn_of hs he hce hT
        refine ⟨some a3, cap3, li, by rw [h3', hli], hin, ?_⟩
        simp only [Prod.mk.injEq] at h4
        rw [h4.1] at hfi
        have := (fit_slice hs hfi).1
        rw [hbe, List.length_map, List.length_map] at this
        omega
    obtain ⟨A, hA⟩ := Deep.choose_lt (p := fun i (x : Option Addr × Nat × List (BitVec 8)) => V i = .slice x.1 x.2.2.length x.2.1 ∧ BytesIn w x.1 x.2.2 x.2.1 ∧ x.2.2.length ≤ 140737488351232) (fun i hi => by
      obtain ⟨ai, ci, li, h5⟩ := each i hi
      exact ⟨(ai, ci, li), h5⟩)
    refine ⟨(List.range len).map fun i => (A i).2.2, by simp, ?_, by simpa using hl, by unfold maxLen at hm; omega, fun i hi => ?_⟩
    · by_cases h0 : len = 0
      · exact .inl (by simp [h0])
      · have c0 := (hcell 0 (by omega)).1
        have hy : y = ⟨y.block, y.off, none⟩ := addr_at (v := V 0) (by simpa [Addr.add] using c0)
        refine Or.inr ⟨y.block, y.off, congrArg some hy, fun i hi => ?_⟩
        have hi' : i < len := by simpa using hi
        obtain ⟨h6, h7, _⟩ := hA i hi'
        have h8 := (hcell i (by omega)).1
        have h9 : y.add i = ⟨y.block, y.off + i, none⟩ := by
          unfold Addr.add
          split
          · rename_i hi0; subst hi0; exact hy
          · rfl
        rw [h9, h6] at h8
        exact ⟨(A i).1, (A i).2.1, by simpa using h8, by simpa using h7⟩
    · have hi' : i < len := by simpa using hi
      simpa using (hA i hi').2.2
end
end Go.Proofs.YtgdjnginljamoaaDoor
