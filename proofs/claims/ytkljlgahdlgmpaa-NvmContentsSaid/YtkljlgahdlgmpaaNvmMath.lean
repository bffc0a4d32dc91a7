/- A device, no program in sight: lines, their changes, and what each call does. -/
import Derived.Test.YtkljlgahdlgmpaaWordMath
namespace Go.Proofs.Ytkljlgahdlgmpaa.NM
open Go.Proofs.Ytkljlgahdlgmpaa.WM (getM putM putM_length putM_getD hasB)

/-- A line: its bytes now, its changes (place, word ahead of it), its mark (0: none). -/
structure Ln where
  now : List (BitVec 8)
  chg : List (Nat × BitVec 64)
  mark : Nat
/-- A line that may be. -/
structure Ln.Ok (l : Ln) : Prop where
  len : l.now.length = 64
  at_ : ∀ c ∈ l.chg, ∃ q, c.1 = 8 * q ∧ q < 8
  mark : l.mark ≤ l.chg.length + 1
structure Dv where
  ls : List Ln
  down : Bool
  left : Int
  steps : Nat
structure Dv.Ok (D : Dv) : Prop where
  line : ∀ l ∈ D.ls, l.Ok
  most : D.ls.length ≤ 1024
  chg : ∀ l ∈ D.ls, l.chg.length ≤ D.steps
  left : -1 ≤ D.left ∧ D.left ≤ 9223372036854775807

/-- The same, but for how many changes there may be. -/
structure Dv.Ok0 (D : Dv) : Prop where
  line : ∀ l ∈ D.ls, l.Ok
  most : D.ls.length ≤ 1024
  left : -1 ≤ D.left ∧ D.left ≤ 9223372036854775807
theorem Dv.Ok.to0 {D : Dv} (h : D.Ok) : D.Ok0 := ⟨h.line, h.most, h.left⟩

def zeros : List (BitVec 8) := List.replicate 64 0#8
def line0 : Ln := ⟨zeros, [], 0⟩
theorem line0_ok : line0.Ok := ⟨by simp [line0, zeros], by simp [line0], by simp [line0]⟩
def dev0 (n : Nat) : Dv := ⟨List.replicate n line0, false, -1, 0⟩
theorem dev0_ok (n : Nat) (hn : n ≤ 1024) : (dev0 n).Ok :=
  ⟨fun l hl => by rw [(List.mem_replicate.1 hl).2]; exact line0_ok, by simpa [dev0] using hn, fun l hl => by rw [(List.mem_replicate.1 hl).2]; simp [line0], by simp [dev0]⟩
def Dv.size (D : Dv) : Nat := 64 * D.ls.length
def Dv.ln (D : Dv) (i : Nat) : Ln := D.ls.getD i line0
def Dv.ask (D : Dv) (off each : Int) : Int :=
  if D.ls.length = 0 then 1 else if D.down then 12 else if off < 0 ∨ (D.size : Int) ≤ off ∨ off.tmod each ≠ 0 then 4 else 0
def Dv.done (D : Dv) : Dv := { D with steps := D.steps + 1, left := if 0 < D.left then D.left - 1 else D.left, down := if 0 < D.left then decide (D.left - 1 = 0) else D.down }
def Dv.setLn (D : Dv) (i : Nat) (l : Ln) : Dv := { D with ls := D.ls.set i l }
def Ln.store (l : Ln) (p : Nat) (n : BitVec 64) : Ln := { l with now := putM l.now p n, chg := l.chg ++ [(p, getM l.now p)] }
def Ln.fence (l : Ln) : Ln := if 0 < l.mark then { l with chg := l.chg.drop (l.mark - 1), mark := 0 } else l
/-- The changes undone, the last one first. -/
def undo (cs : List (Nat × BitVec 64)) (b : List (BitVec 8)) : List (BitVec 8) := cs.foldr (fun c b => putM b c.1 c.2) b
def Ln.crash (l : Ln) (k : Nat) : Ln := ⟨undo (l.chg.drop k) l.now, [], 0⟩
/-- The word at a place of the device. -/
def Dv.word (D : Dv) (off : Nat) : BitVec 64 := getM (D.ln (off / 64)).now (off % 64)
def Dv.load (D : Dv) (off : Int) : BitVec 64 × Int := if D.ask off 8 = 0 then (D.word off.toNat, 0) else (0#64, D.ask off 8)
def Dv.store (D : Dv) (off : Int) (n : BitVec 64) : Dv × Int :=
  if D.ask off 8 = 0 then
    ((if D.word off.toNat = n then D else D.setLn (off.toNat / 64) ((D.ln (off.toNat / 64)).store (off.toNat % 64) n)).done, 0)
  else (D, D.ask off 8)
def Dv.flush (D : Dv) (off : Int) : Dv × Int :=
  if D.ask off 1 = 0 then
    ((D.setLn (off.toNat / 64) { D.ln (off.toNat / 64) with mark := (D.ln (off.toNat / 64)).chg.length + 1 }).done, 0)
  else (D, D.ask off 1)
def Dv.fence (D : Dv) : Dv × Int := if D.ask 0 1 = 0 then (({ D with ls := D.ls.map Ln.fence } : Dv).done, 0) else (D, D.ask 0 1)
def Dv.stop (D : Dv) (after : Int) : Dv := if D.ls.length = 0 ∨ D.down = true then D else { D with left := max after 0, down := decide (max after 0 = 0) }
/-- What a crash makes of lines: each takes a pick, if it may be more than one thing. -/
def crashL : List Ln → List (BitVec 8) → List Ln
  | [], _ => []
  | l :: ls, ps => if 0 < l.chg.length then
      (match ps with
        | [] => l.crash 0 :: crashL ls []
        | p :: ps => l.crash (p.toNat % (l.chg.length + 1)) :: crashL ls ps)
    else l.crash 0 :: crashL ls ps
def Dv.crash (D : Dv) (ps : List (BitVec 8)) : Dv := if D.ls.length = 0 then D else { D with ls := crashL D.ls ps, down := false, left := -1 }
def Dv.may (D : Dv) (i : Int) : Int := if i < 0 ∨ (D.ls.length : Int) ≤ i then 0 else ((D.ln i.toNat).chg.length : Int) + 1
def Dv.image (D : Dv) : List (BitVec 8) := (D.ls.map Ln.now).flatten

/-! ### That stays right -/
theorem Ln.Ok.store {l : Ln} (h : l.Ok) {p : Nat} (hp : ∃ q, p = 8 * q ∧ q < 8) (n : BitVec 64) : (l.store p n).Ok := by
  refine ⟨by simp [Ln.store, putM_length, h.len], ?_, by have := h.mark; simp [Ln.store]; omega⟩
  intro c hc
  simp [Ln.store] at hc
  rcases hc with hc | rfl
  · exact h.at_ c hc
  · exact hp
theorem Ln.Ok.fence {l : Ln} (h : l.Ok) : l.fence.Ok := by
  unfold Ln.fence
  split
  · exact ⟨h.len, fun c hc => h.at_ c (List.mem_of_mem_drop hc), by simp⟩
  · exact h
theorem undo_length (cs : List (Nat × BitVec 64)) (b : List (BitVec 8)) : (undo cs b).length = b.length := by
  induction cs with
  | nil => rfl
  | cons c cs ih => simp [undo, putM_length] at ih ⊢; exact ih
theorem Ln.Ok.crash {l : Ln} (h : l.Ok) (k : Nat) : (l.crash k).Ok := ⟨by simp [Ln.crash, undo_length, h.len], by simp [Ln.crash], by simp [Ln.crash]⟩
theorem crashL_ok : ∀ (ls : List Ln) (ps : List (BitVec 8)), (∀ l ∈ ls, l.Ok) → ∀ l ∈ crashL ls ps, l.Ok ∧ l.chg = []
  | [], _, _, l, hl => by cases hl
  | x :: ls, ps, h, l, hl => by
    have hx := h x List.mem_cons_self
    have ih := fun ps => crashL_ok ls ps (fun l hl => h l (List.mem_cons_of_mem _ hl))
    unfold crashL at hl
    split at hl
    · cases ps with
      | nil => rcases List.mem_cons.1 hl with rfl | hl
               · exact ⟨hx.crash _, rfl⟩
               · exact ih _ l hl
      | cons p ps => rcases List.mem_cons.1 hl with rfl | hl
                     · exact ⟨hx.crash _, rfl⟩
                     · exact ih _ l hl
    · rcases List.mem_cons.1 hl with rfl | hl
      · exact ⟨hx.crash _, rfl⟩
      · exact ih _ l hl
theorem crashL_length : ∀ (ls : List Ln) (ps : List (BitVec 8)), (crashL ls ps).length = ls.length
  | [], _ => rfl
  | x :: ls, ps => by
    unfold crashL
    split
    · cases ps <;> simp [crashL_length ls]
    · simp [crashL_length ls]
theorem Dv.Ok0.ln {D : Dv} (h : D.Ok0) (i : Nat) : (D.ln i).Ok := by
  unfold Dv.ln
  rcases Nat.lt_or_ge i D.ls.length with hi | hi
  · have : D.ls.getD i line0 = D.ls[i] := by simp [List.getD, hi]
    rw [this]; exact h.line _ (List.getElem_mem hi)
  · have : D.ls.getD i line0 = line0 := by simp [List.getD, hi]
    rw [this]; exact line0_ok
theorem Dv.Ok.lnChg {D : Dv} (h : D.Ok) (i : Nat) : (D.ln i).chg.length ≤ D.steps := by
  unfold Dv.ln
  rcases Nat.lt_or_ge i D.ls.length with hi | hi
  · have : D.ls.getD i line0 = D.ls[i] := by simp [List.getD, hi]
    rw [this]; exact h.chg _ (List.getElem_mem hi)
  · have : D.ls.getD i line0 = line0 := by simp [List.getD, hi]
    rw [this]; simp [line0]
theorem Dv.Ok.setLn_done {D : Dv} (h : D.Ok) (i : Nat) {l : Ln} (hl : l.Ok) (hc : l.chg.length ≤ D.steps + 1) : (D.setLn i l).done.Ok := by
  refine ⟨fun x hx => ?_, by simpa [Dv.setLn, Dv.done] using h.most, fun x hx => ?_, ?_⟩
  · rcases List.mem_or_eq_of_mem_set hx with hx | rfl
    · exact h.line x hx
    · exact hl
  · rcases List.mem_or_eq_of_mem_set hx with hx | rfl
    · have := h.chg x hx; simp [Dv.setLn, Dv.done]; omega
    · simpa [Dv.setLn, Dv.done] using hc
  · have := h.left; by_cases h0 : 0 < D.left <;> simp only [Dv.setLn, Dv.done, h0, if_true, if_false] <;> omega
theorem Dv.Ok.done {D : Dv} (h : D.Ok) : D.done.Ok := by
  refine ⟨h.line, h.most, fun x hx => by have := h.chg x hx; simp [Dv.done]; omega, ?_⟩
  have := h.left; by_cases h0 : 0 < D.left <;> simp only [Dv.done, h0, if_true, if_false] <;> omega
theorem Dv.Ok.store {D : Dv} (h : D.Ok) (off : Int) (n : BitVec 64) : (D.store off n).1.Ok := by
  unfold Dv.store
  split
  · rename_i ha
    simp only
    split
    · exact Dv.Ok.done h
    · have hl := Dv.Ok0.ln (Dv.Ok.to0 h) (off.toNat / 64)
      refine Dv.Ok.setLn_done h _ (hl.store ?_ n) (by have := Dv.Ok.lnChg h (off.toNat / 64); simp [Ln.store]; exact this)
      have hm : off.tmod 8 = 0 ∧ 0 ≤ off := by
        unfold Dv.ask at ha
        split at ha
        · cases ha
        · split at ha
          · cases ha
          · split at ha
            · cases ha
            · rename_i h3
              constructor
              · apply Classical.byContradiction; intro h4; exact h3 (.inr (.inr h4))
              · apply Classical.byContradiction; intro h4; exact h3 (.inl (by omega))
      have h8 : off % 8 = 0 := by rw [← Int.tmod_eq_emod_of_nonneg hm.2]; exact hm.1
      exact ⟨off.toNat % 64 / 8, by omega, by omega⟩
  · exact h
theorem Dv.Ok.flush {D : Dv} (h : D.Ok) (off : Int) : (D.flush off).1.Ok := by
  unfold Dv.flush
  split
  · have hl := Dv.Ok0.ln (Dv.Ok.to0 h) (off.toNat / 64)
    exact Dv.Ok.setLn_done h _ ⟨hl.len, hl.at_, Nat.le_refl _⟩ (by have := Dv.Ok.lnChg h (off.toNat / 64); simp; omega)
  · exact h
theorem Dv.Ok.fence {D : Dv} (h : D.Ok) : D.fence.1.Ok := by
  unfold Dv.fence
  split
  · refine Dv.Ok.done ⟨fun l hl => ?_, by simpa using h.most, fun l hl => ?_, h.left⟩
    · obtain ⟨x, hx, rfl⟩ := List.mem_map.1 hl
      exact (h.line x hx).fence
    · obtain ⟨x, hx, rfl⟩ := List.mem_map.1 hl
      have := h.chg x hx
      show x.fence.chg.length ≤ D.steps
      unfold Ln.fence; split
      · simp; omega
      · exact this
  · exact h
theorem Dv.Ok.stop {D : Dv} (h : D.Ok) (after : Int) (ha : after ≤ 9223372036854775807) : (D.stop after).Ok := by
  unfold Dv.stop
  split
  · exact h
  · exact ⟨h.line, h.most, h.chg, by simp only; omega⟩
theorem Dv.Ok.crash {D : Dv} (h : D.Ok) (ps : List (BitVec 8)) : (D.crash ps).Ok := by
  unfold Dv.crash
  split
  · exact h
  · exact ⟨fun l hl => (crashL_ok D.ls ps h.line l hl).1, by simpa [crashL_length] using h.most, fun l hl => by rw [(crashL_ok D.ls ps h.line l hl).2]; simp, by simp⟩
theorem Dv.Ok0.done {D : Dv} (h : D.Ok0) : D.done.Ok0 := by
  refine ⟨h.line, h.most, ?_⟩
  have := h.left; by_cases h0 : 0 < D.left <;> simp only [Dv.done, h0, if_true, if_false] <;> omega
theorem Dv.Ok0.setLn {D : Dv} (h : D.Ok0) (i : Nat) {l : Ln} (hl : l.Ok) : (D.setLn i l).Ok0 := by
  refine ⟨fun x hx => ?_, by simpa [Dv.setLn] using h.most, h.left⟩
  rcases List.mem_or_eq_of_mem_set hx with hx | rfl
  · exact h.line x hx
  · exact hl
theorem Dv.setLn_len (D : Dv) (i : Nat) (l : Ln) : (D.setLn i l).ls.length = D.ls.length := by simp [Dv.setLn]
theorem Dv.setLn_ln (D : Dv) (i : Nat) (l : Ln) (hi : i < D.ls.length) (j : Nat) : (D.setLn i l).ln j = if j = i then l else D.ln j := by
  unfold Dv.ln Dv.setLn
  simp only [List.getD_eq_getElem?_getD, List.getElem?_set]
  by_cases h : j = i
  · subst h; simp [hi]
  · rw [if_neg (fun e => h e.symm), if_neg h]
end Go.Proofs.Ytkljlgahdlgmpaa.NM
