/- Format and Open of a device: walks. -/
import Derived.Test.YtejpophjiinijaaDoorHeadWords
import Derived.Test.YtejpophjiinijaaDoorEq
import Derived.Test.YtejpophjiinijaaDoorDevN
namespace Go.Proofs.YtejpophjiinijaaDoor
set_option linter.unusedVariables false
set_option linter.unusedSimpArgs false
set_option maxRecDepth 100000
open Go Go.RowKit

/-- What Format answers, and makes of a device. -/
def NM.Dv.format (D : NM.Dv) : NM.Dv × HM.Shape × Int :=
  if (HM.of D.ls.length).2 = false then (D, HM.none4, 2) else
  if ¬ (D.putAll 0 (List.replicate (D.ls.length * 8) 0#64)).2 = 0 then ((D.putAll 0 (List.replicate (D.ls.length * 8) 0#64)).1, HM.none4, (D.putAll 0 (List.replicate (D.ls.length * 8) 0#64)).2) else
  if ¬ ((D.putAll 0 (List.replicate (D.ls.length * 8) 0#64)).1.putAll 0 (HM.words (HM.of D.ls.length).1)).2 = 0 then (((D.putAll 0 (List.replicate (D.ls.length * 8) 0#64)).1.putAll 0 (HM.words (HM.of D.ls.length).1)).1, HM.none4, ((D.putAll 0 (List.replicate (D.ls.length * 8) 0#64)).1.putAll 0 (HM.words (HM.of D.ls.length).1)).2) else
  (((D.putAll 0 (List.replicate (D.ls.length * 8) 0#64)).1.putAll 0 (HM.words (HM.of D.ls.length).1)).1, (HM.of D.ls.length).1, 0)
/-- What Open answers. -/
def NM.Dv.openH (D : NM.Dv) : HM.Shape × Int :=
  if ¬ (D.get 0 8).2 = 0 then (HM.none4, (D.get 0 8).2) else
  if (HM.of D.ls.length).2 = true ∧ (D.get 0 8).1 = HM.words (HM.of D.ls.length).1 then ((HM.of D.ls.length).1, 0) else (HM.none4, 5)
theorem mod_cell {F : Nat → Prop} {w w' : World} (h : Mod F w w') {a : Addr} (hlt : a.block < w.heap.size) (hn : ¬ F a.block) : w'.cell? a = w.cell? a := by
  unfold World.cell?; rw [h.block _ hlt hn]
theorem Fours.next {w w' : World} (h : Fours w) (hb : Below w.heap.size w w') : Fours w' := h.below hb
theorem Blk.turn {w w' : World} {F F' : Nat → Prop} {b : Nat} {C : Array Value} {e : TypeId} (h : Blk w b C e) (ht : Turn w F w' F') (hn : ¬ F b) : Blk w' b C e := (ht.mod.block b h.lt hn).trans h
theorem DevB.row {w : World} {p g : Nat} {F : Nat → Prop} {D : NM.Dv} (h : DevB w p F D) (hg : ¬ F g) (C : Array Value) : DevB (w.setRow g C) p F D := by
  obtain ⟨lb, S, hA, rfl, hok⟩ := h
  exact ⟨lb, S, hA.mod ((Mod.refl (fun j => j = g) w).row (.inl rfl) C) (fun k hk e => hg (e ▸ hk)), rfl, hok⟩
theorem Turn.row {w w' : World} {F F' : Nat → Prop} {g : Nat} (h : Turn w F w' F') (hg : w.heap.size ≤ g) (C : Array Value) : Turn w F (w'.setRow g C) F' := ⟨h.mod.row (.inr hg) C, h.new⟩
theorem Fours.turn {w w' : World} {F F' : Nat → Prop} (h : Fours w) (ht : Turn w F w' F') (hg : ¬ F 1) : Fours w' := fun x =>
  (mod_cell ht.mod (a := ⟨_, _, none⟩) (World.block_lt_of_cell? w _ (h x)) hg).trans (h x)
theorem putAll_steps (D : NM.Dv) (off : Int) (l : List (BitVec 64)) : (D.putAll off l).1.steps ≤ D.steps + (9 * l.length + 10) := by
  unfold NM.Dv.putAll
  split
  · have := runS_steps D (putAllS off.toNat l)
    have h2 : (putAllS off.toNat l).length ≤ 9 * l.length + 10 := by
      unfold putAllS
      rw [List.length_append, List.length_append, storesS_len, flushesS_len]
      unfold linesOf
      simp only [List.length_cons, List.length_nil]
      split <;> omega
    omega
  · dsimp only; omega
section
set_option linter.unusedSimpArgs false
variable {W : World} {p : Nat} {F : Nat → Prop} {D : NM.Dv}
set_option maxHeartbeats 1000000 in
theorem openH_calls (w0 : World) (h : DevB w0 p F D) (hF : Fours w0) : Ret Tryd.prog 54 #[.pointer (some ⟨p, 0, none⟩)] w0 fun v w' => v = .tuple #[.agg (shapeC D.openH.1), .int .i64 D.openH.2] ∧ Below w0.heap.size w0 w' := by
  have bel0 := Below.refl w0.heap.size w0
  have hst : Tryd.prog.underlying 86 = _ := Tryd.underlying86
  have hpos := h.pos
  have hmost := h.ok.most
  have hsz : (D.size : Int).tdiv 64 = D.ls.length := by rw [Int.tdiv_eq_ediv_of_nonneg (by omega)]; unfold NM.Dv.size; omega
  have hsz' : (D.size : Int) / 64 = D.ls.length := by unfold NM.Dv.size; omega
  have hwl := IntWalk.i64_in (D.ls.length : Int) (by omega)
  have hl0 : ((D.ls.length : Int) == 0) = false := by rw [beq_eq_false_iff_ne]; omega
  have hl0' : ¬ D.ls.length = 0 := by omega
  have hz := fun w (hB : Blk w w0.heap.size #[.int .i64 0, .int .i64 0, .int .i64 0, .int .i64 0] 86) => stAll (P := Tryd.prog) (cs := #[.int .i64 0, .int .i64 0, .int .i64 0, .int .i64 0]) hB shapeI4 rfl (shapeC_one HM.none4)
  refine ret_of (args := [_]) _ Tryd.func54 rfl Tryd.ntmps54 (by simp) ?_
  simp -implicitDefEqProofs [go_sem]
  generalize hw1 : World.alloc w0 _ = w1 at *
  obtain ⟨hB1, b1, sz1⟩ := new_facts hw1
  have bel1 := bel0.trans (b1.mono bel0.size)
  replace h := h.next b1
  replace hF := hF.next b1
  refine callE_of (sizeB w1 h) ?_
  rintro v w2 ⟨rfl, rfl⟩
  simp -implicitDefEqProofs [go_sem, hsz, hsz', hwl, hl0, hl0']
  refine callE_of (get_calls' 0 8 w2 h (by unfold I64; omega) (by unfold I64; omega)) ?_
  rintro v w3 ⟨b3, a3, c3, rfl, hin3, hnew3⟩
  have bel2 := bel1
  have bel3 := bel2.trans (b3.mono bel2.size)
  replace hB1 := hB1.next b3
  replace h := h.next b3
  replace hF := hF.next b3
  by_cases he : (D.get 0 8).2 = 0
  · have he' : ((D.get 0 8).2 != 0) = false := by rw [bne_eq_false_iff_eq]; exact he
    simp -implicitDefEqProofs [go_sem, he, he']
    refine callE_of (headOf_calls (D.ls.length : Int) w3 (by unfold I64; omega)) ?_
    rintro v w4 ⟨rfl, b4⟩
    have bel4 := bel3.trans (b4.mono bel3.size)
    replace hB1 := hB1.next b4
    replace h := h.next b4
    replace hF := hF.next b4
    replace hin3 := hin3.next b4
    have hoi := HM.of_i (n := (D.ls.length : Int)) (by unfold I64; omega)
    simp -implicitDefEqProofs [go_sem, ↓stShape (HM.of D.ls.length).1]
    generalize hw5 : World.alloc w4 _ = w5 at *
    obtain ⟨hB5, b5, sz5⟩ := new_facts hw5
    have bel5 := bel4.trans (b5.mono bel4.size)
    replace hB1 := hB1.next b5
    replace h := h.next b5
    replace hF := hF.next b5
    replace hin3 := hin3.next b5
    have l5 := fun w (hB : Blk w w4.heap.size (shapeC (HM.of D.ls.length).1) 86) => ldAll (P := Tryd.prog) hB hst rfl shapeI4 rfl
    cases hb : (HM.of (D.ls.length : Int)).2
    · have e : D.openH = (HM.none4, 5) := by unfold NM.Dv.openH; rw [if_neg (by rw [he]; simp), if_neg (by rw [hb]; simp)]
      rw [e]
      simp -implicitDefEqProofs [go_sem, ↓hz _ hB1]
      refine bodyCell 2 3 rfl (by simp -implicitDefEqProofs [go_sem]) (hB1.row _) hst rfl shapeI4 ?_
      simp -implicitDefEqProofs [go_sem, shapeC, HM.none4]
      exact Below.row bel5 (Nat.le_refl _) _
    simp -implicitDefEqProofs [go_sem, ↓l5 _ hB5]
    refine callE_of (headWords_calls (HM.of D.ls.length).1 w5 hoi hF) ?_
    rintro v w6 ⟨b6, a6, c6, rfl, hin6, hnew6⟩
    have bel6 := bel5.trans (b6.mono bel5.size)
    replace hB1 := hB1.next b6
    replace hB5 := hB5.next b6
    replace h := h.next b6
    replace hin3 := hin3.next b6
    have hgl : (D.get 0 8).1.length ≤ 9223372036854775807 := by have := hin3.le; have := hin3.max; omega
    simp -implicitDefEqProofs [go_sem]
    refine callE_of (equal_calls a3 a6 (D.get 0 8).1 (HM.words (HM.of D.ls.length).1) _ _ c3 c6 w6 rfl rfl hgl hin3.at_ hin6.at_) ?_
    rintro v w7 ⟨rfl, b7⟩
    have bel7 := bel6.trans (b7.mono bel6.size)
    replace hB1 := hB1.next b7
    replace hB5 := hB5.next b7
    replace h := h.next b7
    by_cases heq : (D.get 0 8).1 = HM.words (HM.of D.ls.length).1
    · have e : D.openH = ((HM.of D.ls.length).1, 0) := by unfold NM.Dv.openH; rw [if_neg (by rw [he]; simp), if_pos ⟨hb, heq⟩]
      rw [e]
      have hs := stAll (P := Tryd.prog) (cs := shapeC (HM.of D.ls.length).1) hB1 (shapeI _) rfl (shapeC_one _)
      simp -implicitDefEqProofs [go_sem, heq, ↓l5 _ hB5, ↓hs]
      refine bodyCell 2 3 rfl (by simp -implicitDefEqProofs [go_sem]) (hB1.row _) hst rfl (shapeI _) ?_
      simp -implicitDefEqProofs [go_sem]
      exact Below.row bel7 (Nat.le_refl _) _
    · have e : D.openH = (HM.none4, 5) := by unfold NM.Dv.openH; rw [if_neg (by rw [he]; simp), if_neg (fun h => heq h.2)]
      rw [e]
      simp -implicitDefEqProofs [go_sem, heq, ↓hz _ hB1]
      refine bodyCell 2 3 rfl (by simp -implicitDefEqProofs [go_sem]) (hB1.row _) hst rfl shapeI4 ?_
      simp -implicitDefEqProofs [go_sem, shapeC, HM.none4]
      exact Below.row bel7 (Nat.le_refl _) _
  · have he' : ((D.get 0 8).2 != 0) = true := by rw [bne_iff_ne]; exact he
    have e : D.openH = (HM.none4, (D.get 0 8).2) := by unfold NM.Dv.openH; rw [if_pos he]
    rw [e]
    simp -implicitDefEqProofs [go_sem, he', ↓hz _ hB1]
    refine bodyCell 2 3 rfl (by simp -implicitDefEqProofs [go_sem]) (hB1.row _) hst rfl shapeI4 ?_
    simp -implicitDefEqProofs [go_sem, shapeC, HM.none4]
    exact Below.row bel3 (Nat.le_refl _) _
theorem openN_calls (w0 : World) : Ret Tryd.prog 54 #[.pointer none] w0 fun v w' => v = .tuple #[.agg (shapeC HM.none4), .int .i64 1] ∧ Below w0.heap.size w0 w' := by
  have bel0 := Below.refl w0.heap.size w0
  have hst : Tryd.prog.underlying 86 = _ := Tryd.underlying86
  have hz := fun w (hB : Blk w w0.heap.size #[.int .i64 0, .int .i64 0, .int .i64 0, .int .i64 0] 86) => stAll (P := Tryd.prog) (cs := #[.int .i64 0, .int .i64 0, .int .i64 0, .int .i64 0]) hB shapeI4 rfl (shapeC_one HM.none4)
  have hsN : ∀ w : World, Ret Tryd.prog 52 #[.pointer none] w fun v w' => v = .int .i64 0 ∧ w' = w := by
    intro w
    refine ret_of (args := [_]) _ Tryd.func52 rfl Tryd.ntmps52 (by simp) ?_
    simp -implicitDefEqProofs [go_sem]
    refine body_tmp 2 rfl ?_
    simp -implicitDefEqProofs [go_sem]
  refine ret_of (args := [_]) _ Tryd.func54 rfl Tryd.ntmps54 (by simp) ?_
  simp -implicitDefEqProofs [go_sem]
  generalize hw1 : World.alloc w0 _ = w1 at *
  obtain ⟨hB1, b1, sz1⟩ := new_facts hw1
  have bel1 := bel0.trans (b1.mono bel0.size)
  refine callE_of (hsN w1) ?_
  rintro v w2 ⟨rfl, rfl⟩
  have hw : IntKind.i64.wrap 0 = 0 := by decide
  simp -implicitDefEqProofs [go_sem, hw, ↓hz _ hB1]
  refine bodyCell 2 3 rfl (by simp -implicitDefEqProofs [go_sem]) (hB1.row _) hst rfl shapeI4 ?_
  simp -implicitDefEqProofs [go_sem, shapeC, HM.none4]
  exact Below.row bel1 (Nat.le_refl _) _
set_option maxHeartbeats 1000000 in
theorem format_calls (w0 : World) (h : St W w0 p F D) (hFW : Fours W) (hc : D.steps + 3000000 < 1099511627776) : Ret Tryd.prog 58 #[.pointer (some ⟨p, 0, none⟩)] w0 fun v w' => v = .tuple #[.agg (shapeC D.format.2.1), .int .i64 D.format.2.2] ∧ ∃ F', DevB w' p F' D.format.1 ∧ Turn w0 F w' F' := by
  have bel0 := Below.refl w0.heap.size w0
  have hst : Tryd.prog.underlying 86 = _ := Tryd.underlying86
  have hpos := h.dev.pos
  have hmost := h.dev.ok.most
  have hF := hFW.below h.bel
  have hnF : ¬ F 1 := fun hf => by
    have h1 := h.ge _ hf
    have h2 := World.block_lt_of_cell? W _ (hFW 0#32)
    simp only at h2
    omega
  replace h := h.dev
  have hsz : (D.size : Int).tdiv 64 = D.ls.length := by rw [Int.tdiv_eq_ediv_of_nonneg (by omega)]; unfold NM.Dv.size; omega
  have hsz' : (D.size : Int) / 64 = D.ls.length := by unfold NM.Dv.size; omega
  have hwl := IntWalk.i64_in (D.ls.length : Int) (by omega)
  have hl0 : ((D.ls.length : Int) == 0) = false := by rw [beq_eq_false_iff_ne]; omega
  have hl0' : ¬ D.ls.length = 0 := by omega
  have hz := fun w (hB : Blk w w0.heap.size #[.int .i64 0, .int .i64 0, .int .i64 0, .int .i64 0] 86) => stAll (P := Tryd.prog) (cs := #[.int .i64 0, .int .i64 0, .int .i64 0, .int .i64 0]) hB shapeI4 rfl (shapeC_one HM.none4)
  have hlt0 := h.lt
  have hn0 : ¬ F w0.heap.size := fun hf => by have := hlt0 _ hf; omega
  refine ret_of (args := [_]) _ Tryd.func58 rfl Tryd.ntmps58 (by simp) ?_
  simp -implicitDefEqProofs [go_sem]
  generalize hw1 : World.alloc w0 _ = w1 at *
  obtain ⟨hB1, b1, sz1⟩ := new_facts hw1
  have bel1 := bel0.trans (b1.mono bel0.size)
  replace h := h.next b1
  replace hF := hF.next b1
  refine callE_of (sizeB w1 h) ?_
  rintro v w2 ⟨rfl, rfl⟩
  have bel2 := bel1
  simp -implicitDefEqProofs [go_sem, hsz, hsz', hwl, hl0, hl0']
  refine callE_of (headOf_calls (D.ls.length : Int) w2 (by unfold I64; omega)) ?_
  rintro v w3 ⟨rfl, b3⟩
  have bel3 := bel2.trans (b3.mono bel2.size)
  replace hB1 := hB1.next b3
  replace h := h.next b3
  replace hF := hF.next b3
  have hn3 : ¬ F w3.heap.size := fun hf => by have := hlt0 _ hf; have := bel3.size; omega
  have hoi := HM.of_i (n := (D.ls.length : Int)) (by unfold I64; omega)
  simp -implicitDefEqProofs [go_sem, ↓stShape (HM.of D.ls.length).1]
  generalize hw4 : World.alloc w3 _ = w4 at *
  obtain ⟨hB4, b4, sz4⟩ := new_facts hw4
  have bel4 := bel3.trans (b4.mono bel3.size)
  replace hB1 := hB1.next b4
  replace h := h.next b4
  replace hF := hF.next b4
  have l4 := fun w (hB : Blk w w3.heap.size (shapeC (HM.of D.ls.length).1) 86) => ldAll (P := Tryd.prog) hB hst rfl shapeI4 rfl
  cases hb : (HM.of (D.ls.length : Int)).2
  · have e : D.format = (D, HM.none4, 2) := by unfold NM.Dv.format; rw [if_pos hb]
    rw [e]
    simp -implicitDefEqProofs [go_sem, ↓hz _ hB1]
    refine bodyCell 2 3 rfl (by simp -implicitDefEqProofs [go_sem]) (hB1.row _) hst rfl shapeI4 ?_
    simp -implicitDefEqProofs [go_sem, shapeC, HM.none4]
    exact ⟨F, h.row hn0 _, (Turn.of bel4).row (Nat.le_refl _) _⟩
  simp -implicitDefEqProofs [go_sem]
  refine callE_of (clearAll_calls D.ls.length w4 h (by omega) (by omega)) ?_
  rintro v w5 ⟨rfl, F5, h5, t5⟩
  have hlt1 := hB1.lt
  have hlt4 := hB4.lt
  replace hB1 := hB1.turn t5 hn0
  replace hB4 := hB4.turn t5 hn3
  replace hn0 := out_turn hn0 hlt1 t5
  replace hn3 := out_turn hn3 hlt4 t5
  have hF5 := hF.turn t5 hnF
  have hnF5 := out_turn hnF (World.block_lt_of_cell? w4 _ (hF 0#32)) t5
  have t05 := (Turn.of (F := F) bel4).trans t5
  obtain ⟨D5, hD5⟩ : ∃ D5, D5 = (D.putAll 0 (List.replicate (D.ls.length * 8) 0#64)).1 := ⟨_, rfl⟩
  obtain ⟨e5, he5⟩ : ∃ e5, e5 = (D.putAll 0 (List.replicate (D.ls.length * 8) 0#64)).2 := ⟨_, rfl⟩
  have hst5 : D5.steps + 1000000 < 1099511627776 := by
    have := putAll_steps D 0 (List.replicate (D.ls.length * 8) 0#64)
    rw [List.length_replicate] at this
    rw [hD5]; omega
  rw [← hD5] at h5
  rw [← he5]
  by_cases he : ¬ e5 = 0
  · have he' : (e5 != 0) = true := by rw [bne_iff_ne]; exact he
    have e : D.format = (D5, HM.none4, e5) := by unfold NM.Dv.format; rw [if_neg (by rw [hb]; simp), if_pos (by rw [← he5]; exact he), hD5, he5]
    rw [e]
    simp -implicitDefEqProofs [go_sem, he', ↓hz _ hB1]
    refine bodyCell 2 3 rfl (by simp -implicitDefEqProofs [go_sem]) (hB1.row _) hst rfl shapeI4 ?_
    simp -implicitDefEqProofs [go_sem, shapeC, HM.none4]
    exact ⟨F5, h5.row hn0 _, t05.row (Nat.le_refl _) _⟩
  replace he : e5 = 0 := by simpa using he
  simp -implicitDefEqProofs [go_sem, he, ↓l4 _ hB4]
  refine callE_of (headWords_calls (HM.of D.ls.length).1 w5 hoi hF5) ?_
  rintro v w6 ⟨b6, a6, c6, rfl, hin6, hnew6⟩
  replace hB1 := hB1.next b6
  replace hB4 := hB4.next b6
  replace h5 := h5.next b6
  have t06 := t05.trans (Turn.of b6)
  have hlt1 := hB1.lt
  have hlt4 := hB4.lt
  simp -implicitDefEqProofs [go_sem]
  refine callE_of (putAll_calls 0 a6 (HM.words (HM.of D.ls.length).1) c6 w6 h5 hin6 (by unfold I64; omega) hst5) ?_
  rintro v w7 ⟨rfl, F7, h7, t7⟩
  replace hB1 := hB1.turn t7 hn0
  replace hB4 := hB4.turn t7 hn3
  replace hn0 := out_turn hn0 hlt1 t7
  have t07 := t06.trans t7
  obtain ⟨D7, hD7⟩ : ∃ D7, D7 = (D5.putAll 0 (HM.words (HM.of D.ls.length).1)).1 := ⟨_, rfl⟩
  obtain ⟨e7, he7⟩ : ∃ e7, e7 = (D5.putAll 0 (HM.words (HM.of D.ls.length).1)).2 := ⟨_, rfl⟩
  rw [← hD7] at h7
  rw [← he7]
  have ef : D.format = if ¬ e7 = 0 then (D7, HM.none4, e7) else (D7, (HM.of D.ls.length).1, 0) := by
    unfold NM.Dv.format; rw [if_neg (by rw [hb]; simp), if_neg (by rw [← he5]; simpa using he), ← hD5, ← hD7, ← he7]
  rw [ef]
  by_cases he : ¬ e7 = 0
  · have he' : (e7 != 0) = true := by rw [bne_iff_ne]; exact he
    rw [if_pos he]
    simp -implicitDefEqProofs [go_sem, he', ↓hz _ hB1]
    refine bodyCell 2 3 rfl (by simp -implicitDefEqProofs [go_sem]) (hB1.row _) hst rfl shapeI4 ?_
    simp -implicitDefEqProofs [go_sem, shapeC, HM.none4]
    exact ⟨F7, h7.row hn0 _, t07.row (Nat.le_refl _) _⟩
  · have he' : (e7 != 0) = false := by rw [bne_eq_false_iff_eq]; simpa using he
    rw [if_neg he]
    have hs := stAll (P := Tryd.prog) (cs := shapeC (HM.of D.ls.length).1) hB1 (shapeI _) rfl (shapeC_one _)
    simp -implicitDefEqProofs [go_sem, he', ↓l4 _ hB4, ↓hs]
    refine bodyCell 2 3 rfl (by simp -implicitDefEqProofs [go_sem]) (hB1.row _) hst rfl (shapeI _) ?_
    simp -implicitDefEqProofs [go_sem]
    exact ⟨F7, h7.row hn0 _, t07.row (Nat.le_refl _) _⟩
end
end Go.Proofs.YtejpophjiinijaaDoor
