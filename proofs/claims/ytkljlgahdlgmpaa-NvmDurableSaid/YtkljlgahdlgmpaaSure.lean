/- Durable words: steps, one behind the other. Walks. -/
import Derived.Test.YtkljlgahdlgmpaaNvmPlain
namespace Go.Proofs.Ytkljlgahdlgmpaa
open Go Go.RowKit

/-- A step of a device. -/
inductive StepV
  | store (off : Int) (n : BitVec 64)
  | flush (off : Int)
  | fence
def StepV.Ok : StepV → Prop
  | .store off _ => I64 off
  | .flush off => I64 off
  | .fence => True
def NM.Dv.step (D : NM.Dv) : StepV → NM.Dv × Int
  | .store off n => D.store off n
  | .flush off => D.flush off
  | .fence => D.fence
/-- Steps up to the first error. -/
def runS : NM.Dv → List StepV → NM.Dv × Int
  | D, [] => (D, 0)
  | D, s :: l => if (D.step s).2 = 0 then runS (D.step s).1 l else D.step s
theorem runS_ok {D : NM.Dv} {s : StepV} (h : (D.step s).2 = 0) (l : List StepV) : runS D (s :: l) = runS (D.step s).1 l := by
  show (if (D.step s).2 = 0 then _ else _) = _; rw [if_pos h]
theorem runS_err {D : NM.Dv} {s : StepV} (h : ¬ (D.step s).2 = 0) (l : List StepV) : runS D (s :: l) = D.step s := by
  show (if (D.step s).2 = 0 then _ else _) = _; rw [if_neg h]
theorem runS_append (D : NM.Dv) (a b : List StepV) : runS D (a ++ b) = if (runS D a).2 = 0 then runS (runS D a).1 b else runS D a := by
  induction a generalizing D with
  | nil => rfl
  | cons s a ih =>
    by_cases h : (D.step s).2 = 0
    · rw [List.cons_append, runS_ok h, runS_ok h]; exact ih _
    · rw [List.cons_append, runS_err h, runS_err h, if_neg h]
theorem step_steps (D : NM.Dv) (s : StepV) : (D.step s).1.steps ≤ D.steps + 1 := by
  cases s with
  | store off n => exact store_steps D off n
  | flush off => exact flush_steps D off
  | fence => exact fence_steps D
theorem step_ok {D : NM.Dv} (h : D.Ok) (s : StepV) : (D.step s).1.Ok := by
  cases s with
  | store off n => exact h.store off n
  | flush off => exact h.flush off
  | fence => exact h.fence
theorem step_len (D : NM.Dv) (s : StepV) : (D.step s).1.ls.length = D.ls.length := by
  cases s with
  | store off n => exact NM.store_len D off n
  | flush off => exact NM.flush_len D off
  | fence => exact NM.fence_len D
theorem runS_steps (D : NM.Dv) (l : List StepV) : (runS D l).1.steps ≤ D.steps + l.length := by
  induction l generalizing D with
  | nil => simp [runS]
  | cons s l ih =>
    have h1 := step_steps D s
    simp only [runS]
    split
    · have := ih (D.step s).1; simp only [List.length_cons]; omega
    · simp only [List.length_cons]; omega
theorem runS_len (D : NM.Dv) (l : List StepV) : (runS D l).1.ls.length = D.ls.length := by
  induction l generalizing D with
  | nil => rfl
  | cons s l ih =>
    simp only [runS]
    split
    · rw [ih, step_len]
    · exact step_len _ _

/-- A value that does a step. -/
def StepOk (w : World) (F : Nat → Prop) (p : Nat) : StepV → Value → Prop
  | .store off n, v => ∃ b0 b1 b2, v = .func (.func 65) #[] #[.pointer (some ⟨b0, 0, none⟩), .pointer (some ⟨b1, 0, none⟩), .pointer (some ⟨b2, 0, none⟩)] ∧ (¬ F b0 ∧ ¬ F b1 ∧ ¬ F b2) ∧
      Blk w b0 #[.pointer (some ⟨p, 0, none⟩)] 26 ∧ Blk w b1 #[.int .i64 off] 3 ∧ Blk w b2 #[.int .u64 (uv n)] 28
  | .flush off, v => ∃ b0 b1, v = .func (.func 66) #[] #[.pointer (some ⟨b0, 0, none⟩), .pointer (some ⟨b1, 0, none⟩)] ∧ (¬ F b0 ∧ ¬ F b1) ∧
      Blk w b0 #[.pointer (some ⟨p, 0, none⟩)] 26 ∧ Blk w b1 #[.int .i64 off] 3
  | .fence, v => v = .func (.func 18) #[.pointer (some ⟨p, 0, none⟩)] #[]
section
variable {w w' : World} {F F' : Nat → Prop} {p : Nat} {s : StepV} {v : Value}
theorem out_turn {b : Nat} (h : ¬ F b) (hlt : b < w.heap.size) (ht : Turn w F w' F') : ¬ F' b := fun hf => by
  rcases ht.new b hf with h2 | h2
  · exact h h2
  · omega
theorem StepOk.turn (h : StepOk w F p s v) (ht : Turn w F w' F') : StepOk w' F' p s v := by
  cases s with
  | store off n =>
    obtain ⟨b0, b1, b2, rfl, ⟨h0, h1, h2⟩, k0, k1, k2⟩ := h
    exact ⟨b0, b1, b2, rfl, ⟨out_turn h0 k0.lt ht, out_turn h1 k1.lt ht, out_turn h2 k2.lt ht⟩, k0.mod ht.mod h0, k1.mod ht.mod h1, k2.mod ht.mod h2⟩
  | flush off =>
    obtain ⟨b0, b1, rfl, ⟨h0, h1⟩, k0, k1⟩ := h
    exact ⟨b0, b1, rfl, ⟨out_turn h0 k0.lt ht, out_turn h1 k1.lt ht⟩, k0.mod ht.mod h0, k1.mod ht.mod h1⟩
  | fence => exact h
theorem StepOk.next (h : StepOk w F p s v) (hb : Below w.heap.size w w') : StepOk w' F p s v := h.turn (.of hb)
theorem StepOk.func (h : StepOk w F p s v) : ∃ f x y, v = .func (.func f) x y := by
  cases s with
  | store off n => obtain ⟨_, _, _, rfl, _⟩ := h; exact ⟨_, _, _, rfl⟩
  | flush off => obtain ⟨_, _, rfl, _⟩ := h; exact ⟨_, _, _, rfl⟩
  | fence => exact ⟨_, _, _, h⟩
theorem StepOk.one (h : StepOk w F p s v) : v.oneCell' = true := by
  cases s with
  | store off n => obtain ⟨_, _, _, rfl, _⟩ := h; rfl
  | flush off => obtain ⟨_, _, rfl, _⟩ := h; rfl
  | fence => rw [show v = _ from h]; rfl
end

section
set_option linter.unusedSimpArgs false
variable {p : Nat} {F : Nat → Prop} {D : NM.Dv}
theorem store1_calls (off : Int) (n : BitVec 64) (b0 b1 b2 : Nat) (w : World) (h : DevB w p F D) (k0 : Blk w b0 #[.pointer (some ⟨p, 0, none⟩)] 26) (k1 : Blk w b1 #[.int .i64 off] 3) (k2 : Blk w b2 #[.int .u64 (uv n)] 28) (ho : I64 off) (hc : D.steps < 1099511627776) :
    Ret Try.prog 65 #[.pointer (some ⟨b0, 0, none⟩), .pointer (some ⟨b1, 0, none⟩), .pointer (some ⟨b2, 0, none⟩)] w fun v w' => v = .int .i64 (D.store off n).2 ∧ ∃ F', DevB w' p F' (D.store off n).1 ∧ Turn w F w' F' := by
  refine ret_of (args := [_, _, _]) _ Try.func65 rfl Try.ntmps65 (by simp) ?_
  simp -implicitDefEqProofs [go_sem, k0.cell, k1.cell, k2.cell]
  refine callE_of (storeB off n w h ho hc) ?_
  rintro v w1 ⟨rfl, h1⟩
  simp -implicitDefEqProofs [go_sem]
  refine body_tmp 3 rfl ?_
  simp -implicitDefEqProofs [go_sem]
  exact h1
theorem flush1_calls (off : Int) (b0 b1 : Nat) (w : World) (h : DevB w p F D) (k0 : Blk w b0 #[.pointer (some ⟨p, 0, none⟩)] 26) (k1 : Blk w b1 #[.int .i64 off] 3) (ho : I64 off) (hc : D.steps < 1099511627776) :
    Ret Try.prog 66 #[.pointer (some ⟨b0, 0, none⟩), .pointer (some ⟨b1, 0, none⟩)] w fun v w' => v = .int .i64 (D.flush off).2 ∧ ∃ F', DevB w' p F' (D.flush off).1 ∧ Turn w F w' F' := by
  refine ret_of (args := [_, _]) _ Try.func66 rfl Try.ntmps66 (by simp) ?_
  simp -implicitDefEqProofs [go_sem, k0.cell, k1.cell]
  refine callE_of (flushB off w h ho hc) ?_
  rintro v w1 ⟨rfl, h1⟩
  simp -implicitDefEqProofs [go_sem]
  refine body_tmp 2 rfl ?_
  simp -implicitDefEqProofs [go_sem]
  exact h1
theorem mkStore_calls (off : Int) (n : BitVec 64) (w0 : World) (h : DevB w0 p F D) :
    Ret Try.prog 58 #[.pointer (some ⟨p, 0, none⟩), .int .i64 off, .int .u64 (uv n)] w0 fun v w' => Below w0.heap.size w0 w' ∧ StepOk w' F p (.store off n) v := by
  have bel0 := Below.refl w0.heap.size w0
  have hlt := h.lt
  refine ret_of (args := [_, _, _]) _ Try.func58 rfl Try.ntmps58 (by simp) ?_
  simp -implicitDefEqProofs [go_sem]
  generalize hw1 : World.alloc w0 _ = w1 at *
  obtain ⟨hB1, b1, sz1⟩ := new_facts hw1
  have bel1 := bel0.trans (b1.mono bel0.size)
  generalize hw2 : World.alloc w1 _ = w2 at *
  obtain ⟨hB2, b2, sz2⟩ := new_facts hw2
  have bel2 := bel1.trans (b2.mono bel1.size)
  replace hB1 := hB1.next b2
  generalize hw3 : World.alloc w2 _ = w3 at *
  obtain ⟨hB3, b3, sz3⟩ := new_facts hw3
  have bel3 := bel2.trans (b3.mono bel2.size)
  replace hB1 := hB1.next b3
  replace hB2 := hB2.next b3
  refine body_tmp 6 rfl ?_
  refine ⟨bel3, w0.heap.size, w0.heap.size + 1, w0.heap.size + 1 + 1, ?_, ⟨fun hf => ?_, fun hf => ?_, fun hf => ?_⟩, hB1, ?_, ?_⟩
  · simp -implicitDefEqProofs [go_sem]
  · have := hlt _ hf; omega
  · have := hlt _ hf; omega
  · have := hlt _ hf; omega
  · rw [sz1] at hB2; exact hB2
  · rw [sz2, sz1] at hB3; exact hB3
theorem mkFlush_calls (off : Int) (w0 : World) (h : DevB w0 p F D) :
    Ret Try.prog 59 #[.pointer (some ⟨p, 0, none⟩), .int .i64 off] w0 fun v w' => Below w0.heap.size w0 w' ∧ StepOk w' F p (.flush off) v := by
  have bel0 := Below.refl w0.heap.size w0
  have hlt := h.lt
  refine ret_of (args := [_, _]) _ Try.func59 rfl Try.ntmps59 (by simp) ?_
  simp -implicitDefEqProofs [go_sem]
  generalize hw1 : World.alloc w0 _ = w1 at *
  obtain ⟨hB1, b1, sz1⟩ := new_facts hw1
  have bel1 := bel0.trans (b1.mono bel0.size)
  generalize hw2 : World.alloc w1 _ = w2 at *
  obtain ⟨hB2, b2, sz2⟩ := new_facts hw2
  have bel2 := bel1.trans (b2.mono bel1.size)
  replace hB1 := hB1.next b2
  refine body_tmp 4 rfl ?_
  refine ⟨bel2, w0.heap.size, w0.heap.size + 1, ?_, ⟨fun hf => ?_, fun hf => ?_⟩, hB1, ?_⟩
  · simp -implicitDefEqProofs [go_sem]
  · have := hlt _ hf; omega
  · have := hlt _ hf; omega
  · rw [sz1] at hB2; exact hB2

/-- Steps in a slice, apart from the device. -/
structure StepsIn (w : World) (F : Nat → Prop) (p : Nat) (a : Option Addr) (vs : List Value) (ss : List StepV) (cap : Nat) : Prop where
  at_ : VsIn w a vs cap
  sep : ∀ y, a = some y → y.block < w.heap.size ∧ ¬ F y.block
  len : vs.length = ss.length
  step : ∀ i (h : i < ss.length) (h' : i < vs.length), StepOk w F p ss[i] vs[i]
theorem StepsIn.turn {w w' : World} {F' : Nat → Prop} {a : Option Addr} {vs : List Value} {ss : List StepV} {cap : Nat} (h : StepsIn w F p a vs ss cap) (ht : Turn w F w' F') : StepsIn w' F' p a vs ss cap := by
  refine ⟨⟨h.at_.at_.mod ht.mod (fun b hb => ?_), h.at_.le, h.at_.max, h.at_.nil⟩, fun y hy => ?_, h.len, fun i hi hi' => (h.step i hi hi').turn ht⟩
  · obtain ⟨o, ho⟩ := hb; exact (h.sep _ ho).2
  · obtain ⟨h1, h2⟩ := h.sep y hy
    exact ⟨by have := ht.size; omega, out_turn h2 h1 ht⟩

set_option maxHeartbeats 1000000 in
theorem run_calls (a : Option Addr) (vs : List Value) (ss : List StepV) (cap : Nat) (w0 : World) (h : DevB w0 p F D) (hin : StepsIn w0 F p a vs ss cap) (hok : ∀ s ∈ ss, s.Ok) (hc : D.steps + ss.length < 1099511627776) :
    Ret Try.prog 60 #[.slice a ss.length cap] w0 fun v w' => v = .int .i64 (runS D ss).2 ∧ ∃ F', DevB w' p F' (runS D ss).1 ∧ Turn w0 F w' F' := by
  have hmax := hin.at_.max
  have hle := hin.at_.le
  have hlen := hin.len
  refine ret_of (args := [_]) _ Try.func60 rfl Try.ntmps60 (by simp) ?_
  simp -implicitDefEqProofs [go_sem]
  refine wpE_loop (fun e' w' => ∃ (k : Nat) (F' : Nat → Prop) (E : NM.Dv), k ≤ ss.length ∧ e' 6 = .slice a ss.length cap ∧ e' 7 = .int .i64 ss.length ∧ e' 8 = .int .i64 k ∧ DevB w' p F' E ∧ Turn w0 F w' F' ∧ StepsIn w' F' p a vs ss cap ∧ runS D ss = runS E (ss.drop k) ∧ E.steps ≤ D.steps + k) (fun e' _ => ss.length - (intOf (e' 8)).toNat) ?_ ?_
  · refine ⟨0, F, D, by omega, ?_⟩
    simp -implicitDefEqProofs [go_sem]
    exact ⟨h, Turn.refl _ _, hin⟩
  · rintro e' w1 ⟨k, F1, E, hk, g6, g7, g8, hE, ht1, hin1, hrun, hst⟩
    by_cases hlt : k < ss.length
    · have hlt' : (k : Int) < ss.length := by omega
      have hwk := IntWalk.i64_in ((k : Int) + 1) (by omega)
      obtain ⟨b, o, rfl, hcv⟩ := hin1.at_.at_.cell (i := k) (by omega)
      have hso := hin1.step k hlt (by omega)
      have hsk : (ss[k]).Ok := hok _ (List.getElem_mem hlt)
      rw [List.drop_eq_getElem_cons hlt] at hrun
      have hget : ss[k]? = some ss[k] := by simp [hlt]
      generalize hsv : ss[k] = s at *
      have fin : ∀ (w2 : World) (F2 : Nat → Prop), DevB w2 p F2 (E.step s).1 → Turn w1 F1 w2 F2 → (E.step s).2 = 0 → DevB w2 p F2 (E.step s).1 ∧ Turn w0 F w2 F2 ∧ StepsIn w2 F2 p (some ⟨b, o, none⟩) vs ss cap ∧ runS D ss = runS (E.step s).1 (ss.drop (k + 1)) ∧ (E.step s).1.steps ≤ D.steps + (k + 1) := by
        intro w2 F2 h2 t2 he
        exact ⟨h2, ht1.trans t2, hin1.turn t2, by rw [hrun, runS_ok he], by have := step_steps E s; omega⟩
      have ferr : ¬ (E.step s).2 = 0 → runS D ss = E.step s := fun he => by rw [hrun, runS_err he]
      cases s with
      | store off n =>
        obtain ⟨b0, b1, b2, hv, _, k0, k1, k2⟩ := hso
        have hcall := store1_calls off n b0 b1 b2 w1 hE k0 k1 k2 hsk (by omega)
        have est : E.store off n = E.step (.store off n) := rfl
        rw [est] at hcall
        generalize E.step (.store off n) = r at *
        rw [hv] at hcv
        simp -implicitDefEqProofs [go_sem, g6, g7, g8, hlt, hlt', hcv]
        refine callE_of hcall ?_
        rintro v w2 ⟨rfl, F2, h2, t2⟩
        by_cases he : r.2 = 0
        · simp -implicitDefEqProofs [go_sem, g6, g7, g8, he, hwk]
          refine goE_round ⟨k + 1, F2, r.1, by omega, ?_⟩ ?_
          · simp -implicitDefEqProofs [go_sem, g6, g7]
            exact fin w2 F2 h2 t2 he
          · simp -implicitDefEqProofs [go_sem, intOf, g8, hwk]; omega
        · have he' : (r.2 != 0) = true := by rw [bne_iff_ne]; exact he
          simp -implicitDefEqProofs [go_sem, g6, g7, g8, he, he']
          refine body_tmp 2 rfl ?_
          rw [ferr he]
          simp -implicitDefEqProofs [go_sem]
          exact ⟨F2, h2, ht1.trans t2⟩
      | flush off =>
        obtain ⟨b0, b1, hv, _, k0, k1⟩ := hso
        have hcall := flush1_calls off b0 b1 w1 hE k0 k1 hsk (by omega)
        have est : E.flush off = E.step (.flush off) := rfl
        rw [est] at hcall
        generalize E.step (.flush off) = r at *
        rw [hv] at hcv
        simp -implicitDefEqProofs [go_sem, g6, g7, g8, hlt, hlt', hcv]
        refine callE_of hcall ?_
        rintro v w2 ⟨rfl, F2, h2, t2⟩
        by_cases he : r.2 = 0
        · simp -implicitDefEqProofs [go_sem, g6, g7, g8, he, hwk]
          refine goE_round ⟨k + 1, F2, r.1, by omega, ?_⟩ ?_
          · simp -implicitDefEqProofs [go_sem, g6, g7]
            exact fin w2 F2 h2 t2 he
          · simp -implicitDefEqProofs [go_sem, intOf, g8, hwk]; omega
        · have he' : (r.2 != 0) = true := by rw [bne_iff_ne]; exact he
          simp -implicitDefEqProofs [go_sem, g6, g7, g8, he, he']
          refine body_tmp 2 rfl ?_
          rw [ferr he]
          simp -implicitDefEqProofs [go_sem]
          exact ⟨F2, h2, ht1.trans t2⟩
      | fence =>
        have hv := hso
        have hcall := fenceB w1 hE (by omega)
        have est : E.fence = E.step .fence := rfl
        rw [est] at hcall
        generalize E.step .fence = r at *
        rw [hv] at hcv
        simp -implicitDefEqProofs [go_sem, g6, g7, g8, hlt, hlt', hcv]
        refine callE_of hcall ?_
        rintro v w2 ⟨rfl, F2, h2, t2⟩
        by_cases he : r.2 = 0
        · simp -implicitDefEqProofs [go_sem, g6, g7, g8, he, hwk]
          refine goE_round ⟨k + 1, F2, r.1, by omega, ?_⟩ ?_
          · simp -implicitDefEqProofs [go_sem, g6, g7]
            exact fin w2 F2 h2 t2 he
          · simp -implicitDefEqProofs [go_sem, intOf, g8, hwk]; omega
        · have he' : (r.2 != 0) = true := by rw [bne_iff_ne]; exact he
          simp -implicitDefEqProofs [go_sem, g6, g7, g8, he, he']
          refine body_tmp 2 rfl ?_
          rw [ferr he]
          simp -implicitDefEqProofs [go_sem]
          exact ⟨F2, h2, ht1.trans t2⟩
    · have hk' : k = ss.length := by omega
      subst hk'
      rw [List.drop_length] at hrun
      simp -implicitDefEqProofs [go_sem, g6, g7, g8]
      refine body_tmp 2 rfl ?_
      rw [hrun]
      simp -implicitDefEqProofs [go_sem, runS]
      exact ⟨F1, hE, ht1⟩
end
end Go.Proofs.Ytkljlgahdlgmpaa
