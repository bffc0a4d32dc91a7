/- Versions as words: the walks of rec and of its reference. -/
import Derived.Test.YtgdjnginljamoaaSame
import Derived.Test.YtgdjnginljamoaaRecMath
namespace Go.Proofs.Ytgdjnginljamoaa
open Go Go.RowKit

/-- A version, as a value. -/
def recV (st nx : BitVec 64) (gone : Bool) (s : ByteArray) : Value := .agg #[.int .u64 (uv st), .int .u64 (uv nx), .bool gone, .string s]
theorem toList_isEmpty (s : ByteArray) : s.toList.isEmpty = (s.size == 0) := by
  rw [ByteArray.toList_eq]
  show s.data.toList.isEmpty = (s.data.size == 0)
  rw [← Array.length_toList]
  cases s.data.toList <;> rfl
theorem toList_beq (s u : ByteArray) : (s.toList == u.toList) = decide (s = u) := by
  rw [ByteArray.toList_eq, ByteArray.toList_eq]
  by_cases h : s = u
  · subst h; simp
  · have : s.data.toList ≠ u.data.toList := fun e => h (by cases s; cases u; simp only [Array.toList_inj] at e; rw [e])
    rw [decide_eq_false h, beq_eq_false_iff_ne]; exact this
attribute [go_sem] toList_isEmpty toList_beq
def rightB (st : BitVec 64) (gone : Bool) (s : ByteArray) : Bool := !(st == 0#64) && decide (s.size ≤ 40) && (!gone || s.size == 0)

set_option linter.unusedSimpArgs false in
theorem right_calls (st nx : BitVec 64) (gone : Bool) (s : ByteArray) (w : World) :
    Ret Try.prog 13 #[recV st nx gone s] w fun v w' => v = .bool (rightB st gone s) ∧ Below w.heap.size w w' := by
  unfold recV
  have bel : ∀ o, Below w.heap.size w (w.alloc o) := fun o => (Below.refl _ _).alloc (Nat.le_refl _) _
  refine ret_of (args := [_]) _ Try.func13 rfl Try.ntmps13 (by simp) ?_
  by_cases h1 : st = 0#64
  · subst h1
    simp -implicitDefEqProofs [go_sem]
    refine body_tmp 2 rfl ?_
    simp -implicitDefEqProofs [go_sem, rightB]
    exact bel _
  · have h1' : (st == 0#64) = false := by rw [beq_eq_false_iff_ne]; exact h1
    by_cases h2 : (40 : Int) < s.size
    · have h2' : ¬ s.size ≤ 40 := by omega
      simp -implicitDefEqProofs [go_sem, h1', h2]
      refine body_tmp 2 rfl ?_
      simp -implicitDefEqProofs [go_sem, rightB, h2']
      exact bel _
    · have h2' : s.size ≤ 40 := by omega
      simp -implicitDefEqProofs [go_sem, h1', h2]
      cases gone
      · simp -implicitDefEqProofs [go_sem]
        refine body_tmp 2 rfl ?_
        simp -implicitDefEqProofs [go_sem, rightB, h1', h2']
        exact bel _
      · simp -implicitDefEqProofs [go_sem]
        refine body_tmp 2 rfl ?_
        simp -implicitDefEqProofs [go_sem, rightB, h1', h2']
        exact bel _
theorem refRight_calls (st nx : BitVec 64) (gone : Bool) (s : ByteArray) (w : World) :
    Ret Try.prog 14 #[recV st nx gone s] w fun v w' => v = .bool (rightB st gone s) ∧ Below w.heap.size w w' := by
  unfold recV
  have bel : ∀ o, Below w.heap.size w (w.alloc o) := fun o => (Below.refl _ _).alloc (Nat.le_refl _) _
  refine ret_of (args := [_]) _ Try.func14 rfl Try.ntmps14 (by simp) ?_
  by_cases h1 : st = 0#64
  · subst h1
    simp -implicitDefEqProofs [go_sem, undef]
    refine body_tmp 2 rfl ?_
    simp -implicitDefEqProofs [go_sem, rightB]
    exact bel _
  · have h1' : (st == 0#64) = false := by rw [beq_eq_false_iff_ne]; exact h1
    have h1'' : 0#64 < st := by
      rw [BitVec.lt_def]
      have : st.toNat ≠ 0 := fun e => h1 (BitVec.eq_of_toNat_eq e)
      simp; omega
    by_cases h2 : s.size ≤ 40
    · have h2' : (s.size : Int) ≤ 40 := by omega
      simp -implicitDefEqProofs [go_sem, h1'', h2']
      cases gone
      · simp -implicitDefEqProofs [go_sem]
        refine body_tmp 2 rfl ?_
        simp -implicitDefEqProofs [go_sem, rightB, h1', h2]
        exact bel _
      · simp -implicitDefEqProofs [go_sem]
        refine body_tmp 2 rfl ?_
        simp -implicitDefEqProofs [go_sem, rightB, h1', h2]
        exact bel _
    · have h2' : ¬ (s.size : Int) ≤ 40 := by omega
      simp -implicitDefEqProofs [go_sem, h1'', h2', undef]
      refine body_tmp 2 rfl ?_
      simp -implicitDefEqProofs [go_sem, rightB, h1', h2]
      exact bel _

/-- The bytes of a text. -/
def tx (s : ByteArray) (i : Nat) : BitVec 8 := (s.data.toList.map UInt8.toBitVec).getD i 0#8
def wsOf (st nx : BitVec 64) (gone : Bool) (s : ByteArray) : List (BitVec 64) := RM.ws (RM.w0 s.size gone) st nx (tx s) s.size
def encM (st nx : BitVec 64) (gone : Bool) (s : ByteArray) : List (BitVec 64) := if rightB st gone s then wsOf st nx gone s else []

def cw (l : List (BitVec 64)) : Array Value := (cellsK .u64 l).toArray
theorem cw_get (l : List (BitVec 64)) (i : Nat) (h : i < l.length) : (cw l)[i]? = some (.int .u64 (uv (l.getD i 0#64))) := by simp [cw, cellsK, h]
theorem cw_set (l : List (BitVec 64)) (i : Nat) (x : BitVec 64) : (cw l).setIfInBounds i (.int .u64 (uv x)) = cw (l.set i x) := by simp [cw, cellsK, List.map_set]
theorem ws_length (h st nx : BitVec 64) (f : Nat → BitVec 8) (n : Nat) : (RM.ws h st nx f n).length = 8 := rfl
theorem tx_at (s : ByteArray) (k : Nat) (h : k < s.size) : tx s k = s.data[k].toBitVec := by
  have : k < s.data.toList.length := by simpa using h
  simp [tx, h]
theorem u8_int (c : UInt8) : (c.toNat : Int) = uv c.toBitVec := rfl
theorem Below.own {B o : Nat} {w w' : World} {v : Value} (h : Below B w w') : Below B w (w'.setCell ⟨B, o, none⟩ v) := h.setCell (Nat.le_refl _) _
theorem Blk.eq {w : World} {b : Nat} {C C' : Array Value} {e : TypeId} (h : Blk w b C e) (hC : C = C') : Blk w b C' e := hC ▸ h
set_option maxHeartbeats 1000000 in
set_option linter.unusedSimpArgs false in
theorem encode_calls (st nx : BitVec 64) (gone : Bool) (s : ByteArray) (w : World) :
    Ret Try.prog 9 #[recV st nx gone s] w fun v w' => ∃ a c, v = .tuple #[.slice a (encM st nx gone s).length c, .bool (rightB st gone s)] ∧
      SlIn .u64 w' a (encM st nx gone s) c ∧ Below w.heap.size w w' := by
  have hr := right_calls st nx gone s
  unfold recV at hr ⊢
  have bel : ∀ o, Below w.heap.size w (w.alloc o) := fun o => (Below.refl _ _).alloc (Nat.le_refl _) _
  have mk8 := fun (w : World) => run_make_n (P := Try.prog) (t := 25) (e := 22) (z := .int .u64 0) (bytes := 8) (by kernel_rfl) (by kernel_rfl) rfl .i64 .i64 8 (by decide) (by decide) w
  rw [show (((8 : Nat)) : Int) = 8 from rfl] at mk8
  refine ret_of (args := [_]) _ Try.func9 rfl Try.ntmps9 (by simp) ?_
  simp -implicitDefEqProofs [go_sem]
  refine callE_of (hr _) ?_
  rintro v w1 ⟨rfl, bel1⟩
  cases hright : rightB st gone s
  · simp -implicitDefEqProofs [go_sem]
    refine body_tmp2 2 3 rfl ?_
    simp -implicitDefEqProofs [go_sem, encM, hright]
    exact ⟨none, 0, ⟨rfl, rfl⟩, ⟨.inl rfl, by simp, by simp, fun _ => rfl⟩, (bel _).trans (bel1.mono (bel _).size)⟩
  · have hs : s.size ≤ 40 := by
      simp [rightB] at hright; omega
    have hsz := bel1.size
    have hsz0 : (w.alloc (.cells #[.int .u64 (uv st), .int .u64 (uv nx), .bool gone, .string s] 29)).heap.size = w.heap.size + 1 := by simp
    rw [hsz0] at hsz
    have hB0 := Blk.new w1 (Array.replicate 8 (.int .u64 0)) 22
    have hP0 := (Blk.new w #[.int .u64 (uv st), .int .u64 (uv nx), .bool gone, .string s] 29).below (bel1.alloc (by rw [hsz0]; omega) (.cells (Array.replicate 8 (.int .u64 0)) 22)) (by rw [hsz0]; omega)
    have bel2 := (bel (.cells #[.int .u64 (uv st), .int .u64 (uv nx), .bool gone, .string s] 29)).trans ((bel1.alloc (by rw [hsz0]; omega) (.cells (Array.replicate 8 (.int .u64 0)) 22)).mono (bel _).size)
    have hlt : w.heap.size < w1.heap.size := by omega
    simp -implicitDefEqProofs [go_sem, mk8]
    generalize w1.alloc (.cells (Array.replicate 8 (.int .u64 0)) 22) = w2 at *
    generalize w1.heap.size = b at *
    generalize hbp : w.heap.size = bp at *
    have hne : bp ≠ b := by omega
    have gp0 := hP0.cell 0
    have gp1 := hP0.cell 1
    have gp2 := hP0.cell 2
    have gp3 := hP0.cell 3
    have gb0 := hB0.cell 0
    have gb1 := hB0.cell 1
    have gb2 := hB0.cell 2
    have gf0 := hB0.thaw 0
    have gf1 := hB0.thaw 1
    have gf2 := hB0.thaw 2
    simp at gp0 gp1 gp2 gp3 gb0 gb1 gb2
    obtain ⟨hd, hhd⟩ : ∃ hd, hd = RM.w0 s.size gone := ⟨_, rfl⟩
    have he : encM st nx gone s = RM.ws hd st nx (tx s) s.size := by rw [encM, if_pos hright, hhd]; rfl
    cases gone
    all_goals
      simp -implicitDefEqProofs [go_sem, gp0, gp1, gp2, gp3, gb0, gb1, gb2, gf0, gf1, gf2, hne]
      refine wpE_loop (fun e' w' => ∃ k : Nat, k ≤ s.size ∧ e' 1 = .pointer (some ⟨bp, 0, none⟩) ∧ e' 4 = .slice (some ⟨b, 0, none⟩) 8 8 ∧ e' 35 = .int .i64 s.size ∧ e' 36 = .int .i64 k ∧
        Blk w' b (cw (RM.ws hd st nx (tx s) k)) 22 ∧ Below b w2 w') (fun e' _ => s.size - (intOf (e' 36)).toNat) ?_ ?_
      · refine ⟨0, Nat.zero_le _, ?_⟩
        simp -implicitDefEqProofs [go_sem]
        have hz : (Array.replicate 8 (Value.int .u64 0)) = cw [0#64, 0#64, 0#64, 0#64, 0#64, 0#64, 0#64, 0#64] := by rfl
        rw [hz] at hB0
        refine ⟨?_, ?_⟩
        · first
          | with_reducible refine Blk.eq (((hB0.set 0 _).set 1 _).set 2 _) ?_
          | with_reducible refine Blk.eq ((((hB0.set 0 _).set 0 _).set 1 _).set 2 _) ?_
          all_goals simp [hhd, cw, cellsK, RM.ws, RM.tw, RM.w0]
        · repeat (with_reducible refine Below.own ?_)
          exact Below.refl _ _
      · rintro e' w' ⟨k, hk, h1, h4, h35, h36, hB, bel3⟩
        have gp3' := (hP0.below (bel3.mono (Nat.le_refl _)) (by omega)).cell 3
        simp at gp3'
        by_cases hlt' : k < s.size
        · have hw := IntWalk.i64_in ((k : Int) + 1) (by omega)
          have gx := (hB.cell (3 + k / 8)).trans (cw_get _ _ (by rw [ws_length]; omega))
          have gf := hB.thaw (3 + k / 8)
          have hset := RM.ws_set hd st nx (tx s) k (by omega)
          have hwq : IntKind.i64.wrap ((k : Int) / 8) = ((k / 8 : Nat) : Int) := by rw [IntWalk.i64_in _ (by omega)]; rfl
          have hwr : (k : Int).tmod 8 = ((k % 8 : Nat) : Int) := by rw [Int.tmod_eq_emod_of_nonneg (by omega)]; rfl
          have hQ : k / 8 < 5 := by omega
          have hR : k % 8 < 8 := by omega
          have gt := tx_at s k hlt'
          generalize k / 8 = Q at *
          generalize k % 8 = R at *
          have hw3 := IntWalk.i64_in (3 + (Q : Int)) (by omega)
          have hwm := IntWalk.i64_in ((R : Int) * 8) (by omega)
          have hq0 : (0 : Int) ≤ 3 + Q := by omega
          have hq8 : (3 : Int) + Q < 8 := by omega
          have hqn : (3 + (Q : Int)).toNat = 3 + Q := by omega
          simp -implicitDefEqProofs [go_sem, h1, h4, h35, h36, hlt']
          refine drawE_tail 17 mixed (by decide +kernel) (by simp only [List.take_succ_cons, List.take_zero]; rfl) (by simp only [List.drop_succ_cons, List.drop_zero]; rfl) ?_
          simp -implicitDefEqProofs [go_sem, h1, h4, h35, h36, hlt', gp3', hwq, hwr, hw3, hwm, hq0, hq8, hqn, gx, gf, hw, u8_int]
          unfold endE
          have gt' : tx s k = (s[k]).toBitVec := gt
          have hRn : ((R : Int) * 8).toNat = R * 8 := by omega
          simp -implicitDefEqProofs [go_sem, gx, gf, hw, h36, hRn, ← gt']
          refine goE_round ⟨k + 1, by omega, ?_⟩ ?_
          · simp -implicitDefEqProofs [go_sem, h1, h4, h35]
            rw [← hset, ← cw_set]
            exact ⟨hB.drew.set _ _, bel3.drew.setCell (Nat.le_refl _) _⟩
          · simp -implicitDefEqProofs [go_sem, intOf, h36]; omega
        · have hk' : k = s.size := by omega
          subst hk'
          simp -implicitDefEqProofs [go_sem, h1, h4, h35, h36]
          refine body_tmp2 2 3 rfl ?_
          simp -implicitDefEqProofs [go_sem]
          rw [he]
          refine ⟨_, 8, ⟨rfl, rfl, rfl⟩, ⟨slAt_blk hB fun i hi => ?_, by rw [ws_length]; exact Nat.le_refl _, by decide, by simp⟩, bel2.trans (bel3.mono (Nat.le_of_lt (by have := bel2.size; omega)))⟩
          rw [cw_get _ _ hi]
          simp [hi]
end Go.Proofs.Ytgdjnginljamoaa
