/- RecA: texts in one: Same, RecMath, RecWalk, RecRef, RecDec, RecBack. -/
import Derived.Test.YtejpophjiinijaaDoorProg
import Derived.Test.YtejpophjiinijaaDoorEng
import Derived.Test.YtejpophjiinijaaDoorCalls
import Derived.Test.YtejpophjiinijaaDoorDraw
import Derived.Test.YtejpophjiinijaaDoorCore
import Derived.Test.YtejpophjiinijaaDoorBase
import Derived.Test.YtejpophjiinijaaDoorEq
import Derived.Test.YtejpophjiinijaaDoorDraws
import Derived.Laws.Rows
import Derived.Laws.ResultCell
import Derived.Laws.IdiomStrings
/-! ### Same -/
namespace Go.Proofs.YtejpophjiinijaaDoor
set_option linter.unusedVariables false
set_option linter.unusedSimpArgs false
set_option maxRecDepth 100000
open Go Go.RowKit

end Go.Proofs.YtejpophjiinijaaDoor

/-! ### RecMath -/
namespace Go.Proofs.YtejpophjiinijaaDoor.RM
set_option linter.unusedVariables false
set_option linter.unusedSimpArgs false
set_option maxRecDepth 100000

/-- Word k of a text, n bytes of which are there. -/
def tw (f : Nat → BitVec 8) : Nat → Nat → BitVec 64
  | 0, _ => 0#64
  | n+1, k => if n / 8 = k then tw f n k ||| (f n).setWidth 64 <<< (n % 8 * 8) else tw f n k

theorem tw_bit (f : Nat → BitVec 8) (n k b : Nat) : (tw f n k).getLsbD b = (decide (b < 64) && decide (8 * k + b / 8 < n) && (f (8 * k + b / 8)).getLsbD (b % 8)) := by
  induction n with
  | zero => simp [tw]
  | succ n ih =>
    rw [tw]
    by_cases hb : b < 64
    · split
      · rename_i hk
        rw [BitVec.getLsbD_or, ih, BitVec.getLsbD_shiftLeft, BitVec.getLsbD_setWidth]
        by_cases h1 : b / 8 = n % 8
        · have e1 : 8 * k + b / 8 = n := by omega
          have e2 : b - n % 8 * 8 = b % 8 := by omega
          have e3 : ¬ b < n % 8 * 8 := by omega
          have e4 : b % 8 < 64 := by omega
          simp [e1, e2, e3, e4, hb]
        · rcases Nat.lt_or_ge b (n % 8 * 8) with h2 | h2
          · have e1 : 8 * k + b / 8 < n := by omega
            have e2 : 8 * k + b / 8 < n + 1 := by omega
            simp [h2, e1, e2, hb]
          · have e1 : ¬ 8 * k + b / 8 < n := by omega
            have e2 : ¬ 8 * k + b / 8 < n + 1 := by omega
            have e3 : (f n).getLsbD (b - n % 8 * 8) = false := BitVec.getLsbD_of_ge _ _ (by omega)
            simp [e1, e2, e3]
      · rename_i hk
        rw [ih]
        by_cases h1 : 8 * k + b / 8 = n
        · omega
        · have e : (8 * k + b / 8 < n) ↔ (8 * k + b / 8 < n + 1) := by omega
          simp only [e]
    · simp [hb, BitVec.getLsbD_of_ge _ b (by omega : 64 ≤ b)]

/-- Bytes that are not there are not asked. -/
theorem tw_congr {f g : Nat → BitVec 8} {n : Nat} (h : ∀ i, i < n → f i = g i) (k : Nat) : tw f n k = tw g n k := by
  apply BitVec.eq_of_getLsbD_eq
  intro b _
  rw [tw_bit, tw_bit]
  by_cases h1 : 8 * k + b / 8 < n
  · rw [h _ h1]
  · simp [h1]

/-- A byte is got back from its word. -/
theorem tw_byte (f : Nat → BitVec 8) (n i : Nat) : ((tw f n (i / 8)) >>> (i % 8 * 8)).setWidth 8 = if i < n then f i else 0#8 := by
  apply BitVec.eq_of_getLsbD_eq
  intro b hb
  rw [BitVec.getLsbD_setWidth, BitVec.getLsbD_ushiftRight, tw_bit]
  have e1 : (i % 8 * 8 + b) / 8 = i % 8 := by omega
  have e2 : 8 * (i / 8) + i % 8 = i := by omega
  have e3 : (i % 8 * 8 + b) % 8 = b := by omega
  have e4 : i % 8 * 8 + b < 64 := by omega
  rw [e1, e2, e3]
  split
  · simp_all
  · rename_i h
    simp [h]

/-- The document's word: from its last byte down. -/
def horner (f : Nat → BitVec 8) (n k : Nat) : Nat → BitVec 64
  | 0 => 0#64
  | j+1 => horner f n k j * 256#64 + (if 8 * k + (7 - j) < n then (f (8 * k + (7 - j))).setWidth 64 else 0#64)

theorem horner_eq (f : Nat → BitVec 8) (n k j : Nat) (hj : j ≤ 8) : horner f n k j = (tw f n k) >>> (8 * (8 - j)) := by
  induction j with
  | zero =>
    apply BitVec.eq_of_getLsbD_eq
    intro b hb
    rw [BitVec.getLsbD_ushiftRight, BitVec.getLsbD_of_ge (tw f n k) _ (by omega)]
    simp [horner]
  | succ j ih =>
    rw [horner, ih (by omega)]
    have e0 : ∀ x c : BitVec 64, c.toNat < 256 → x * 256#64 + c = x <<< 8 ||| c := by
      intro x c hc
      have h1 : x * 256#64 = x <<< 8 := by
        apply BitVec.eq_of_toNat_eq
        simp [BitVec.toNat_mul, BitVec.toNat_shiftLeft, Nat.shiftLeft_eq]
      have h2 : x <<< 8 &&& c = 0#64 := by
        apply BitVec.eq_of_getLsbD_eq
        intro b hb
        rw [BitVec.getLsbD_and, BitVec.getLsbD_shiftLeft]
        by_cases h8 : b < 8
        · simp [h8]
        · have : c.getLsbD b = false := by
            rw [BitVec.getLsbD, Nat.testBit_lt_two_pow]
            exact Nat.lt_of_lt_of_le hc (Nat.pow_le_pow_right (n := 2) (by decide) (by omega : 8 ≤ b))
          simp [this]
      rw [h1, BitVec.add_eq_or_of_and_eq_zero _ _ h2]
    rw [e0 _ _ (by split <;> simp [BitVec.toNat_setWidth]; have := (f (8 * k + (7 - j))).isLt; omega)]
    apply BitVec.eq_of_getLsbD_eq
    intro b hb
    rw [BitVec.getLsbD_or, BitVec.getLsbD_shiftLeft, BitVec.getLsbD_ushiftRight, BitVec.getLsbD_ushiftRight, tw_bit, tw_bit]
    by_cases h8 : b < 8
    · have e1 : (8 * (8 - (j + 1)) + b) / 8 = 7 - j := by omega
      have e2 : (8 * (8 - (j + 1)) + b) % 8 = b := by omega
      have e3 : 8 * (8 - (j + 1)) + b < 64 := by omega
      rw [e1, e2]
      split <;> simp_all
      omega
    · have e1 : 8 * (8 - j) + (b - 8) = 8 * (8 - (j + 1)) + b := by omega
      have e4 : (if 8 * k + (7 - j) < n then (f (8 * k + (7 - j))).setWidth 64 else 0#64).getLsbD b = false := by
        split
        · rw [BitVec.getLsbD_setWidth, BitVec.getLsbD_of_ge _ b (by omega)]; simp
        · simp
      rw [e1, e4]
      simp [h8, hb]
theorem horner_all (f : Nat → BitVec 8) (n k : Nat) : horner f n k 8 = tw f n k := by
  rw [horner_eq f n k 8 (Nat.le_refl _)]; simp

/-- The first word. -/
def w0 (n : Nat) (gone : Bool) : BitVec 64 := 3#64 ||| BitVec.ofNat 64 n <<< 16 ||| (if gone then 256#64 else 0#64)
/-- All words, n bytes of the text being there. -/
def ws (h st nx : BitVec 64) (f : Nat → BitVec 8) (n : Nat) : List (BitVec 64) := [h, st, nx, tw f n 0, tw f n 1, tw f n 2, tw f n 3, tw f n 4]
theorem ws_set (h st nx : BitVec 64) (f : Nat → BitVec 8) (n : Nat) (hn : n < 40) :
    (ws h st nx f n).set (3 + n / 8) ((ws h st nx f n).getD (3 + n / 8) 0#64 ||| (f n).setWidth 64 <<< (n % 8 * 8)) = ws h st nx f (n + 1) := by
  have : n / 8 = 0 ∨ n / 8 = 1 ∨ n / 8 = 2 ∨ n / 8 = 3 ∨ n / 8 = 4 := by omega
  rcases this with h1 | h1 | h1 | h1 | h1 <;> simp [ws, tw, h1]
theorem w0_facts (n : Nat) (hn : n ≤ 40) (g : Bool) : (w0 n g) >>> 16 = BitVec.ofNat 64 n ∧ ((w0 n g &&& 256#64) != 0#64) = g ∧ (w0 n g / 256#64 % 256#64 == 1#64) = g := by
  have : ∀ n, n < 41 → ∀ g : Bool, (w0 n g) >>> 16 = BitVec.ofNat 64 n ∧ ((w0 n g &&& 256#64) != 0#64) = g ∧ (w0 n g / 256#64 % 256#64 == 1#64) = g := by decide +kernel
  exact this n (by omega) g
theorem w0_ref (n : Nat) (hn : n ≤ 40) : 3#64 + 65536#64 * BitVec.ofNat 64 n = w0 n false ∧ w0 n false + 256#64 = w0 n true := by
  have : ∀ n, n < 41 → 3#64 + 65536#64 * BitVec.ofNat 64 n = w0 n false ∧ w0 n false + 256#64 = w0 n true := by decide +kernel
  exact this n (by omega)
theorem ws_take (h st nx : BitVec 64) (f : Nat → BitVec 8) (n k : Nat) (hk : k < 5) : (ws h st nx f n).take (3 + k) ++ [tw f n k] = (ws h st nx f n).take (3 + (k + 1)) := by
  have : k = 0 ∨ k = 1 ∨ k = 2 ∨ k = 3 ∨ k = 4 := by omega
  rcases this with h1 | h1 | h1 | h1 | h1 <;> subst h1 <;> rfl
end Go.Proofs.YtejpophjiinijaaDoor.RM

/-! ### RecWalk -/
namespace Go.Proofs.YtejpophjiinijaaDoor
set_option linter.unusedVariables false
set_option linter.unusedSimpArgs false
set_option maxRecDepth 100000
open Go Go.RowKit

/-- A version, as a value. -/
def recV (st nx : BitVec 64) (gone : Bool) (s : ByteArray) : Value := .agg #[.int .u64 (uv st), .int .u64 (uv nx), .bool gone, .string s]
theorem toList_isEmpty (s : ByteArray) : s.toList.isEmpty = (s.size == 0) := by
  rw [ByteArray.toList_eq]
  show s.data.toList.isEmpty = (s.data.size == 0)
  rw [← Array.length_toList]
  cases s.data.toList <;> rfl
theorem toList_beq (s u : ByteArray) : (s.toList == u.toList) = decide (s = u) := by
  rw [ByteArray.toList_eq, ByteArray.toList_eq]
  by_cases h : s = u
  · subst h; simp
  · have : s.data.toList ≠ u.data.toList := fun e => h (by cases s; cases u; simp only [Array.toList_inj] at e; rw [e])
    rw [decide_eq_false h, beq_eq_false_iff_ne]; exact this
attribute [go_sem] toList_isEmpty toList_beq
def rightB (st : BitVec 64) (gone : Bool) (s : ByteArray) : Bool := !(st == 0#64) && decide (s.size ≤ 40) && (!gone || s.size == 0)

set_option linter.unusedSimpArgs false in
theorem recRight_calls (st nx : BitVec 64) (gone : Bool) (s : ByteArray) (w : World) :
    Ret Tryd.prog 74 #[recV st nx gone s] w fun v w' => v = .bool (rightB st gone s) ∧ Below w.heap.size w w' := by
  unfold recV
  have bel : ∀ o, Below w.heap.size w (w.alloc o) := fun o => (Below.refl _ _).alloc (Nat.le_refl _) _
  refine ret_of (args := [_]) _ Tryd.func74 rfl Tryd.ntmps74 (by simp) ?_
  by_cases h1 : st = 0#64
  · subst h1
    simp -implicitDefEqProofs [go_sem]
    refine body_tmp 2 rfl ?_
    simp -implicitDefEqProofs [go_sem, rightB]
    exact bel _
  · have h1' : (st == 0#64) = false := by rw [beq_eq_false_iff_ne]; exact h1
    by_cases h2 : (40 : Int) < s.size
    · have h2' : ¬ s.size ≤ 40 := by omega
      simp -implicitDefEqProofs [go_sem, h1', h2]
      refine body_tmp 2 rfl ?_
      simp -implicitDefEqProofs [go_sem, rightB, h2']
      exact bel _
    · have h2' : s.size ≤ 40 := by omega
      simp -implicitDefEqProofs [go_sem, h1', h2]
      cases gone
      · simp -implicitDefEqProofs [go_sem]
        refine body_tmp 2 rfl ?_
        simp -implicitDefEqProofs [go_sem, rightB, h1', h2']
        exact bel _
      · simp -implicitDefEqProofs [go_sem]
        refine body_tmp 2 rfl ?_
        simp -implicitDefEqProofs [go_sem, rightB, h1', h2']
        exact bel _
theorem refRight_calls (st nx : BitVec 64) (gone : Bool) (s : ByteArray) (w : World) :
    Ret Tryd.prog 32 #[recV st nx gone s] w fun v w' => v = .bool (rightB st gone s) ∧ Below w.heap.size w w' := by
  unfold recV
  have bel : ∀ o, Below w.heap.size w (w.alloc o) := fun o => (Below.refl _ _).alloc (Nat.le_refl _) _
  refine ret_of (args := [_]) _ Tryd.func32 rfl Tryd.ntmps32 (by simp) ?_
  by_cases h1 : st = 0#64
  · subst h1
    simp -implicitDefEqProofs [go_sem, undef]
    refine body_tmp 2 rfl ?_
    simp -implicitDefEqProofs [go_sem, rightB]
    exact bel _
  · have h1' : (st == 0#64) = false := by rw [beq_eq_false_iff_ne]; exact h1
    have h1'' : 0#64 < st := by
      rw [BitVec.lt_def]
      have : st.toNat ≠ 0 := fun e => h1 (BitVec.eq_of_toNat_eq e)
      simp; omega
    by_cases h2 : s.size ≤ 40
    · have h2' : (s.size : Int) ≤ 40 := by omega
      simp -implicitDefEqProofs [go_sem, h1'', h2']
      cases gone
      · simp -implicitDefEqProofs [go_sem]
        refine body_tmp 2 rfl ?_
        simp -implicitDefEqProofs [go_sem, rightB, h1', h2]
        exact bel _
      · simp -implicitDefEqProofs [go_sem]
        refine body_tmp 2 rfl ?_
        simp -implicitDefEqProofs [go_sem, rightB, h1', h2]
        exact bel _
    · have h2' : ¬ (s.size : Int) ≤ 40 := by omega
      simp -implicitDefEqProofs [go_sem, h1'', h2', undef]
      refine body_tmp 2 rfl ?_
      simp -implicitDefEqProofs [go_sem, rightB, h1', h2]
      exact bel _

/-- The bytes of a text. -/
def tx (s : ByteArray) (i : Nat) : BitVec 8 := (s.data.toList.map UInt8.toBitVec).getD i 0#8
def wsOf (st nx : BitVec 64) (gone : Bool) (s : ByteArray) : List (BitVec 64) := RM.ws (RM.w0 s.size gone) st nx (tx s) s.size
def encM (st nx : BitVec 64) (gone : Bool) (s : ByteArray) : List (BitVec 64) := if rightB st gone s then wsOf st nx gone s else []

def cw (l : List (BitVec 64)) : Array Value := (cellsK .u64 l).toArray
theorem cw_get (l : List (BitVec 64)) (i : Nat) (h : i < l.length) : (cw l)[i]? = some (.int .u64 (uv (l.getD i 0#64))) := by simp [cw, cellsK, h]
theorem cw_set (l : List (BitVec 64)) (i : Nat) (x : BitVec 64) : (cw l).setIfInBounds i (.int .u64 (uv x)) = cw (l.set i x) := by simp [cw, cellsK, List.map_set]
theorem ws_length (h st nx : BitVec 64) (f : Nat → BitVec 8) (n : Nat) : (RM.ws h st nx f n).length = 8 := rfl
theorem tx_at (s : ByteArray) (k : Nat) (h : k < s.size) : tx s k = s.data[k].toBitVec := by
  have : k < s.data.toList.length := by simpa using h
  simp [tx, h]
theorem u8_int (c : UInt8) : (c.toNat : Int) = uv c.toBitVec := rfl
theorem Below.own {B o : Nat} {w w' : World} {v : Value} (h : Below B w w') : Below B w (w'.setCell ⟨B, o, none⟩ v) := h.setCell (Nat.le_refl _) _
theorem Blk.eq {w : World} {b : Nat} {C C' : Array Value} {e : TypeId} (h : Blk w b C e) (hC : C = C') : Blk w b C' e := hC ▸ h
set_option maxHeartbeats 1000000 in
set_option linter.unusedSimpArgs false in
theorem encode_new (st nx : BitVec 64) (gone : Bool) (s : ByteArray) (w : World) :
    Ret Tryd.prog 47 #[recV st nx gone s] w fun v w' => ∃ a c, v = .tuple #[.slice a (encM st nx gone s).length c, .bool (rightB st gone s)] ∧
      SlIn .u64 w' a (encM st nx gone s) c ∧ Below w.heap.size w w' ∧ (∀ y, a = some y → w.heap.size ≤ y.block ∧ y.block < w'.heap.size) := by
  have hr := recRight_calls st nx gone s
  unfold recV at hr ⊢
  have bel : ∀ o, Below w.heap.size w (w.alloc o) := fun o => (Below.refl _ _).alloc (Nat.le_refl _) _
  have mk8 := fun (w : World) => run_make_n (P := Tryd.prog) (t := 58) (e := 23) (z := .int .u64 0) (bytes := 8) (by kernel_rfl) (by kernel_rfl) rfl .i64 .i64 8 (by decide) (by decide) w
  rw [show (((8 : Nat)) : Int) = 8 from rfl] at mk8
  refine ret_of (args := [_]) _ Tryd.func47 rfl Tryd.ntmps47 (by simp) ?_
  simp -implicitDefEqProofs [go_sem]
  refine callE_of (hr _) ?_
  rintro v w1 ⟨rfl, bel1⟩
  cases hright : rightB st gone s
  · simp -implicitDefEqProofs [go_sem]
    refine body_tmp2 2 3 rfl ?_
    simp -implicitDefEqProofs [go_sem, encM, hright]
    exact ⟨none, 0, ⟨rfl, rfl⟩, ⟨.inl rfl, by simp, by simp, fun _ => rfl⟩, (bel _).trans (bel1.mono (bel _).size), fun y hy => by cases hy⟩
  · have hs : s.size ≤ 40 := by
      simp [rightB] at hright; omega
    have hsz := bel1.size
    have hsz0 : (w.alloc (.cells #[.int .u64 (uv st), .int .u64 (uv nx), .bool gone, .string s] 50)).heap.size = w.heap.size + 1 := by simp
    rw [hsz0] at hsz
    have hB0 := Blk.new w1 (Array.replicate 8 (.int .u64 0)) 23
    have hP0 := (Blk.new w #[.int .u64 (uv st), .int .u64 (uv nx), .bool gone, .string s] 50).below (bel1.alloc (by rw [hsz0]; omega) (.cells (Array.replicate 8 (.int .u64 0)) 23)) (by rw [hsz0]; omega)
    have bel2 := (bel (.cells #[.int .u64 (uv st), .int .u64 (uv nx), .bool gone, .string s] 50)).trans ((bel1.alloc (by rw [hsz0]; omega) (.cells (Array.replicate 8 (.int .u64 0)) 23)).mono (bel _).size)
    have hlt : w.heap.size < w1.heap.size := by omega
    simp -implicitDefEqProofs [go_sem, mk8]
    generalize w1.alloc (.cells (Array.replicate 8 (.int .u64 0)) 23) = w2 at *
    generalize w1.heap.size = b at *
    generalize hbp : w.heap.size = bp at *
    have hne : bp ≠ b := by omega
    have gp0 := hP0.cell 0
    have gp1 := hP0.cell 1
    have gp2 := hP0.cell 2
    have gp3 := hP0.cell 3
    have gb0 := hB0.cell 0
    have gb1 := hB0.cell 1
    have gb2 := hB0.cell 2
    have gf0 := hB0.thaw 0
    have gf1 := hB0.thaw 1
    have gf2 := hB0.thaw 2
    simp at gp0 gp1 gp2 gp3 gb0 gb1 gb2
    obtain ⟨hd, hhd⟩ : ∃ hd, hd = RM.w0 s.size gone := ⟨_, rfl⟩
    have he : encM st nx gone s = RM.ws hd st nx (tx s) s.size := by rw [encM, if_pos hright, hhd]; rfl
    cases gone
    all_goals
      simp -implicitDefEqProofs [go_sem, gp0, gp1, gp2, gp3, gb0, gb1, gb2, gf0, gf1, gf2, hne]
      refine wpE_loop (fun e' w' => ∃ k : Nat, k ≤ s.size ∧ e' 1 = .pointer (some ⟨bp, 0, none⟩) ∧ e' 4 = .slice (some ⟨b, 0, none⟩) 8 8 ∧ e' 35 = .int .i64 s.size ∧ e' 36 = .int .i64 k ∧
        Blk w' b (cw (RM.ws hd st nx (tx s) k)) 23 ∧ Below b w2 w') (fun e' _ => s.size - (intOf (e' 36)).toNat) ?_ ?_
      · refine ⟨0, Nat.zero_le _, ?_⟩
        simp -implicitDefEqProofs [go_sem]
        have hz : (Array.replicate 8 (Value.int .u64 0)) = cw [0#64, 0#64, 0#64, 0#64, 0#64, 0#64, 0#64, 0#64] := by rfl
        rw [hz] at hB0
        refine ⟨?_, ?_⟩
        · first
          | with_reducible refine Blk.eq (((hB0.set 0 _).set 1 _).set 2 _) ?_
          | with_reducible refine Blk.eq ((((hB0.set 0 _).set 0 _).set 1 _).set 2 _) ?_
          all_goals simp [hhd, cw, cellsK, RM.ws, RM.tw, RM.w0]
        · repeat (with_reducible refine Below.own ?_)
          exact Below.refl _ _
      · rintro e' w' ⟨k, hk, h1, h4, h35, h36, hB, bel3⟩
        have gp3' := (hP0.below (bel3.mono (Nat.le_refl _)) (by omega)).cell 3
        simp at gp3'
        by_cases hlt' : k < s.size
        · have hw := IntWalk.i64_in ((k : Int) + 1) (by omega)
          have gx := (hB.cell (3 + k / 8)).trans (cw_get _ _ (by rw [ws_length]; omega))
          have gf := hB.thaw (3 + k / 8)
          have hset := RM.ws_set hd st nx (tx s) k (by omega)
          have hwq : IntKind.i64.wrap ((k : Int) / 8) = ((k / 8 : Nat) : Int) := by rw [IntWalk.i64_in _ (by omega)]; rfl
          have hwr : (k : Int).tmod 8 = ((k % 8 : Nat) : Int) := by rw [Int.tmod_eq_emod_of_nonneg (by omega)]; rfl
          have hQ : k / 8 < 5 := by omega
          have hR : k % 8 < 8 := by omega
          have gt := tx_at s k hlt'
          generalize k / 8 = Q at *
          generalize k % 8 = R at *
          have hw3 := IntWalk.i64_in (3 + (Q : Int)) (by omega)
          have hwm := IntWalk.i64_in ((R : Int) * 8) (by omega)
          have hq0 : (0 : Int) ≤ 3 + Q := by omega
          have hq8 : (3 : Int) + Q < 8 := by omega
          have hqn : (3 + (Q : Int)).toNat = 3 + Q := by omega
          simp -implicitDefEqProofs [go_sem, h1, h4, h35, h36, hlt']
          refine drawE_tail 17 mixed (by decide +kernel) (by simp only [List.take_succ_cons, List.take_zero]; rfl) (by simp only [List.drop_succ_cons, List.drop_zero]; rfl) ?_
          simp -implicitDefEqProofs [go_sem, h1, h4, h35, h36, hlt', gp3', hwq, hwr, hw3, hwm, hq0, hq8, hqn, gx, gf, hw, u8_int]
          unfold endE
          have gt' : tx s k = (s[k]).toBitVec := gt
          have hRn : ((R : Int) * 8).toNat = R * 8 := by omega
          simp -implicitDefEqProofs [go_sem, gx, gf, hw, h36, hRn, ← gt']
          refine goE_round ⟨k + 1, by omega, ?_⟩ ?_
          · simp -implicitDefEqProofs [go_sem, h1, h4, h35]
            rw [← hset, ← cw_set]
            exact ⟨hB.drew.set _ _, bel3.drew.setCell (Nat.le_refl _) _⟩
          · simp -implicitDefEqProofs [go_sem, intOf, h36]; omega
        · have hk' : k = s.size := by omega
          subst hk'
          simp -implicitDefEqProofs [go_sem, h1, h4, h35, h36]
          refine body_tmp2 2 3 rfl ?_
          simp -implicitDefEqProofs [go_sem]
          rw [he]
          refine ⟨_, 8, ⟨rfl, rfl, rfl⟩, ⟨slAt_blk hB fun i hi => ?_, by rw [ws_length]; exact Nat.le_refl _, by decide, by simp⟩, bel2.trans (bel3.mono (Nat.le_of_lt (by have := bel2.size; omega))), fun y hy => by
            obtain rfl := Option.some.inj hy
            have := hB.lt
            exact ⟨by show bp ≤ b; omega, this⟩⟩
          rw [cw_get _ _ hi]
          simp [hi]
theorem encode_calls (st nx : BitVec 64) (gone : Bool) (s : ByteArray) (w : World) :
    Ret Tryd.prog 47 #[recV st nx gone s] w fun v w' => ∃ a c, v = .tuple #[.slice a (encM st nx gone s).length c, .bool (rightB st gone s)] ∧
      SlIn .u64 w' a (encM st nx gone s) c ∧ Below w.heap.size w w' :=
  (encode_new st nx gone s w).mono fun v w' ⟨a, c, h1, h2, h3, _⟩ => ⟨a, c, h1, h2, h3⟩
end Go.Proofs.YtejpophjiinijaaDoor

/-! ### RecRef -/
namespace Go.Proofs.YtejpophjiinijaaDoor
set_option linter.unusedVariables false
set_option linter.unusedSimpArgs false
set_option maxRecDepth 100000
open Go Go.RowKit

end Go.Proofs.YtejpophjiinijaaDoor

/-! ### RecDec -/
namespace Go.Proofs.YtejpophjiinijaaDoor
set_option linter.unusedVariables false
set_option linter.unusedSimpArgs false
set_option maxRecDepth 100000
open Go Go.RowKit

section
variable {P : Program} {fn : Func} {R : Value → World → Prop} {e : Env} {w : World}
theorem body_cell_tmp (p u : Tmp) {ty t' : TypeId} {g : Nat} {cs : Array Value} {d : TypeDesc} {t : Tag (bodyR P fn R, Exit.ret)} (h : fn.results = #[.cell p ty, .tmp u]) (hp : e p = .pointer (some ⟨g, 0, none⟩)) (hB : Blk w g cs t')
    (hu : P.underlying ty = some d) (hd : (match d with | .struct _ | .array _ _ => true | _ => false) = true) (hi : (P.info? ty).map (·.size) = some cs.size) (hR : R (.tuple #[.agg cs, e u]) w) : goE (bodyR P fn R) .ret t e w := by
  intro tmps ht
  refine ⟨_, ?_, hR⟩
  rw [results_cell_tmp h tmps P w, ht, ht, hp]
  show ((loadVar ty ⟨g, 0, none⟩).run P w).andThen _ = _
  rw [run_loadVar_row w g t' ty cs (0, 0) d hB hu hd hi]
  rfl
end

theorem Blk.set4 {w : World} {b : Nat} {e : TypeId} {x0 x1 x2 x3 v0 v1 v2 v3 : Value} (h : Blk w b #[x0, x1, x2, x3] e) :
    Blk ((((w.setCell ⟨b, 0, none⟩ v0).setCell ⟨b, 1, none⟩ v1).setCell ⟨b, 2, none⟩ v2).setCell ⟨b, 3, none⟩ v3) b #[v0, v1, v2, v3] e :=
  (((h.set 0 v0).set 1 v1).set 2 v2).set 3 v3
theorem Below.own4 {B b : Nat} {w w' : World} {v0 v1 v2 v3 : Value} (h : Below B w w') (hb : B ≤ b) :
    Below B w ((((w'.setCell ⟨b, 0, none⟩ v0).setCell ⟨b, 1, none⟩ v1).setCell ⟨b, 2, none⟩ v2).setCell ⟨b, 3, none⟩ v3) :=
  (((h.setCell hb _).setCell hb _).setCell hb _).setCell hb _
/-- The text of words. -/
def byteM (l : List (BitVec 64)) (i : Nat) : BitVec 8 := ((l.getD (3 + i / 8) 0#64) >>> (i % 8 * 8)).setWidth 8
def textM (l : List (BitVec 64)) (n : Nat) : ByteArray := ⟨((List.range n).map fun i => UInt8.ofBitVec (byteM l i)).toArray⟩
def sizeM (l : List (BitVec 64)) : Nat := ((l.getD 0 0#64) >>> 16).toNat
def goneM (l : List (BitVec 64)) : Bool := (l.getD 0 0#64) &&& 256#64 != 0#64
def okM (l : List (BitVec 64)) : Bool := decide (l.length = 8) && decide (sizeM l ≤ 40) && decide (encM (l.getD 1 0#64) (l.getD 2 0#64) (goneM l) (textM l (sizeM l)) = l)
def decM (l : List (BitVec 64)) : Value := if okM l then recV (l.getD 1 0#64) (l.getD 2 0#64) (goneM l) (textM l (sizeM l)) else .agg #[.int .u64 0, .int .u64 0, .bool false, .string ⟨#[]⟩]

set_option maxHeartbeats 1000000 in
set_option linter.unusedSimpArgs false in
theorem decode_calls (a : Option Addr) (l : List (BitVec 64)) (n c : Nat) (w : World) (hn : l.length = n) (hin : SlIn .u64 w a l c) :
    Ret Tryd.prog 36 #[.slice a n c] w fun v w' => v = .tuple #[decM l, .bool (okM l)] ∧ Below w.heap.size w w' := by
  subst hn
  have bel : ∀ o, Below w.heap.size w (w.alloc o) := fun o => (Below.refl _ _).alloc (Nat.le_refl _) _
  obtain ⟨x0, hx0⟩ : ∃ x, x = l.getD 0 0#64 := ⟨_, rfl⟩
  obtain ⟨x1, hx1⟩ : ∃ x, x = l.getD 1 0#64 := ⟨_, rfl⟩
  obtain ⟨x2, hx2⟩ : ∃ x, x = l.getD 2 0#64 := ⟨_, rfl⟩
  have hst := Tryd.underlying50
  have hsi : (Tryd.prog.info? 50).map (·.size) = some 4 := by kernel_rfl
  refine ret_of (args := [_]) _ Tryd.func36 rfl Tryd.ntmps36 (by simp) ?_
  simp -implicitDefEqProofs [go_sem]
  have hBz := Blk.new w #[.int .u64 0, .int .u64 0, .bool false, .string ⟨#[]⟩] 50
  have belz := bel (.cells #[.int .u64 0, .int .u64 0, .bool false, .string ⟨#[]⟩] 50)
  have hzs : (w.alloc (.cells #[.int .u64 0, .int .u64 0, .bool false, .string ⟨#[]⟩] 50)).heap.size = w.heap.size + 1 := by simp
  generalize w.alloc (.cells #[.int .u64 0, .int .u64 0, .bool false, .string ⟨#[]⟩] 50) = wz at *
  generalize hbp : w.heap.size = bp at *
  have gz0 := hBz.cell 0
  have gz1 := hBz.cell 1
  have gz2 := hBz.cell 2
  have gz3 := hBz.cell 3
  have fz0 := hBz.thaw 0
  have fz1 := hBz.thaw 1
  have fz2 := hBz.thaw 2
  have fz3 := hBz.thaw 3
  simp at gz0 gz1 gz2 gz3
  by_cases h8 : l.length = 8
  · obtain rfl | ⟨b, off, rfl, hc⟩ := hin.at_
    · simp at h8
    have h8' : ((l.length : Int) != 8) = false := by rw [bne_eq_false_iff_eq]; omega
    have hcell : ∀ w', Below bp w w' → ∀ i, i < 8 → w'.cell? ⟨b, off + i, none⟩ = some (.int .u64 (uv (l.getD i 0#64))) := by
      intro w' bw i hi
      have := hc i (by omega)
      rw [← hbp] at bw
      rw [(bw.cell (p := ⟨_, _, none⟩) (World.block_lt_of_cell? w _ this)), this]
      simp [List.getD, show i < l.length by omega]
    have g0 := hcell _ belz 0 (by omega)
    rw [← hx0, Nat.add_zero] at g0
    by_cases hs : sizeM l ≤ 40
    · have hs' : ¬ 40#64 < x0 >>> 16 := by
        rw [BitVec.lt_def]; unfold sizeM at hs; rw [← hx0] at hs; simp; simp at hs; omega
      obtain ⟨m, hm⟩ : ∃ m, m = sizeM l := ⟨_, rfl⟩
      have hmu : uv (x0 >>> 16) = (m : Int) := by rw [hm, hx0]; rfl
      have hmk := run_make_n (P := Tryd.prog) (t := 64) (e := 5) (z := .int .u8 0) (bytes := 1) Tryd.underlying64 (by kernel_rfl) rfl .u64 .u64 m (by omega) (by omega) wz
      rw [← hmu] at hmk
      simp -implicitDefEqProofs [go_sem, h8', g0, hs', h8, hmk]
      rw [hmu]
      have hms := hm ▸ hs
      have bel1 : Below bp wz (wz.alloc (.cells (Array.replicate m (.int .u8 0)) 5)) := (Below.refl _ _).alloc (by omega) _
      refine wpE_loop (fun e' w' => ∃ (k : Nat) (C : Array Value), k ≤ m ∧ C.size = m ∧ (∀ i, i < k → C[i]? = some (.int .u8 (uv (byteM l i)))) ∧ e' 0 = .slice (some ⟨b, off, none⟩) 8 c ∧ e' 2 = .pointer (some ⟨bp, 0, none⟩) ∧ e' 4 = .slice (some ⟨wz.heap.size, 0, none⟩) m m ∧ e' 26 = .int .i64 m ∧ e' 27 = .int .i64 k ∧
        Blk w' wz.heap.size C 5 ∧ Below wz.heap.size wz w') (fun e' _ => m - (intOf (e' 27)).toNat) ?_ ?_
      · refine ⟨0, Array.replicate m (.int .u8 0), Nat.zero_le _, by simp, fun i hi => by omega, ?_⟩
        simp -implicitDefEqProofs [go_sem]
        exact ⟨Blk.new _ _ _, (Below.refl _ _).alloc (Nat.le_refl _) _⟩
      · rintro e' w' ⟨k, C, hk, hC, hCi, h0, h2, h4, h26, h27, hB, bel3⟩
        by_cases hlt : k < m
        · have hw := IntWalk.i64_in ((k : Int) + 1) (by omega)
          have gx := hcell w' (belz.trans (bel3.mono (by omega))) (3 + k / 8) (by omega)
          have hb := byteM.eq_1 l k
          have hwq : IntKind.i64.wrap ((k : Int) / 8) = ((k / 8 : Nat) : Int) := by rw [IntWalk.i64_in _ (by omega)]; rfl
          have hwr : (k : Int).tmod 8 = ((k % 8 : Nat) : Int) := by rw [Int.tmod_eq_emod_of_nonneg (by omega)]; rfl
          have hQ : k / 8 < 5 := by omega
          have hR : k % 8 < 8 := by omega
          generalize k / 8 = Q at *
          generalize k % 8 = R at *
          have hw3 := IntWalk.i64_in (3 + (Q : Int)) (by omega)
          have hwm := IntWalk.i64_in ((R : Int) * 8) (by omega)
          have hq0 : (0 : Int) ≤ 3 + Q := by omega
          have hq8 : (3 : Int) + Q < 8 := by omega
          have hqn : (3 + (Q : Int)).toNat = 3 + Q := by omega
          have hRn : ((R : Int) * 8).toNat = R * 8 := by omega
          generalize l.getD (3 + Q) 0#64 = xq at *
          obtain ⟨v0, hv0⟩ : ∃ v0, C[k]? = some v0 := ⟨C[k]'(by omega), Array.getElem?_eq_getElem _⟩
          have gy := (hB.cell k).trans hv0
          have gf := hB.thaw k
          simp -implicitDefEqProofs [go_sem, h0, h2, h4, h26, h27, hlt, hwq, hwr, hw3, hwm, hq0, hq8, hqn, hRn, gx, gy, gf, hw]
          refine goE_round ⟨k + 1, C.setIfInBounds k (.int .u8 (uv (byteM l k))), by omega, by simp [hC], ?_, ?_⟩ ?_
          · intro i hi
            rw [Array.getElem?_setIfInBounds]
            by_cases hik : k = i
            · subst hik; simp [hC, hlt]
            · rw [if_neg hik]; exact hCi i (by omega)
          · simp -implicitDefEqProofs [go_sem, h0, h2, h4, h26]
            rw [hb]
            exact ⟨hB.set _ _, bel3.setCell (Nat.le_refl _) _⟩
          · simp -implicitDefEqProofs [go_sem, intOf, h27]; omega
        · have hk' : k = m := by omega
          subst hk'
          simp -implicitDefEqProofs [go_sem, h0, h2, h4, h26, h27]
          have bel4 := belz.trans (bel3.mono (by omega))
          obtain ⟨S, hS⟩ : ∃ S : World → Prop, S = fun w2 => Below w'.heap.size w' w2 := ⟨_, rfl⟩
          have hr0 : ∀ w'', S w'' → w''.cell? ⟨b, off, none⟩ = some (.int .u64 (uv x0)) := fun w'' hb => by
            rw [hS] at hb
            have := hcell _ (bel4.trans (hb.mono (hbp ▸ bel4.size))) 0 (by omega); rw [← hx0, Nat.add_zero] at this; exact this
          have hr1 : ∀ w'', S w'' → w''.cell? ⟨b, off + 1, none⟩ = some (.int .u64 (uv x1)) := fun w'' hb => by
            rw [hS] at hb
            have := hcell _ (bel4.trans (hb.mono (hbp ▸ bel4.size))) 1 (by omega); rw [← hx1] at this; exact this
          have hr2 : ∀ w'', S w'' → w''.cell? ⟨b, off + 2, none⟩ = some (.int .u64 (uv x2)) := fun w'' hb => by
            rw [hS] at hb
            have := hcell _ (bel4.trans (hb.mono (hbp ▸ bel4.size))) 2 (by omega); rw [← hx2] at this; exact this
          have hcv : ∀ w'', S w'' → (convert 64 9 (.slice (some ⟨wz.heap.size, 0, none⟩) k k)).run Tryd.prog w'' = .ok (.string (textM l k)) w'' := by
            intro w'' hb
            rw [hS] at hb
            have := run_convert_bytes_back (P := Tryd.prog) w'' 64 9 5 ⟨wz.heap.size, 0, none⟩ k ((List.range k).map fun i => UInt8.ofBitVec (byteM l i)) Tryd.underlying64 Tryd.underlying5 Tryd.underlying9 (by
              intro j hj
              have hj' : j < k := by simpa using hj
              rw [Addr.add_lit, Nat.zero_add, (hB.below hb hB.lt).cell, hCi j hj']
              simp
              rfl)
            unfold textM
            simpa using this
          refine drawE_held 14 (S) mixed (by decide +kernel) (by simp only [List.take_succ_cons, List.take_zero]; rfl) (by simp only [List.drop_succ_cons, List.drop_zero]; rfl) (by first | exact (Below.refl _ _).drew | (subst_vars; exact (Below.refl _ _).drew)) (fun hsome => ?_)
          simp -implicitDefEqProofs [go_sem, h0, h2, h4, h26, h27, h8, hsome]
          refine onHeld_of (.int .u64 (uv x1)) (fun w2 hw2 => by simp -implicitDefEqProofs [go_sem, hr1 w2 hw2]) ?_
          simp -implicitDefEqProofs [go_sem, h0, h2, h4, h26, h27, h8, hsome]
          refine onHeld_of (.int .u64 (uv x2)) (fun w2 hw2 => by simp -implicitDefEqProofs [go_sem, hr2 w2 hw2]) ?_
          simp -implicitDefEqProofs [go_sem, h0, h2, h4, h26, h27, h8, hsome]
          refine onHeld_of (.int .u64 (uv x0)) (fun w2 hw2 => by simp -implicitDefEqProofs [go_sem, hr0 w2 hw2]) ?_
          simp -implicitDefEqProofs [go_sem, h0, h2, h4, h26, h27, h8, hsome]
          refine onHeld_of (.string (textM l k)) (fun w2 hw2 => by simp -implicitDefEqProofs [go_sem, hcv w2 hw2]) ?_
          simp -implicitDefEqProofs [go_sem, h0, h2, h4, h26, h27, h8, hsome]
          unfold endE
          simp -implicitDefEqProofs [go_sem]
          have hg : (x0 &&& 256#64 != 0#64) = goneM l := by rw [hx0]; rfl
          rw [hg]
          refine ⟨by rw [hS]; exact ((Below.refl _ _).alloc (Nat.le_refl _) _).drew, by rw [hS]; exact ((Below.refl _ _).alloc (Nat.le_refl _) _).drew, ?_⟩
          have hE := encode_calls x1 x2 (goneM l) (textM l k)
          unfold recV at hE
          have hB6 := (Blk.new w' #[.int .u64 (uv x1), .int .u64 (uv x2), .bool (goneM l), .string (textM l k)] 50).drew
          have bel6 : Below bp w (w'.alloc (.cells #[.int .u64 (uv x1), .int .u64 (uv x2), .bool (goneM l), .string (textM l k)] 50)).drew := (bel4.alloc (hbp ▸ bel4.size) _).drew
          have hBz6 := (hBz.below (bel3.alloc bel3.size (.cells #[.int .u64 (uv x1), .int .u64 (uv x2), .bool (goneM l), .string (textM l k)] 50)).drew (by omega))
          generalize (w'.alloc (.cells #[.int .u64 (uv x1), .int .u64 (uv x2), .bool (goneM l), .string (textM l k)] 50)).drew = w6 at *
          refine callE_of (hE _) ?_
          rintro v w7 ⟨a7, c7, rfl, hin7, bel7⟩
          have bel7' := bel6.trans (bel7.mono (hbp ▸ bel6.size))
          have hBz7 := hBz6.below bel7 hBz6.lt
          have hB7 := hB6.below bel7 hB6.lt
          have okM_eq : okM l = decide (encM x1 x2 (goneM l) (textM l k) = l) := by
            rw [okM, decide_eq_true h8, decide_eq_true hs, ← hm, ← hx1, ← hx2]; rfl
          cases hright : rightB x1 (goneM l) (textM l k)
          · have hok : okM l = false := by
              rw [okM_eq, encM, hright]
              simp
              intro h; rw [h] at h8; simp at h8
            have fz0 := hBz7.thaw 0
            have fz1 := hBz7.thaw 1
            have fz2 := hBz7.thaw 2
            have fz3 := hBz7.thaw 3
            have gz0 := hBz7.cell 0
            have gz1 := hBz7.cell 1
            have gz2 := hBz7.cell 2
            have gz3 := hBz7.cell 3
            simp at gz0 gz1 gz2 gz3
            simp -implicitDefEqProofs [go_sem, h0, h2, h8, undef, gz0, gz1, gz2, gz3, fz0, fz1, fz2, fz3]
            refine body_cell_tmp 2 3 (ty := 50) rfl (by simp -implicitDefEqProofs [go_sem, h2]) (t' := 50) (g := bp) (cs := #[.int .u64 0, .int .u64 0, .bool false, .string ⟨#[]⟩]) ?_ hst rfl hsi ?_
            · exact hBz7.set4
            · simp -implicitDefEqProofs [go_sem, decM, hok]
              exact Below.own4 bel7' (Nat.le_refl _)
          · simp -implicitDefEqProofs [go_sem, h0, h2, h8]
            have hl7 : SlAt .u64 w7 (some ⟨b, off, none⟩) l := hin.at_.below (hbp ▸ bel7')
            refine callE_of (equal_calls a7 (some ⟨b, off, none⟩) (encM x1 x2 (goneM l) (textM l k)) l _ 8 c7 c w7 rfl h8 (by have := hin7.le; have := hin7.max; omega) hin7.at_ hl7) ?_
            rintro v w8 ⟨rfl, bel8⟩
            have bel8' := bel7'.trans (bel8.mono (hbp ▸ bel7'.size))
            have hBz8 := hBz7.below bel8 hBz7.lt
            have hB8 := hB7.below bel8 hB7.lt
            have fz0 := hBz8.thaw 0
            have fz1 := hBz8.thaw 1
            have fz2 := hBz8.thaw 2
            have fz3 := hBz8.thaw 3
            have gz0 := hBz8.cell 0
            have gz1 := hBz8.cell 1
            have gz2 := hBz8.cell 2
            have gz3 := hBz8.cell 3
            have gr0 := hB8.cell 0
            have gr1 := hB8.cell 1
            have gr2 := hB8.cell 2
            have gr3 := hB8.cell 3
            simp at gz0 gz1 gz2 gz3 gr0 gr1 gr2 gr3
            by_cases heq : encM x1 x2 (goneM l) (textM l k) = l
            · have hok : okM l = true := by rw [okM_eq]; exact decide_eq_true heq
              rw [decide_eq_true heq]
              simp -implicitDefEqProofs [go_sem, h0, h2, h8, gz0, gz1, gz2, gz3, fz0, fz1, fz2, fz3, gr0, gr1, gr2, gr3]
              refine body_cell_tmp 2 3 (ty := 50) rfl (by simp -implicitDefEqProofs [go_sem, h2]) (t' := 50) (g := bp) (cs := #[.int .u64 (uv x1), .int .u64 (uv x2), .bool (goneM l), .string (textM l k)]) ?_ hst rfl hsi ?_
              · exact hBz8.set4
              · have hdec : decM l = .agg #[.int .u64 (uv x1), .int .u64 (uv x2), .bool (goneM l), .string (textM l k)] := by
                  rw [decM, if_pos hok, ← hm, ← hx1, ← hx2]; rfl
                simp -implicitDefEqProofs [go_sem, hdec, hok]
                exact Below.own4 bel8' (Nat.le_refl _)
            · have hok : okM l = false := by rw [okM_eq]; exact decide_eq_false heq
              rw [decide_eq_false heq]
              simp -implicitDefEqProofs [go_sem, h0, h2, h8, gz0, gz1, gz2, gz3, fz0, fz1, fz2, fz3]
              refine body_cell_tmp 2 3 (ty := 50) rfl (by simp -implicitDefEqProofs [go_sem, h2]) (t' := 50) (g := bp) (cs := #[.int .u64 0, .int .u64 0, .bool false, .string ⟨#[]⟩]) ?_ hst rfl hsi ?_
              · exact hBz8.set4
              · simp -implicitDefEqProofs [go_sem, decM, hok]
                exact Below.own4 bel8' (Nat.le_refl _)
    · have hs' : 40#64 < x0 >>> 16 := by
        rw [BitVec.lt_def]; unfold sizeM at hs; rw [← hx0] at hs; simp; simp at hs; omega
      have hok : okM l = false := by simp [okM, hs]
      simp -implicitDefEqProofs [go_sem, h8', g0, hs', h8, gz0, gz1, gz2, gz3, fz0, fz1, fz2, fz3]
      refine body_cell_tmp 2 3 (ty := 50) rfl rfl (t' := 50) (g := bp) (cs := #[.int .u64 0, .int .u64 0, .bool false, .string ⟨#[]⟩]) ?_ hst rfl hsi ?_
      · exact hBz.set4
      · simp -implicitDefEqProofs [go_sem, decM, hok]
        exact Below.own4 belz (Nat.le_refl _)
  · have h8' : ((l.length : Int) != 8) = true := by rw [bne_iff_ne]; omega
    have hok : okM l = false := by simp [okM, h8]
    simp -implicitDefEqProofs [go_sem, h8', undef, gz0, gz1, gz2, gz3, fz0, fz1, fz2, fz3]
    refine body_cell_tmp 2 3 (ty := 50) rfl rfl (t' := 50) (g := bp) (cs := #[.int .u64 0, .int .u64 0, .bool false, .string ⟨#[]⟩]) ?_ hst rfl hsi ?_
    · exact hBz.set4
    · simp -implicitDefEqProofs [go_sem, decM, hok]
      exact Below.own4 belz (Nat.le_refl _)
end Go.Proofs.YtejpophjiinijaaDoor

/-! ### RecBack -/
namespace Go.Proofs.YtejpophjiinijaaDoor
set_option linter.unusedVariables false
set_option linter.unusedSimpArgs false
set_option maxRecDepth 100000
open Go Go.RowKit

theorem w0_at (st nx : BitVec 64) (gone : Bool) (s : ByteArray) (hs : s.size ≤ 40) : sizeM (wsOf st nx gone s) = s.size ∧ goneM (wsOf st nx gone s) = gone := by
  obtain ⟨h1, h2, _⟩ := RM.w0_facts s.size hs gone
  have e : (wsOf st nx gone s).getD 0 0#64 = RM.w0 s.size gone := rfl
  refine ⟨?_, ?_⟩
  · unfold sizeM; rw [e, h1]; simp; omega
  · unfold goneM; rw [e, h2]
theorem byte_ws (st nx : BitVec 64) (gone : Bool) (s : ByteArray) (i : Nat) (hi : i < 40) : byteM (wsOf st nx gone s) i = if i < s.size then tx s i else 0#8 := by
  have e : (wsOf st nx gone s).getD (3 + i / 8) 0#64 = RM.tw (tx s) s.size (i / 8) := by
    have : i / 8 = 0 ∨ i / 8 = 1 ∨ i / 8 = 2 ∨ i / 8 = 3 ∨ i / 8 = 4 := by omega
    rcases this with h | h | h | h | h <;> rw [h] <;> rfl
  unfold byteM; rw [e, RM.tw_byte]
theorem text_ws (st nx : BitVec 64) (gone : Bool) (s : ByteArray) (hs : s.size ≤ 40) : textM (wsOf st nx gone s) s.size = s := by
  have h : ∀ i (hi : i < s.size), UInt8.ofBitVec (byteM (wsOf st nx gone s) i) = s.data[i] := fun i hi => by
    rw [byte_ws _ _ _ _ _ (by omega), if_pos hi, tx_at _ _ hi]
  unfold textM
  cases s with
  | mk d =>
    congr 1
    apply Array.ext
    · simp; rfl
    · intro i h1 h2
      have := h i h2
      simpa using this
theorem right_size {st : BitVec 64} {gone : Bool} {s : ByteArray} (h : rightB st gone s = true) : s.size ≤ 40 := by simp [rightB] at h; omega
/-- A version comes back from its words. -/
theorem enc_back {st nx : BitVec 64} {gone : Bool} {s : ByteArray} (h : rightB st gone s = true) : okM (encM st nx gone s) = true ∧ decM (encM st nx gone s) = recV st nx gone s := by
  have hs := right_size h
  have e : encM st nx gone s = wsOf st nx gone s := by rw [encM, if_pos h]
  obtain ⟨h1, h2⟩ := w0_at st nx gone s hs
  have h3 := text_ws st nx gone s hs
  have g1 : (wsOf st nx gone s).getD 1 0#64 = st := rfl
  have g2 : (wsOf st nx gone s).getD 2 0#64 = nx := rfl
  have hok : okM (encM st nx gone s) = true := by
    unfold okM
    rw [e, h1, h2, g1, g2, h3, e]
    have : (wsOf st nx gone s).length = 8 := rfl
    simp [this, hs]
  refine ⟨hok, ?_⟩
  rw [decM, if_pos hok, e, h1, h2, g1, g2, h3]
theorem enc_inj {st nx st' nx' : BitVec 64} {gone gone' : Bool} {s s' : ByteArray} (h : rightB st gone s = true) (h' : rightB st' gone' s' = true) (he : encM st nx gone s = encM st' nx' gone' s') : st = st' ∧ nx = nx' ∧ gone = gone' ∧ s = s' := by
  have h1 := (enc_back (nx := nx) h).2
  rw [he, (enc_back h').2] at h1
  simp only [recV, Value.agg.injEq, Array.mk.injEq, List.cons.injEq, Value.int.injEq, Value.bool.injEq, Value.string.injEq, true_and, and_true] at h1
  exact ⟨(uv_inj h1.1).symm, (uv_inj h1.2.1).symm, h1.2.2.1.symm, h1.2.2.2.symm⟩
end Go.Proofs.YtejpophjiinijaaDoor
