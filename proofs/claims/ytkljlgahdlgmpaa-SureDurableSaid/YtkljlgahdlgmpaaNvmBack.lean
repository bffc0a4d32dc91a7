/- The range over a line's changes, the last one first: the iterator's contract. -/
import Derived.RangeFuncNested
import Derived.RangeFuncBound
import Derived.RangeFuncCalls
import Derived.RangeFuncLeaves
import Derived.Shelf.Abstract
import Derived.Shelf.RegionOpen
import Derived.WalkKit
import Derived.OwnWalkIn
import Derived.TacticsInMore
import Derived.LoopNIn
import Derived.LoopIn
import Derived.Test.YtkljlgahdlgmpaaNvmWalk8
namespace Go.Proofs.Ytkljlgahdlgmpaa
open Go Go.RowKit Go.Shelf

attribute [local go_sem] Oper.semAt_some

/-- A change that may be. -/
abbrev Chg := { x : Nat × BitVec 64 // ∃ q, x.1 = 8 * q ∧ q < 8 }
/-- What the iterator reads: its two boxes, the line's changes. -/
structure BackOk (Bl Bc lb q k : Nat) (a : Option Addr) (c : Nat) (cs : List Chg) (W : World) : Prop where
  l : W.cell? ⟨Bl, 0, none⟩ = some (.pointer (some ⟨lb, q, none⟩))
  k : W.cell? ⟨Bc, 0, none⟩ = some (.int .i64 (k : Int))
  s : W.cell? ⟨lb, q + 64, none⟩ = some (.slice a cs.length c)
  c : ∀ j (h : j < cs.length), ∃ g, a = some ⟨g, 0, none⟩ ∧ W.cell? ⟨g, j * 2, none⟩ = some (.int .i64 (cs[j].1.1 : Int)) ∧ W.cell? ⟨g, j * 2 + 1, none⟩ = some (.int .u64 (uv cs[j].1.2))
def encC (x : Chg) : Array Value := #[.agg #[.int .i64 (x.1.1 : Int), .int .u64 (uv x.1.2)]]

set_option maxRecDepth 100000 in
set_option maxHeartbeats 1000000 in
theorem back1_in (n : Nat) (hn : 1 ≤ n) (l Bl Bc lb q k : Nat) (a : Option Addr) (c : Nat) (cs : List Chg) (hk : k ≤ cs.length) (hcs : cs.length ≤ 1099511627776) (J Jx : List Chg → World → Prop)
    (hY : ∀ pre x W, J pre W → pre.length < (cs.drop k).reverse.length → YieldAt Fence.wide (n - 1) Try.prog l (encC x) W fun e W' =>
      (e = .returned (.bool true) ∧ J (pre ++ [x]) W' ∧ (BackOk Bl Bc lb q k a c cs W → BackOk Bl Bc lb q k a c cs W')) ∨ (e = .returned (.bool false) ∧ Jx (pre ++ [x]) W'))
    (W : World) (hB : BackOk Bl Bc lb q k a c cs W) (h0 : J [] W) :
    CallsIn Fence.wide n Try.prog 67 #[.func (.yield l) #[] #[], .pointer (some ⟨Bl, 0, none⟩), .pointer (some ⟨Bc, 0, none⟩)] W fun e W' => (∃ v, e = .returned v) ∧
      ((∃ ys, ys = (cs.drop k).reverse ∧ J ys W') ∨ (∃ pre, pre <+: (cs.drop k).reverse ∧ Jx pre W')) := by
  refine callsIn_of_wp Try.func67 rfl trivial ?_ rfl
  simp only [Try.ntmps67, List.size_toArray, List.length_cons, List.length_nil, Nat.reduceAdd, Nat.reduceSub, Array.replicate_succ, Array.replicate_zero, List.push_toArray, List.append_toArray, List.nil_append, List.cons_append]
  have hBl := hB.l
  have hBc := hB.k
  have hBs := hB.s
  have hL : (cs.drop k).reverse.length = cs.length - k := by simp
  gi_wp2
  gi_loopw [4] (fun z wr => ∃ m, m ≤ cs.length - k ∧ z = .int .i64 ((k : Int) + m - 1) ∧ BackOk Bl Bc lb q k a c cs wr ∧ J ((cs.drop k).reverse.take (cs.length - k - m)) wr)
    (fun z _ => (intOf z + 1 - k).toNat)
  case atStart =>
    exact ⟨cs.length - k, Nat.le_refl _, by congr 1; omega, hB, by simpa using h0⟩
  case round =>
    obtain ⟨m, hm, rfl, hBr, hJr⟩ := hrel
    clear hBl hBc hBs
    have hBl := hBr.l
    have hBc := hBr.k
    have hBs := hBr.s
    cases m with
    | zero =>
      have hc1 : ¬ ((k : Int) ≤ (k : Int) + ((0 : Nat) : Int) - 1) := by omega
      gi_wp2
      go_end0
      rw [Nat.sub_zero, ← hL, List.take_length] at hJr
      first | exact hJr | exact ⟨⟨_, rfl⟩, .inl hJr⟩ | exact .inl hJr
    | succ m =>
      have hlt : k + m < cs.length := by omega
      have hz : (k : Int) + ((m + 1 : Nat) : Int) - 1 = ((k + m : Nat) : Int) := by omega
      have hz0 : (k : Int) ≤ ((k + m : Nat) : Int) := by omega
      have hz1 : ((k + m : Nat) : Int) < (cs.length : Int) := by omega
      have hz2 : (0 : Int) ≤ ((k + m : Nat) : Int) := by omega
      have hw := IntWalk.i64_in (((k + m : Nat) : Int) - 1) (by omega)
      have hz3 : ((k + m : Nat) : Int) - 1 = (k : Int) + m - 1 := by omega
      have hx : (cs.drop k).reverse[cs.length - k - (m + 1)]? = some cs[k + m] := by
        rw [List.getElem?_reverse (by simp; omega), List.length_drop, List.getElem?_drop, show k + (cs.length - k - 1 - (cs.length - k - (m + 1))) = k + m by omega, List.getElem?_eq_getElem hlt]
      have htk : (cs.drop k).reverse.take (cs.length - k - (m + 1)) ++ [cs[k + m]] = (cs.drop k).reverse.take (cs.length - k - m) := by
        rw [show cs.length - k - m = cs.length - k - (m + 1) + 1 by omega, List.take_add_one, hx]; rfl
      obtain ⟨g, hga, hg1, hg2⟩ := hBr.c (k + m) hlt
      obtain ⟨fn, tmps, assign, body, hy, hR⟩ := hY _ cs[k + m] wr hJr (by rw [List.length_take, hL]; omega)
      dsimp only [encC] at hy
      rw [htk] at hR
      rw [hz]
      subst hga
      generalize hKM : k + m = KM at *
      gi_wp2
      refine hR.mono ?_
      rintro e W3 (⟨rfl, hJ3, hk3⟩ | ⟨rfl, hJx3⟩)
      · gi_wp2
        go_roundw
        case rel => exact ⟨m, by omega, by first | rfl | rw [hz3], hk3 hBr, hJ3⟩
        case measure => simp [intOf]; omega
      · gi_wp2
        refine bodyPost_ret (results_none rfl _ _ _) rfl ?_
        exact ⟨⟨_, rfl⟩, .inr ⟨_, List.take_prefix _ _, hJx3⟩⟩

theorem back_stops (n : Nat) (hn : 1 ≤ n) (Bl Bc lb q k : Nat) (a : Option Addr) (c : Nat) (cs : List Chg) (hk : k ≤ cs.length) (hcs : cs.length ≤ 1099511627776) (w : World) (hB : ∀ W, Below w.heap.size w W → BackOk Bl Bc lb q k a c cs W) :
    SeqStopsK Fence.wide n Try.prog 67 #[.pointer (some ⟨Bl, 0, none⟩), .pointer (some ⟨Bc, 0, none⟩)] encC (fun W W' => BackOk Bl Bc lb q k a c cs W → BackOk Bl Bc lb q k a c cs W') (fun ys => ys = (cs.drop k).reverse) (fun pre => pre <+: (cs.drop k).reverse) (cs.drop k).reverse.length w :=
  fun l J Jx W hW _ _ hY h0 => back1_in n hn l Bl Bc lb q k a c cs hk hcs J Jx hY W (hB W hW) h0

set_option linter.unusedSimpArgs false in
theorem back_calls (lb q k : Nat) (w0 : World) : Ret Try.prog 62 #[.pointer (some ⟨lb, q, none⟩), .int .i64 (k : Int)] w0 fun v w' =>
    v = .func (.func 67) #[] #[.pointer (some ⟨w0.heap.size, 0, none⟩), .pointer (some ⟨w0.heap.size + 1, 0, none⟩)] ∧ w' = (w0.alloc (.cells #[.pointer (some ⟨lb, q, none⟩)] 88)).alloc (.cells #[.int .i64 (k : Int)] 3) := by
  refine ret_of (args := [_, _]) _ Try.func62 rfl Try.ntmps62 (by simp) ?_
  simp -implicitDefEqProofs [go_sem]
  refine body_tmp 4 rfl ?_
  simp -implicitDefEqProofs [go_sem]
end Go.Proofs.Ytkljlgahdlgmpaa
