/- The reference's slabs: List, Next, Take, Drop; the program's List. -/
import Derived.Test.YtcaekgkogiggoaaDoorSlabRef
namespace Go.Proofs.YtcaekgkogiggoaaDoor
open Go Go.RowKit

theorem info_int : (Tryd.prog.info? 3).map (fun i => (i.zero, i.size, i.bytes)) = some (some (.int .i64 0), 1, 8) := by kernel_rfl
/-- The first k of what is filtered, and one more. -/
def lstK (f : Nat → Bool) (k : Nat) : List Nat := (List.range k).filter f
theorem lstK_zero (f : Nat → Bool) : lstK f 0 = [] := rfl
theorem filter_succ (f : Nat → Bool) (k : Nat) : lstK f (k + 1) = lstK f k ++ (if f k then [k] else []) := by
  unfold lstK; rw [List.range_succ, List.filter_append]; cases h : f k <;> simp [h]
theorem filter_len (f : Nat → Bool) (k : Nat) : (lstK f k).length ≤ k := by
  have := List.length_filter_le f (List.range k); simpa [lstK] using this

theorem stSlab (c : Int) (T : Nat → Bool) : ∀ (w : World) (e : Env) (dst : Option Tmp) (x y : Operand) (ty' : TypeId) (pos : String) (af : Array Edge) (gd : Option (Nat × Bool)), ev e x = .pointer (some ⟨w.heap.size, 0, none⟩) → ev e y = .agg (slabC c T) →
    xOp Tryd.prog e ⟨dst, .store 57 x y, ty', pos, af, gd⟩ (w.alloc (.cells #[.int .i64 0, .bool false, .bool false, .bool false, .bool false, .bool false, .bool false, .bool false, .bool false, .bool false, .bool false, .bool false, .bool false, .bool false, .bool false, .bool false, .bool false] 57)) = .ok .skip (w.alloc (.cells (slabC c T) 57)) :=
  stNew (P := Tryd.prog) (slabI' c T) (by rw [slabC_size]; rfl) (slabC_one c T)
/-- One more number behind a slice of the call's own. -/
theorem push_nat {w0 w : World} {a : Option Addr} {len c : Nat} {l : List Nat} (base : Nat) (hown : w.ownsRow base 3 1 (.slice a len c) len (nats l)) (hl : len ≤ 1000000) (hbase : base ≤ w.heap.size) (hb : Below base w0 w) (i : Nat) :
    ∃ a2 c2 w2, (appendB #[46, 46] 46 #[.slice a len c, .slice (some ⟨w.heap.size, 0, none⟩) 1 1]).run Tryd.prog (w.alloc (.cells #[.int .i64 (i : Int)] 3)) = .ok (.slice a2 (len + 1) c2) w2 ∧
      w2.ownsRow base 3 1 (.slice a2 (len + 1) c2) (len + 1) (nats (l ++ [i])) ∧ Below base w0 w2 ∧ base ≤ w2.heap.size := by
  have ha : (w.alloc (.cells #[.int .i64 (i : Int)] 3)).heap.size = w.heap.size + 1 := by simp
  obtain ⟨a2, c2, w2, hr2, hown2, hgr⟩ := run_append1 (P := Tryd.prog) base (t := 46) (bytes := 8) (z := .int .i64 0) 46 Tryd.underlying46 info_int rfl (hown.alloc (.cells #[.int .i64 (i : Int)] 3)) (a2 := some ⟨w.heap.size, 0, none⟩) (c2 := 1) (m := 1) (news := [.int .i64 (i : Int)]) rfl
    (.inr ⟨_, rfl, fun j u hu => by rw [Addr.add_lit, Nat.zero_add, (Blk.new _ _ _).cell]; simpa using hu⟩) (by simp) (by simp [Value.oneCell']) (by omega) (by omega) (by omega)
  have hb2 := (hb.alloc hbase (.cells #[.int .i64 (i : Int)] 3)).grown hgr (by omega) (fun j hj => (hown.lt j hj).1)
  refine ⟨a2, c2, w2, hr2, by rw [nats_append]; exact hown2, hb2, ?_⟩
  have := hgr.size
  omega

set_option maxHeartbeats 1000000 in
set_option linter.unusedSimpArgs false in
theorem list_calls (x : BitVec 64) (w0 : World) : Ret Tryd.prog 30 #[.int .u64 (uv x)] w0 fun v w' => ∃ a c, v = .slice a (WM.listM x).length c ∧ VsIn w' a (nats (WM.listM x)) c ∧ Below w0.heap.size w0 w' := by
  have bel0 := Below.refl w0.heap.size w0
  obtain ⟨n, hn⟩ : ∃ n : Nat, WM.blocksI (WM.classM x) = n := by
    rw [WM.cR_class, WM.blocksI_nat]; exact ⟨_, rfl⟩
  have hn16 : n ≤ 16 := by
    rw [WM.cR_class, WM.blocksI_nat] at hn; have := WM.bl_le (WM.cR x); omega
  have hlist : WM.listM x = lstK (fun (i : Nat) => WM.hasM x i) n := by
    unfold WM.listM lstK; rw [WM.cR_class] at hn ⊢; rw [WM.blocksI_nat] at hn; congr 2; rw [Int.toNat_natCast]; omega
  refine ret_of (args := [_]) _ Tryd.func30 rfl Tryd.ntmps30 (by simp) ?_
  simp -implicitDefEqProofs [go_sem]
  refine callE_of (class_calls x w0) ?_
  rintro v w1 ⟨rfl, b1⟩
  have bel1 := bel0.trans (b1.mono bel0.size)
  simp -implicitDefEqProofs [go_sem]
  refine callE_of (blocks_calls _ w1) ?_
  rintro v w2 ⟨rfl, rfl⟩
  rw [hn]
  simp -implicitDefEqProofs [go_sem]
  refine wpE_loop (fun e' w' => ∃ (k len : Nat) (a : Option Addr) (c : Nat), k ≤ n ∧ e' 0 = .int .u64 (uv x) ∧ e' 3 = .slice a len c ∧ e' 7 = .int .i64 n ∧ e' 8 = .int .i64 k ∧ len = (lstK (fun (i : Nat) => WM.hasM x i) k).length ∧
    w'.ownsRow w0.heap.size 3 1 (.slice a len c) len (nats (lstK (fun (i : Nat) => WM.hasM x i) k)) ∧ Below w0.heap.size w0 w' ∧ w0.heap.size ≤ w'.heap.size) (fun e' _ => n - (intOf (e' 8)).toNat) ?_ ?_
  · refine ⟨0, 0, none, 0, by omega, ?_⟩
    simp -implicitDefEqProofs [go_sem, lstK_zero]
    exact ⟨World.ownsRow_nil _ _ _ _, bel1, bel1.size⟩
  · rintro e' w' ⟨k, len, a, c, hk, h0, h3, h7, h8, hlen, hown, bel, hsz⟩
    have hl16 : len ≤ 16 := by rw [hlen]; have := filter_len (fun (i : Nat) => WM.hasM x i) k; omega
    by_cases hlt : k < n
    · have hlt' : (k : Int) < n := by omega
      have hw := IntWalk.i64_in ((k : Int) + 1) (by omega)
      have hfs := filter_succ (fun (i : Nat) => WM.hasM x i) k
      simp -implicitDefEqProofs [go_sem, h0, h3, h7, h8, hlt, hlt']
      refine callE_of (has_calls' x k w') ?_
      rintro v w3 ⟨rfl, b3⟩
      have bel3 := bel.trans (b3.mono hsz)
      have hown3 := ownsRow_next hown b3
      cases hh : WM.hasM x k
      · rw [hh] at hfs
        simp only [Bool.false_eq_true, if_false, List.append_nil] at hfs
        simp -implicitDefEqProofs [go_sem, h3, h8, hw]
        refine goE_round ⟨k + 1, len, a, c, by omega, ?_⟩ ?_
        · simp -implicitDefEqProofs [go_sem, h0, h3, h7]
          exact ⟨by rw [hfs]; exact hlen, by rw [hfs]; exact hown3, bel3, by have := b3.size; omega⟩
        · simp -implicitDefEqProofs [go_sem, intOf, h8]; omega
      · rw [hh] at hfs
        simp only [if_true] at hfs
        obtain ⟨a2, c2, w4, hr4, hown4, bel4, hsz4⟩ := push_nat w0.heap.size hown3 (by omega) (by have := b3.size; omega) bel3 k
        simp -implicitDefEqProofs [go_sem, h0, h3, h7, h8, hr4, hw]
        refine goE_round ⟨k + 1, len + 1, a2, c2, by omega, ?_⟩ ?_
        · simp -implicitDefEqProofs [go_sem, h0, h7]
          exact ⟨by rw [hfs]; simp [hlen], by rw [hfs]; exact hown4, bel4, hsz4⟩
        · simp -implicitDefEqProofs [go_sem, intOf, h8]; omega
    · have hk' : k = n := by omega
      subst hk'
      rw [← hlist] at hlen hown
      simp -implicitDefEqProofs [go_sem, h0, h3, h7, h8]
      refine body_tmp 2 rfl ?_
      simp -implicitDefEqProofs [go_sem]
      exact ⟨a, c, ⟨rfl, hlen, rfl⟩, owns_vsIn (by rw [nats_length]; exact hlen.symm) hown, bel⟩

set_option maxHeartbeats 1000000 in
set_option linter.unusedSimpArgs false in
theorem refList_calls (x : BitVec 64) (w0 : World) : Ret Tryd.prog 34 #[.int .u64 (uv x)] w0 fun v w' => ∃ a c, v = .slice a (WM.listM x).length c ∧ VsIn w' a (nats (WM.listM x)) c ∧ Below w0.heap.size w0 w' := by
  have bel0 := Below.refl w0.heap.size w0
  have hlist : WM.listM x = lstK (WM.tR x) 16 := WM.list_ref x
  have hst := Tryd.underlying57
  refine ret_of (args := [_]) _ Tryd.func34 rfl Tryd.ntmps34 (by simp) ?_
  simp -implicitDefEqProofs [go_sem]
  refine callE_of (of_calls x w0) ?_
  rintro v w1 ⟨rfl, b1⟩
  have bel1 := bel0.trans (b1.mono bel0.size)
  simp -implicitDefEqProofs [go_sem, ↓stSlab (WM.cR x) (WM.tR x)]
  generalize hw2 : World.alloc w1 _ = w2 at *
  obtain ⟨hB2, b2, sz2⟩ := new_facts hw2
  have bel2 := bel1.trans (b2.mono bel1.size)
  refine wpE_loop (fun e' w' => ∃ (k len : Nat) (a : Option Addr) (c : Nat), k ≤ 16 ∧ e' 3 = .pointer (some ⟨w1.heap.size, 0, none⟩) ∧ e' 5 = .slice a len c ∧ e' 6 = .int .i64 k ∧ len = (lstK (WM.tR x) k).length ∧
    w'.ownsRow w2.heap.size 3 1 (.slice a len c) len (nats (lstK (WM.tR x) k)) ∧ Below w2.heap.size w2 w' ∧ w2.heap.size ≤ w'.heap.size) (fun e' _ => 16 - (intOf (e' 6)).toNat) ?_ ?_
  · refine ⟨0, 0, none, 0, by omega, ?_⟩
    simp -implicitDefEqProofs [go_sem, lstK_zero]
    exact ⟨World.ownsRow_nil _ _ _ _, Below.refl _ _⟩
  · rintro e' w' ⟨k, len, a, c, hk, h3, h5, h6, hlen, hown, bel, hsz⟩
    have hl16 : len ≤ 16 := by rw [hlen]; have := filter_len (WM.tR x) k; omega
    by_cases hlt : k < 16
    · have hlt' : (k : Int) < 16 := by omega
      have hw := IntWalk.i64_in ((k : Int) + 1) (by omega)
      have hfs := filter_succ (WM.tR x) k
      have g := (hB2.next bel).cell (1 + k)
      rw [slabC_at _ _ _ hlt] at g
      cases hh : WM.tR x k
      · rw [hh] at hfs g
        simp only [Bool.false_eq_true, if_false, List.append_nil] at hfs
        simp -implicitDefEqProofs [go_sem, h3, h5, h6, hlt, hlt', g, hw]
        refine goE_round ⟨k + 1, len, a, c, by omega, ?_⟩ ?_
        · simp -implicitDefEqProofs [go_sem, h3, h5]
          exact ⟨by rw [hfs]; exact hlen, by rw [hfs]; exact hown, bel, hsz⟩
        · simp -implicitDefEqProofs [go_sem, intOf, h6]; omega
      · rw [hh] at hfs g
        simp only [if_true] at hfs
        obtain ⟨a2, c2, w4, hr4, hown4, bel4, hsz4⟩ := push_nat w2.heap.size hown (by omega) hsz bel k
        simp -implicitDefEqProofs [go_sem, h3, h5, h6, hlt, hlt', g, hr4, hw]
        refine goE_round ⟨k + 1, len + 1, a2, c2, by omega, ?_⟩ ?_
        · simp -implicitDefEqProofs [go_sem, h3]
          exact ⟨by rw [hfs]; simp [hlen], by rw [hfs]; exact hown4, bel4, hsz4⟩
        · simp -implicitDefEqProofs [go_sem, intOf, h6]; omega
    · have hk' : k = 16 := by omega
      subst hk'
      rw [← hlist] at hlen hown
      simp -implicitDefEqProofs [go_sem, h3, h5, h6]
      refine body_tmp 2 rfl ?_
      simp -implicitDefEqProofs [go_sem]
      exact ⟨a, c, ⟨rfl, hlen, rfl⟩, owns_vsIn (by rw [nats_length]; exact hlen.symm) hown, bel2.trans (bel.mono bel2.size)⟩

/-! ### Next, Take, Drop -/
set_option maxHeartbeats 1000000 in
set_option linter.unusedSimpArgs false in
theorem refNext_calls (x : BitVec 64) (c : Int) (w0 : World) : Ret Tryd.prog 35 #[.int .u64 (uv x), .int .i64 c] w0 fun v w' => v = .int .i64 (WM.nextM x c) ∧ Below w0.heap.size w0 w' := by
  have bel0 := Below.refl w0.heap.size w0
  have hnx := WM.next_ref x c
  refine ret_of (args := [_, _]) _ Tryd.func35 rfl Tryd.ntmps35 (by simp) ?_
  simp -implicitDefEqProofs [go_sem]
  refine callE_of (of_calls x w0) ?_
  rintro v w1 ⟨rfl, b1⟩
  have bel1 := bel0.trans (b1.mono bel0.size)
  cases hb : WM.rB x
  · simp -implicitDefEqProofs [go_sem, ↓stSlab (WM.cR x) (WM.tR x)]
    refine body_tmp 4 rfl ?_
    simp -implicitDefEqProofs [go_sem, hnx, hb]
    exact bel1.alloc bel1.size _
  · have e0 : ((WM.cR x : Int) != 0) = !decide ((WM.cR x : Int) = 0) := by
      rw [Bool.eq_iff_iff, bne_iff_ne, Bool.not_eq_true', decide_eq_false_iff_not]
    have e1 : ((WM.cR x : Int) != c) = !decide ((WM.cR x : Int) = c) := by
      rw [Bool.eq_iff_iff, bne_iff_ne, Bool.not_eq_true', decide_eq_false_iff_not]
    have hbl := WM.blocksI_le c
    by_cases hc : (WM.cR x : Int) = 0 ∨ (WM.cR x : Int) = c
    · rw [hb, if_pos ⟨rfl, hc⟩] at hnx
      obtain ⟨n, hn⟩ : ∃ n : Nat, WM.blocksI c = n := ⟨(WM.blocksI c).toNat, by omega⟩
      rw [hn, Int.toNat_natCast] at hnx
      have hd0 : decide ((WM.cR x : Int) = 0) = true ∨ (decide ((WM.cR x : Int) = 0) = false ∧ decide ((WM.cR x : Int) = c) = true) := by
        by_cases h : (WM.cR x : Int) = 0
        · exact .inl (decide_eq_true h)
        · exact .inr ⟨decide_eq_false h, decide_eq_true (hc.resolve_left h)⟩
      rcases hd0 with hd | ⟨hd, hd2⟩
      · rw [hd] at e0
        simp -implicitDefEqProofs [go_sem, ↓stSlab (WM.cR x) (WM.tR x), slabC_0, e0]
        generalize hw2 : World.alloc w1 _ = w2 at *
        obtain ⟨hB2, b2, sz2⟩ := new_facts hw2
        have bel2 := bel1.trans (b2.mono bel1.size)
        refine wpE_loop (fun e' w' => ∃ k : Nat, k ≤ n ∧ e' 1 = .int .i64 c ∧ e' 5 = .pointer (some ⟨w1.heap.size, 0, none⟩) ∧ e' 7 = .int .i64 k ∧ WM.firstOff x 0 n = WM.firstOff x k (n - k) ∧ w' = w2) (fun e' _ => 16 - (intOf (e' 7)).toNat) ?_ ?_
        · refine ⟨0, by omega, ?_⟩
          simp -implicitDefEqProofs [go_sem]
        · rintro e' w' ⟨k, hk, h1, h5, h7, hf, rfl⟩
          simp -implicitDefEqProofs [go_sem, h1, h5, h7]
          refine callE_of (refBlocks_calls c w') ?_
          rintro v w3 ⟨rfl, rfl⟩
          rw [hn]
          by_cases hlt : k < n
          · have hlt' : (k : Int) < n := by omega
            have hlt16 : k < 16 := by omega
            have hlt16' : (k : Int) < 16 := by omega
            have hw := IntWalk.i64_in ((k : Int) + 1) (by omega)
            have hst : WM.firstOff x k (n - k) = if x.getLsbD k then WM.firstOff x (k + 1) (n - (k + 1)) else (k : Int) := by
              rw [show n - k = (n - (k + 1)) + 1 by omega]; rfl
            have g := hB2.cell (1 + k)
            rw [slabC_at _ _ _ hlt16] at g
            have hT : WM.tR x k = x.getLsbD k := by unfold WM.tR; rw [hb, Bool.true_and]
            rw [hT] at g
            cases hx : x.getLsbD k
            · rw [hx] at g
              rw [if_neg (by rw [hx]; simp)] at hst
              simp -implicitDefEqProofs [go_sem, h1, h5, h7, hlt, hlt', hlt16, hlt16', g]
              refine body_tmp 4 rfl ?_
              simp -implicitDefEqProofs [go_sem, hnx, hf, hst]
              exact bel2
            · rw [hx] at g
              rw [if_pos hx] at hst
              simp -implicitDefEqProofs [go_sem, h1, h5, h7, hlt, hlt', hlt16, hlt16', g, hw]
              refine goE_round ⟨k + 1, by omega, ?_⟩ ?_
              · simp -implicitDefEqProofs [go_sem, h1, h5]
                rw [hf, hst]
              · simp -implicitDefEqProofs [go_sem, intOf, h7, hw]; omega
          · have hk' : k = n := by omega
            subst hk'
            have hst : WM.firstOff x k 0 = -1 := rfl
            rw [Nat.sub_self] at hf
            simp -implicitDefEqProofs [go_sem, h1, h5, h7]
            refine body_tmp 4 rfl ?_
            simp -implicitDefEqProofs [go_sem, hnx, hf, hst]
            exact bel2
      · rw [hd] at e0
        rw [hd2] at e1
        simp -implicitDefEqProofs [go_sem, ↓stSlab (WM.cR x) (WM.tR x), slabC_0, e0, e1]
        generalize hw2 : World.alloc w1 _ = w2 at *
        obtain ⟨hB2, b2, sz2⟩ := new_facts hw2
        have bel2 := bel1.trans (b2.mono bel1.size)
        refine wpE_loop (fun e' w' => ∃ k : Nat, k ≤ n ∧ e' 1 = .int .i64 c ∧ e' 5 = .pointer (some ⟨w1.heap.size, 0, none⟩) ∧ e' 7 = .int .i64 k ∧ WM.firstOff x 0 n = WM.firstOff x k (n - k) ∧ w' = w2) (fun e' _ => 16 - (intOf (e' 7)).toNat) ?_ ?_
        · refine ⟨0, by omega, ?_⟩
          simp -implicitDefEqProofs [go_sem]
        · rintro e' w' ⟨k, hk, h1, h5, h7, hf, rfl⟩
          simp -implicitDefEqProofs [go_sem, h1, h5, h7]
          refine callE_of (refBlocks_calls c w') ?_
          rintro v w3 ⟨rfl, rfl⟩
          rw [hn]
          by_cases hlt : k < n
          · have hlt' : (k : Int) < n := by omega
            have hlt16 : k < 16 := by omega
            have hlt16' : (k : Int) < 16 := by omega
            have hw := IntWalk.i64_in ((k : Int) + 1) (by omega)
            have hst : WM.firstOff x k (n - k) = if x.getLsbD k then WM.firstOff x (k + 1) (n - (k + 1)) else (k : Int) := by
              rw [show n - k = (n - (k + 1)) + 1 by omega]; rfl
            have g := hB2.cell (1 + k)
            rw [slabC_at _ _ _ hlt16] at g
            have hT : WM.tR x k = x.getLsbD k := by unfold WM.tR; rw [hb, Bool.true_and]
            rw [hT] at g
            cases hx : x.getLsbD k
            · rw [hx] at g
              rw [if_neg (by rw [hx]; simp)] at hst
              simp -implicitDefEqProofs [go_sem, h1, h5, h7, hlt, hlt', hlt16, hlt16', g]
              refine body_tmp 4 rfl ?_
              simp -implicitDefEqProofs [go_sem, hnx, hf, hst]
              exact bel2
            · rw [hx] at g
              rw [if_pos hx] at hst
              simp -implicitDefEqProofs [go_sem, h1, h5, h7, hlt, hlt', hlt16, hlt16', g, hw]
              refine goE_round ⟨k + 1, by omega, ?_⟩ ?_
              · simp -implicitDefEqProofs [go_sem, h1, h5]
                rw [hf, hst]
              · simp -implicitDefEqProofs [go_sem, intOf, h7, hw]; omega
          · have hk' : k = n := by omega
            subst hk'
            have hst : WM.firstOff x k 0 = -1 := rfl
            rw [Nat.sub_self] at hf
            simp -implicitDefEqProofs [go_sem, h1, h5, h7]
            refine body_tmp 4 rfl ?_
            simp -implicitDefEqProofs [go_sem, hnx, hf, hst]
            exact bel2
    · rw [hb, if_neg (fun h => hc h.2)] at hnx
      rw [decide_eq_false (fun h => hc (.inl h))] at e0
      rw [decide_eq_false (fun h => hc (.inr h))] at e1
      simp -implicitDefEqProofs [go_sem, ↓stSlab (WM.cR x) (WM.tR x), slabC_0, e0, e1]
      refine body_tmp 4 rfl ?_
      simp -implicitDefEqProofs [go_sem, hnx]
      exact bel1.alloc bel1.size _

set_option maxHeartbeats 1000000 in
set_option linter.unusedSimpArgs false in
theorem refTake_calls (x : BitVec 64) (c p : Int) (w0 : World) : Ret Tryd.prog 24 #[.int .u64 (uv x), .int .i64 c, .int .i64 p] w0 fun v w' => v = .tuple #[.int .u64 (uv (WM.takeW x c p)), .bool (WM.takeOk x c p)] ∧ Below w0.heap.size w0 w' := by
  have bel0 := Below.refl w0.heap.size w0
  have hst := Tryd.underlying57
  have hbl := WM.blocksI_le c
  refine ret_of (args := [_, _, _]) _ Tryd.func24 rfl Tryd.ntmps24 (by simp) ?_
  simp -implicitDefEqProofs [go_sem]
  refine callE_of (of_calls x w0) ?_
  rintro v w1 ⟨rfl, b1⟩
  have bel1 := bel0.trans (b1.mono bel0.size)
  have hno : (WM.rB x = false ∨ ¬ ((WM.cR x : Int) = 0 ∨ (WM.cR x : Int) = c)) → WM.takeOk x c p = false := by
    intro h
    cases hok : WM.takeOk x c p
    · rfl
    · exfalso
      have hok2 := hok
      unfold WM.takeOk at hok2
      simp only [Bool.and_eq_true, decide_eq_true_eq] at hok2
      obtain ⟨q, rfl⟩ := Int.eq_ofNat_of_zero_le hok2.1.1.2
      rw [WM.take_ref x c q hok2.1.2] at hok
      simp only [Bool.and_eq_true, Bool.or_eq_true, decide_eq_true_eq] at hok
      rcases h with h | h
      · rw [h] at hok; exact absurd hok.1.1 (by simp)
      · exact h hok.1.2
  cases hb : WM.rB x
  · have hok := hno (.inl hb)
    simp -implicitDefEqProofs [go_sem, ↓stSlab (WM.cR x) (WM.tR x)]
    refine body_tmp2 6 7 rfl ?_
    simp -implicitDefEqProofs [go_sem, hok, WM.take_no hok]
    exact bel1.alloc bel1.size _
  have e0 : ((WM.cR x : Int) != 0) = !decide ((WM.cR x : Int) = 0) := by
    rw [Bool.eq_iff_iff, bne_iff_ne, Bool.not_eq_true', decide_eq_false_iff_not]
  have e1 : ((WM.cR x : Int) != c) = !decide ((WM.cR x : Int) = c) := by
    rw [Bool.eq_iff_iff, bne_iff_ne, Bool.not_eq_true', decide_eq_false_iff_not]
  by_cases hc : (WM.cR x : Int) = 0 ∨ (WM.cR x : Int) = c
  · by_cases hd : (WM.cR x : Int) = 0
    · rw [decide_eq_true hd] at e0
      simp -implicitDefEqProofs [go_sem, ↓stSlab (WM.cR x) (WM.tR x), slabC_0, e0, e1]
      generalize hw2 : World.alloc w1 _ = w2 at *
      obtain ⟨hB2, b2, sz2⟩ := new_facts hw2
      have bel2 := bel1.trans (b2.mono bel1.size)
      by_cases h0 : p < 0
      · have hok : WM.takeOk x c p = false := by
          unfold WM.takeOk; rw [decide_eq_false (by omega : ¬ 0 ≤ p)]; simp
        simp -implicitDefEqProofs [go_sem, h0]
        refine body_tmp2 6 7 rfl ?_
        simp -implicitDefEqProofs [go_sem, hok, WM.take_no hok]
        exact bel2
      simp -implicitDefEqProofs [go_sem, h0]
      refine callE_of (refBlocks_calls c w2) ?_
      rintro v w3 ⟨rfl, rfl⟩
      by_cases h1 : WM.blocksI c ≤ p
      · have hok : WM.takeOk x c p = false := by
          unfold WM.takeOk; rw [decide_eq_false (by omega : ¬ p < WM.blocksI c)]; simp
        simp -implicitDefEqProofs [go_sem, h1]
        refine body_tmp2 6 7 rfl ?_
        simp -implicitDefEqProofs [go_sem, hok, WM.take_no hok]
        exact bel2
      obtain ⟨q, rfl⟩ := Int.eq_ofNat_of_zero_le (by omega : 0 ≤ p)
      have hq16 : q < 16 := by omega
      have hq16' : (q : Int) < 16 := by omega
      have hok := WM.take_ref x c q (by omega)
      rw [hb, Bool.true_and] at hok
      have g := hB2.cell (1 + q)
      rw [slabC_at _ _ _ hq16] at g
      have hcc : (decide ((WM.cR x : Int) = 0) || decide ((WM.cR x : Int) = c)) = true := by
        rw [Bool.or_eq_true, decide_eq_true_iff, decide_eq_true_iff]; exact hc
      rw [hcc, Bool.true_and] at hok
      cases hT : WM.tR x q
      · rw [hT] at hok g
        obtain ⟨cn, rfl, hcn⟩ := WM.blocksI_pos (c := c) (by omega)
        have hqb : q < WM.bl cn := by have := WM.blocksI_nat cn; omega
        have hy := WM.take_yes hcn hqb hok
        have hs0 := hB2.set 0 (.int .i64 (cn : Int))
        rw [slabC_set0] at hs0
        have hs1 := hs0.set (1 + q) (.bool true)
        rw [slabC_setT _ _ _ hq16] at hs1
        have bel5 : Below w0.heap.size w0 ((w3.setCell ⟨w1.heap.size, 0, none⟩ (.int .i64 (cn : Int))).setCell ⟨w1.heap.size, 1 + q, none⟩ (.bool true)) := (bel2.setCell (by show w0.heap.size ≤ w1.heap.size; exact bel1.size) _).setCell (by show w0.heap.size ≤ w1.heap.size; exact bel1.size) _
        have z0 := hB2.cell 0
        have f0 := hB2.thaw 0
        have z1 := hs0.cell (1 + q)
        rw [slabC_at _ _ _ hq16] at z1
        have f1 := hs0.thaw (1 + q)
        rw [slabC_0] at z0
        generalize hw4 : World.setCell w3 _ _ = w4 at *
        generalize hw5 : World.setCell w4 _ _ = w5 at *
        simp -implicitDefEqProofs [go_sem, h1, hq16, hq16', g, z0, f0, hw4, z1, f1, hw5, ↓ldAll hs1 hst rfl slabI (slabC_size _ _)]
        refine callE_of (word_calls cn _ w5 (by omega)) ?_
        rintro v w6 ⟨rfl, b6⟩
        simp -implicitDefEqProofs [go_sem]
        refine body_tmp2 6 7 rfl ?_
        simp -implicitDefEqProofs [go_sem, hok, hy]
        exact bel5.trans (b6.mono bel5.size)
      · rw [hT] at hok g
        simp -implicitDefEqProofs [go_sem, h1, hq16, hq16', g]
        refine body_tmp2 6 7 rfl ?_
        simp -implicitDefEqProofs [go_sem, hok, WM.take_no hok]
        exact bel2
    · have hd2 := hc.resolve_left hd
      rw [decide_eq_false hd] at e0
      rw [decide_eq_true hd2] at e1
      simp -implicitDefEqProofs [go_sem, ↓stSlab (WM.cR x) (WM.tR x), slabC_0, e0, e1]
      generalize hw2 : World.alloc w1 _ = w2 at *
      obtain ⟨hB2, b2, sz2⟩ := new_facts hw2
      have bel2 := bel1.trans (b2.mono bel1.size)
      by_cases h0 : p < 0
      · have hok : WM.takeOk x c p = false := by
          unfold WM.takeOk; rw [decide_eq_false (by omega : ¬ 0 ≤ p)]; simp
        simp -implicitDefEqProofs [go_sem, h0]
        refine body_tmp2 6 7 rfl ?_
        simp -implicitDefEqProofs [go_sem, hok, WM.take_no hok]
        exact bel2
      simp -implicitDefEqProofs [go_sem, h0]
      refine callE_of (refBlocks_calls c w2) ?_
      rintro v w3 ⟨rfl, rfl⟩
      by_cases h1 : WM.blocksI c ≤ p
      · have hok : WM.takeOk x c p = false := by
          unfold WM.takeOk; rw [decide_eq_false (by omega : ¬ p < WM.blocksI c)]; simp
        simp -implicitDefEqProofs [go_sem, h1]
        refine body_tmp2 6 7 rfl ?_
        simp -implicitDefEqProofs [go_sem, hok, WM.take_no hok]
        exact bel2
      obtain ⟨q, rfl⟩ := Int.eq_ofNat_of_zero_le (by omega : 0 ≤ p)
      have hq16 : q < 16 := by omega
      have hq16' : (q : Int) < 16 := by omega
      have hok := WM.take_ref x c q (by omega)
      rw [hb, Bool.true_and] at hok
      have g := hB2.cell (1 + q)
      rw [slabC_at _ _ _ hq16] at g
      have hcc : (decide ((WM.cR x : Int) = 0) || decide ((WM.cR x : Int) = c)) = true := by
        rw [Bool.or_eq_true, decide_eq_true_iff, decide_eq_true_iff]; exact hc
      rw [hcc, Bool.true_and] at hok
      cases hT : WM.tR x q
      · rw [hT] at hok g
        obtain ⟨cn, rfl, hcn⟩ := WM.blocksI_pos (c := c) (by omega)
        have hqb : q < WM.bl cn := by have := WM.blocksI_nat cn; omega
        have hy := WM.take_yes hcn hqb hok
        have hs0 := hB2.set 0 (.int .i64 (cn : Int))
        rw [slabC_set0] at hs0
        have hs1 := hs0.set (1 + q) (.bool true)
        rw [slabC_setT _ _ _ hq16] at hs1
        have bel5 : Below w0.heap.size w0 ((w3.setCell ⟨w1.heap.size, 0, none⟩ (.int .i64 (cn : Int))).setCell ⟨w1.heap.size, 1 + q, none⟩ (.bool true)) := (bel2.setCell (by show w0.heap.size ≤ w1.heap.size; exact bel1.size) _).setCell (by show w0.heap.size ≤ w1.heap.size; exact bel1.size) _
        have z0 := hB2.cell 0
        have f0 := hB2.thaw 0
        have z1 := hs0.cell (1 + q)
        rw [slabC_at _ _ _ hq16] at z1
        have f1 := hs0.thaw (1 + q)
        rw [slabC_0] at z0
        generalize hw4 : World.setCell w3 _ _ = w4 at *
        generalize hw5 : World.setCell w4 _ _ = w5 at *
        simp -implicitDefEqProofs [go_sem, h1, hq16, hq16', g, z0, f0, hw4, z1, f1, hw5, ↓ldAll hs1 hst rfl slabI (slabC_size _ _)]
        refine callE_of (word_calls cn _ w5 (by omega)) ?_
        rintro v w6 ⟨rfl, b6⟩
        simp -implicitDefEqProofs [go_sem]
        refine body_tmp2 6 7 rfl ?_
        simp -implicitDefEqProofs [go_sem, hok, hy]
        exact bel5.trans (b6.mono bel5.size)
      · rw [hT] at hok g
        simp -implicitDefEqProofs [go_sem, h1, hq16, hq16', g]
        refine body_tmp2 6 7 rfl ?_
        simp -implicitDefEqProofs [go_sem, hok, WM.take_no hok]
        exact bel2
  · have hok := hno (.inr hc)
    rw [decide_eq_false (fun h => hc (.inl h))] at e0
    rw [decide_eq_false (fun h => hc (.inr h))] at e1
    simp -implicitDefEqProofs [go_sem, ↓stSlab (WM.cR x) (WM.tR x), slabC_0, e0, e1]
    refine body_tmp2 6 7 rfl ?_
    simp -implicitDefEqProofs [go_sem, hok, WM.take_no hok]
    exact bel1.alloc bel1.size _

set_option maxHeartbeats 1000000 in
set_option linter.unusedSimpArgs false in
theorem refDrop_calls (x : BitVec 64) (p : Int) (w0 : World) : Ret Tryd.prog 26 #[.int .u64 (uv x), .int .i64 p] w0 fun v w' => v = .tuple #[.int .u64 (uv (WM.dropW x p)), .bool (WM.hasM x p)] ∧ Below w0.heap.size w0 w' := by
  have bel0 := Below.refl w0.heap.size w0
  have hst := Tryd.underlying57
  refine ret_of (args := [_, _]) _ Tryd.func26 rfl Tryd.ntmps26 (by simp) ?_
  simp -implicitDefEqProofs [go_sem]
  refine callE_of (of_calls x w0) ?_
  rintro v w1 ⟨rfl, b1⟩
  have bel1 := bel0.trans (b1.mono bel0.size)
  cases hb : WM.rB x
  · have hh : WM.hasM x p = false := WM.has_wrong (by rw [← WM.rB_eq]; exact hb) p
    simp -implicitDefEqProofs [go_sem, ↓stSlab (WM.cR x) (WM.tR x)]
    refine body_tmp2 4 5 rfl ?_
    simp -implicitDefEqProofs [go_sem, hh, WM.drop_no hh]
    exact bel1.alloc bel1.size _
  by_cases h0 : p < 0
  · have hh := WM.has_out x p (.inl h0)
    simp -implicitDefEqProofs [go_sem, ↓stSlab (WM.cR x) (WM.tR x), h0]
    refine body_tmp2 4 5 rfl ?_
    simp -implicitDefEqProofs [go_sem, hh, WM.drop_no hh]
    exact bel1.alloc bel1.size _
  by_cases h1 : 16 ≤ p
  · have hh := WM.has_out x p (.inr h1)
    simp -implicitDefEqProofs [go_sem, ↓stSlab (WM.cR x) (WM.tR x), h0, h1]
    refine body_tmp2 4 5 rfl ?_
    simp -implicitDefEqProofs [go_sem, hh, WM.drop_no hh]
    exact bel1.alloc bel1.size _
  obtain ⟨q, rfl⟩ := Int.eq_ofNat_of_zero_le (by omega : 0 ≤ p)
  have hq16 : q < 16 := by omega
  have hq16' : (q : Int) < 16 := by omega
  have hqN : ¬ 16 ≤ q := by omega
  have hqz : ¬ (q : Int) < 0 := by omega
  cases hT : WM.tR x q
  · have hh : WM.hasM x q = false := by rw [WM.has_ref x q hq16, hT]
    have hs := slabC_at (WM.cR x) (WM.tR x) q hq16
    rw [hT] at hs
    simp -implicitDefEqProofs [go_sem, ↓stSlab (WM.cR x) (WM.tR x), h1, hqN, hqz, hq16, hq16', hs]
    refine body_tmp2 4 5 rfl ?_
    simp -implicitDefEqProofs [go_sem, hh, WM.drop_no hh]
    exact bel1.alloc bel1.size _
  · obtain ⟨hh, hc4, hy⟩ := WM.drop_yes hq16 hT
    have hs := slabC_at (WM.cR x) (WM.tR x) q hq16
    rw [hT] at hs
    have hsz : w1.heap.size < (w1.alloc (.cells (slabC (WM.cR x) (WM.tR x)) 57)).heap.size := by simp
    have hN := Blk.new w1 (slabC (WM.cR x) (WM.tR x)) 57
    have belN : Below w0.heap.size w0 (w1.alloc (.cells (slabC (WM.cR x) (WM.tR x)) 57)) := bel1.alloc bel1.size _
    have hs1 := hN.set (1 + q) (.bool false)
    rw [slabC_setT _ _ _ hq16] at hs1
    have bel3 : Below w0.heap.size w0 ((w1.alloc (.cells (slabC (WM.cR x) (WM.tR x)) 57)).setCell ⟨w1.heap.size, 1 + q, none⟩ (.bool false)) := belN.setCell (by show w0.heap.size ≤ w1.heap.size; exact bel1.size) _
    have f1 := hN.thaw (1 + q)
    have c1 := hN.cell (1 + q)
    rw [slabC_at _ _ _ hq16, hT] at c1
    generalize hw2 : World.alloc w1 (.cells (slabC (WM.cR x) (WM.tR x)) 57) = w2 at *
    generalize hw3 : World.setCell w2 _ _ = w3 at *
    simp -implicitDefEqProofs [go_sem, ↓stSlab (WM.cR x) (WM.tR x), h1, hqN, hqz, hq16, hq16', hs, hw2, f1, c1, hw3, ↓ldAll hs1 hst rfl slabI (slabC_size _ _)]
    refine callE_of (count_calls _ _ w3) ?_
    rintro v w4 ⟨rfl, b4⟩
    have bel4 := bel3.trans (b4.mono bel3.size)
    replace hs1 := hs1.next b4
    by_cases hz : WM.cnt (WM.setT (WM.tR x) q false) 16 = 0
    · rw [if_pos hz] at hy
      have hs2 := hs1.set 0 (.int .i64 0)
      rw [slabC_set0] at hs2
      have z0 := hs1.cell 0
      rw [slabC_0] at z0
      have f0 := hs1.thaw 0
      have bel5 : Below w0.heap.size w0 (w4.setCell ⟨w1.heap.size, 0, none⟩ (.int .i64 0)) := bel4.setCell (by show w0.heap.size ≤ w1.heap.size; exact bel1.size) _
      have hz' : ((WM.cnt (WM.setT (WM.tR x) q false) 16 : Nat) : Int) = 0 := by omega
      generalize hw5 : World.setCell w4 _ _ = w5 at *
      simp -implicitDefEqProofs [go_sem, hz, hz', z0, f0, hw5, ↓ldAll hs2 hst rfl slabI (slabC_size _ _)]
      have hwd := word_calls 0 (WM.setT (WM.tR x) q false) w5 (by omega)
      refine callE_of hwd ?_
      rintro v w6 ⟨rfl, b6⟩
      simp -implicitDefEqProofs [go_sem]
      refine body_tmp2 4 5 rfl ?_
      simp -implicitDefEqProofs [go_sem, hh, hy]
      exact bel5.trans (b6.mono bel5.size)
    · rw [if_neg hz] at hy
      have hz' : (((WM.cnt (WM.setT (WM.tR x) q false) 16 : Nat) : Int) == 0) = false := by rw [beq_eq_false_iff_ne]; omega
      simp -implicitDefEqProofs [go_sem, hz', hz, ↓ldAll hs1 hst rfl slabI (slabC_size _ _)]
      refine callE_of (word_calls (WM.cR x) _ w4 hc4) ?_
      rintro v w6 ⟨rfl, b6⟩
      simp -implicitDefEqProofs [go_sem]
      refine body_tmp2 4 5 rfl ?_
      simp -implicitDefEqProofs [go_sem, hh, hy]
      exact bel4.trans (b6.mono bel4.size)
end Go.Proofs.YtcaekgkogiggoaaDoor
