/- PutAll: its walk. -/
import Derived.Test.YtkljlgahdlgmpaaSure2
namespace Go.Proofs.Ytkljlgahdlgmpaa
open Go Go.RowKit

/-- The steps of PutAll: stores, flushes of the lines, a fence. -/
def storesS (off : Nat) (l : List (BitVec 64)) (k : Nat) : List StepV := (List.range k).map fun i => .store ((off + 8 * i : Nat) : Int) (l.getD i 0#64)
def flushesS (off : Nat) (m : Nat) : List StepV := (List.range m).map fun i => .flush ((64 * (off / 64 + i) : Nat) : Int)
def linesOf (off n : Nat) : Nat := if n = 0 then 0 else (off + 8 * n - 1) / 64 - off / 64 + 1
def putAllS (off : Nat) (l : List (BitVec 64)) : List StepV := storesS off l l.length ++ (flushesS off (linesOf off l.length) ++ [.fence])
def NM.Dv.putAll (D : NM.Dv) (off : Int) (l : List (BitVec 64)) : NM.Dv × Int := if D.within off l.length = 0 then runS D (putAllS off.toNat l) else (D, D.within off l.length)
theorem storesS_succ (off : Nat) (l : List (BitVec 64)) (k : Nat) : storesS off l (k + 1) = storesS off l k ++ [.store ((off + 8 * k : Nat) : Int) (l.getD k 0#64)] := by
  unfold storesS; rw [List.range_succ, List.map_append]; rfl
theorem flushesS_succ (off k : Nat) : flushesS off (k + 1) = flushesS off k ++ [.flush ((64 * (off / 64 + k) : Nat) : Int)] := by
  unfold flushesS; rw [List.range_succ, List.map_append]; rfl
theorem storesS_len (off : Nat) (l : List (BitVec 64)) (k : Nat) : (storesS off l k).length = k := by simp [storesS]
theorem flushesS_len (off k : Nat) : (flushesS off k).length = k := by simp [flushesS]
theorem within_ok {D : NM.Dv} {off : Int} {n : Nat} (hp : 0 < D.ls.length) (h : D.within off n = 0) : ∃ o : Nat, off = (o : Int) ∧ o % 8 = 0 ∧ o + 8 * n ≤ D.size := by
  unfold NM.Dv.within at h
  rw [if_neg (by omega)] at h
  split at h
  · cases h
  · rename_i h1
    split at h
    · cases h
    · rename_i h2
      have h0 : 0 ≤ off := by
        apply Classical.byContradiction; intro h; exact h1 (.inl (by omega))
      obtain ⟨o, rfl⟩ := Int.eq_ofNat_of_zero_le h0
      have h3 : (o : Int) ≤ D.size := by
        apply Classical.byContradiction; intro h; exact h1 (.inr (.inl (by omega)))
      have h4 : (o : Int).tmod 8 = 0 := by
        apply Classical.byContradiction; intro h; exact h1 (.inr (.inr h))
      rw [Int.tmod_eq_emod_of_nonneg h0] at h4
      have h5 : ¬ ((D.size : Int) - o).tdiv 8 < (n : Int) := fun h => h2 (.inr h)
      rw [Int.tdiv_eq_ediv_of_nonneg (by omega)] at h5
      exact ⟨o, rfl, by omega, by omega⟩
theorem not_row {w : World} {b : Nat} {C : Array Value} {t e : TypeId} (h : Blk w b C t) (hte : t ≠ e) {base size k : Nat} {v : Value} {xs : List Value} (hr : w.ownsRow base e size v k xs) : some b ≠ v.ownBlock := by
  rcases hr.2 with ⟨rfl, _⟩ | ⟨g, cap, cur, rfl, _, hgb, _⟩
  · simp [Value.ownBlock]
  · intro e'
    obtain rfl : b = g := by simpa [Value.ownBlock] using e'
    have := (show w.heap[b]? = _ from h).symm.trans hgb
    simp at this
    exact hte this.2
theorem Blk.grown {w w' : World} {b : Nat} {C : Array Value} {e : TypeId} {row : Option Nat} (h : Blk w b C e) (hg : w.grownBy w' row) (hne : some b ≠ row) : Blk w' b C e := (hg.block b h.lt hne).trans h
theorem StepOk.grown {w w' : World} {F : Nat → Prop} {p : Nat} {s : StepV} {v : Value} (h : StepOk w F p s v) {base k : Nat} {sl : Value} {xs : List Value} (hr : w.ownsRow base 34 1 sl k xs) (hg : w.grownBy w' sl.ownBlock) : StepOk w' F p s v := by
  cases s with
  | store off n =>
    obtain ⟨b0, b1, b2, rfl, hF, k0, k1, k2⟩ := h
    exact ⟨b0, b1, b2, rfl, hF, k0.grown hg (not_row k0 (by decide) hr), k1.grown hg (not_row k1 (by decide) hr), k2.grown hg (not_row k2 (by decide) hr)⟩
  | flush off =>
    obtain ⟨b0, b1, rfl, hF, k0, k1⟩ := h
    exact ⟨b0, b1, rfl, hF, k0.grown hg (not_row k0 (by decide) hr), k1.grown hg (not_row k1 (by decide) hr)⟩
  | fence => exact h
theorem info_fn : (Try.prog.info? 34).map (fun i => (i.zero, i.size, i.bytes)) = some (some Value.nilFunc, 1, 8) := by kernel_rfl

theorem putAllS_ok {o : Nat} {l : List (BitVec 64)} (h : o + 8 * l.length ≤ 65536) : ∀ s ∈ putAllS o l, s.Ok := by
  intro s hs
  have hm : linesOf o l.length ≤ 2000 := by unfold linesOf; split <;> omega
  unfold putAllS at hs
  rcases List.mem_append.1 hs with hs | hs
  · obtain ⟨i, hi, rfl⟩ := List.mem_map.1 hs
    have := List.mem_range.1 hi
    show I64 _; unfold I64; omega
  · rcases List.mem_append.1 hs with hs | hs
    · obtain ⟨i, hi, rfl⟩ := List.mem_map.1 hs
      have := List.mem_range.1 hi
      show I64 _; unfold I64; omega
    · rw [List.mem_singleton.1 hs]; trivial
/-- Steps in a slice of one's own. -/
structure Steps (w0 w : World) (F : Nat → Prop) (p : Nat) (a : Option Addr) (vs : List Value) (ss : List StepV) (cap : Nat) : Prop where
  own : w.ownsRow w0.heap.size 34 1 (.slice a ss.length cap) ss.length vs
  bel : Below w0.heap.size w0 w
  step : ∀ i (h : i < ss.length) (h' : i < vs.length), StepOk w F p ss[i] vs[i]
theorem Steps.len {w0 w : World} {F : Nat → Prop} {p : Nat} {a : Option Addr} {vs : List Value} {ss : List StepV} {cap : Nat} (h : Steps w0 w F p a vs ss cap) : vs.length = ss.length := by have := h.own.1; omega
theorem Steps.next {w0 w w' : World} {F : Nat → Prop} {p : Nat} {a : Option Addr} {vs : List Value} {ss : List StepV} {cap : Nat} (h : Steps w0 w F p a vs ss cap) (hb : Below w.heap.size w w') : Steps w0 w' F p a vs ss cap :=
  ⟨ownsRow_next h.own hb, h.bel.trans (hb.mono h.bel.size), fun i hi hi' => (h.step i hi hi').next hb⟩
/-- One more. -/
theorem Steps.append {w0 w : World} {F : Nat → Prop} {p : Nat} {D : NM.Dv} {a : Option Addr} {vs : List Value} {ss : List StepV} {cap : Nat} (h : Steps w0 w F p a vs ss cap) (hd : DevB w p F D) (hF : ∀ k, F k → k < w0.heap.size) {s : StepV} {v : Value} (hs : StepOk w F p s v) {b : Nat} (hb : Blk w b #[v] 34) (hlen : ss.length ≤ 1000000) :
    ∃ a' cap' w', (appendB #[108, 108] 108 #[.slice a ss.length cap, .slice (some ⟨b, 0, none⟩) 1 1]).run Try.prog w = .ok (.slice a' (ss.length + 1) cap') w' ∧
      Steps w0 w' F p a' (vs ++ [v]) (ss ++ [s]) cap' ∧ DevB w' p F D := by
  have hlv := h.len
  obtain ⟨a', cap', w', hr, hown, hg⟩ := run_append1 (P := Try.prog) w0.heap.size 108 Try.underlying108 info_fn rfl h.own (a2 := some ⟨b, 0, none⟩) (c2 := 1) (m := 1) (news := [v]) rfl (.inr ⟨_, rfl, fun j u hu => by
      rw [Addr.add_lit, Nat.zero_add, hb.cell]; simpa using hu⟩) (fun h => by cases h) (fun u hu => by rw [List.mem_singleton.1 hu]; exact hs.one) (by omega) (by omega) h.bel.size
  have hrow : ∀ g, Value.ownBlock (.slice a ss.length cap) = some g → w0.heap.size ≤ g := fun g hg => (h.own.lt g hg).1
  refine ⟨a', cap', w', hr, ⟨by simpa using hown, h.bel.grown hg h.bel.size hrow, fun i hi hi' => ?_⟩, ?_⟩
  · by_cases hlt : i < ss.length
    · rw [List.getElem_append_left hlt, List.getElem_append_left (by omega)]
      exact (h.step i hlt (by omega)).grown h.own hg
    · have e : i = ss.length := by simp at hi; omega
      subst e
      rw [List.getElem_append_right (by omega), List.getElem_append_right (by omega)]
      simp
      exact hs.grown h.own hg
  · obtain ⟨lb, S, hA, hF', hok⟩ := hd
    refine ⟨lb, S, hA.mod (mod_of_grown hg) (fun k hk e => ?_), hF', hok⟩
    rw [← hF'] at hk
    have := hF k hk
    have := hrow k e
    omega

section
set_option linter.unusedSimpArgs false
variable {p : Nat} {F : Nat → Prop} {D : NM.Dv}
set_option maxHeartbeats 4000000 in
set_option maxRecDepth 10000 in
theorem putAll_calls (off : Int) (a2 : Option Addr) (l : List (BitVec 64)) (c2 : Nat) (w0 : World) (h : DevB w0 p F D) (hin : SlIn .u64 w0 a2 l c2) (ho : I64 off) (hc : D.steps + 1000000 < 1099511627776) :
    Ret Try.prog 39 #[.pointer (some ⟨p, 0, none⟩), .int .i64 off, .slice a2 l.length c2] w0 fun v w' => v = .int .i64 (D.putAll off l).2 ∧ ∃ F', DevB w' p F' (D.putAll off l).1 ∧ Turn w0 F w' F' := by
  have bel0 := Below.refl w0.heap.size w0
  have hpos := h.pos
  have hmost := h.ok.most
  have hFlt := h.lt
  have hle := hin.le
  have hmax := hin.max
  refine ret_of (args := [_, _, _]) _ Try.func39 rfl Try.ntmps39 (by simp) ?_
  simp -implicitDefEqProofs [go_sem]
  refine callE_of (within_calls off l.length w0 h ho (by unfold I64; omega)) ?_
  rintro v w1 ⟨rfl, rfl⟩
  by_cases hw : ¬ D.within off l.length = 0
  · have hw' : (D.within off l.length != 0) = true := by rw [bne_iff_ne]; exact hw
    simp -implicitDefEqProofs [go_sem, hw, hw']
    refine body_tmp 6 rfl ?_
    simp -implicitDefEqProofs [go_sem, NM.Dv.putAll, hw]
    exact ⟨F, h, Turn.refl _ _⟩
  replace hw : D.within off l.length = 0 := by simpa using hw
  obtain ⟨o, rfl, ho8, hos⟩ := within_ok hpos hw
  have hsz : D.size ≤ 65536 := by unfold NM.Dv.size; omega
  have hln : l.length ≤ 8192 := by omega
  have hres : D.putAll (o : Int) l = runS D (putAllS o l) := by unfold NM.Dv.putAll; rw [if_pos hw, Int.toNat_natCast]
  rw [hres]
  have hlit := World.ownsRow_lit (base := w1.heap.size) (e := 34) (size := 1) w1 #[] 0 (Nat.le_refl _) (by decide) rfl
  simp -implicitDefEqProofs [go_sem, hw]
  generalize hw2 : World.alloc w1 _ = w2 at *
  have sz2 : w2.heap.size = w1.heap.size + 1 := by rw [← hw2]; simp
  have b2 : Below w1.heap.size w1 w2 := by rw [← hw2]; exact (Below.refl _ _).alloc (Nat.le_refl _) _
  have hst0 : Steps w1 w2 F p (some ⟨w1.heap.size, 0, none⟩) [] [] 0 := ⟨hlit, b2, fun i hi => by cases hi⟩
  have h2 := h.next b2
  refine wpE_loop (fun e' w' => ∃ (k : Nat) (a : Option Addr) (c : Nat) (vs : List Value), k ≤ l.length ∧ e' 0 = .pointer (some ⟨p, 0, none⟩) ∧ e' 1 = .int .i64 o ∧ e' 2 = .slice a2 l.length c2 ∧ e' 8 = .slice a k c ∧ e' 22 = .slice a2 l.length c2 ∧ e' 23 = .int .i64 l.length ∧ e' 24 = .int .i64 k ∧ Steps w1 w' F p a vs (storesS o l k) c ∧ DevB w' p F D) (fun e' _ => l.length - (intOf (e' 24)).toNat) ?_ ?_
  · refine ⟨0, some ⟨w1.heap.size, 0, none⟩, 0, [], by omega, ?_⟩
    simp -implicitDefEqProofs [go_sem]
    exact ⟨hst0, h2⟩
  · rintro e' w3 ⟨k, a, c, vs, hk, g0, g1, g2, g8, g22, g23, g24, hs3, h3⟩
    by_cases hlt : k < l.length
    · have hlt' : (k : Int) < l.length := by omega
      have hwk := IntWalk.i64_in ((k : Int) + 1) (by omega)
      obtain ⟨b, oo, rfl, hcv⟩ := (hin.next hs3.bel).at_.cell (i := k) hlt
      have hgd : l.getD k 0#64 = l[k] := by simp [List.getD, hlt]
      have hw1 := IntWalk.i64_in (8 * (k : Int)) (by omega)
      have hw2 := IntWalk.i64_in ((o : Int) + 8 * (k : Int)) (by omega)
      simp -implicitDefEqProofs [go_sem, g0, g1, g2, g8, g22, g23, g24, hlt, hlt', hcv, hw1, hw2]
      refine callE_of (mkStore_calls ((o : Int) + 8 * (k : Int)) l[k] w3 h3) ?_
      rintro v w4 ⟨b4, s4⟩
      have hs4 := hs3.next b4
      have h4 := h3.next b4
      have hlt4 := h4.lt
      obtain ⟨f1, x1, y1, rfl⟩ := s4.func
      have bA : Below w4.heap.size w4 (w4.alloc (.cells #[.func (.func f1) x1 y1] 34)) := (Below.refl _ _).alloc (Nat.le_refl _) _
      obtain ⟨a', c', w6, hr6, hs6, h6⟩ := (hs4.next bA).append (h4.next bA) hFlt (s4.next bA) (Blk.new w4 _ _) (by rw [storesS_len]; omega)
      rw [storesS_len] at hr6
      have e1 : storesS o l k ++ [.store ((o : Int) + 8 * (k : Int)) l[k]] = storesS o l (k + 1) := by rw [storesS_succ, hgd, show ((o + 8 * k : Nat) : Int) = (o : Int) + 8 * (k : Int) by omega]
      rw [e1] at hs6
      simp -implicitDefEqProofs [go_sem, g0, g1, g2, g8, g22, g23, g24, hr6, hwk]
      refine goE_round ⟨k + 1, a', c', vs ++ [.func (.func f1) x1 y1], by omega, ?_⟩ ?_
      · simp -implicitDefEqProofs [go_sem, g0, g1, g2, g22, g23]
        exact ⟨hs6, h6⟩
      · simp -implicitDefEqProofs [go_sem, intOf, g24, hwk]; omega
    · have hk' : k = l.length := by omega
      subst hk'
      have hw1 := IntWalk.i64_in (8 * (l.length : Int)) (by omega)
      have hw2 := IntWalk.i64_in ((o : Int) + 8 * (l.length : Int)) (by omega)
      simp -implicitDefEqProofs [go_sem, g0, g1, g2, g8, g22, g23, g24, hw1, hw2]
      by_cases hl0 : l.length = 0
      · have hl0' : ¬ (0 : Int) < l.length := by omega
        have hl0'' : ¬ 0 < l.length := by omega
        have hsteps : putAllS o l = storesS o l l.length ++ [] ++ [.fence] := by
          unfold putAllS linesOf; rw [if_pos hl0]; simp [flushesS]
        have hs5 : Steps w1 w3 F p a vs (storesS o l l.length ++ []) c := by simpa using hs3
        have hlen5 : (storesS o l l.length ++ []).length = l.length := by simp [storesS_len]
        simp -implicitDefEqProofs [go_sem, g0, g1, g2, g8, hl0', hl0'']
        generalize storesS o l l.length ++ [] = ss at *
        have h5 := h3
        generalize w3 = w5 at *
        have bA : Below w5.heap.size w5 (w5.alloc (.cells #[.func (.func 18) #[.pointer (some ⟨p, 0, none⟩)] #[]] 34)) := (Below.refl _ _).alloc (Nat.le_refl _) _
        obtain ⟨a', c', w6, hr6, hs6, h6⟩ := (hs5.next bA).append (s := .fence) (v := .func (.func 18) #[.pointer (some ⟨p, 0, none⟩)] #[]) (h5.next bA) hFlt rfl (Blk.new w5 _ _) (by omega)
        rw [hlen5] at hr6
        have hlenP : (ss ++ [StepV.fence]).length = ss.length + 1 := by simp
        have hinP : StepsIn w6 F p a' (vs ++ [.func (.func 18) #[.pointer (some ⟨p, 0, none⟩)] #[]]) (ss ++ [StepV.fence]) c' :=
          ⟨owns_vsIn hs6.len hs6.own, fun y hy => by
            subst hy
            have h1 := hs6.own.lt y.block rfl
            exact ⟨h1.2, fun hf => by have := hFlt _ hf; omega⟩, hs6.len, hs6.step⟩
        rw [← hsteps] at hinP hlenP
        have hrun := run_calls a' _ (putAllS o l) c' w6 h6 hinP (putAllS_ok (by omega)) (by omega)
        rw [hlenP, hlen5] at hrun
        simp -implicitDefEqProofs [go_sem, g0, g8, hr6]
        refine callE_of hrun ?_
        rintro v w7 ⟨rfl, F7, h7, t7⟩
        simp -implicitDefEqProofs [go_sem]
        refine body_tmp 6 rfl ?_
        simp -implicitDefEqProofs [go_sem]
        exact ⟨F7, h7, (Turn.of hs6.bel).trans t7⟩
      · have hl0' : (0 : Int) < l.length := by omega
        have hl0'' : 0 < l.length := by omega
        have hm : linesOf o l.length = (o + 8 * l.length - 1) / 64 - o / 64 + 1 := by unfold linesOf; rw [if_neg hl0]
        have hw3 := IntWalk.i64_in ((o : Int) / 64) (by omega)
        have hw4 := IntWalk.i64_in ((o : Int) / 64 * 64) (by omega)
        simp -implicitDefEqProofs [go_sem, g0, g1, g2, g8, hl0', hl0'', hw3, hw4]
        refine wpE_loop (fun e' w' => ∃ (j : Nat) (a : Option Addr) (c : Nat) (vs : List Value), j ≤ linesOf o l.length ∧ e' 0 = .pointer (some ⟨p, 0, none⟩) ∧ e' 8 = .slice a (l.length + j) c ∧ e' 11 = .int .i64 ((o : Int) + 8 * l.length) ∧ e' 12 = .int .i64 (((64 * (o / 64 + j) : Nat)) : Int) ∧ Steps w1 w' F p a vs (storesS o l l.length ++ flushesS o j) c ∧ DevB w' p F D) (fun e' _ => linesOf o l.length - ((intOf (e' 12)).toNat / 64 - o / 64)) ?_ ?_
        · refine ⟨0, a, c, vs, by omega, ?_⟩
          simp -implicitDefEqProofs [go_sem, g0, g8]
          refine ⟨by omega, by simpa [flushesS] using hs3, h3⟩
        · rintro e2 w4 ⟨j, a, c, vs, hj, g0, g8, g11, g12, hs4, h4⟩
          by_cases hlt : j < linesOf o l.length
          · have hlt2 : ((64 * (o / 64 + j) : Nat) : Int) < (o : Int) + 8 * l.length := by omega
            have hw5 := IntWalk.i64_in (((64 * (o / 64 + j) : Nat) : Int) + 64) (by omega)
            have hlen4 : (storesS o l l.length ++ flushesS o j).length = l.length + j := by simp [storesS_len, flushesS_len]
            generalize hat : 64 * (o / 64 + j) = at_ at *
            simp -implicitDefEqProofs [go_sem, g0, g8, g11, g12, hlt2]
            refine callE_of (mkFlush_calls at_ w4 h4) ?_
            rintro v w5 ⟨b5, s5⟩
            have hs5 := hs4.next b5
            have h5 := h4.next b5
            obtain ⟨f1, x1, y1, rfl⟩ := s5.func
            have bA : Below w5.heap.size w5 (w5.alloc (.cells #[.func (.func f1) x1 y1] 34)) := (Below.refl _ _).alloc (Nat.le_refl _) _
            obtain ⟨a', c', w6, hr6, hs6, h6⟩ := (hs5.next bA).append (h5.next bA) hFlt (s5.next bA) (Blk.new w5 _ _) (by omega)
            rw [hlen4] at hr6
            have e1 : storesS o l l.length ++ flushesS o j ++ [.flush (at_ : Int)] = storesS o l l.length ++ flushesS o (j + 1) := by rw [flushesS_succ, hat, List.append_assoc]
            rw [e1] at hs6
            simp -implicitDefEqProofs [go_sem, g0, g8, g11, g12, hr6, hw5]
            refine goE_round ⟨j + 1, a', c', vs ++ [.func (.func f1) x1 y1], by omega, ?_⟩ ?_
            · simp -implicitDefEqProofs [go_sem, g0, g11]
              exact ⟨by omega, by omega, hs6, h6⟩
            · simp -implicitDefEqProofs [go_sem, intOf, g12, hw5]; omega
          · have hj' : j = linesOf o l.length := by omega
            have hlt2 : ¬ ((64 * (o / 64 + j) : Nat) : Int) < (o : Int) + 8 * l.length := by omega
            have hsteps : putAllS o l = storesS o l l.length ++ flushesS o j ++ [.fence] := by
              unfold putAllS; rw [hj', List.append_assoc]
            have hlen5 : (storesS o l l.length ++ flushesS o j).length = l.length + j := by simp [storesS_len, flushesS_len]
            have hjb : j ≤ 10000 := by omega
            have hlt3 : ¬ 64 * ((o : Int) / 64 + j) < (o : Int) + 8 * l.length := by omega
            simp -implicitDefEqProofs [go_sem, g0, g8, g11, g12, hlt2, hlt3]
            generalize storesS o l l.length ++ flushesS o j = ss at *
            have hs5 := hs4
            have h5 := h4
            generalize w4 = w5 at *
            have bA : Below w5.heap.size w5 (w5.alloc (.cells #[.func (.func 18) #[.pointer (some ⟨p, 0, none⟩)] #[]] 34)) := (Below.refl _ _).alloc (Nat.le_refl _) _
            obtain ⟨a', c', w6, hr6, hs6, h6⟩ := (hs5.next bA).append (s := .fence) (v := .func (.func 18) #[.pointer (some ⟨p, 0, none⟩)] #[]) (h5.next bA) hFlt rfl (Blk.new w5 _ _) (by omega)
            rw [hlen5] at hr6
            have hlenP : (ss ++ [StepV.fence]).length = ss.length + 1 := by simp
            have hinP : StepsIn w6 F p a' (vs ++ [.func (.func 18) #[.pointer (some ⟨p, 0, none⟩)] #[]]) (ss ++ [StepV.fence]) c' :=
              ⟨owns_vsIn hs6.len hs6.own, fun y hy => by
                subst hy
                have h1 := hs6.own.lt y.block rfl
                exact ⟨h1.2, fun hf => by have := hFlt _ hf; omega⟩, hs6.len, hs6.step⟩
            rw [← hsteps] at hinP hlenP
            have hrun := run_calls a' _ (putAllS o l) c' w6 h6 hinP (putAllS_ok (by omega)) (by omega)
            rw [hlenP, hlen5] at hrun
            simp -implicitDefEqProofs [go_sem, g0, g8, hr6]
            refine callE_of hrun ?_
            rintro v w7 ⟨rfl, F7, h7, t7⟩
            simp -implicitDefEqProofs [go_sem]
            refine body_tmp 6 rfl ?_
            simp -implicitDefEqProofs [go_sem]
            exact ⟨F7, h7, (Turn.of hs6.bel).trans t7⟩
end
end Go.Proofs.Ytkljlgahdlgmpaa
