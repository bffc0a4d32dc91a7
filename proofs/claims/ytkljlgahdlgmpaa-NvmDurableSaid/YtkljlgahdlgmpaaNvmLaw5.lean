/- NvmDurable: its walk. -/
import Derived.Test.YtkljlgahdlgmpaaNvmCont
import Derived.Test.YtkljlgahdlgmpaaNvmLaw3
import Derived.Test.YtkljlgahdlgmpaaMaps
namespace Go.Proofs.Ytkljlgahdlgmpaa
open Go Go.RowKit

namespace NM
/-- Lines flushed, one behind the other. -/
def flN (D : Dv) : Nat → Dv
  | 0 => D
  | k + 1 => ((flN D k).flush (64 * k : Nat)).1
theorem flN_len (D : Dv) : ∀ k, (flN D k).ls.length = D.ls.length
  | 0 => rfl
  | k + 1 => by rw [flN, flush_len, flN_len D k]
theorem flN_ok {D : Dv} (h : D.Ok) : ∀ k, (flN D k).Ok
  | 0 => h
  | k + 1 => (flN_ok h k).flush _
theorem flN_up {D : Dv} (h : D.Up) : ∀ k, (flN D k).Up
  | 0 => h
  | k + 1 => (flN_up h k).flush _
theorem flN_steps (D : Dv) : ∀ k, (flN D k).steps ≤ D.steps + k
  | 0 => Nat.le_refl _
  | k + 1 => by have := flush_steps (flN D k) (64 * k : Nat); have := flN_steps D k; rw [flN]; omega
theorem flush_zero {D : Dv} (hu : D.Up) {k : Nat} (hk : k < D.ls.length) : D.ask ((64 * k : Nat) : Int) 1 = 0 := ask_nat (e := 1) (by omega) hu.down (by unfold Dv.size; omega) (Nat.mod_one _)
theorem flN_err {D : Dv} (hu : D.Up) {k : Nat} (hk : k < D.ls.length) : ((flN D k).flush (64 * k : Nat)).2 = 0 := by
  unfold Dv.flush; rw [if_pos (flush_zero (flN_up hu k) (by rw [flN_len]; exact hk))]
theorem flN_mark {D : Dv} (hu : D.Up) : ∀ k, k ≤ D.ls.length → ∀ j, j < k → ((flN D k).ln j).mark = ((flN D k).ln j).chg.length + 1
  | 0, _, j, hj => by omega
  | k + 1, hk, j, hj => by
    have ha := flush_zero (flN_up hu k) (k := k) (by rw [flN_len]; omega)
    have hl := flN_len D k
    have ih := flN_mark hu k (by omega) j
    rw [flN]
    unfold Dv.flush
    rw [if_pos ha, Int.toNat_natCast, show 64 * k / 64 = k by omega]
    show (((flN D k).setLn k _).ln j).mark = (((flN D k).setLn k _).ln j).chg.length + 1
    rw [Dv.setLn_ln _ k _ (by omega)]
    split
    · rename_i h; subst h; rfl
    · exact ih (by omega)
/-- Behind that, and a fence, each line may be one thing alone. -/
theorem all_one {D : Dv} (hu : D.Up) {j : Nat} (hj : j < D.ls.length) : ((flN D D.ls.length).fence.1.ln j).chg = [] := by
  have hl := flN_len D D.ls.length
  have hu2 := flN_up hu D.ls.length
  have ha : (flN D D.ls.length).ask 0 1 = 0 := ask_nat (o := 0) (e := 1) (by omega) hu2.down (by unfold Dv.size; omega) rfl
  rw [fence_ln ha j (by omega)]
  unfold Ln.fence
  rw [flN_mark hu _ (Nat.le_refl _) j hj, if_pos (by omega)]
  exact List.drop_eq_nil_of_le (by omega)
/-- A line that an act does not speak of stays. -/
theorem flush_other {D : Dv} (hp : 0 < D.ls.length) (off : Int) {i : Nat} (h : ∀ o : Nat, off = (o : Int) → o / 64 ≠ i) : (D.flush off).1.ln i = D.ln i := by
  unfold Dv.flush
  split
  · rename_i ha
    obtain ⟨o, rfl, hos⟩ := ask1 hp ha
    show (D.setLn _ _).ln i = _
    rw [Int.toNat_natCast, Dv.setLn_ln D _ _ (by unfold Dv.size at hos; omega), if_neg (fun e => h o rfl e.symm)]
  · rfl
theorem store_other {D : Dv} (hp : 0 < D.ls.length) (off : Int) (n : BitVec 64) {i : Nat} (h : ∀ o : Nat, off = (o : Int) → o / 64 ≠ i) : (D.store off n).1.ln i = D.ln i := by
  by_cases ha : D.ask off 8 = 0
  · obtain ⟨o, rfl, ho8, hos⟩ := ask8 hp ha
    unfold Dv.store
    rw [if_pos ha, Int.toNat_natCast]
    by_cases hw : D.word o = n
    · simp only [hw, if_true]; rfl
    · simp only [hw, if_false]
      show (D.setLn _ _).ln i = _
      rw [Dv.setLn_ln D _ _ (by unfold Dv.size at hos; omega), if_neg (fun e => h o rfl e.symm)]
  · rw [store_fail off n ha]
end NM
/-- A line that no act speaks of. -/
def Untold (l : List ActV) (i : Nat) : Prop := ∀ a ∈ l, ∀ o : Nat, a.off = (o : Int) → o / 64 ≠ i
theorem doesA_other {D : NM.Dv} (hp : 0 < D.ls.length) (a : ActV) {i : Nat} (hi : i < D.ls.length) (h : ∀ o : Nat, a.off = (o : Int) → o / 64 ≠ i) (hc : (D.ln i).chg = []) : ((doesA D a).ln i).chg = [] ∧ ((doesA D a).ln i).now = (D.ln i).now := by
  unfold doesA NM.Dv.does
  split
  · rw [NM.flush_other hp a.off h]; exact ⟨hc, rfl⟩
  · split
    · refine ⟨?_, NM.fence_lnNow i hi⟩
      by_cases ha : D.ask 0 1 = 0
      · rw [NM.fence_ln ha i hi]
        unfold NM.Ln.fence
        split
        · simp [hc]
        · exact hc
      · unfold NM.Dv.fence; rw [if_neg ha]; exact hc
    · split
      · exact ⟨hc, rfl⟩
      · rw [NM.store_other hp a.off a.n h]; exact ⟨hc, rfl⟩
theorem doesL_other {D : NM.Dv} (hp : 0 < D.ls.length) (l : List ActV) {i : Nat} (hi : i < D.ls.length) (h : Untold l i) (hc : (D.ln i).chg = []) : ((doesL D l).ln i).chg = [] ∧ ((doesL D l).ln i).now = (D.ln i).now := by
  induction l generalizing D with
  | nil => exact ⟨hc, rfl⟩
  | cons a l ih =>
    obtain ⟨h1, h2⟩ := doesA_other hp a hi (h a List.mem_cons_self) hc
    have hl := doesA_len D a
    obtain ⟨h3, h4⟩ := ih (D := doesA D a) (by omega) (by omega) (fun x hx => h x (List.mem_cons_of_mem _ hx)) h1
    exact ⟨h3, h4.trans h2⟩
/-- The keys that acts make. -/
def toldB (l : List ActV) : Lit → Bool
  | .int .i64 z => l.any fun a => decide (0 ≤ a.off ∧ a.off / 64 = z)
  | _ => false
theorem toldB_untold {l : List ActV} {i : Nat} (h : toldB l (.int .i64 (i : Int)) = false) : Untold l i := by
  intro a ha o ho e
  have : (l.any fun a => decide (0 ≤ a.off ∧ a.off / 64 = (i : Int))) = true := List.any_eq_true.2 ⟨a, ha, by rw [ho]; simp; omega⟩
  have h' : (l.any fun a => decide (0 ≤ a.off ∧ a.off / 64 = (i : Int))) = false := h
  rw [this] at h'; cases h'
open Classical in
theorem toldB_snoc (l : List ActV) (a : ActV) : toldB (l ++ [a]) = if 0 ≤ a.off then (fun z => if z = .int .i64 (a.off / 64) then true else toldB l z) else toldB l := by
  funext z
  by_cases h0 : 0 ≤ a.off
  · rw [if_pos h0]
    cases z with
    | int q z =>
      cases q
      case i64 =>
        simp only [toldB, List.any_append, List.any_cons, List.any_nil, Bool.or_false, Lit.int.injEq, true_and]
        by_cases e : z = a.off / 64
        · rw [if_pos e]; simp [h0, e]
        · rw [if_neg e]; simp [h0]; intro h; exact absurd h.symm e
      all_goals simp [toldB]
    | _ => simp [toldB]
  · rw [if_neg h0]
    cases z with
    | int q z =>
      cases q
      case i64 => simp [toldB, h0]
      all_goals rfl
    | _ => rfl
/-- A set beside a device. -/
structure SetOut (W w : World) (F : Nat → Prop) (k : TypeId) (b n : Nat) (f : Lit → Bool) : Prop where
  at_ : SetAt w k b n f
  out : ¬ F b
  new : W.heap.size ≤ b
section
variable {W w w' : World} {F F' : Nat → Prop} {k : TypeId} {b n p : Nat} {f : Lit → Bool} {D : NM.Dv}
theorem SetOut.turn (h : SetOut W w F k b n f) (ht : Turn w F w' F') : SetOut W w' F' k b n f := ⟨h.at_.mod ht.mod h.out, out_turn h.out h.at_.lt ht, h.new⟩
theorem SetOut.next (h : SetOut W w F k b n f) (hb : Below w.heap.size w w') : SetOut W w' F k b n f := h.turn (.of hb)
/-- A device beside a set that turns. -/
theorem St.beside (h : St W w p F D) (hb : W.heap.size ≤ b) (ho : ¬ F b) (hg : w.grownBy w' (some b)) : St W w' p F D := by
  refine ⟨?_, h.bel.grown hg h.bel.size (fun j hj => by cases hj; exact hb), h.ge⟩
  obtain ⟨lb, S, hA, hF, hok⟩ := h.dev
  exact ⟨lb, S, hA.mod (mod_of_grown hg) (fun j hj e => by cases e; rw [hF] at ho; exact ho hj), hF, hok⟩
end

set_option maxRecDepth 20000 in
set_option maxHeartbeats 8000000 in
set_option linter.unusedSimpArgs false in
theorem nvmDurable_walk (a : Option Addr) (l : List ActV) (cap : Nat) (a1 : Option Addr) (l1 : List ActV) (cap1 : Nat) (a2 : Option Addr) (ps : List (BitVec 8)) (c2 : Nat) (w0 : World) (hin : ActsIn w0 a l cap) (hin1 : ActsIn w0 a1 l1 cap1) (hps : SlIn .u8 w0 a2 ps c2) :
    Ret Try.prog 3 #[.slice a l.length cap, .slice a1 l1.length cap1, .slice a2 ps.length c2] w0 fun v w' => v = .bool true ∧ Below w0.heap.size w0 w' := by
  have bel0 := Below.refl w0.heap.size w0
  have hmax := hin.max
  have hle := hin.le
  have hmax1 := hin1.max
  have hle1 := hin1.le
  have KI := Maps.int_keyed (P := Try.prog) (k := 3) Try.underlying3
  refine ret_of (args := [_, _, _]) _ Try.func3 rfl Try.ntmps3 (by simp) ?_
  simp -implicitDefEqProofs [go_sem]
  refine callE_of (alive_calls w0) ?_
  rintro v w1 ⟨rfl, b1⟩
  have bel1 := bel0.trans (b1.mono bel0.size)
  replace hin := hin.next b1
  replace hin1 := hin1.next b1
  replace hps := hps.next b1
  simp -implicitDefEqProofs [go_sem]
  refine callE_of (heavy_calls a l cap w1 hin) ?_
  rintro v w2 ⟨rfl, b2⟩
  have bel2 := bel1.trans (b2.mono bel1.size)
  replace hin := hin.next b2
  replace hin1 := hin1.next b2
  replace hps := hps.next b2
  by_cases hh : heavyB l = true
  · simp -implicitDefEqProofs [go_sem, hh]
    refine body_tmp 6 rfl ?_
    simp -implicitDefEqProofs [go_sem]
    exact bel2
  replace hh : heavyB l = false := by simpa using hh
  have hlen := heavy_len hh
  simp -implicitDefEqProofs [go_sem, hh]
  refine callE_of (heavy_calls a1 l1 cap1 w2 hin1) ?_
  rintro v w3 ⟨rfl, b3⟩
  have bel3 := bel2.trans (b3.mono bel2.size)
  replace hin := hin.next b3
  replace hin1 := hin1.next b3
  replace hps := hps.next b3
  by_cases hh1 : heavyB l1 = true
  · simp -implicitDefEqProofs [go_sem, hh1]
    refine body_tmp 6 rfl ?_
    simp -implicitDefEqProofs [go_sem]
    exact bel3
  replace hh1 : heavyB l1 = false := by simpa using hh1
  have hlen1 := heavy_len hh1
  by_cases h100 : 100 < ps.length
  · have h100' : (100 : Int) < ps.length := by omega
    simp -implicitDefEqProofs [go_sem, hh1, h100, h100']
    refine body_tmp 6 rfl ?_
    simp -implicitDefEqProofs [go_sem]
    exact bel3
  have h100' : ¬ (100 : Int) < ps.length := by omega
  simp -implicitDefEqProofs [go_sem, hh1, h100, h100']
  refine callE_of (newB 8 w3 (i64_lit 8 (by decide))) ?_
  rintro v w4 ⟨b4, ⟨h, _⟩ | ⟨_, p, F4, rfl, h4, hF4⟩⟩
  · exact absurd ⟨by omega, by omega⟩ h
  have hst : St w3 w4 p F4 (NM.dev0 8) := ⟨h4, b4, hF4⟩
  simp -implicitDefEqProofs [go_sem]
  refine wpE_loop (fun e' w' => ∃ k F, k ≤ l.length ∧ e' 1 = .slice a1 l1.length cap1 ∧ e' 2 = .slice a2 ps.length c2 ∧ e' 7 = .pointer (some ⟨p, 0, none⟩) ∧ e' 33 = .slice a l.length cap ∧ e' 34 = .int .i64 l.length ∧ e' 35 = .int .i64 k ∧ St w3 w' p F (doesL (NM.dev0 8) (l.take k))) (fun e' _ => l.length - (intOf (e' 35)).toNat) ?_ ?_
  · refine ⟨0, F4, by omega, ?_⟩
    simp -implicitDefEqProofs [go_sem]
    exact hst
  · rintro e' w5 ⟨k, F, hk, g1, g2, g7, g33, g34, g35, hs5⟩
    by_cases hlt : k < l.length
    · have hlt' : (k : Int) < l.length := by omega
      have hwk := IntWalk.i64_in ((k : Int) + 1) (by omega)
      obtain ⟨b, o, rfl, hcell, hok⟩ := (hin.next hs5.bel).get hlt
      have hld := ldCells (P := Try.prog) (w := w5) (g := b) (o := o + k * 4) (cs := l[k].cs) Try.underlying30 rfl actI rfl hcell
      have hst := actNew l[k].cs rfl l[k].cs_one
      have hl2 := ldAll (P := Try.prog) (Blk.new w5 l[k].cs 30) Try.underlying30 rfl actI rfl
      simp -implicitDefEqProofs [go_sem, g1, g2, g7, g33, g34, g35, hlt, hlt', ↓hld, ↓hst, ↓hl2]
      have b6 : Below w5.heap.size w5 (w5.alloc (.cells l[k].cs 30)) := (Below.refl _ _).alloc (Nat.le_refl _) _
      have hs6 := hs5.next b6
      have hsteps := doesL_steps (NM.dev0 8) (l.take k)
      rw [List.length_take, show (NM.dev0 8).steps = 0 from rfl] at hsteps
      refine callE_of (does_calls l[k] _ hs6.dev hok.off (by omega)) ?_
      rintro v w7 ⟨rfl, F7, h7, t7⟩
      rw [← doesL_take _ _ _ hlt] at h7
      simp -implicitDefEqProofs [go_sem, g1, g2, g7, g33, g34, g35, hwk]
      refine goE_round ⟨k + 1, F7, by omega, ?_⟩ ?_
      · simp -implicitDefEqProofs [go_sem, g1, g2, g7, g33, g34]
        exact hs6.step h7 t7
      · simp -implicitDefEqProofs [go_sem, intOf, g35, hwk]; omega
    · have hk' : k = l.length := by omega
      subst hk'
      rw [List.take_length] at hs5
      have hsteps := doesL_steps (NM.dev0 8) l
      rw [show (NM.dev0 8).steps = 0 from rfl] at hsteps
      obtain ⟨D, hD⟩ : ∃ D, D = doesL (NM.dev0 8) l := ⟨_, rfl⟩
      have hup : D.Up := hD ▸ doesL_up (NM.dev0_up 8) l
      have hl8 : D.ls.length = 8 := by rw [hD, doesL_len]; rfl
      rw [← hD] at hs5 hsteps
      clear hD
      simp -implicitDefEqProofs [go_sem, g1, g2, g7, g33, g34, g35]
      refine wpE_loop (fun e' w' => ∃ (i : Nat) (F : Nat → Prop), i ≤ 8 ∧ e' 1 = .slice a1 l1.length cap1 ∧ e' 2 = .slice a2 ps.length c2 ∧ e' 7 = .pointer (some ⟨p, 0, none⟩) ∧ e' 43 = .int .i64 (i : Int) ∧ St w3 w' p F (NM.flN D i)) (fun e' _ => 8 - (intOf (e' 43)).toNat) ?_ ?_
      · refine ⟨0, F, by omega, ?_⟩
        simp -implicitDefEqProofs [go_sem, g1, g2, g7]
        exact hs5
      · rintro e2 w6 ⟨i, F6, hi, g1, g2, g7, g43, hs6⟩
        have hst6 := NM.flN_steps D i
        by_cases hlt : i < 8
        · have hlt' : (i : Int) < 8 := by omega
          have hwi := IntWalk.i64_in ((i : Int) + 1) (by omega)
          have hw64 := IntWalk.i64_in (64 * (i : Int)) (by omega)
          have hz := NM.flN_err hup (k := i) (by omega)
          have e64 : ((64 * i : Nat) : Int) = 64 * (i : Int) := by omega
          rw [e64] at hz
          simp -implicitDefEqProofs [go_sem, g1, g2, g7, g43, hlt, hlt', hw64]
          refine callE_of (flushB (64 * (i : Int)) w6 hs6.dev (by unfold I64; omega) (by omega)) ?_
          rintro v w7 ⟨rfl, F7, h7, t7⟩
          have hs7 := hs6.step h7 t7
          simp -implicitDefEqProofs [go_sem, g1, g2, g7, g43, hz, hwi]
          refine goE_round ⟨i + 1, F7, by omega, ?_⟩ ?_
          · simp -implicitDefEqProofs [go_sem, g1, g2, g7]
            rw [NM.flN, e64]; exact hs7
          · simp -implicitDefEqProofs [go_sem, intOf, g43, hwi]; omega
        · have hi' : i = 8 := by omega
          subst hi'
          have hupN := NM.flN_up hup 8
          have hlN : (NM.flN D 8).ls.length = 8 := by rw [NM.flN_len, hl8]
          have hfz := NM.fence_up hupN (by omega)
          simp -implicitDefEqProofs [go_sem, g1, g2, g7, g43]
          refine callE_of (fenceB w6 hs6.dev (by omega)) ?_
          rintro v w7 ⟨rfl, F7, h7, t7⟩
          have hs7 := hs6.step h7 t7
          have hst7 := fence_steps (NM.flN D 8)
          have hone : ∀ j, j < 8 → ((NM.flN D 8).fence.1.ln j).chg = [] := fun j hj => by have := NM.all_one hup (j := j) (by omega); rwa [hl8] at this
          have hlE : (NM.flN D 8).fence.1.ls.length = 8 := by rw [NM.fence_len, hlN]
          have hupE := hupN.fence
          rw [hfz]
          generalize (NM.flN D 8).fence.1 = E at *
          have hsE : E.size = 512 := by unfold NM.Dv.size; rw [hlE]
          have hokE := hs7.dev.ok
          simp -implicitDefEqProofs [go_sem, g1, g2, g7]
          refine callE_of (imageB w7 hs7.dev) ?_
          rintro v w8 ⟨a8, c8, rfl, in8, b8, n8⟩
          rw [hsE]
          have ap8 := apart_new hs7.dev in8 n8
          have hs8 := hs7.next b8
          have hlt8 := hs8.dev.lt
          simp -implicitDefEqProofs [go_sem, g1, g2, g7, run_makeMap]
          have hset : SetOut w3 (w8.alloc (.map #[] 0)) F7 3 w8.heap.size 0 (toldB []) := ⟨by
            have := set_made w8 3
            rwa [show toldB [] = fun _ => false by funext z; cases z with
              | int q z => cases q <;> rfl
              | _ => rfl], fun hf => by have := hlt8 _ hf; omega, by have := hs8.bel.size; omega⟩
          have hbM : Below w8.heap.size w8 (w8.alloc (.map #[] 0)) := (Below.refl _ _).alloc (Nat.le_refl _) _
          have hs9 := hs8.next hbM
          have ap9 := ap8.next hbM
          generalize hw9 : World.alloc w8 _ = w9 at *
          generalize hmb : w8.heap.size = mb at *
          have hsep8 : ∀ y, a8 = some y → y.block < mb := fun y hy => by have := (n8 y hy).2; omega
          refine wpE_loop (fun e' w' => ∃ (k : Nat) (F : Nat → Prop) (n : Nat), k ≤ l1.length ∧ n ≤ k ∧ e' 2 = .slice a2 ps.length c2 ∧ e' 7 = .pointer (some ⟨p, 0, none⟩) ∧ e' 11 = .slice a8 512 c8 ∧ e' 12 = .map (some mb) ∧ e' 58 = .slice a1 l1.length cap1 ∧ e' 59 = .int .i64 l1.length ∧ e' 60 = .int .i64 k ∧ St w3 w' p F (doesL E (l1.take k)) ∧ Apart w' F a8 E.image c8 ∧ SetOut w3 w' F 3 mb n (toldB (l1.take k))) (fun e' _ => l1.length - (intOf (e' 60)).toNat) ?_ ?_
          · refine ⟨0, F7, 0, by omega, by omega, ?_⟩
            simp -implicitDefEqProofs [go_sem, g1, g2, g7]
            exact ⟨hs9, ap9, hset⟩
          · rintro e3 w10 ⟨k, F, n, hk, hn, g2, g7, g11, g12, g58, g59, g60, hs10, ap10, hset10⟩
            have hsteps10 := doesL_steps E (l1.take k)
            rw [List.length_take] at hsteps10
            by_cases hlt : k < l1.length
            · have hlt' : (k : Int) < l1.length := by omega
              have hwk := IntWalk.i64_in ((k : Int) + 1) (by omega)
              obtain ⟨b, o, rfl, hcell, hok⟩ := (hin1.next hs10.bel).get hlt
              have hld := ldCells (P := Try.prog) (w := w10) (g := b) (o := o + k * 4) (cs := l1[k].cs) Try.underlying30 rfl actI rfl hcell
              have hst := actNew l1[k].cs rfl l1[k].cs_one
              have hl2 := ldAll (P := Try.prog) (Blk.new w10 l1[k].cs 30) Try.underlying30 rfl actI rfl
              simp -implicitDefEqProofs [go_sem, g2, g7, g11, g12, g58, g59, g60, hlt, hlt', ↓hld, ↓hst, ↓hl2]
              have b11 : Below w10.heap.size w10 (w10.alloc (.cells l1[k].cs 30)) := (Below.refl _ _).alloc (Nat.le_refl _) _
              have hs11 := hs10.next b11
              have ap11 := ap10.next b11
              have hset11 := hset10.next b11
              have hN := Blk.new w10 l1[k].cs 30
              have hNF : ¬ F w10.heap.size := fun hf => by have := hs10.dev.lt _ hf; omega
              generalize hw11 : World.alloc w10 _ = w11 at *
              refine callE_of (does_calls l1[k] w11 hs11.dev hok.off (by omega)) ?_
              rintro v w12 ⟨rfl, F12, h12, t12⟩
              have hs12 := hs11.step h12 t12
              rw [← doesL_take _ _ _ hlt] at hs12
              have ap12 := ap11.turn t12
              have hset12 := hset11.turn t12
              have hN12 := hN.mod t12.mod hNF
              have htk : l1.take (k + 1) = l1.take k ++ [l1[k]] := List.take_succ_eq_append_getElem hlt
              have hoff := hok.off
              unfold I64 at hoff
              by_cases h0 : 0 ≤ l1[k].off
              · have hq1 := IntWalk.i64_in (l1[k].off / 64) (by omega)
                have hq2 : l1[k].off.tdiv 64 = l1[k].off / 64 := Int.tdiv_eq_ediv_of_nonneg h0
                obtain ⟨w13, hr13, hset13, hg13⟩ := hset12.at_.put KI Try.underlying36 (by unfold maxLen; omega) (keyI (z := l1[k].off / 64) (by omega)) trivial
                have hs13 := hs12.beside hset12.new hset12.out hg13
                have ap13 : Apart w13 F12 a8 E.image c8 := ⟨⟨ap12.in_.at_.mod (mod_of_grown hg13) (fun bb hbb e => by
                    obtain ⟨oo, hoo⟩ := hbb
                    have h1 := hsep8 _ hoo
                    cases e
                    simp at h1), ap12.in_.le, ap12.in_.max, ap12.in_.nil⟩, fun y hy => ⟨by have := (ap12.sep y hy).1; have := hg13.size; omega, (ap12.sep y hy).2⟩⟩
                have hset13' : SetOut w3 w13 F12 3 mb (n + 1) (toldB (l1.take (k + 1))) := ⟨by rw [htk, toldB_snoc, if_pos h0]; exact hset13, hset12.out, hset12.new⟩
                simp -implicitDefEqProofs [go_sem, g2, g7, g11, g12, g58, g59, g60, hN12.cell, ActV.cs, h0, hq1, hq2, hr13, hwk]
                refine goE_round ⟨k + 1, F12, n + 1, by omega, by omega, ?_⟩ ?_
                · simp -implicitDefEqProofs [go_sem, g2, g7, g11, g12, g58, g59]
                  exact ⟨hs13, ap13, hset13'⟩
                · simp -implicitDefEqProofs [go_sem, intOf, g60, hwk]; omega
              · have hset13' : SetOut w3 w12 F12 3 mb n (toldB (l1.take (k + 1))) := ⟨by rw [htk, toldB_snoc, if_neg h0]; exact hset12.at_, hset12.out, hset12.new⟩
                simp -implicitDefEqProofs [go_sem, g2, g7, g11, g12, g58, g59, g60, hN12.cell, ActV.cs, h0, hwk]
                refine goE_round ⟨k + 1, F12, n, by omega, by omega, ?_⟩ ?_
                · simp -implicitDefEqProofs [go_sem, g2, g7, g11, g12, g58, g59]
                  exact ⟨hs12, ap12, hset13'⟩
                · simp -implicitDefEqProofs [go_sem, intOf, g60, hwk]; omega
            · have hk' : k = l1.length := by omega
              subst hk'
              rw [List.take_length] at *
              have hlG := doesL_len E l1
              rw [hlE] at hlG
              have hokG := hs10.dev.ok
              have hunt := fun i hi hu => doesL_other (D := E) (by omega) l1 (i := i) (by omega) hu (hone i hi)
              generalize doesL E l1 = G at *
              simp -implicitDefEqProofs [go_sem, g2, g7, g11, g12, g58, g59, g60]
              refine callE_of (crashB a2 c2 ps w10 hs10.dev (hps.next hs10.bel) (sepIn hps hs10.ge) (by omega)) ?_
              rintro v w11 ⟨rfl, F11, h11, t11⟩
              have hs11 := hs10.step h11 t11
              have ap11 := ap10.turn t11
              have hset11 := hset10.turn t11
              have hlC : (G.crash ps).ls.length = 8 := by rw [NM.crash_len, hlG]
              have hszC : (G.crash ps).size = 512 := by unfold NM.Dv.size; rw [hlC]
              simp -implicitDefEqProofs [go_sem, g2, g7, g11, g12]
              refine callE_of (imageB w11 hs11.dev) ?_
              rintro v w12 ⟨a12, c12, rfl, in12, b12, n12⟩
              rw [hszC]
              have ap12 := apart_new hs11.dev in12 n12
              have ap12' := ap11.next b12
              have hs12 := hs11.next b12
              have hset12 := hset11.next b12
              have hlenC := NM.image_len hs12.dev.ok
              rw [hszC] at hlenC
              have hlenE := NM.image_len hokE
              rw [hsE] at hlenE
              have hbyte : ∀ i, i < 512 → toldB l1 (.int .i64 ((i / 64 : Nat) : Int)) = false → (G.crash ps).image.getD i 0#8 = E.image.getD i 0#8 := by
                intro i hi ht
                obtain ⟨hc1, hc2⟩ := hunt (i / 64) (by omega) (toldB_untold ht)
                rw [NM.image_at hs12.dev.ok (by omega), NM.image_at hokE (by omega), NM.crash_same ps (by omega) hc1, hc2]
              have hM12 := hset12.at_
              clear hunt
              simp -implicitDefEqProofs [go_sem, g7, g11, g12]
              refine wpE_loop (fun e' w' => ∃ i : Nat, i ≤ 512 ∧ e' 11 = .slice a8 512 c8 ∧ e' 12 = .map (some mb) ∧ e' 15 = .slice a12 512 c12 ∧ e' 86 = .int .i64 512 ∧ e' 87 = .int .i64 (i : Int) ∧ Below w12.heap.size w12 w') (fun e' _ => 512 - (intOf (e' 87)).toNat) ?_ ?_
              · refine ⟨0, by omega, ?_⟩
                simp -implicitDefEqProofs [go_sem, g11, g12]
                exact Below.refl _ _
              · rintro e4 w13 ⟨i, hi, g11, g12, g15, g86, g87, b13⟩
                by_cases hlt : i < 512
                · have hlt' : (i : Int) < 512 := by omega
                  have hwi := IntWalk.i64_in ((i : Int) + 1) (by omega)
                  have hdv := IntWalk.i64_in ((i : Int) / 64) (by omega)
                  obtain ⟨b8', o8', rfl, hc8'⟩ := (ap12'.next b13).at (i := i) (by omega)
                  obtain ⟨bc, oc, rfl, hcc⟩ := (ap12.next b13).at (i := i) (by omega)
                  have e64 : ((i / 64 : Nat) : Int) = (i : Int) / 64 := by omega
                  have hlook := ((hM12.next b13).drew).look KI Try.underlying36 (keyI (z := (i : Int) / 64) (by omega)) trivial
                  have hby := hbyte i hlt
                  rw [e64] at hby
                  generalize (G.crash ps).image.getD i 0#8 = x at *
                  generalize E.image.getD i 0#8 = y at *
                  generalize toldB l1 _ = tb at *
                  simp -implicitDefEqProofs [go_sem, g11, g12, g15, g86, g87, hlt, hlt']
                  refine drawE_still mixed (by decide +kernel) ?_
                  cases tb with
                  | true =>
                    simp -implicitDefEqProofs [go_sem, g11, g12, g15, g86, g87, hlt, hlt', hdv, hlook, hcc, hc8']
                    unfold endE
                    simp -implicitDefEqProofs [go_sem, g11, g12, g15, g86, g87, hwi]
                    refine goE_round ⟨i + 1, by omega, ?_⟩ ?_
                    · simp -implicitDefEqProofs [go_sem, g11, g12, g15, g86]; exact b13.drew
                    · simp -implicitDefEqProofs [go_sem, intOf, g87, hwi]; omega
                  | false =>
                    have hxy := hby rfl
                    simp -implicitDefEqProofs [go_sem, g11, g12, g15, g86, g87, hlt, hlt', hdv, hlook, hcc, hc8', hxy]
                    unfold endE
                    simp -implicitDefEqProofs [go_sem, g11, g12, g15, g86, g87, hwi]
                    refine goE_round ⟨i + 1, by omega, ?_⟩ ?_
                    · simp -implicitDefEqProofs [go_sem, g11, g12, g15, g86]; exact b13.drew
                    · simp -implicitDefEqProofs [go_sem, intOf, g87, hwi]; omega
                · have hi' : i = 512 := by omega
                  subst hi'
                  simp -implicitDefEqProofs [go_sem, g11, g12, g15, g86, g87]
                  refine body_tmp 6 rfl ?_
                  simp -implicitDefEqProofs [go_sem]
                  exact bel3.trans ((hs12.bel.mono bel3.size).trans (b13.mono (by have := hs12.bel.size; have := bel3.size; omega)))
end Go.Proofs.Ytkljlgahdlgmpaa
