/- Acts on a device: read, done, counted. -/
import Derived.Test.YtkljlgahdlgmpaaNvmB
namespace Go.Proofs.Ytkljlgahdlgmpaa
set_option linter.unusedVariables false
set_option linter.unusedSimpArgs false
open Go Go.RowKit

/-- An act, as it lies in memory. -/
structure ActV where
  kind : BitVec 8
  off : Int
  n : BitVec 64
  pa : Option Addr
  pc : Nat
  picks : List (BitVec 8)
instance : Inhabited ActV := ⟨⟨0#8, 0, 0#64, none, 0, []⟩⟩
def ActV.cs (a : ActV) : Array Value := #[.int .u8 (uv a.kind), .int .i64 a.off, .int .u64 (uv a.n), .slice a.pa a.picks.length a.pc]
/-- What an act is allowed to be, where it lies. -/
structure ActV.Ok (w : World) (a : ActV) : Prop where
  off : I64 a.off
  picks : SlIn .u8 w a.pa a.picks a.pc
structure ActsIn (w : World) (a : Option Addr) (l : List ActV) (cap : Nat) : Prop where
  at_ : l = [] ∨ ∃ b off, a = some ⟨b, off, none⟩ ∧ ∀ i (h : i < l.length), ∀ j (hj : j < l[i].cs.size), w.cell? ⟨b, off + i * 4 + j, none⟩ = some l[i].cs[j]
  ok : ∀ x ∈ l, x.Ok w
  le : l.length ≤ cap
  max : cap ≤ 9223372036854775807
  nil : a = none → cap = 0
section
variable {w w' : World} {a : Option Addr} {l : List ActV} {cap : Nat}
theorem ActV.Ok.next {a : ActV} (h : a.Ok w) (hb : Below w.heap.size w w') : a.Ok w' := ⟨h.off, h.picks.next hb⟩
theorem ActsIn.next (h : ActsIn w a l cap) (hb : Below w.heap.size w w') : ActsIn w' a l cap := by
  refine ⟨?_, fun x hx => (h.ok x hx).next hb, h.le, h.max, h.nil⟩
  rcases h.at_ with h1 | ⟨b, off, rfl, hc⟩
  · exact .inl h1
  · exact .inr ⟨b, off, rfl, fun i hi j hj => (hb.cell (p := ⟨_, _, none⟩) (World.block_lt_of_cell? w _ (hc i hi j hj))).trans (hc i hi j hj)⟩
/-- Picks lie where they lay when the device was not there. -/
theorem ActV.Ok.sep {x : ActV} {F : Nat → Prop} (h : x.Ok w) (hF : ∀ k, F k → w.heap.size ≤ k) : x.picks ≠ [] → ∀ y, x.pa = some y → ¬ F y.block := by
  intro h0 y hy hf
  rcases h.picks.at_ with h1 | ⟨b, o, ha, hc⟩
  · exact h0 h1
  · rw [hy] at ha
    obtain rfl : y = _ := Option.some.inj ha
    have := World.block_lt_of_cell? w _ (hc 0 (List.length_pos_iff.2 h0))
    have := hF _ hf
    simp at *; omega
end

/-- An act done, but no crash, and no stop. -/
def NM.Dv.does (D : NM.Dv) (k : BitVec 8) (off : Int) (n : BitVec 64) : NM.Dv :=
  if k % 5#8 = 2#8 then (D.flush off).1 else if k % 5#8 = 3#8 then D.fence.1 else if k % 5#8 = 4#8 then D else (D.store off n).1
def doesA (D : NM.Dv) (a : ActV) : NM.Dv := D.does a.kind a.off a.n
theorem doesA_ok {D : NM.Dv} (h : D.Ok) (a : ActV) : (doesA D a).Ok := by
  unfold doesA NM.Dv.does
  split
  · exact h.flush _
  · split
    · exact h.fence
    · split
      · exact h
      · exact h.store _ _
theorem doesA_steps (D : NM.Dv) (a : ActV) : (doesA D a).steps ≤ D.steps + 1 := by
  unfold doesA NM.Dv.does
  split
  · exact flush_steps _ _
  · split
    · exact fence_steps _
    · split
      · omega
      · exact store_steps _ _ _

set_option linter.unusedSimpArgs false in
theorem does_calls {p : Nat} {F : Nat → Prop} {D : NM.Dv} (a : ActV) (w0 : World) (h : DevB w0 p F D) (ho : I64 a.off) (hc : D.steps < 1099511627776) :
    Ret Try.prog 16 #[.pointer (some ⟨p, 0, none⟩), .agg a.cs] w0 fun v w' => v = .tuple #[] ∧ ∃ F', DevB w' p F' (doesA D a) ∧ Turn w0 F w' F' := by
  have bel0 := Below.refl w0.heap.size w0
  refine ret_of (args := [_, _]) _ Try.func16 rfl Try.ntmps16 (by simp) ?_
  simp -implicitDefEqProofs [go_sem, ActV.cs]
  generalize hw1 : World.alloc w0 _ = w1 at *
  obtain ⟨hB1, b1, sz1⟩ := new_facts hw1
  have bel1 := bel0.trans (b1.mono bel0.size)
  replace h := h.next b1
  have ht1 : Turn w0 F w1 F := .of bel1
  by_cases h2 : a.kind % 5#8 = 2#8
  · have hD : doesA D a = (D.flush a.off).1 := by unfold doesA NM.Dv.does; rw [if_pos h2]
    rw [hD]
    simp -implicitDefEqProofs [go_sem, hB1.cell, h2]
    refine callE_of (flushB a.off w1 h ho hc) ?_
    rintro v w2 ⟨rfl, F2, h2', t2⟩
    simp -implicitDefEqProofs [go_sem]
    refine body_end (body_none rfl ⟨rfl, F2, h2', ht1.trans t2⟩)
  · have h2' : (a.kind % 5#8 == 2#8) = false := by rw [beq_eq_false_iff_ne]; exact h2
    by_cases h3 : a.kind % 5#8 = 3#8
    · have hD : doesA D a = D.fence.1 := by unfold doesA NM.Dv.does; rw [if_neg h2, if_pos h3]
      rw [hD]
      simp -implicitDefEqProofs [go_sem, hB1.cell, h2, h2', h3]
      refine callE_of (fenceB w1 h hc) ?_
      rintro v w2 ⟨rfl, F2, h2', t2⟩
      simp -implicitDefEqProofs [go_sem]
      refine body_end (body_none rfl ⟨rfl, F2, h2', ht1.trans t2⟩)
    · have h3' : (a.kind % 5#8 == 3#8) = false := by rw [beq_eq_false_iff_ne]; exact h3
      by_cases h4 : a.kind % 5#8 = 4#8
      · have hD : doesA D a = D := by unfold doesA NM.Dv.does; rw [if_neg h2, if_neg h3, if_pos h4]
        rw [hD]
        simp -implicitDefEqProofs [go_sem, hB1.cell, h2, h2', h3, h3', h4]
        refine callE_of (loadB a.off w1 h ho) ?_
        rintro v w2 ⟨rfl, rfl⟩
        simp -implicitDefEqProofs [go_sem]
        refine body_end (body_none rfl ⟨rfl, F, h, ht1⟩)
      · have h4' : (a.kind % 5#8 == 4#8) = false := by rw [beq_eq_false_iff_ne]; exact h4
        have hD : doesA D a = (D.store a.off a.n).1 := by unfold doesA NM.Dv.does; rw [if_neg h2, if_neg h3, if_neg h4]
        rw [hD]
        simp -implicitDefEqProofs [go_sem, hB1.cell, h2, h2', h3, h3', h4, h4']
        refine callE_of (storeB a.off a.n w1 h ho hc) ?_
        rintro v w2 ⟨rfl, F2, h2', t2⟩
        simp -implicitDefEqProofs [go_sem]
        refine body_end (body_none rfl ⟨rfl, F2, h2', ht1.trans t2⟩)

def heavyB (l : List ActV) : Bool := l.any (fun a => decide (100 < a.picks.length)) || decide (150 < l.length)
theorem actI : (Try.prog.info? 30).map (·.size) = some 4 := by kernel_rfl
/-- An act of a row, read whole. -/
theorem ActsIn.get {w : World} {a : Option Addr} {l : List ActV} {cap : Nat} (h : ActsIn w a l cap) {i : Nat} (hi : i < l.length) :
    ∃ b off, a = some ⟨b, off, none⟩ ∧ (∀ j (hj : j < l[i].cs.size), w.cell? ⟨b, off + i * 4 + j, none⟩ = some l[i].cs[j]) ∧ l[i].Ok w := by
  rcases h.at_ with h1 | ⟨b, off, ha, hc⟩
  · subst h1; cases hi
  · exact ⟨b, off, ha, hc i hi, h.ok _ (List.getElem_mem hi)⟩

set_option linter.unusedSimpArgs false in
theorem heavy_calls (a : Option Addr) (l : List ActV) (cap : Nat) (w0 : World) (h : ActsIn w0 a l cap) :
    Ret Try.prog 14 #[.slice a l.length cap] w0 fun v w' => v = .bool (heavyB l) ∧ Below w0.heap.size w0 w' := by
  have bel0 := Below.refl w0.heap.size w0
  have hle := h.le
  have hmax := h.max
  refine ret_of (args := [_]) _ Try.func14 rfl Try.ntmps14 (by simp) ?_
  simp -implicitDefEqProofs [go_sem]
  refine wpE_loop (fun e' w' => ∃ k, k ≤ l.length ∧ ((l.take k).any (fun a => decide (100 < a.picks.length))) = false ∧ e' 0 = .slice a l.length cap ∧ e' 5 = .slice a l.length cap ∧ e' 6 = .int .i64 l.length ∧ e' 7 = .int .i64 k ∧ Below w0.heap.size w0 w') (fun e' _ => l.length - (intOf (e' 7)).toNat) ?_ ?_
  · refine ⟨0, by omega, by simp, ?_⟩
    simp -implicitDefEqProofs [go_sem]
    exact bel0
  · rintro e' w1 ⟨k, hk, hany, g0, g5, g6, g7, bel1⟩
    by_cases hlt : k < l.length
    · have hlt' : (k : Int) < l.length := by omega
      have hwk := IntWalk.i64_in ((k : Int) + 1) (by omega)
      obtain ⟨b, off, rfl, hcell, hok⟩ := (h.next bel1).get hlt
      have hld := ldCells (P := Try.prog) (w := w1) (g := b) (o := off + k * 4) (cs := l[k].cs) Try.underlying30 rfl actI rfl hcell
      have hst := stNew (P := Try.prog) (t := 30) (cs := l[k].cs) (C0 := #[.int .u8 0, .int .i64 0, .int .u64 0, .slice none 0 0]) actI rfl (by simp [ActV.cs, Value.oneCell'])
      simp -implicitDefEqProofs [go_sem, g0, g5, g6, g7, hlt, hlt', ↓hld, ↓hst]
      generalize hw2 : World.alloc w1 _ = w2 at *
      obtain ⟨hB2, b2, sz2⟩ := new_facts hw2
      have bel2 := bel1.trans (b2.mono bel1.size)
      by_cases h1 : 100 < l[k].picks.length
      · have h1' : (100 : Int) < l[k].picks.length := by omega
        simp -implicitDefEqProofs [go_sem, g0, g5, g6, g7, hB2.cell, ActV.cs, h1, h1']
        refine body_tmp 2 rfl ?_
        simp -implicitDefEqProofs [go_sem]
        refine ⟨?_, bel2⟩
        have : l.any (fun a => decide (100 < a.picks.length)) = true := List.any_eq_true.2 ⟨l[k], List.getElem_mem hlt, by simpa using h1⟩
        simp [heavyB, this]
      · have h1' : ¬ (100 : Int) < l[k].picks.length := by omega
        simp -implicitDefEqProofs [go_sem, g0, g5, g6, g7, hB2.cell, ActV.cs, h1, h1', hwk]
        refine goE_round ⟨k + 1, by omega, ?_, ?_⟩ ?_
        · rw [List.take_succ_eq_append_getElem hlt, List.any_append, hany]; simpa using h1
        · simp -implicitDefEqProofs [go_sem, g0, g5, g6]; exact bel2
        · simp -implicitDefEqProofs [go_sem, intOf, g7, hwk]; omega
    · have hk' : k = l.length := by omega
      subst hk'
      rw [List.take_length] at hany
      simp -implicitDefEqProofs [go_sem, g0, g5, g6, g7]
      refine body_tmp 2 rfl ?_
      by_cases h150 : 150 < l.length
      · have h150' : (150 : Int) < l.length := by omega
        simp -implicitDefEqProofs [go_sem, heavyB, hany, h150, h150']; exact bel1
      · have h150' : ¬ (150 : Int) < l.length := by omega
        simp -implicitDefEqProofs [go_sem, heavyB, hany, h150, h150']; exact bel1
end Go.Proofs.Ytkljlgahdlgmpaa
