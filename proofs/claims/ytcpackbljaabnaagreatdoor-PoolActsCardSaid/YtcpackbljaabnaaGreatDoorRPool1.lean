/- The document's pool (stillroomref07), its values; New, place, put: walks. -/
import Derived.Test.YtcpackbljaabnaaGreatDoorPoolTold
import Derived.Test.YtcpackbljaabnaaGreatDoorHeadRef
namespace Go.Proofs.YtcpackbljaabnaaGreatDoor
set_option linter.unusedVariables false
set_option linter.unusedSimpArgs false
set_option maxRecDepth 100000
open Go Go.RowKit

/-- A pool of the document: its shape, and two slices. -/
def rpC (s : HM.Shape) (x y : Value) : Array Value := #[.int .i64 s.lines, .int .i64 s.slabs, .int .i64 s.table, .int .i64 s.data, x, y]
theorem rpC_0 (s : HM.Shape) (x y : Value) : (rpC s x y)[0]? = some (.int .i64 s.lines) := rfl
theorem rpC_1 (s : HM.Shape) (x y : Value) : (rpC s x y)[1]? = some (.int .i64 s.slabs) := rfl
theorem rpC_2 (s : HM.Shape) (x y : Value) : (rpC s x y)[2]? = some (.int .i64 s.table) := rfl
theorem rpC_3 (s : HM.Shape) (x y : Value) : (rpC s x y)[3]? = some (.int .i64 s.data) := rfl
theorem rpC_4 (s : HM.Shape) (x y : Value) : (rpC s x y)[4]? = some x := rfl
theorem rpC_5 (s : HM.Shape) (x y : Value) : (rpC s x y)[5]? = some y := rfl
theorem rpI : (Tryz.prog.info? 35).map (·.size) = some 6 := by kernel_rfl
theorem rpI' (s : HM.Shape) (x y : Value) : (Tryz.prog.info? 35).map (·.size) = some (rpC s x y).size := rpI
/-- A value that stayed, or a slice in a block that is new. -/
def FreshOr (w0 : World) (x x' : Value) : Prop := x' = x ∨ ∃ g o n c, x' = .slice (some ⟨g, o, none⟩) n c ∧ w0.heap.size ≤ g
/-- A slice of words. -/
def SlV (w : World) (x : Value) (l : List (BitVec 64)) : Prop := ∃ a c, x = .slice a l.length c ∧ SlIn .u64 w a l c
theorem SlV.next {w w' : World} {x : Value} {l : List (BitVec 64)} (h : SlV w x l) (hb : Below w.heap.size w w') : SlV w' x l := by
  obtain ⟨a, c, e, h⟩ := h
  exact ⟨a, c, e, h.next hb⟩
theorem SlV.mod {w w' : World} {F : Nat → Prop} {x : Value} {l : List (BitVec 64)} (h : SlV w x l) (hm : Mod F w w') (hF : ∀ b o n c, x = .slice (some ⟨b, o, none⟩) n c → ¬ F b) : SlV w' x l := by
  obtain ⟨a, c, rfl, h⟩ := h
  exact ⟨a, c, rfl, h.mod hm (fun b ⟨o, ho⟩ => hF b o _ _ (by rw [ho]))⟩
theorem rpC_set4 (s : HM.Shape) (x y z : Value) : (rpC s x y).setIfInBounds 4 z = rpC s z y := rfl
theorem rpC_set5 (s : HM.Shape) (x y z : Value) : (rpC s x y).setIfInBounds 5 z = rpC s x z := rfl
theorem SlV.one {w : World} {x : Value} {l : List (BitVec 64)} (h : SlV w x l) : x.oneCell' = true := by
  obtain ⟨a, c, rfl, _⟩ := h
  rfl
theorem rpC_one {w w' : World} (s : HM.Shape) {x y : Value} {l l' : List (BitVec 64)} (hx : SlV w x l) (hy : SlV w' y l') : ∀ v ∈ (rpC s x y).toList, v.oneCell' = true := by
  intro v hv
  have := hx.one
  have := hy.one
  simp [rpC] at hv
  rcases hv with rfl | rfl | rfl | rfl | rfl | rfl <;> first | rfl | assumption
theorem row_sl {w : World} {g c : Nat} {l : List (BitVec 64)} (h : RowW w g l) (hl : l.length ≤ c) (hc : c ≤ 9223372036854775807) : SlIn .u64 w (some ⟨g, 0, none⟩) l c :=
  ⟨.inr ⟨g, 0, rfl, fun i hi => by rw [Nat.zero_add, h.cell hi]; simp [List.getD, hi]⟩, hl, hc, fun h => by cases h⟩
theorem slV_made {w : World} {g m : Nat} (h : Blk w g (Array.replicate m (.int .u64 0)) 53) (hm : m ≤ 9223372036854775807) : SlV w (.slice (some ⟨g, 0, none⟩) m m) (zL m) := by
  have hR : RowW w g (zL m) := ⟨_, h, fun i hi => by
    rw [zL_len] at hi
    rw [zL_get, Array.getElem?_replicate, if_pos hi]; rfl⟩
  have := row_sl (c := m) hR (by rw [zL_len]; exact Nat.le_refl _) hm
  exact ⟨_, _, by rw [zL_len], this⟩
section
set_option maxHeartbeats 1000000
theorem rPlace_calls (s : HM.Shape) (x y : Value) (i : Nat) (c : Int) (q : Nat) (w0 : World) {T B : List (BitVec 64)} (hx : SlV w0 x T) (hy : SlV w0 y B) (hs : 0 ≤ s.data ∧ s.data ≤ 1000000) (hi : i ≤ 1000) (hq : q ≤ 1000) :
    Ret Tryz.prog 41 #[.agg (rpC s x y), .int .i64 (i : Int), .int .i64 c, .int .i64 (q : Int)] w0 fun v w' => v = .int .i64 (placeI s i c q) ∧ Below w0.heap.size w0 w' := by
  have bel0 := Below.refl w0.heap.size w0
  refine ret_of (args := [_, _, _, _]) _ Tryz.func41 rfl Tryz.ntmps41 (by simp) ?_
  simp -implicitDefEqProofs [go_sem]
  generalize hw1 : World.alloc w0 _ = w1 at *
  obtain ⟨hB1, b1, sz1⟩ := new_facts hw1
  have bel1 := bel0.trans (b1.mono bel0.size)
  have hl := linesI_le c
  obtain ⟨L, hL⟩ : ∃ L : Nat, linesI c = L := ⟨(linesI c).toNat, by omega⟩
  have hLq : L * q ≤ 4 * 1000 := Nat.mul_le_mul (by omega) hq
  obtain ⟨r, hr⟩ : ∃ r : Nat, r = L * q := ⟨_, rfl⟩
  rw [← hr] at hLq
  have e1 : 64 * (q : Int) * (L : Int) = 64 * (r : Int) := by
    rw [hr, Int.mul_assoc]; congr 1; push_cast; exact Int.mul_comm _ _
  have e2 : placeI s i c q = s.data + 1024 * (i : Int) + 64 * (r : Int) := by
    unfold placeI
    rw [hL, hr, Int.mul_assoc]; push_cast; rfl
  have k1 := IntWalk.i64_in (1024 * (i : Int)) (by omega)
  have k2 := IntWalk.i64_in (s.data + 1024 * (i : Int)) (by omega)
  have k3 := IntWalk.i64_in (64 * (q : Int)) (by omega)
  have k4 := IntWalk.i64_in (64 * (r : Int)) (by omega)
  have k5 := IntWalk.i64_in (s.data + 1024 * (i : Int) + 64 * (r : Int)) (by omega)
  refine drawE_mix [.pure 0, .pure 1, .pure 3, .pure 4, .pure 6, .pure 7, .pure 8, .take 2, .pure 5, .run 9 [2], .pure 10, .pure 11, .pure 12] mixed (by decide +kernel) (by simp only [withOps, MStep.num, List.filterMap_cons, List.filterMap_nil, List.getElem?_cons_succ, List.getElem?_cons_zero, Option.map_some]; rfl) ?_
  have hB2 := hB1.next (Below.refl _ _).drew
  have bel2 := bel1.drew
  generalize World.drew w1 = w2 at *
  simp -implicitDefEqProofs [go_sem]
  refine onTake_of (fun w' => Below w2.heap.size w2 w') (.int .i64 s.data) (Below.refl _ _) (fun w' hw => by simp -implicitDefEqProofs [go_sem, (hB2.next hw).cell, rpC_3]) ?_
  simp -implicitDefEqProofs [go_sem, k1, k2, k3]
  refine callE_of (refLines_calls c w2) ?_
  rintro v w3 ⟨rfl, rfl⟩
  refine ⟨.inr (by simp -implicitDefEqProofs [go_sem]; exact Below.refl _ _), ?_⟩
  rw [hL]
  simp -implicitDefEqProofs [go_sem, k1, k2, k3, e1, k4, k5]
  refine body_tmp 8 rfl ?_
  simp -implicitDefEqProofs [go_sem, e2]
  exact bel2
theorem rPut_calls (x : Value) (i : Nat) (u : BitVec 64) (w0 : World) {l : List (BitVec 64)} (hx : SlV w0 x l) (hi : i < l.length) (hl : l.length ≤ 1000) :
    Ret Tryz.prog 40 #[x, .int .i64 (i : Int), .int .u64 (uv u)] w0 fun v w' => ∃ g c, v = .slice (some ⟨g, 0, none⟩) l.length c ∧ w0.heap.size ≤ g ∧ SlIn .u64 w' (some ⟨g, 0, none⟩) (l.set i u) c ∧ Below w0.heap.size w0 w' := by
  have bel0 := Below.refl w0.heap.size w0
  obtain ⟨a, c, rfl, hin⟩ := hx
  refine ret_of (args := [_, _, _]) _ Tryz.func40 rfl Tryz.ntmps40 (by simp) ?_
  simp -implicitDefEqProofs [go_sem]
  have hlit := World.ownsRow_lit (base := w0.heap.size) (e := 53) (size := 1) w0 #[] 0 (Nat.le_refl _) (by decide) rfl
  generalize hw1 : World.alloc w0 _ = w1 at *
  have sz1 : w1.heap.size = w0.heap.size + 1 := by rw [← hw1]; simp
  have b1 : Below w0.heap.size w0 w1 := by rw [← hw1]; exact bel0.alloc (Nat.le_refl _) _
  have hin1 := hin.next b1
  obtain ⟨a2, c2, w2, hr2, hown, hgr⟩ := run_append1 (P := Tryz.prog) w0.heap.size (t := 33) (bytes := 8) (z := .int .u64 0) 33 Tryz.underlying33 info_u64 rfl hlit (a2 := a) (c2 := c) (m := l.length) (news := cellsK .u64 l) (cellsK_length) hin1.at_.src hin1.nil (fun u hu => cellsK_one u hu) (by omega) (by omega) (by omega)
  rw [Nat.zero_add] at hr2
  rw [Nat.zero_add] at hown
  have b2 : Below w0.heap.size w0 w2 := b1.grown hgr (by omega) (fun j hj => by simp [Value.ownBlock] at hj; omega)
  have hown : w2.ownsRow w0.heap.size 53 1 (.slice a2 l.length c2) l.length (cellsK .u64 l) := by simpa using hown
  have hsl := owns_slIn (k := .u64) rfl hown
  obtain ⟨g, rfl, hg, hR⟩ := owns_row hown rfl (by omega)
  have hi' : (i : Int) < l.length := by omega
  have hth := hR.thaw i
  have gx := hR.cell hi
  simp -implicitDefEqProofs [go_sem, hr2, hi, hi', hth, gx]
  refine body_tmp 6 rfl ?_
  simp -implicitDefEqProofs [go_sem]
  exact ⟨g, c2, ⟨rfl, rfl⟩, hg, row_sl (hR.set u) (by rw [List.length_set]; exact hsl.le) hsl.max, b2.setCell hg _⟩
end
end Go.Proofs.YtcpackbljaabnaaGreatDoor
