/- Structs and arrays as pieces of a block: loaded and stored whole. -/
import Derived.Test.YtkljlgahdlgmpaaEng
import Derived.Test.YtkljlgahdlgmpaaVal
import Derived.Laws.Rows
import Derived.Laws.CopyRow
import Derived.Laws.CopyOwn
import Derived.Laws.ResultCell
namespace Go.Proofs.Ytkljlgahdlgmpaa
open Go Go.RowKit

def isAggD : TypeDesc → Bool
  | .struct _ | .array _ _ => true
  | _ => false
/-- A piece of a block put. -/
def segPut (C : Array Value) (o : Nat) (cs : Array Value) : Array Value := (C.toList.take o ++ cs.toList ++ C.toList.drop (o + cs.size)).toArray
theorem segPut_size (C : Array Value) (o : Nat) (cs : Array Value) (h : o + cs.size ≤ C.size) : (segPut C o cs).size = C.size := by
  simp [segPut]; omega
theorem segPut_all (C cs : Array Value) (h : cs.size = C.size) : segPut C 0 cs = cs := by
  have h2 : C.toList.drop C.size = [] := by simp
  unfold segPut
  rw [Nat.zero_add, h, h2]; simp
theorem segPut_get (C : Array Value) (o : Nat) (cs : Array Value) (h : o + cs.size ≤ C.size) (i : Nat) : (segPut C o cs)[i]? = if o ≤ i ∧ i < o + cs.size then cs[i - o]? else C[i]? := by
  unfold segPut
  rw [List.getElem?_toArray, List.getElem?_append, List.getElem?_append]
  have h1 : (C.toList.take o).length = o := by simp; omega
  simp only [List.length_append, h1, Array.length_toList]
  by_cases h2 : i < o
  · rw [if_pos (by omega), if_pos h2, if_neg (by omega), List.getElem?_take, if_pos h2, Array.getElem?_toList]
  · by_cases h3 : i < o + cs.size
    · rw [if_pos h3, if_neg h2, if_pos (by omega), Array.getElem?_toList]
    · rw [if_neg h3, if_neg (by omega), List.getElem?_drop, Array.getElem?_toList]
      congr 1; omega

section
variable {P : Program} {w : World} {g : Nat} {C : Array Value} {t : TypeId}
theorem Blk.row (h : Blk w g C t) (C' : Array Value) : Blk (w.setRow g C') g C' t := setRow_heap w g C C' t (0, 0) h
theorem Blk.rowOther {b : Nat} {D : Array Value} {u : TypeId} (h : Blk w b D u) (hb : b ≠ g) (C' : Array Value) : Blk (w.setRow g C') b D u := by
  unfold Blk at h ⊢; rw [setRow_other w g b C' hb]; exact h
theorem Below.row {B : Nat} {w0 : World} (h : Below B w0 w) (hg : B ≤ g) (C' : Array Value) : Below B w0 (w.setRow g C') := below_setRow h hg C'

theorem run_loadVar_seg {ty : TypeId} {d : TypeDesc} {o n : Nat} (h : Blk w g C t) (hu : P.underlying ty = some d) (hd : isAggD d = true) (hi : (P.info? ty).map (·.size) = some n) (ho : o + n ≤ C.size) :
    (loadVar ty ⟨g, o, none⟩).run P w = .ok (.agg (C.extract o (o + n))) w := by
  have hls : (C.extract o (o + n)).toList.length = n := by simp; omega
  have hl := run_loadCells_list (P := P) w ⟨g, o, none⟩ (C.extract o (o + n)).toList (fun j v hv => by
      have hadd : (⟨g, o, none⟩ : Addr).add j = ⟨g, o + j, none⟩ := by unfold Addr.add; split <;> simp_all
      have hj : j < n := by
        rcases Nat.lt_or_ge j n with h | h
        · exact h
        · rw [List.getElem?_eq_none (by omega)] at hv; cases hv
      rw [hadd, h.cell]
      rw [Array.getElem?_toList, Array.getElem?_extract] at hv
      rw [if_pos (by omega)] at hv
      exact hv)
  rw [hls] at hl
  cases hq : P.info? ty with
  | none => simp [hq] at hi
  | some i =>
    have hs : i.size = n := by simpa [hq] using hi
    have hagg : (isAgg ty).run P w = .ok true w := by
      unfold isAgg
      rw [Sem.run_bind, run_underlying hu w]
      cases d <;> simp_all [isAggD]
    simp only [Array.toArray_toList] at hl
    simp [loadVar, Sem.run_bind, hagg, sizeOf, typeInfo, hq, hs, hl]
theorem run_storeVar_seg {ty : TypeId} {o : Nat} {cs : Array Value} (h : Blk w g C t) (hi : (P.info? ty).map (·.size) = some cs.size) (ho : o + cs.size ≤ C.size) (h1 : ∀ v ∈ cs.toList, v.oneCell' = true) :
    (storeVar ty ⟨g, o, none⟩ (.agg cs)).run P w = .ok () (w.setRow g (segPut C o cs)) := by
  have hst := run_storeCells_at P g o t cs.toList 0 C w h (by simpa using ho) h1
  simp only [Nat.add_zero, Array.length_toList] at hst
  cases hq : P.info? ty with
  | none => simp [hq] at hi
  | some i =>
    have hs : i.size = cs.size := by simpa [hq] using hi
    simp [storeVar, Sem.run_bind, sizeOf, typeInfo, hq, hs, Value.cells, hst, segPut]

theorem run_loadVar_cells {ty : TypeId} {d : TypeDesc} {o n : Nat} {cs : Array Value} (hu : P.underlying ty = some d) (hd : isAggD d = true) (hi : (P.info? ty).map (·.size) = some n) (hn : cs.size = n) (h : ∀ j (hj : j < cs.size), w.cell? ⟨g, o + j, none⟩ = some cs[j]) :
    (loadVar ty ⟨g, o, none⟩).run P w = .ok (.agg cs) w := by
  have hl := run_loadCells_list (P := P) w ⟨g, o, none⟩ cs.toList (fun j v hv => by
      have hadd : (⟨g, o, none⟩ : Addr).add j = ⟨g, o + j, none⟩ := by unfold Addr.add; split <;> simp_all
      have hj : j < cs.size := by
        rcases Nat.lt_or_ge j cs.size with h | h
        · exact h
        · rw [List.getElem?_eq_none (by simpa using h)] at hv; cases hv
      rw [hadd, h j hj]
      rw [Array.getElem?_toList, Array.getElem?_eq_getElem hj] at hv
      exact hv)
  rw [Array.length_toList, hn] at hl
  cases hq : P.info? ty with
  | none => simp [hq] at hi
  | some i =>
    have hs : i.size = n := by simpa [hq] using hi
    have hagg : (isAgg ty).run P w = .ok true w := by
      unfold isAgg
      rw [Sem.run_bind, run_underlying hu w]
      cases d <;> simp_all [isAggD]
    simp only [Array.toArray_toList] at hl
    simp [loadVar, Sem.run_bind, hagg, sizeOf, typeInfo, hq, hs, hl]
/-- As facts for a walk. -/
theorem ldCells {ty : TypeId} {d : TypeDesc} {o n : Nat} {cs : Array Value} (hu : P.underlying ty = some d) (hd : isAggD d = true) (hi : (P.info? ty).map (·.size) = some n) (hn : cs.size = n) (h : ∀ j (hj : j < cs.size), w.cell? ⟨g, o + j, none⟩ = some cs[j]) :
    ∀ (e : Env) (dst : Option Tmp) (x : Operand) (ty' : TypeId) (pos : String) (af : Array Edge) (gd : Option (Nat × Bool)), ev e x = .pointer (some ⟨g, o, none⟩) → xOp P e ⟨dst, .load ty x, ty', pos, af, gd⟩ w = .ok (.value (.agg cs)) w := by
  intro e dst x ty' pos af gd hx
  rw [xOp_eq]
  unfold execOp
  simp only [hx, Instr.loadAt, Instr.sureAddr, Sem.run_bind, Sem.run_pure, Result.andThen_ok, run_loadVar_cells hu hd hi hn h]

theorem ldE {ty : TypeId} {d : TypeDesc} {o n : Nat} {cs : Array Value} (h : Blk w g C t) (hu : P.underlying ty = some d) (hd : isAggD d = true) (hi : (P.info? ty).map (·.size) = some n) (ho : o + n ≤ C.size) (hc : C.extract o (o + n) = cs) :
    ∀ (e : Env) (dst : Option Tmp) (x : Operand) (ty' : TypeId) (pos : String) (af : Array Edge) (gd : Option (Nat × Bool)), ev e x = .pointer (some ⟨g, o, none⟩) → xOp P e ⟨dst, .load ty x, ty', pos, af, gd⟩ w = .ok (.value (.agg cs)) w := by
  intro e dst x ty' pos af gd hx
  rw [xOp_eq]
  unfold execOp
  simp only [hx, Instr.loadAt, Instr.sureAddr, Sem.run_bind, Sem.run_pure, Result.andThen_ok, run_loadVar_seg h hu hd hi ho, hc]
theorem stE {ty : TypeId} {o : Nat} {cs : Array Value} (h : Blk w g C t) (hi : (P.info? ty).map (·.size) = some cs.size) (ho : o + cs.size ≤ C.size) (h1 : ∀ v ∈ cs.toList, v.oneCell' = true) :
    ∀ (e : Env) (dst : Option Tmp) (x y : Operand) (ty' : TypeId) (pos : String) (af : Array Edge) (gd : Option (Nat × Bool)), ev e x = .pointer (some ⟨g, o, none⟩) → ev e y = .agg cs → xOp P e ⟨dst, .store ty x y, ty', pos, af, gd⟩ w = .ok .skip (w.setRow g (segPut C o cs)) := by
  intro e dst x y ty' pos af gd hx hy
  rw [xOp_eq]
  unfold execOp
  simp only [hx, hy, Instr.storeAt, Instr.sureAddr, Sem.run_bind, Sem.run_pure, Result.andThen_ok, run_storeVar_seg h hi ho h1]
/-- The whole of a block. -/
theorem ldAll {ty : TypeId} {d : TypeDesc} {n : Nat} (h : Blk w g C t) (hu : P.underlying ty = some d) (hd : isAggD d = true) (hi : (P.info? ty).map (·.size) = some n) (hn : C.size = n) :
    ∀ (e : Env) (dst : Option Tmp) (x : Operand) (ty' : TypeId) (pos : String) (af : Array Edge) (gd : Option (Nat × Bool)), ev e x = .pointer (some ⟨g, 0, none⟩) → xOp P e ⟨dst, .load ty x, ty', pos, af, gd⟩ w = .ok (.value (.agg C)) w :=
  ldE h hu hd hi (by omega) (by subst hn; simp)
theorem stAll {ty : TypeId} {cs : Array Value} (h : Blk w g C t) (hi : (P.info? ty).map (·.size) = some cs.size) (hs : cs.size = C.size) (h1 : ∀ v ∈ cs.toList, v.oneCell' = true) :
    ∀ (e : Env) (dst : Option Tmp) (x y : Operand) (ty' : TypeId) (pos : String) (af : Array Edge) (gd : Option (Nat × Bool)), ev e x = .pointer (some ⟨g, 0, none⟩) → ev e y = .agg cs → xOp P e ⟨dst, .store ty x y, ty', pos, af, gd⟩ w = .ok .skip (w.setRow g cs) := by
  have := stE (P := P) (o := 0) h hi (by omega) h1
  rw [segPut_all C cs hs] at this
  exact this
theorem alloc_setRow (w : World) (C C' : Array Value) (t : TypeId) : (w.alloc (.cells C t)).setRow w.heap.size C' = w.alloc (.cells C' t) := by
  have h : (w.heap.push (Obj.cells C t)).modify w.heap.size (fun
      | .cells _ elem frozen => .cells C' elem frozen
      | o => o) = w.heap.push (Obj.cells C' t) := by
    apply Array.ext_getElem?
    intro i
    rw [Array.getElem?_modify, Array.getElem?_push, Array.getElem?_push]
    by_cases h : i = w.heap.size
    · subst h; simp
    · rw [if_neg (fun e => h e.symm), if_neg h, if_neg h]
  exact congrArg (fun h => World.mk h w.tape w.drawn w.os w.output) h
/-- A block that was just made, filled. -/
theorem stNew {ty : TypeId} {cs C0 : Array Value} (hi : (P.info? ty).map (·.size) = some cs.size) (hs : cs.size = C0.size) (h1 : ∀ v ∈ cs.toList, v.oneCell' = true) :
    ∀ (w : World) (e : Env) (dst : Option Tmp) (x y : Operand) (ty' : TypeId) (pos : String) (af : Array Edge) (gd : Option (Nat × Bool)), ev e x = .pointer (some ⟨w.heap.size, 0, none⟩) → ev e y = .agg cs → xOp P e ⟨dst, .store ty x y, ty', pos, af, gd⟩ (w.alloc (.cells C0 t)) = .ok .skip (w.alloc (.cells cs t)) := by
  intro w e dst x y ty' pos af gd hx hy
  rw [stAll (Blk.new w C0 t) hi hs h1 e dst x y ty' pos af gd hx hy, alloc_setRow]
theorem bodyCell {fn : Func} {R : Value → World → Prop} {e : Env} (p u : Tmp) {ty t' : TypeId} {g : Nat} {cs : Array Value} {d : TypeDesc} {t : Tag (bodyR P fn R, Exit.ret)} (h : fn.results = #[.cell p ty, .tmp u]) (hp : e p = .pointer (some ⟨g, 0, none⟩)) (hB : Blk w g cs t')
    (hu : P.underlying ty = some d) (hd : isAggD d = true) (hi : (P.info? ty).map (·.size) = some cs.size) (hR : R (.tuple #[.agg cs, e u]) w) : goE (bodyR P fn R) .ret t e w := by
  intro tmps ht
  refine ⟨_, ?_, hR⟩
  rw [results_cell_tmp h tmps P w, ht, ht, hp]
  show ((loadVar ty ⟨g, 0, none⟩).run P w).andThen _ = _
  rw [run_loadVar_row w g t' ty cs (0, 0) d hB hu (by cases d <;> simp_all [isAggD]) hi]
  rfl
end
end Go.Proofs.Ytkljlgahdlgmpaa
