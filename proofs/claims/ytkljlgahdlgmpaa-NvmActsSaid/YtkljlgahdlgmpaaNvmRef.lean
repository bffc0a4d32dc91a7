/- The document's device: in memory, and its functions, one by one. -/
import Derived.Test.YtkljlgahdlgmpaaNvmRef0
import Derived.Test.YtkljlgahdlgmpaaDevN
import Derived.Test.YtkljlgahdlgmpaaTwoN
import Derived.Test.YtkljlgahdlgmpaaBytes
namespace Go.Proofs.Ytkljlgahdlgmpaa
set_option linter.unusedVariables false
set_option linter.unusedSimpArgs false
open Go Go.RowKit

namespace NM
open WM
/-- All that a line may be, the durable one first. -/
def conts (l : Ln) : List (List (BitVec 8)) := (List.range (l.chg.length + 1)).map fun k => undo (l.chg.drop k) l.now
theorem conts_len (l : Ln) : (conts l).length = l.chg.length + 1 := by simp [conts]
theorem conts_at (l : Ln) (k : Nat) (h : k ≤ l.chg.length) : (conts l).getD k [] = undo (l.chg.drop k) l.now := by
  unfold conts
  rw [List.getD_eq_getElem?_getD, List.getElem?_map, List.getElem?_range (by omega)]; rfl
theorem conts_last (l : Ln) : (conts l).getD l.chg.length [] = l.now := by
  rw [conts_at l _ (Nat.le_refl _), List.drop_length]; rfl
theorem conts_store (l : Ln) (p : Nat) (n : BitVec 64) (hp : p + 8 ≤ l.now.length) : conts (l.store p n) = conts l ++ [putM l.now p n] := by
  unfold conts Ln.store
  simp only [List.length_append, List.length_singleton]
  rw [show l.chg.length + 1 + 1 = (l.chg.length + 1) + 1 from rfl, List.range_succ (n := l.chg.length + 1), List.map_append]
  congr 1
  · apply List.map_congr_left
    intro k hk
    have hk' := List.mem_range.1 hk
    rw [List.drop_append_of_le_length (by omega), undo_snoc, put_back _ _ _ hp]
  · simp only [List.map_cons, List.map_nil]
    rw [List.drop_eq_nil_of_le (by simp)]; rfl
theorem conts_fence (l : Ln) (h : 0 < l.mark) (hm : l.mark ≤ l.chg.length + 1) : conts l.fence = (conts l).drop (l.mark - 1) := by
  unfold Ln.fence
  rw [if_pos h]
  apply List.ext_getElem
  · simp [conts]; omega
  · intro i h1 h2
    simp [conts]
theorem conts_crash (l : Ln) (k : Nat) (h : k ≤ l.chg.length) : conts (l.crash k) = [(conts l).getD k []] := by
  rw [conts_at l k h]
  simp [conts, Ln.crash]
  rfl
end NM

/-- A line, in the document's way: all that it may be, and the place of its mark. -/
structure RL where
  L : List (List (BitVec 8))
  mark : Int
instance : Inhabited RL := ⟨⟨[], -1⟩⟩
def lineR (l : NM.Ln) : RL := ⟨NM.conts l, (l.mark : Int) - 1⟩

/-- 64 bytes, outside F. -/
def ContV (w : World) (F : Nat → Prop) (v : Value) (b : List (BitVec 8)) : Prop :=
  ∃ g o c, v = .slice (some ⟨g, o, none⟩) 64 c ∧ ¬ F g ∧ b.length = 64 ∧ SlIn .u8 w (some ⟨g, o, none⟩) b c
/-- A list of such. -/
def LstV (w : World) (F : Nat → Prop) (v : Value) (bs : List (List (BitVec 8))) : Prop :=
  ∃ g o c vs, v = .slice (some ⟨g, o, none⟩) bs.length c ∧ ¬ F g ∧ 0 < bs.length ∧ vs.length = bs.length ∧ VsIn w (some ⟨g, o, none⟩) vs c ∧ ∀ i, i < bs.length → ContV w F (vs.getD i undef) (bs.getD i [])
/-- Lines. -/
def CellsV (w : World) (F : Nat → Prop) (v : Value) (rs : List RL) : Prop :=
  ∃ g o c xs, v = .slice (some ⟨g, o, none⟩) rs.length c ∧ ¬ F g ∧ 0 < rs.length ∧ xs.length = 2 * rs.length ∧ VsAt w (some ⟨g, o, none⟩) xs ∧ rs.length ≤ c ∧ c ≤ 9223372036854775807 ∧
    ∀ i, i < rs.length → LstV w F (xs.getD (2 * i) undef) (rs.getD i default).L ∧ xs.getD (2 * i + 1) undef = .int .i64 (rs.getD i default).mark
section
variable {w w' : World} {F F' : Nat → Prop} {v : Value}
theorem vsAt_lt {g o : Nat} {l : List Value} (h : VsAt w (some ⟨g, o, none⟩) l) (hl : 0 < l.length) : g < w.heap.size := by
  obtain ⟨b, o', h1, h2⟩ := h.cell hl
  have h3 := World.block_lt_of_cell? w _ h2
  simp only [Option.some.injEq, Addr.mk.injEq, and_true] at h1
  simp only at h3; omega
theorem ContV.lt {b : List (BitVec 8)} (h : ContV w F v b) : ∃ g o c, v = .slice (some ⟨g, o, none⟩) 64 c ∧ g < w.heap.size := by
  obtain ⟨g, o, c, rfl, _, hl, hin⟩ := h
  refine ⟨g, o, c, rfl, ?_⟩
  obtain ⟨b', o', h1, h2⟩ := hin.at_.cell (i := 0) (by omega)
  have h3 := World.block_lt_of_cell? w _ h2
  simp only [Option.some.injEq, Addr.mk.injEq, and_true] at h1
  simp only at h3; omega
theorem ContV.next {b : List (BitVec 8)} (h : ContV w F v b) (hb : Below w.heap.size w w') : ContV w' F v b := by
  obtain ⟨g, o, c, hv, hF, hl, hin⟩ := h
  exact ⟨g, o, c, hv, hF, hl, hin.next hb⟩
theorem LstV.next {bs : List (List (BitVec 8))} (h : LstV w F v bs) (hb : Below w.heap.size w w') : LstV w' F v bs := by
  obtain ⟨g, o, c, vs, hv, hF, h0, hl, hin, hc⟩ := h
  exact ⟨g, o, c, vs, hv, hF, h0, hl, hin.next hb, fun i hi => (hc i hi).next hb⟩
theorem CellsV.next {rs : List RL} (h : CellsV w F v rs) (hb : Below w.heap.size w w') : CellsV w' F v rs := by
  obtain ⟨g, o, c, xs, hv, hF, h0, hl, hin, h1, h2, hc⟩ := h
  exact ⟨g, o, c, xs, hv, hF, h0, hl, hin.next hb, h1, h2, fun i hi => ⟨(hc i hi).1.next hb, (hc i hi).2⟩⟩
theorem turn_not (ht : Turn w F w' F') {g : Nat} (hg : g < w.heap.size) (hF : ¬ F g) : ¬ F' g := fun h => by
  rcases ht.new g h with h | h
  · exact hF h
  · omega
theorem ContV.turn {b : List (BitVec 8)} (h : ContV w F v b) (ht : Turn w F w' F') : ContV w' F' v b := by
  obtain ⟨g', o', c', hv', hlt⟩ := h.lt
  obtain ⟨g, o, c, hv, hF, hl, hin⟩ := h
  rw [hv] at hv'
  simp only [Value.slice.injEq, Option.some.injEq, Addr.mk.injEq, and_true, true_and] at hv'
  obtain ⟨⟨rfl, rfl⟩, rfl⟩ := hv'
  exact ⟨g, o, c, hv, turn_not ht hlt hF, hl, hin.mod ht.mod (fun b' ⟨x, hx⟩ => by
    simp only [Option.some.injEq, Addr.mk.injEq, and_true] at hx
    rw [← hx.1]; exact hF)⟩
theorem LstV.turn {bs : List (List (BitVec 8))} (h : LstV w F v bs) (ht : Turn w F w' F') : LstV w' F' v bs := by
  obtain ⟨g, o, c, vs, hv, hF, h0, hl, hin, hc⟩ := h
  refine ⟨g, o, c, vs, hv, turn_not ht (vsAt_lt hin.at_ (by omega)) hF, h0, hl, ⟨hin.at_.mod ht.mod (fun b' ⟨x, hx⟩ => by
    simp only [Option.some.injEq, Addr.mk.injEq, and_true] at hx
    rw [← hx.1]; exact hF), hin.le, hin.max, hin.nil⟩, fun i hi => (hc i hi).turn ht⟩
theorem CellsV.turn {rs : List RL} (h : CellsV w F v rs) (ht : Turn w F w' F') : CellsV w' F' v rs := by
  obtain ⟨g, o, c, xs, hv, hF, h0, hl, hin, h1, h2, hc⟩ := h
  refine ⟨g, o, c, xs, hv, turn_not ht (vsAt_lt hin (by omega)) hF, h0, hl, hin.mod ht.mod (fun b' ⟨x, hx⟩ => by
    simp only [Option.some.injEq, Addr.mk.injEq, and_true] at hx
    rw [← hx.1]; exact hF), h1, h2, fun i hi => ⟨(hc i hi).1.turn ht, (hc i hi).2⟩⟩
end
/-- A device's struct. -/
def devC (cv : Value) (dn : Bool) (lf st : Int) : Array Value := #[cv, .bool dn, .int .i64 lf, .int .i64 st]
theorem rdevI (cv : Value) (dn : Bool) (lf st : Int) : (Try.prog.info? 60).map (·.size) = some (devC cv dn lf st).size := by kernel_rfl
theorem rdevI4 : (Try.prog.info? 60).map (·.size) = some 4 := by kernel_rfl
theorem rcellI2 : (Try.prog.info? 100).map (·.size) = some 2 := by kernel_rfl
theorem rcellI : ∃ i z, Try.prog.info? 100 = some i ∧ i.zero = some z ∧ i.size = 2 ∧ i.bytes = 32 ∧ z.cells.size = 2 := by
  have h : (Try.prog.info? 100).map (fun i => (i.zero.map (fun z => z.cells.size), i.size, i.bytes)) = some (some 2, 2, 32) := by kernel_rfl
  obtain ⟨i, hi, h2⟩ := Option.map_eq_some_iff.1 h
  simp only [Prod.mk.injEq] at h2
  obtain ⟨z, hz, h3⟩ := Option.map_eq_some_iff.1 h2.1
  exact ⟨i, z, hi, hz, h2.2.1, h2.2.2, h3⟩
theorem bodyCell1 {P : Program} {w : World} {fn : Func} {R : Value → World → Prop} {e : Env} (p : Tmp) {ty t' : TypeId} {g : Nat} {cs : Array Value} {d : TypeDesc} {t : Tag (bodyR P fn R, Exit.ret)} (h : fn.results = #[.cell p ty]) (hp : e p = .pointer (some ⟨g, 0, none⟩)) (hB : Blk w g cs t')
    (hu : P.underlying ty = some d) (hd : isAggD d = true) (hi : (P.info? ty).map (·.size) = some cs.size) (hR : R (.agg cs) w) : goE (bodyR P fn R) .ret t e w := by
  intro tmps ht
  refine ⟨_, ?_, hR⟩
  exact results_cell_row h tmps w g t' cs (0, 0) d (by rw [ht]; exact hp) hB hu (by cases d <;> simp_all [isAggD]) hi
/-- A copy of a row, behind an empty one that was just made. -/
theorem copy_lit {t e : TypeId} {i : TypeInfo} {z : Value} {size bytes : Nat} (ht : Try.prog.underlying t = some (.slice e)) (hi : Try.prog.info? e = some i) (hz : i.zero = some z)
    (hsize : i.size = size) (hby : i.bytes = bytes) (hzs : z.cells.size = size) (hsz : 0 < size) (w0 : World) (x : Addr) {m c : Nat} {xs : List Value} (hl : xs.length = m * size)
    (hcell : ∀ j u, xs[j]? = some u → w0.cell? (x.add j) = some u) (h1 : ∀ u ∈ xs, u.oneCell' = true) (hm : 0 < m) (hmx : m ≤ 1000000) (hb : bytes ≤ 1000) :
    ∃ g c' w2, (appendB #[t, t] t #[.slice (some ⟨w0.heap.size, 0, none⟩) 0 0, .slice (some x) m c]).run Try.prog (w0.alloc (.cells #[] e)) = .ok (.slice (some ⟨g, 0, none⟩) m c') w2 ∧ w0.heap.size ≤ g ∧
      w2.ownsRow w0.heap.size e size (.slice (some ⟨g, 0, none⟩) m c') m xs ∧ Below w0.heap.size w0 w2 := by
  have hlit := World.ownsRow_lit (base := w0.heap.size) (e := e) (size := size) w0 #[] 0 (Nat.le_refl _) (by decide) (by simp)
  generalize hw1 : World.alloc w0 _ = w1 at *
  have sz1 : w1.heap.size = w0.heap.size + 1 := by rw [← hw1]; simp
  have b1 : Below w0.heap.size w0 w1 := by rw [← hw1]; exact (Below.refl _ _).alloc (Nat.le_refl _) _
  have hcells : ∀ j u, xs[j]? = some u → w1.cell? (x.add j) = some u := fun j u hu => by
    have h2 := hcell j u hu
    exact (b1.cell (World.block_lt_of_cell? w0 _ h2)).trans h2
  have hbm : (0 + m) * bytes ≤ 140737488355328 := by
    have := Nat.mul_le_mul hmx hb
    rw [Nat.zero_add]; omega
  obtain ⟨v', w2, hr2, hown, hgr, _⟩ := run_append_own (P := Try.prog) w1 w0.heap.size t t e i z size bytes ht hi hz hsize hby hzs hsz _ _ _ hlit x m c xs hl hcells h1 (by unfold maxLen; omega) hbm (by omega)
  rw [Nat.zero_add] at hown
  have b2 : Below w0.heap.size w0 w2 := b1.grown hgr (by omega) (fun j hj => by simp [Value.ownBlock] at hj; omega)
  obtain ⟨g, c', hv, hg⟩ : ∃ g c', v' = .slice (some ⟨g, 0, none⟩) m c' ∧ w0.heap.size ≤ g := by
    rcases hown.2 with ⟨h, h0⟩ | ⟨g, cap, cur, h, hg, _⟩
    · omega
    · exact ⟨g, cap, h, hg⟩
  subst hv
  exact ⟨g, c', w2, hr2, hg, by simpa using hown, b2⟩
theorem owns_row {w : World} {base m cap size : Nat} {e : TypeId} {a : Option Addr} {xs : List Value} (hm : 0 < m) (h : w.ownsRow base e size (.slice a m cap) m xs) :
    ∃ g C, a = some ⟨g, 0, none⟩ ∧ base ≤ g ∧ Blk w g C e ∧ m ≤ cap ∧ cap ≤ 9223372036854775807 ∧ C.size = cap * size ∧ ∀ i, i < xs.length → C[i]? = xs[i]? := by
  obtain ⟨hl, ⟨hv, h0⟩ | ⟨g, cap2, cur, hv, hg, hblk, hcap, hmx, hsz, htake⟩⟩ := h
  · omega
  · simp only [Value.slice.injEq] at hv
    obtain ⟨rfl, _, rfl⟩ := hv
    refine ⟨g, cur, rfl, hg, hblk, by omega, by unfold maxLen at hmx; omega, hsz, fun i hi => ?_⟩
    have h1 := congrArg (fun z : List Value => z[i]?) htake
    simp only [List.getElem?_take, Array.getElem?_toList] at h1
    rw [← h1, if_pos (by omega)]
end Go.Proofs.Ytkljlgahdlgmpaa
