/- LnkA: texts in one: Lnk, Lnk2, ChRecs. -/
import Derived.Test.YtejpophjiinijaaDoorDraws
import Derived.Test.YtejpophjiinijaaDoorRecA
import Derived.Test.YtejpophjiinijaaDoorChainMath
/-! ### Lnk -/
namespace Go.Proofs.YtejpophjiinijaaDoor
set_option linter.unusedVariables false
set_option linter.unusedSimpArgs false
set_option maxRecDepth 100000
open Go Go.RowKit

/-- A link's five cells. -/
def LinkV.cs (k : LinkV) : Array Value := #[.int .i64 k.off, .int .u64 (uv k.stamp), .int .u64 (uv k.nxt), .bool k.gone, .string k.text]
def LinkV.rc (k : LinkV) : Array Value := #[.int .u64 (uv k.stamp), .int .u64 (uv k.nxt), .bool k.gone, .string k.text]
theorem LinkV.cs_size (k : LinkV) : k.cs.size = 5 := rfl
theorem LinkV.rc_size (k : LinkV) : k.rc.size = 4 := rfl
theorem LinkV.cs_one (k : LinkV) : ∀ v ∈ k.cs.toList, v.oneCell' = true := by
  intro v hv
  simp [LinkV.cs] at hv
  rcases hv with rfl | rfl | rfl | rfl | rfl <;> rfl
theorem LinkV.rc_one (k : LinkV) : ∀ v ∈ k.rc.toList, v.oneCell' = true := by
  intro v hv
  simp [LinkV.rc] at hv
  rcases hv with rfl | rfl | rfl | rfl <;> rfl
theorem LinkV.cs_0 (k : LinkV) : k.cs[0]? = some (.int .i64 k.off) := rfl
theorem LinkV.cs_1 (k : LinkV) : k.cs[1]? = some (.int .u64 (uv k.stamp)) := rfl
theorem LinkV.cs_2 (k : LinkV) : k.cs[2]? = some (.int .u64 (uv k.nxt)) := rfl
theorem LinkV.cs_3 (k : LinkV) : k.cs[3]? = some (.bool k.gone) := rfl
theorem LinkV.cs_4 (k : LinkV) : k.cs[4]? = some (.string k.text) := rfl
theorem LinkV.cs_rc (k : LinkV) : k.cs.extract 1 5 = k.rc := by rw [Array.ext_iff]; refine ⟨by simp [LinkV.cs, LinkV.rc], fun i h1 h2 => ?_⟩; simp [LinkV.rc] at h2; match i, h2 with | 0, _ => rfl | 1, _ => rfl | 2, _ => rfl | 3, _ => rfl
theorem LinkV.cs_get (k : LinkV) (j : Nat) (h : j < 5) : k.cs[j]? = some (k.cs[j]'(by rw [k.cs_size]; exact h)) := by simp [k.cs_size, h]
/-- All cells, one behind the other. -/
def flat (l : List LinkV) : List Value := l.flatMap fun k => k.cs.toList
theorem flat_nil : flat [] = [] := rfl
theorem flat_cons (k : LinkV) (l : List LinkV) : flat (k :: l) = k.cs.toList ++ flat l := by simp [flat]
theorem flat_append (a b : List LinkV) : flat (a ++ b) = flat a ++ flat b := by simp [flat]
theorem flat_one (k : LinkV) : flat [k] = k.cs.toList := by simp [flat]
theorem flat_len : ∀ l : List LinkV, (flat l).length = l.length * 5
  | [] => rfl
  | k :: l => by rw [flat_cons, List.length_append, flat_len l, Array.length_toList, k.cs_size, List.length_cons]; omega
theorem flat_one_cell {l : List LinkV} : ∀ v ∈ flat l, v.oneCell' = true := by
  intro v hv
  unfold flat at hv
  obtain ⟨k, _, hk⟩ := List.mem_flatMap.1 hv
  exact k.cs_one v hk
theorem flat_get : ∀ (l : List LinkV) (i : Nat) (h : i < l.length) (j : Nat), j < 5 → (flat l)[i * 5 + j]? = l[i].cs[j]?
  | k :: l, 0, h, j, hj => by
    rw [flat_cons, List.getElem?_append_left (by rw [Array.length_toList, k.cs_size]; omega)]
    simp
  | k :: l, i + 1, h, j, hj => by
    rw [flat_cons, List.getElem?_append_right (by rw [Array.length_toList, k.cs_size]; omega), Array.length_toList, k.cs_size, show (i + 1) * 5 + j - 5 = i * 5 + j by omega]
    exact flat_get l i (by simpa using h) j hj
/-- Links in a slice. -/
structure LksIn (w : World) (a : Option Addr) (l : List LinkV) (cap : Nat) : Prop where
  at_ : l = [] ∨ ∃ b off, a = some ⟨b, off, none⟩ ∧ ∀ i (h : i < l.length), ∀ j (hj : j < l[i].cs.size), w.cell? ⟨b, off + i * 5 + j, none⟩ = some l[i].cs[j]
  le : l.length ≤ cap
  max : cap ≤ 9223372036854775807
  nil : a = none → cap = 0
section
variable {w w' : World} {a : Option Addr} {l : List LinkV} {cap : Nat}
theorem LksIn.next (h : LksIn w a l cap) (hb : Below w.heap.size w w') : LksIn w' a l cap := by
  refine ⟨?_, h.le, h.max, h.nil⟩
  rcases h.at_ with h1 | ⟨b, off, rfl, hc⟩
  · exact .inl h1
  · exact .inr ⟨b, off, rfl, fun i hi j hj => (hb.cell (p := ⟨_, _, none⟩) (World.block_lt_of_cell? w _ (hc i hi j hj))).trans (hc i hi j hj)⟩
theorem LksIn.drew (h : LksIn w a l cap) : LksIn w.drew a l cap := h.next (Below.refl _ _).drew
theorem LksIn.mod {F : Nat → Prop} (h : LksIn w a l cap) (hm : Mod F w w') (hF : ∀ y, a = some y → ¬ F y.block) : LksIn w' a l cap := by
  refine ⟨?_, h.le, h.max, h.nil⟩
  rcases h.at_ with h1 | ⟨b, off, rfl, hc⟩
  · exact .inl h1
  · refine .inr ⟨b, off, rfl, fun i hi j hj => ?_⟩
    have h1 := hc i hi j hj
    rw [← h1]
    exact World.cell?_of_block (w := w) (hm.block b (World.block_lt_of_cell? w _ h1) (hF _ rfl))
theorem LksIn.get (h : LksIn w a l cap) {i : Nat} (hi : i < l.length) : ∃ b off, a = some ⟨b, off, none⟩ ∧ (∀ j (hj : j < l[i].cs.size), w.cell? ⟨b, off + i * 5 + j, none⟩ = some l[i].cs[j]) := by
  rcases h.at_ with h1 | ⟨b, off, ha, hc⟩
  · subst h1; cases hi
  · exact ⟨b, off, ha, hc i hi⟩
/-- The five cells, one by one. -/
theorem LksIn.cells (h : LksIn w a l cap) {i : Nat} (hi : i < l.length) : ∃ b off, a = some ⟨b, off, none⟩ ∧ w.cell? ⟨b, off + i * 5, none⟩ = some (.int .i64 l[i].off) ∧ w.cell? ⟨b, off + i * 5 + 1, none⟩ = some (.int .u64 (uv l[i].stamp)) ∧
    w.cell? ⟨b, off + i * 5 + 1 + 1, none⟩ = some (.int .u64 (uv l[i].nxt)) ∧ w.cell? ⟨b, off + i * 5 + 1 + 2, none⟩ = some (.bool l[i].gone) ∧ w.cell? ⟨b, off + i * 5 + 1 + 3, none⟩ = some (.string l[i].text) := by
  obtain ⟨b, off, ha, hc⟩ := h.get hi
  exact ⟨b, off, ha, hc 0 (by rw [LinkV.cs_size]; omega), hc 1 (by rw [LinkV.cs_size]; omega), hc 2 (by rw [LinkV.cs_size]; omega), hc 3 (by rw [LinkV.cs_size]; omega), hc 4 (by rw [LinkV.cs_size]; omega)⟩
theorem owns_lks {base m : Nat} {e : TypeId} (hl : l.length = m) (h : w.ownsRow base e 5 (.slice a m cap) m (flat l)) : LksIn w a l cap := by
  obtain ⟨_, ⟨hv, h0⟩ | ⟨g, cap2, cur, hv, hg, hblk, hcap, hm, hsz, htake⟩⟩ := h
  · simp only [Value.slice.injEq] at hv
    obtain ⟨rfl, _, rfl⟩ := hv
    exact ⟨.inl (List.eq_nil_of_length_eq_zero (by omega)), by omega, by omega, fun _ => rfl⟩
  · simp only [Value.slice.injEq] at hv
    obtain ⟨rfl, _, rfl⟩ := hv
    have hblk : Blk w g cur e := hblk
    refine ⟨.inr ⟨_, _, rfl, fun i hi j hj => ?_⟩, by omega, by unfold maxLen at hm; omega, fun h => by cases h⟩
    rw [LinkV.cs_size] at hj
    rw [Nat.zero_add, hblk.cell]
    have h1 := congrArg (fun z : List Value => z[i * 5 + j]?) htake
    simp only [List.getElem?_take, show i * 5 + j < m * 5 by omega, if_true, Array.getElem?_toList] at h1
    rw [h1, flat_get l i hi j hj, LinkV.cs_get _ _ hj]
theorem owns_new5 {base m : Nat} {e : TypeId} {xs : List Value} (h : w.ownsRow base e 5 (.slice a m cap) m xs) : ∀ y, a = some y → base ≤ y.block ∧ y.block < w.heap.size := by
  intro y hy
  obtain ⟨_, ⟨hv, h0⟩ | ⟨g, cap2, cur, hv, hg, hblk, _⟩⟩ := h
  · simp only [Value.slice.injEq] at hv
    rw [hv.1] at hy; cases hy
  · simp only [Value.slice.injEq] at hv
    rw [hv.1] at hy; cases hy
    exact ⟨hg, Blk.lt hblk⟩
end
/-- What is asked of a type of links. -/
def LkInfo (e : TypeId) : Prop := (Tryd.prog.info? e).map (fun i => (i.zero.map (fun z => z.cells.size), i.size, i.bytes)) = some (some 5, 5, 48)
theorem LkInfo.get {e : TypeId} (h : LkInfo e) : ∃ i z, Tryd.prog.info? e = some i ∧ i.zero = some z ∧ i.size = 5 ∧ i.bytes = 48 ∧ z.cells.size = 5 := by
  obtain ⟨i, hi, h2⟩ := Option.map_eq_some_iff.1 h
  simp only [Prod.mk.injEq] at h2
  obtain ⟨z, hz, h3⟩ := Option.map_eq_some_iff.1 h2.1
  exact ⟨i, z, hi, hz, h2.2.1, h2.2.2, h3⟩
theorem lkI_ours : LkInfo 52 := by unfold LkInfo; kernel_rfl
theorem lkI_ref : LkInfo 28 := by unfold LkInfo; kernel_rfl
theorem LkInfo.five {e : TypeId} (h : LkInfo e) : (Tryd.prog.info? e).map (·.size) = some 5 := by
  obtain ⟨i, z, hi, _, hs, _⟩ := h.get
  rw [hi]; exact congrArg some hs
theorem push_lk {t e : TypeId} (ht : Tryd.prog.underlying t = some (.slice e)) (hI : LkInfo e) {w0 w : World} {a : Option Addr} {len c : Nat} {l : List LinkV} (base : Nat) (hown : w.ownsRow base e 5 (.slice a len c) len (flat l)) (hl : len ≤ 1000000) (hbase : base ≤ w.heap.size) (hb : Below base w0 w) (k : LinkV) :
    ∃ g c2 w2, (appendB #[t, t] t #[.slice a len c, .slice (some ⟨w.heap.size, 0, none⟩) 1 1]).run Tryd.prog (w.alloc (.cells k.cs e)) = .ok (.slice (some ⟨g, 0, none⟩) (len + 1) c2) w2 ∧
      w2.ownsRow base e 5 (.slice (some ⟨g, 0, none⟩) (len + 1) c2) (len + 1) (flat (l ++ [k])) ∧ Below base w0 w2 ∧ base ≤ w2.heap.size ∧ (w.alloc (.cells k.cs e)).grownBy w2 (Value.ownBlock (.slice a len c)) := by
  have ha : (w.alloc (.cells k.cs e)).heap.size = w.heap.size + 1 := by simp
  obtain ⟨ti, tz, hti, htz, hts, htb, htc⟩ := hI.get
  obtain ⟨g, c2, w2, hr2, hown2, hgr, hwhere⟩ := run_append_where (P := Tryd.prog) (w := w.alloc (.cells k.cs e)) base (t := t) (ty := t) ht hti htz hts htb htc (by decide) (hown.alloc (.cells k.cs e)) ⟨w.heap.size, 0, none⟩ (m := 1) (c := 1) (news := k.cs.toList) rfl
    (fun j u hu => by rw [Addr.add_lit, Nat.zero_add, (Blk.new _ _ _).cell]; simpa using hu) k.cs_one (by decide) (by omega) (by omega) (by omega)
  have hb2 := (hb.alloc hbase (.cells k.cs e)).grown hgr (by omega) (fun j hj => (hown.lt j hj).1)
  have hsz := hgr.size
  refine ⟨g, c2, w2, hr2, ?_, hb2, by omega, hgr⟩
  rw [flat_append, flat_one]; exact hown2
theorem recI_ours : (Tryd.prog.info? 50).map (·.size) = some 4 := by kernel_rfl
theorem recI_ref : (Tryd.prog.info? 26).map (·.size) = some 4 := by kernel_rfl
section
set_option linter.unusedSimpArgs false
set_option maxHeartbeats 2000000

theorem theirs_calls (a : Option Addr) (l : List LinkV) (cap : Nat) (w0 : World) (h : LksIn w0 a l cap) (hl : l.length ≤ 1000000) :
    Ret Tryd.prog 12 #[.slice a l.length cap] w0 fun v w' => ∃ a' c', v = .slice a' l.length c' ∧ LksIn w' a' l c' ∧ Below w0.heap.size w0 w' ∧ (∀ y, a' = some y → w0.heap.size ≤ y.block ∧ y.block < w'.heap.size) := by
  have bel0 := Below.refl w0.heap.size w0
  refine ret_of (args := [_]) _ Tryd.func12 rfl Tryd.ntmps12 (by simp) ?_
  simp -implicitDefEqProofs [go_sem]
  refine wpE_loop (fun e' w' => ∃ (k : Nat) (a' : Option Addr) (c' : Nat), k ≤ l.length ∧ e' 3 = .slice a' k c' ∧ e' 6 = .slice a l.length cap ∧ e' 7 = .int .i64 l.length ∧ e' 8 = .int .i64 k ∧
    w'.ownsRow w0.heap.size 52 5 (.slice a' k c') k (flat (l.take k)) ∧ Below w0.heap.size w0 w') (fun e' _ => l.length - (intOf (e' 8)).toNat) ?_ ?_
  · refine ⟨0, none, 0, by omega, ?_⟩
    simp -implicitDefEqProofs [go_sem]
    exact ⟨World.ownsRow_nil _ _ _ _, bel0⟩
  · rintro e' w1 ⟨k, a', c', hk, g3, g6, g7, g8, hown, bel1⟩
    by_cases hlt : k < l.length
    · have hlt' : (k : Int) < l.length := by omega
      have hwk := IntWalk.i64_in ((k : Int) + 1) (by have := h.max; have := h.le; omega)
      obtain ⟨b, off, rfl, hcell⟩ := (h.next bel1).get hlt
      have hld := ldCells (P := Tryd.prog) (w := w1) (g := b) (o := off + k * 5) (cs := l[k].cs) Tryd.underlying28 rfl lkI_ref.five rfl hcell
      have hst := stNew (P := Tryd.prog) (t := 28) (cs := l[k].cs) (C0 := #[.int .i64 0, .int .u64 0, .int .u64 0, .bool false, .string ⟨#[]⟩]) lkI_ref.five rfl (l[k].cs_one)
      simp -implicitDefEqProofs [go_sem, g3, g6, g7, g8, hlt, hlt', ↓hld, ↓hst]
      generalize hw2 : World.alloc w1 _ = w2 at *
      obtain ⟨hB2, b2, sz2⟩ := new_facts hw2
      have bel2 := bel1.trans (b2.mono bel1.size)
      replace hown := hown.alloc (.cells l[k].cs 28)
      rw [hw2] at hown
      have hld2 := ldE (P := Tryd.prog) (o := 1) (n := 4) (cs := l[k].rc) hB2 Tryd.underlying26 rfl recI_ref (by rw [LinkV.cs_size]; exact Nat.le_refl _) (l[k].cs_rc)
      obtain ⟨g, c2, w3, hr, hown3, bel3, hsz3, -⟩ := push_lk (t := 31) (e := 52) Tryd.underlying31 lkI_ours w0.heap.size hown (by omega) bel2.size bel2 l[k]
      simp only [LinkV.cs] at hr
      simp -implicitDefEqProofs [go_sem, g3, g6, g7, g8, hB2.cell, LinkV.cs_0, ↓hld2, LinkV.rc, hr]
      refine goE_round ⟨k + 1, some ⟨g, 0, none⟩, c2, by omega, ?_⟩ ?_
      · simp -implicitDefEqProofs [go_sem, g3, g6, g7, g8, hwk]
        refine ⟨?_, bel3⟩
        rw [List.take_succ_eq_append_getElem hlt]
        exact hown3
      · simp -implicitDefEqProofs [go_sem, intOf, g8, hwk]; omega
    · have hk' : k = l.length := by omega
      subst hk'
      rw [List.take_length] at hown
      simp -implicitDefEqProofs [go_sem, g3, g6, g7, g8]
      refine body_tmp 2 rfl ?_
      simp -implicitDefEqProofs [go_sem]
      exact ⟨_, _, ⟨rfl, rfl⟩, owns_lks rfl hown, bel1, owns_new5 hown⟩

theorem ours_calls (a : Option Addr) (l : List LinkV) (cap : Nat) (w0 : World) (h : LksIn w0 a l cap) (hl : l.length ≤ 1000000) :
    Ret Tryd.prog 24 #[.slice a l.length cap] w0 fun v w' => ∃ a' c', v = .slice a' l.length c' ∧ LksIn w' a' l c' ∧ Below w0.heap.size w0 w' ∧ (∀ y, a' = some y → w0.heap.size ≤ y.block ∧ y.block < w'.heap.size) := by
  have bel0 := Below.refl w0.heap.size w0
  refine ret_of (args := [_]) _ Tryd.func24 rfl Tryd.ntmps24 (by simp) ?_
  simp -implicitDefEqProofs [go_sem]
  refine wpE_loop (fun e' w' => ∃ (k : Nat) (a' : Option Addr) (c' : Nat), k ≤ l.length ∧ e' 3 = .slice a' k c' ∧ e' 6 = .slice a l.length cap ∧ e' 7 = .int .i64 l.length ∧ e' 8 = .int .i64 k ∧
    w'.ownsRow w0.heap.size 28 5 (.slice a' k c') k (flat (l.take k)) ∧ Below w0.heap.size w0 w') (fun e' _ => l.length - (intOf (e' 8)).toNat) ?_ ?_
  · refine ⟨0, none, 0, by omega, ?_⟩
    simp -implicitDefEqProofs [go_sem]
    exact ⟨World.ownsRow_nil _ _ _ _, bel0⟩
  · rintro e' w1 ⟨k, a', c', hk, g3, g6, g7, g8, hown, bel1⟩
    by_cases hlt : k < l.length
    · have hlt' : (k : Int) < l.length := by omega
      have hwk := IntWalk.i64_in ((k : Int) + 1) (by have := h.max; have := h.le; omega)
      obtain ⟨b, off, rfl, hcell⟩ := (h.next bel1).get hlt
      have hld := ldCells (P := Tryd.prog) (w := w1) (g := b) (o := off + k * 5) (cs := l[k].cs) Tryd.underlying52 rfl lkI_ours.five rfl hcell
      have hst := stNew (P := Tryd.prog) (t := 52) (cs := l[k].cs) (C0 := #[.int .i64 0, .int .u64 0, .int .u64 0, .bool false, .string ⟨#[]⟩]) lkI_ours.five rfl (l[k].cs_one)
      simp -implicitDefEqProofs [go_sem, g3, g6, g7, g8, hlt, hlt', ↓hld, ↓hst]
      generalize hw2 : World.alloc w1 _ = w2 at *
      obtain ⟨hB2, b2, sz2⟩ := new_facts hw2
      have bel2 := bel1.trans (b2.mono bel1.size)
      replace hown := hown.alloc (.cells l[k].cs 52)
      rw [hw2] at hown
      have hld2 := ldE (P := Tryd.prog) (o := 1) (n := 4) (cs := l[k].rc) hB2 Tryd.underlying50 rfl recI_ours (by rw [LinkV.cs_size]; exact Nat.le_refl _) (l[k].cs_rc)
      obtain ⟨g, c2, w3, hr, hown3, bel3, hsz3, -⟩ := push_lk (t := 22) (e := 28) Tryd.underlying22 lkI_ref w0.heap.size hown (by omega) bel2.size bel2 l[k]
      simp only [LinkV.cs] at hr
      simp -implicitDefEqProofs [go_sem, g3, g6, g7, g8, hB2.cell, LinkV.cs_0, ↓hld2, LinkV.rc, hr]
      refine goE_round ⟨k + 1, some ⟨g, 0, none⟩, c2, by omega, ?_⟩ ?_
      · simp -implicitDefEqProofs [go_sem, g3, g6, g7, g8, hwk]
        refine ⟨?_, bel3⟩
        rw [List.take_succ_eq_append_getElem hlt]
        exact hown3
      · simp -implicitDefEqProofs [go_sem, intOf, g8, hwk]; omega
    · have hk' : k = l.length := by omega
      subst hk'
      rw [List.take_length] at hown
      simp -implicitDefEqProofs [go_sem, g3, g6, g7, g8]
      refine body_tmp 2 rfl ?_
      simp -implicitDefEqProofs [go_sem]
      exact ⟨_, _, ⟨rfl, rfl⟩, owns_lks rfl hown, bel1, owns_new5 hown⟩
end
end Go.Proofs.YtejpophjiinijaaDoor

/-! ### Lnk2 -/
namespace Go.Proofs.YtejpophjiinijaaDoor
set_option linter.unusedVariables false
set_option linter.unusedSimpArgs false
set_option maxRecDepth 100000
open Go Go.RowKit

theorem see_drop {l : List LinkV} {k : Nat} (at_ : BitVec 64) (hk : k < l.length) : seeP (l.drop k) at_ = if at_.toNat < l[k].stamp.toNat then seeP (l.drop (k + 1)) at_ else if l[k].gone then (ByteArray.empty, false) else (l[k].text, true) := by
  rw [List.drop_eq_getElem_cons hk, see_more]
theorem need_drop {l : List LinkV} {k : Nat} (low : BitVec 64) (hk : k < l.length) : needP low (l.drop k) = if low.toNat < l[k].stamp.toNat then needP low (l.drop (k + 1)) + 1 else if l[k].gone then 0 else 1 := by
  rw [List.drop_eq_getElem_cons hk]; rfl
theorem fold_take {l : List LinkV} {k : Nat} (low : BitVec 64) (hk : k < l.length) : (l.take (k + 1)).foldl (stepN low) (0, false) = stepN low ((l.take k).foldl (stepN low) (0, false)) l[k] := by
  rw [List.take_succ_eq_append_getElem hk, List.foldl_append]; rfl
theorem fold_le (low : BitVec 64) : ∀ (l : List LinkV) (a : Nat × Bool), (l.foldl (stepN low) a).1 ≤ a.1 + l.length
  | [], a => Nat.le_refl _
  | k :: l, a => by
    rw [List.foldl_cons]
    have h := fold_le low l (stepN low a k)
    have h2 : (stepN low a k).1 ≤ a.1 + 1 := by
      unfold stepN
      split
      · exact Nat.le_refl _
      · split
        · omega
        · dsimp only; split <;> omega
    simp only [List.length_cons]; omega
section
set_option linter.unusedSimpArgs false
set_option maxHeartbeats 2000000
variable {a : Option Addr} {l : List LinkV} {cap : Nat} {w0 : World}
theorem chSee_calls (at_ : BitVec 64) (h : LksIn w0 a l cap) :
    Ret Tryd.prog 11 #[.slice a l.length cap, .int .u64 (uv at_)] w0 fun v w' => v = .tuple #[.string (seeP l at_).1, .bool (seeP l at_).2] ∧ Below w0.heap.size w0 w' := by
  have bel0 := Below.refl w0.heap.size w0
  have hmax := h.max
  have hle := h.le
  refine ret_of (args := [_, _]) _ Tryd.func11 rfl Tryd.ntmps11 (by simp) ?_
  simp -implicitDefEqProofs [go_sem]
  refine wpE_loop (fun e' w' => ∃ k : Nat, k ≤ l.length ∧ seeP (l.drop k) at_ = seeP l at_ ∧ e' 1 = .int .u64 (uv at_) ∧ e' 8 = .slice a l.length cap ∧ e' 9 = .int .i64 l.length ∧ e' 10 = .int .i64 k ∧ Below w0.heap.size w0 w') (fun e' _ => l.length - (intOf (e' 10)).toNat) ?_ ?_
  · refine ⟨0, by omega, by rw [List.drop_zero], ?_⟩
    simp -implicitDefEqProofs [go_sem]
    exact bel0
  · rintro e' w1 ⟨k, hk, hs, g1, g8, g9, g10, bel1⟩
    by_cases hlt : k < l.length
    · have hlt' : (k : Int) < l.length := by omega
      have hwk := IntWalk.i64_in ((k : Int) + 1) (by omega)
      obtain ⟨b, off, rfl, hcell⟩ := (h.next bel1).get hlt
      have hld := ldCells (P := Tryd.prog) (w := w1) (g := b) (o := off + k * 5) (cs := l[k].cs) Tryd.underlying52 rfl lkI_ours.five rfl hcell
      have hst := stNew (P := Tryd.prog) (t := 52) (cs := l[k].cs) (C0 := #[.int .i64 0, .int .u64 0, .int .u64 0, .bool false, .string ⟨#[]⟩]) lkI_ours.five rfl (l[k].cs_one)
      rw [see_drop at_ hlt] at hs
      simp -implicitDefEqProofs [go_sem, g1, g8, g9, g10, hlt, hlt', ↓hld, ↓hst]
      generalize hw2 : World.alloc w1 _ = w2 at *
      obtain ⟨hB2, b2, sz2⟩ := new_facts hw2
      have bel2 := bel1.trans (b2.mono bel1.size)
      by_cases h1 : l[k].stamp ≤ at_
      · rw [if_neg (by rw [BitVec.le_def] at h1; omega)] at hs
        cases hg : l[k].gone
        · rw [hg, if_neg (by decide)] at hs
          simp -implicitDefEqProofs [go_sem, g1, g8, g9, g10, hB2.cell, LinkV.cs_1, LinkV.cs_3, LinkV.cs_4, hg, h1]
          refine body_tmp2 4 5 rfl ?_
          simp -implicitDefEqProofs [go_sem, ← hs]
          exact bel2
        · rw [hg, if_pos rfl] at hs
          have hs' : seeP l at_ = (⟨#[]⟩, false) := hs.symm
          simp -implicitDefEqProofs [go_sem, g1, g8, g9, g10, hB2.cell, LinkV.cs_1, LinkV.cs_3, LinkV.cs_4, hg, h1]
          refine body_tmp2 4 5 rfl ?_
          simp -implicitDefEqProofs [go_sem, hs']
          exact bel2
      · rw [if_pos (by rw [BitVec.le_def] at h1; omega)] at hs
        simp -implicitDefEqProofs [go_sem, g1, g8, g9, g10, hB2.cell, LinkV.cs_1, LinkV.cs_3, LinkV.cs_4, h1]
        refine goE_round ⟨k + 1, by omega, hs, ?_⟩ ?_
        · simp -implicitDefEqProofs [go_sem, g1, g8, g9, hwk]; exact bel2
        · simp -implicitDefEqProofs [go_sem, intOf, g10, hwk]; omega
    · have hk' : k = l.length := by omega
      subst hk'
      rw [List.drop_length] at hs
      simp -implicitDefEqProofs [go_sem, g1, g8, g9, g10]
      refine body_tmp2 4 5 rfl ?_
      have hs' : seeP l at_ = (⟨#[]⟩, false) := hs.symm
      simp -implicitDefEqProofs [go_sem, hs']
      exact bel1
theorem rsee_calls (at_ : BitVec 64) (h : LksIn w0 a l cap) :
    Ret Tryd.prog 13 #[.slice a l.length cap, .int .u64 (uv at_)] w0 fun v w' => v = .tuple #[.string (seeP l at_).1, .bool (seeP l at_).2] ∧ w' = w0 := by
  have hmax := h.max
  have hle := h.le
  refine ret_of (args := [_, _]) _ Tryd.func13 rfl Tryd.ntmps13 (by simp) ?_
  simp -implicitDefEqProofs [go_sem]
  refine wpE_loop (fun e' w' => ∃ k : Nat, k ≤ l.length ∧ seeP (l.drop k) at_ = seeP l at_ ∧ e' 0 = .slice a l.length cap ∧ e' 1 = .int .u64 (uv at_) ∧ e' 6 = .int .i64 k ∧ w' = w0) (fun e' _ => l.length - (intOf (e' 6)).toNat) ?_ ?_
  · refine ⟨0, by omega, by rw [List.drop_zero], ?_⟩
    simp -implicitDefEqProofs [go_sem]
  · rintro e' w1 ⟨k, hk, hs, g0, g1, g6, rfl⟩
    by_cases hlt : k < l.length
    · have hlt' : (k : Int) < l.length := by omega
      have hwk := IntWalk.i64_in ((k : Int) + 1) (by omega)
      obtain ⟨b, off, rfl, c0, c1, c2, c3, c4⟩ := h.cells hlt
      rw [see_drop at_ hlt] at hs
      by_cases h1 : l[k].stamp ≤ at_
      · rw [if_neg (by rw [BitVec.le_def] at h1; omega)] at hs
        cases hg : l[k].gone
        · rw [hg] at hs c3
          have hs' : seeP l at_ = (l[k].text, true) := hs.symm
          simp -implicitDefEqProofs [go_sem, g0, g1, g6, hlt, hlt', c1, c3, c4, h1]
          refine body_tmp2 4 5 rfl ?_
          simp -implicitDefEqProofs [go_sem, hs']
        · rw [hg] at hs c3
          have hs' : seeP l at_ = (⟨#[]⟩, false) := hs.symm
          simp -implicitDefEqProofs [go_sem, g0, g1, g6, hlt, hlt', c1, c3, c4, h1]
          refine body_tmp2 4 5 rfl ?_
          simp -implicitDefEqProofs [go_sem, hs']
      · rw [if_pos (by rw [BitVec.le_def] at h1; omega)] at hs
        simp -implicitDefEqProofs [go_sem, g0, g1, g6, hlt, hlt', c1, c3, c4, h1]
        refine goE_round ⟨k + 1, by omega, hs, ?_⟩ ?_
        · simp -implicitDefEqProofs [go_sem, g0, g1, hwk]
        · simp -implicitDefEqProofs [go_sem, intOf, g6, hwk]; omega
    · have hk' : k = l.length := by omega
      subst hk'
      rw [List.drop_length] at hs
      simp -implicitDefEqProofs [go_sem, g0, g1, g6]
      refine body_tmp2 4 5 rfl ?_
      have hs' : seeP l at_ = (⟨#[]⟩, false) := hs.symm
      simp -implicitDefEqProofs [go_sem, hs']
theorem chNeed_calls (low : BitVec 64) (h : LksIn w0 a l cap) :
    Ret Tryd.prog 15 #[.slice a l.length cap, .int .u64 (uv low)] w0 fun v w' => v = .int .i64 ((needA low l).1 : Int) ∧ Below w0.heap.size w0 w' := by
  have bel0 := Below.refl w0.heap.size w0
  have hmax := h.max
  have hle := h.le
  refine ret_of (args := [_, _]) _ Tryd.func15 rfl Tryd.ntmps15 (by simp) ?_
  simp -implicitDefEqProofs [go_sem]
  refine wpE_loop (fun e' w' => ∃ (k n : Nat) (met : Bool), k ≤ l.length ∧ (l.take k).foldl (stepN low) (0, false) = (n, met) ∧ e' 1 = .int .u64 (uv low) ∧ e' 5 = .int .i64 n ∧ e' 6 = .bool met ∧ e' 9 = .slice a l.length cap ∧ e' 10 = .int .i64 l.length ∧ e' 11 = .int .i64 k ∧ Below w0.heap.size w0 w') (fun e' _ => l.length - (intOf (e' 11)).toNat) ?_ ?_
  · refine ⟨0, 0, false, by omega, by rw [List.take_zero]; rfl, ?_⟩
    simp -implicitDefEqProofs [go_sem]
    exact bel0
  · rintro e' w1 ⟨k, n, met, hk, hs, g1, g5, g6, g9, g10, g11, bel1⟩
    by_cases hlt : k < l.length
    · have hlt' : (k : Int) < l.length := by omega
      have hn := fold_le low (l.take k) (0, false)
      rw [hs, List.length_take] at hn
      have hwk := IntWalk.i64_in ((k : Int) + 1) (by omega)
      have hwn := IntWalk.i64_in ((n : Int) + 1) (by omega)
      obtain ⟨b, off, rfl, hcell⟩ := (h.next bel1).get hlt
      have hld := ldCells (P := Tryd.prog) (w := w1) (g := b) (o := off + k * 5) (cs := l[k].cs) Tryd.underlying52 rfl lkI_ours.five rfl hcell
      have hst := stNew (P := Tryd.prog) (t := 52) (cs := l[k].cs) (C0 := #[.int .i64 0, .int .u64 0, .int .u64 0, .bool false, .string ⟨#[]⟩]) lkI_ours.five rfl (l[k].cs_one)
      have hs2 := fold_take low hlt
      rw [hs] at hs2
      unfold stepN at hs2
      simp -implicitDefEqProofs [go_sem, g1, g5, g6, g9, g10, g11, hlt, hlt', ↓hld, ↓hst]
      generalize hw2 : World.alloc w1 _ = w2 at *
      obtain ⟨hB2, b2, sz2⟩ := new_facts hw2
      have bel2 := bel1.trans (b2.mono bel1.size)
      by_cases h1 : low < l[k].stamp
      · rw [if_pos (by rw [BitVec.lt_def] at h1; exact h1)] at hs2
        simp -implicitDefEqProofs [go_sem, g1, g5, g6, g9, g10, g11, hB2.cell, LinkV.cs_1, LinkV.cs_3, h1, hwn]
        refine goE_round ⟨k + 1, n + 1, met, by omega, hs2, ?_⟩ ?_
        · simp -implicitDefEqProofs [go_sem, g1, g5, g6, g9, g10, hwk]; exact bel2
        · simp -implicitDefEqProofs [go_sem, intOf, g11, hwk]; omega
      · rw [if_neg (by rw [BitVec.lt_def] at h1; exact h1)] at hs2
        cases met
        · rw [if_neg (show ¬ ((n, false) : Nat × Bool).2 = true from fun h => by cases h)] at hs2
          cases hg : l[k].gone
          · rw [hg] at hs2
            simp -implicitDefEqProofs [go_sem, g1, g5, g6, g9, g10, g11, hB2.cell, LinkV.cs_1, LinkV.cs_3, h1, hg, hwn]
            refine goE_round ⟨k + 1, n + 1, true, by omega, hs2, ?_⟩ ?_
            · simp -implicitDefEqProofs [go_sem, g1, g5, g6, g9, g10, hwk]; exact bel2
            · simp -implicitDefEqProofs [go_sem, intOf, g11, hwk]; omega
          · rw [hg] at hs2
            simp -implicitDefEqProofs [go_sem, g1, g5, g6, g9, g10, g11, hB2.cell, LinkV.cs_1, LinkV.cs_3, h1, hg, hwn]
            refine goE_round ⟨k + 1, n, true, by omega, hs2, ?_⟩ ?_
            · simp -implicitDefEqProofs [go_sem, g1, g5, g6, g9, g10, hwk]; exact bel2
            · simp -implicitDefEqProofs [go_sem, intOf, g11, hwk]; omega
        · rw [if_pos rfl] at hs2
          simp -implicitDefEqProofs [go_sem, g1, g5, g6, g9, g10, g11, hB2.cell, LinkV.cs_1, LinkV.cs_3, h1, hwn]
          refine goE_round ⟨k + 1, n, true, by omega, hs2, ?_⟩ ?_
          · simp -implicitDefEqProofs [go_sem, g1, g5, g6, g9, g10, hwk]; exact bel2
          · simp -implicitDefEqProofs [go_sem, intOf, g11, hwk]; omega
    · have hk' : k = l.length := by omega
      subst hk'
      rw [List.take_length] at hs
      simp -implicitDefEqProofs [go_sem, g1, g5, g9, g10, g11]
      refine body_tmp 4 rfl ?_
      simp -implicitDefEqProofs [go_sem, needA, hs]
      exact bel1
theorem rneed_calls (low : BitVec 64) (h : LksIn w0 a l cap) :
    Ret Tryd.prog 16 #[.slice a l.length cap, .int .u64 (uv low)] w0 fun v w' => v = .int .i64 (needP low l : Int) ∧ w' = w0 := by
  have hmax := h.max
  have hle := h.le
  refine ret_of (args := [_, _]) _ Tryd.func16 rfl Tryd.ntmps16 (by simp) ?_
  simp -implicitDefEqProofs [go_sem]
  refine wpE_loop (fun e' w' => ∃ k : Nat, k ≤ l.length ∧ k + needP low (l.drop k) = needP low l ∧ e' 0 = .slice a l.length cap ∧ e' 1 = .int .u64 (uv low) ∧ e' 5 = .int .i64 k ∧ w' = w0) (fun e' _ => l.length - (intOf (e' 5)).toNat) ?_ ?_
  · refine ⟨0, by omega, by rw [List.drop_zero, Nat.zero_add], ?_⟩
    simp -implicitDefEqProofs [go_sem]
  · rintro e' w1 ⟨k, hk, hs, g0, g1, g5, rfl⟩
    by_cases hlt : k < l.length
    · have hlt' : (k : Int) < l.length := by omega
      have hwk := IntWalk.i64_in ((k : Int) + 1) (by omega)
      obtain ⟨b, off, rfl, c0, c1, c2, c3, c4⟩ := h.cells hlt
      rw [need_drop low hlt] at hs
      by_cases h1 : low < l[k].stamp
      · rw [if_pos (by rw [BitVec.lt_def] at h1; exact h1)] at hs
        simp -implicitDefEqProofs [go_sem, g0, g1, g5, hlt, hlt', c1, c3, h1, hwk]
        refine goE_round ⟨k + 1, by omega, by omega, ?_⟩ ?_
        · simp -implicitDefEqProofs [go_sem, g0, g1]
        · simp -implicitDefEqProofs [go_sem, intOf, g5, hwk]; omega
      · rw [if_neg (by rw [BitVec.lt_def] at h1; exact h1)] at hs
        cases hg : l[k].gone
        · rw [hg] at hs c3
          have hs' : needP low l = k + 1 := hs.symm
          simp -implicitDefEqProofs [go_sem, g0, g1, g5, hlt, hlt', c1, c3, h1, hwk]
          refine body_tmp 4 rfl ?_
          simp -implicitDefEqProofs [go_sem, hs']
        · rw [hg] at hs c3
          have hs' : needP low l = k := hs.symm
          simp -implicitDefEqProofs [go_sem, g0, g1, g5, hlt, hlt', c1, c3, h1, hwk]
          refine body_tmp 4 rfl ?_
          simp -implicitDefEqProofs [go_sem, hs']
    · have hk' : k = l.length := by omega
      subst hk'
      rw [List.drop_length] at hs
      have hs' : needP low l = l.length := hs.symm
      simp -implicitDefEqProofs [go_sem, g0, g1, g5]
      refine body_tmp 4 rfl ?_
      simp -implicitDefEqProofs [go_sem, hs']
/-- Do stamps fall, up to the k-th? -/
theorem fall_iff : ∀ l : List LinkV, FallL l ↔ ∀ i (h : i + 1 < l.length), l[i+1].stamp.toNat < l[i].stamp.toNat
  | [] => ⟨fun _ i h => by simp at h, fun _ => trivial⟩
  | [x] => ⟨fun _ i h => by simp at h, fun _ => trivial⟩
  | x :: y :: l => by
    rw [show FallL (x :: y :: l) = (y.stamp.toNat < x.stamp.toNat ∧ FallL (y :: l)) from rfl, fall_iff (y :: l)]
    constructor
    · rintro ⟨h1, h2⟩ i hi
      cases i with
      | zero => exact h1
      | succ i => exact h2 i (by simpa using hi)
    · intro h
      exact ⟨h 0 (by simp), fun i hi => h (i + 1) (by simpa using hi)⟩
def decFall : (l : List LinkV) → Decidable (FallL l)
  | [] => isTrue trivial
  | [_] => isTrue trivial
  | x :: y :: l => @instDecidableAnd (y.stamp.toNat < x.stamp.toNat) (FallL (y :: l)) _ (decFall (y :: l))
instance : DecidablePred FallL := decFall
theorem chFall_calls (h : LksIn w0 a l cap) :
    Ret Tryd.prog 14 #[.slice a l.length cap] w0 fun v w' => v = .bool (decide (FallL l)) ∧ Below w0.heap.size w0 w' := by
  have bel0 := Below.refl w0.heap.size w0
  have hmax := h.max
  have hle := h.le
  refine ret_of (args := [_]) _ Tryd.func14 rfl Tryd.ntmps14 (by simp) ?_
  simp -implicitDefEqProofs [go_sem]
  refine wpE_loop (fun e' w' => ∃ k : Nat, (∀ i (h : i + 1 < l.length), i + 1 < k → l[i+1].stamp.toNat < l[i].stamp.toNat) ∧ 1 ≤ k ∧ k ≤ l.length + 1 ∧ e' 0 = .slice a l.length cap ∧ e' 3 = .int .i64 k ∧ Below w0.heap.size w0 w') (fun e' _ => l.length - (intOf (e' 3)).toNat) ?_ ?_
  · refine ⟨1, fun i _ h => by omega, by omega, by omega, ?_⟩
    simp -implicitDefEqProofs [go_sem]
    exact bel0
  · rintro e' w1 ⟨k, hs, hk1, hk, g0, g3, bel1⟩
    by_cases hlt : k < l.length
    · have hlt' : (k : Int) < l.length := by omega
      have hwk := IntWalk.i64_in ((k : Int) + 1) (by omega)
      have hwp := IntWalk.i64_in ((k : Int) - 1) (by omega)
      obtain ⟨q, hK⟩ : ∃ q, k = q + 1 := ⟨k - 1, by omega⟩
      have hq2 : (k : Int) - 1 = (q : Int) := by omega
      rw [hq2] at hwp
      have hL := (h.next bel1).drew
      have bel2 := bel1.drew
      obtain ⟨b, off, rfl, c0, c1, c2, c3, c4⟩ := hL.cells hlt
      obtain ⟨b', off', he, d0, d1, d2, d3, d4⟩ := hL.cells (i := q) (by omega)
      simp only [Option.some.injEq, Addr.mk.injEq, and_true] at he
      obtain ⟨rfl, rfl⟩ := he
      simp -implicitDefEqProofs [go_sem, g0, g3, hlt, hlt']
      refine drawE_still mixed (by decide +kernel) ?_
      generalize World.drew w1 = w2 at *
      have hq0 : q < l.length := by omega
      by_cases h1 : l[q].stamp ≤ l[k].stamp
      · simp -implicitDefEqProofs [go_sem, g0, g3, hq2, hwp, hq0, hlt, hlt', c1, d1, h1]
        unfold endE
        simp -implicitDefEqProofs [go_sem]
        refine body_tmp 2 rfl ?_
        simp -implicitDefEqProofs [go_sem]
        refine ⟨?_, bel2⟩
        intro hf
        have h2 := (fall_iff l).1 hf q (by omega)
        rw [BitVec.le_def] at h1
        have e : l[q+1] = l[k] := by simp only [hK]
        rw [e] at h2
        omega
      · simp -implicitDefEqProofs [go_sem, g0, g3, hq2, hwp, hq0, hlt, hlt', c1, d1, h1]
        unfold endE
        simp -implicitDefEqProofs [go_sem, g3, hwk]
        refine goE_round ⟨k + 1, fun i hi hik => ?_, by omega, by omega, ?_⟩ ?_
        · by_cases e : i = q
          · subst e
            have e : l[i+1] = l[k] := by simp only [hK]
            rw [e]
            rw [BitVec.le_def] at h1; omega
          · exact hs i hi (by omega)
        · simp -implicitDefEqProofs [go_sem, g0]; exact bel2
        · simp -implicitDefEqProofs [go_sem, intOf, g3, hwk]; omega
    · have hf : FallL l := (fall_iff l).2 fun i hi => hs i hi (by omega)
      have hn : ¬ (k : Int) < l.length := by omega
      simp -implicitDefEqProofs [go_sem, g0, g3, hlt, hn]
      refine body_tmp 2 rfl ?_
      simp -implicitDefEqProofs [go_sem, hf]
      exact bel1
theorem eqLk (x y : LinkV) (w : World) : (Op.equalIn 10000 28 (.agg x.cs) (.agg y.cs)).run Tryd.prog w = .ok (decide (x = y)) w := by
  have key : decide (x = y) = (decide (x.off = y.off) && (decide (x.stamp = y.stamp) && (decide (x.nxt = y.nxt) && (decide (x.gone = y.gone) && decide (x.text = y.text))))) := by
    cases x; cases y
    simp only [LinkV.mk.injEq, Bool.decide_and]
  rw [key]
  unfold LinkV.cs
  simp -implicitDefEqProofs [go_sem]
  by_cases h1 : x.off = y.off <;> by_cases h2 : x.stamp = y.stamp <;> by_cases h3 : x.nxt = y.nxt <;> by_cases h4 : x.gone = y.gone <;> by_cases h5 : x.text = y.text <;> simp only [h1, h2, h3, h4, h5, if_true, if_false, decide_true, decide_false, Bool.and_true, Bool.and_false, Bool.true_and, Bool.false_and]
theorem chSame_calls {b : Option Addr} {m : List LinkV} {capm : Nat} (h : LksIn w0 a l cap) (h2 : LksIn w0 b m capm) :
    Ret Tryd.prog 29 #[.slice a l.length cap, .slice b m.length capm] w0 fun v w' => v = .bool (decide (l = m)) ∧ Below w0.heap.size w0 w' := by
  have bel0 := Below.refl w0.heap.size w0
  have hmax := h.max
  have hle := h.le
  refine ret_of (args := [_, _]) _ Tryd.func29 rfl Tryd.ntmps29 (by simp) ?_
  by_cases hl : ¬ l.length = m.length
  · have hl' : ¬ (l.length : Int) = m.length := by omega
    have hne : ¬ l = m := fun e => hl (by rw [e])
    have hl2 : ¬ m.length = l.length := fun e => hl e.symm
    have hl3 : ((l.length : Int) != m.length) = true := bne_iff_ne.2 hl'
    simp -implicitDefEqProofs [go_sem, hl3]
    refine body_tmp 4 rfl ?_
    simp -implicitDefEqProofs [go_sem, hne]
    exact bel0
  have hl := Decidable.not_not.1 hl
  have hl' : (l.length : Int) = m.length := by omega
  simp -implicitDefEqProofs [go_sem, hl, hl']
  refine wpE_loop (fun e' w' => ∃ k : Nat, k ≤ l.length ∧ l.take k = m.take k ∧ e' 0 = .slice a l.length cap ∧ e' 1 = .slice b m.length capm ∧ e' 5 = .int .i64 k ∧ Below w0.heap.size w0 w') (fun e' _ => l.length - (intOf (e' 5)).toNat) ?_ ?_
  · refine ⟨0, by omega, by simp, ?_⟩
    simp -implicitDefEqProofs [go_sem, hl]
    exact bel0
  · rintro e' w1 ⟨k, hk, hs, g0, g1, g5, bel1⟩
    by_cases hlt : k < l.length
    · have hlt' : (k : Int) < l.length := by omega
      have hlm : k < m.length := by omega
      have hlm' : (k : Int) < m.length := by omega
      have hwk := IntWalk.i64_in ((k : Int) + 1) (by omega)
      have bel2 := bel1.drew
      obtain ⟨b1, o1, rfl, c1⟩ := (h.next bel2).get hlt
      obtain ⟨b2, o2, rfl, c2⟩ := (h2.next bel2).get hlm
      simp -implicitDefEqProofs [go_sem, g0, g1, g5, hlt, hlt', hlm, hlm']
      refine drawE_still mixed (by decide +kernel) ?_
      generalize World.drew w1 = w2 at *
      have ld1 := ldCells (P := Tryd.prog) (w := w2) (g := b1) (o := o1 + k * 5) (cs := l[k].cs) Tryd.underlying28 rfl lkI_ref.five rfl c1
      have ld2 := ldCells (P := Tryd.prog) (w := w2) (g := b2) (o := o2 + k * 5) (cs := m[k].cs) Tryd.underlying28 rfl lkI_ref.five rfl c2
      have hlt3 : (k : Int) < m.length := hlm'
      simp -implicitDefEqProofs [go_sem, g0, g1, g5, hlt, hlt', hlm, hlm', ↓ld1, ↓ld2, ↓eqLk l[k] m[k]]
      unfold endE
      by_cases heq : l[k] = m[k]
      · simp -implicitDefEqProofs [go_sem, heq, g5, hwk]
        refine goE_round ⟨k + 1, by omega, ?_, ?_⟩ ?_
        · rw [List.take_succ_eq_append_getElem hlt, List.take_succ_eq_append_getElem hlm, hs, heq]
        · simp -implicitDefEqProofs [go_sem, g0, g1]; exact bel2
        · simp -implicitDefEqProofs [go_sem, intOf, g5, hwk]; omega
      · simp -implicitDefEqProofs [go_sem, heq]
        refine body_tmp 4 rfl ?_
        have hne : ¬ l = m := fun e => heq (by subst e; rfl)
        simp -implicitDefEqProofs [go_sem, hne]
        exact bel2
    · have hk' : k = l.length := by omega
      subst hk'
      have e : l = m := by rw [List.take_length, hl, List.take_length] at hs; exact hs
      have hn : ¬ (l.length : Int) < l.length := by omega
      simp -implicitDefEqProofs [go_sem, g0, g1, g5, hn]
      refine body_tmp 4 rfl ?_
      simp -implicitDefEqProofs [go_sem, e]
      exact bel1
end
end Go.Proofs.YtejpophjiinijaaDoor

/-! ### ChRecs -/
namespace Go.Proofs.YtejpophjiinijaaDoor
set_option linter.unusedVariables false
set_option linter.unusedSimpArgs false
set_option maxRecDepth 100000
open Go Go.RowKit

/-- Versions in a slice. -/
structure RcsIn (w : World) (a : Option Addr) (l : List LinkV) (cap : Nat) : Prop where
  at_ : l = [] ∨ ∃ b off, a = some ⟨b, off, none⟩ ∧ ∀ i (h : i < l.length), ∀ j (hj : j < l[i].rc.size), w.cell? ⟨b, off + i * 4 + j, none⟩ = some l[i].rc[j]
  le : l.length ≤ cap
  max : cap ≤ 9223372036854775807
  nil : a = none → cap = 0
section
variable {w w' : World} {a : Option Addr} {l : List LinkV} {cap : Nat}
theorem RcsIn.next (h : RcsIn w a l cap) (hb : Below w.heap.size w w') : RcsIn w' a l cap := by
  refine ⟨?_, h.le, h.max, h.nil⟩
  rcases h.at_ with h1 | ⟨b, off, rfl, hc⟩
  · exact .inl h1
  · exact .inr ⟨b, off, rfl, fun i hi j hj => (hb.cell (p := ⟨_, _, none⟩) (World.block_lt_of_cell? w _ (hc i hi j hj))).trans (hc i hi j hj)⟩
theorem RcsIn.drew (h : RcsIn w a l cap) : RcsIn w.drew a l cap := h.next (Below.refl _ _).drew
theorem RcsIn.mod {F : Nat → Prop} (h : RcsIn w a l cap) (hm : Mod F w w') (hF : ∀ y, a = some y → ¬ F y.block) : RcsIn w' a l cap := by
  refine ⟨?_, h.le, h.max, h.nil⟩
  rcases h.at_ with h1 | ⟨b, off, rfl, hc⟩
  · exact .inl h1
  · refine .inr ⟨b, off, rfl, fun i hi j hj => ?_⟩
    have h1 := hc i hi j hj
    rw [← h1]
    exact World.cell?_of_block (w := w) (hm.block b (World.block_lt_of_cell? w _ h1) (hF _ rfl))
theorem RcsIn.get (h : RcsIn w a l cap) {i : Nat} (hi : i < l.length) : ∃ b off, a = some ⟨b, off, none⟩ ∧ (∀ j (hj : j < l[i].rc.size), w.cell? ⟨b, off + i * 4 + j, none⟩ = some l[i].rc[j]) := by
  rcases h.at_ with h1 | ⟨b, off, ha, hc⟩
  · subst h1; cases hi
  · exact ⟨b, off, ha, hc i hi⟩
end
theorem LinkV.rc_0 (k : LinkV) : k.rc[0]? = some (.int .u64 (uv k.stamp)) := rfl
theorem LinkV.rc_1 (k : LinkV) : k.rc[1]? = some (.int .u64 (uv k.nxt)) := rfl
theorem LinkV.rc_2 (k : LinkV) : k.rc[2]? = some (.bool k.gone) := rfl
theorem LinkV.rc_3 (k : LinkV) : k.rc[3]? = some (.string k.text) := rfl
def fewB (l : List LinkV) : Bool := (l.all fun k => decide (k.text.size ≤ 100)) && decide (l.length ≤ 40)
section
set_option linter.unusedSimpArgs false
set_option maxHeartbeats 2000000
variable {a : Option Addr} {l : List LinkV} {cap : Nat} {w0 : World}
theorem few_calls (h : RcsIn w0 a l cap) :
    Ret Tryd.prog 17 #[.slice a l.length cap] w0 fun v w' => v = .bool (fewB l) ∧ Below w0.heap.size w0 w' := by
  have bel0 := Below.refl w0.heap.size w0
  have hmax := h.max
  have hle := h.le
  refine ret_of (args := [_]) _ Tryd.func17 rfl Tryd.ntmps17 (by simp) ?_
  simp -implicitDefEqProofs [go_sem]
  refine wpE_loop (fun e' w' => ∃ k : Nat, k ≤ l.length ∧ (∀ i (h : i < l.length), i < k → l[i].text.size ≤ 100) ∧ e' 0 = .slice a l.length cap ∧ e' 5 = .slice a l.length cap ∧ e' 6 = .int .i64 l.length ∧ e' 7 = .int .i64 k ∧ Below w0.heap.size w0 w') (fun e' _ => l.length - (intOf (e' 7)).toNat) ?_ ?_
  · refine ⟨0, by omega, fun i _ h => by omega, ?_⟩
    simp -implicitDefEqProofs [go_sem]
    exact bel0
  · rintro e' w1 ⟨k, hk, hs, g0, g5, g6, g7, bel1⟩
    by_cases hlt : k < l.length
    · have hlt' : (k : Int) < l.length := by omega
      have hwk := IntWalk.i64_in ((k : Int) + 1) (by omega)
      obtain ⟨b, off, rfl, hcell⟩ := (h.next bel1).get hlt
      have hld := ldCells (P := Tryd.prog) (w := w1) (g := b) (o := off + k * 4) (cs := l[k].rc) Tryd.underlying26 rfl recI_ref rfl hcell
      have hst := stNew (P := Tryd.prog) (t := 26) (cs := l[k].rc) (C0 := #[.int .u64 0, .int .u64 0, .bool false, .string ⟨#[]⟩]) recI_ref rfl (l[k].rc_one)
      simp -implicitDefEqProofs [go_sem, g0, g5, g6, g7, hlt, hlt', ↓hld, ↓hst]
      generalize hw2 : World.alloc w1 _ = w2 at *
      obtain ⟨hB2, b2, sz2⟩ := new_facts hw2
      have bel2 := bel1.trans (b2.mono bel1.size)
      by_cases h1 : 100 < l[k].text.size
      · have h1' : (100 : Int) < l[k].text.size := by omega
        have hf : fewB l = false := by
          unfold fewB
          have : (l.all fun k => decide (k.text.size ≤ 100)) = false := by
            rw [List.all_eq_false]
            exact ⟨l[k], List.getElem_mem hlt, by simpa using h1⟩
          rw [this]; rfl
        simp -implicitDefEqProofs [go_sem, g0, g5, g6, g7, hB2.cell, LinkV.rc_3, h1, h1']
        refine body_tmp 2 rfl ?_
        simp -implicitDefEqProofs [go_sem, hf]
        exact bel2
      · have h1' : ¬ (100 : Int) < l[k].text.size := by omega
        simp -implicitDefEqProofs [go_sem, g0, g5, g6, g7, hB2.cell, LinkV.rc_3, h1, h1', hwk]
        refine goE_round ⟨k + 1, by omega, fun i hi hik => ?_, ?_⟩ ?_
        · by_cases e : i = k
          · subst e; omega
          · exact hs i hi (by omega)
        · simp -implicitDefEqProofs [go_sem, g0, g5, g6]; exact bel2
        · simp -implicitDefEqProofs [go_sem, intOf, g7, hwk]; omega
    · have hf : fewB l = decide (l.length ≤ 40) := by
        unfold fewB
        have : (l.all fun k => decide (k.text.size ≤ 100)) = true := by
          rw [List.all_eq_true]
          intro x hx
          obtain ⟨i, hi, rfl⟩ := List.getElem_of_mem hx
          exact decide_eq_true (hs i hi (by omega))
        rw [this, Bool.true_and]
      have hn' : ¬ (k : Int) < l.length := by omega
      simp -implicitDefEqProofs [go_sem, g0, g5, g6, g7, hlt, hn']
      refine body_tmp 2 rfl ?_
      by_cases h40 : l.length ≤ 40
      · have h40' : (l.length : Int) ≤ 40 := by omega
        simp -implicitDefEqProofs [go_sem, hf, h40, h40']
        exact bel1
      · have h40' : ¬ (l.length : Int) ≤ 40 := by omega
        simp -implicitDefEqProofs [go_sem, hf, h40, h40']
        exact bel1
end
end Go.Proofs.YtejpophjiinijaaDoor
