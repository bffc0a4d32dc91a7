/- Maps from ints to ints: looked up, stored, deleted, ranged over; blocks of a pool do not meet. -/
import Derived.Test.YtcpackbljaabnaaDoorPoolTold
import Derived.Maps.OwnSet
import Derived.Maps.Views
import Derived.Maps.RangeWalk
import Derived.Carry
namespace Go.Proofs.YtcpackbljaabnaaDoor
set_option linter.unusedVariables false
set_option linter.unusedSimpArgs false
set_option maxRecDepth 100000
open Go Go.RowKit Go.Maps

/-- What a map reads as at each key: nothing where f is 0, else f. -/
def Reads (D : DataW Unit) (f : Int → Int) : Prop := ∀ x, I64 x → (f x = 0 ∧ ∀ z, D.atKey (.int .i64 x) z = z) ∨ (f x ≠ 0 ∧ ∀ z, D.atKey (.int .i64 x) z = .lit (.int .i64 (f x)))
def MapI (w : World) (b n : Nat) (f : Int → Int) : Prop := ∃ D : DataW Unit, w.ownsMap Tryd.prog 3 (plainElem Tryd.prog 3) b n D ∧ Reads D f
def RangeI (w : World) (b r n : Nat) (f : Int → Int) (left : Int → Bool) (cnt : Nat) : Prop :=
  ∃ (D : DataW Unit) (lf : Lit → Bool), w.ranges Tryd.prog 3 (plainElem Tryd.prog 3) b r n D lf cnt ∧ Reads D f ∧ ∀ x, left x = lf (.int .i64 x)
theorem i64_wf {x : Int} (h : I64 x) : (Lit.int .i64 x).wf = true := by simpa [I64, Lit.wf, IntKind.min, IntKind.max, IntKind.signed, IntKind.bits] using h
theorem keyII {z : Int} (h : I64 z) : keyOf Tryd.prog 3 (.int .i64 z) = some (.int .i64 z) := keyOf_int_mk Tryd.underlying3 (i64_wf h)
theorem wf_i64' {x : Int} (h : (Lit.int .i64 x).wf = true) : I64 x := by simpa [I64, Lit.wf, IntKind.min, IntKind.max, IntKind.signed, IntKind.bits] using h
section
variable {w w' : World} {b r n cnt : Nat} {f : Int → Int} {left : Int → Bool} {t : TypeId}
theorem MapI.lt (h : MapI w b n f) : b < w.heap.size := by obtain ⟨_, h, _⟩ := h; exact h.lt
theorem MapI.mod {F : Nat → Prop} (h : MapI w b n f) (hm : Mod F w w') (hF : ¬ F b) : MapI w' b n f := by
  obtain ⟨D, ⟨es, clock, hb, r⟩, hf⟩ := h
  exact ⟨D, ⟨es, clock, (hm.block b (Array.getElem?_eq_some_iff.1 hb).1 hF).trans hb, r⟩, hf⟩
theorem MapI.next (h : MapI w b n f) (hb : Below w.heap.size w w') : MapI w' b n f := h.mod (Mod.of (F := fun _ => False) hb) (fun h => h)
theorem mapI_made (w : World) : MapI (w.alloc (.map #[] 0)) w.heap.size 0 (fun _ => 0) := ⟨.map [], World.ownsMap_made w Tryd.prog _ _, fun _ _ => .inl ⟨rfl, fun _ => rfl⟩⟩
theorem MapI.congr (h : MapI w b n f) {g : Int → Int} (he : ∀ x, I64 x → g x = f x) : MapI w b n g := by
  obtain ⟨D, h1, h2⟩ := h
  exact ⟨D, h1, fun x hx => by rw [he x hx]; exact h2 x hx⟩
theorem MapI.look (h : MapI w b n f) (ht : Tryd.prog.underlying t = some (.map 3 3)) {x : Int} (hx : I64 x) : (Instr.lookup t (.map (some b)) (.int .i64 x) false).run Tryd.prog w = .ok (.int .i64 (f x)) w := by
  obtain ⟨D, h1, h2⟩ := h
  obtain ⟨c, hr, hc, _⟩ := h1.lookup_int (Maps.int_keyed Tryd.underlying3) ht Tryd.underlying3 (Tryd.zeroValue3 w) (keyII hx)
  rw [hr]
  rcases h2 x hx with ⟨e0, h3⟩ | ⟨_, h3⟩
  · rw [h3] at hc
    simp only [DataW.lit.injEq, Lit.int.injEq, true_and] at hc
    rw [e0, hc]
  · rw [h3] at hc
    simp only [DataW.lit.injEq, Lit.int.injEq, true_and] at hc
    rw [hc]
theorem MapI.put (h : MapI w b n f) (ht : Tryd.prog.underlying t = some (.map 3 3)) (hn : n < maxLen) {x v : Int} (hx : I64 x) (hv : I64 v) (hv0 : v ≠ 0) :
    ∃ w', (Instr.mapUpdate t (.map (some b)) (.int .i64 x) (.int .i64 v)).run Tryd.prog w = .ok () w' ∧ MapI w' b (n + 1) (fun z => if z = x then v else f z) ∧ w.grownBy w' (some b) := by
  obtain ⟨D, h1, h2⟩ := h
  have hm := h1.isMap
  obtain ⟨w', hr, ho, hg⟩ := h1.update (Maps.int_keyed Tryd.underlying3) ht hn (keyII hx) (plainElem_int Tryd.underlying3 (i64_wf hv))
  refine ⟨w', hr, ⟨_, ho, fun z hz => ?_⟩, hg⟩
  by_cases e : z = x
  · subst e
    right
    simp only [if_true]
    exact ⟨hv0, fun z' => atKey_put_same (k := .int .i64 z) hm trivial _ _⟩
  · simp only [if_neg e]
    rcases h2 z hz with ⟨e0, h3⟩ | ⟨e0, h3⟩
    · exact .inl ⟨e0, fun z' => by rw [atKey_put_other (by intro h; exact e (by injection h))]; exact h3 z'⟩
    · exact .inr ⟨e0, fun z' => by rw [atKey_put_other (by intro h; exact e (by injection h))]; exact h3 z'⟩
theorem MapI.del (h : MapI w b n f) (ht : Tryd.prog.underlying t = some (.map 3 3)) {x : Int} (hx : I64 x) (ty : TypeId) :
    ∃ w', (Builtin.delete_ #[t, 3] ty #[.map (some b), .int .i64 x]).run Tryd.prog w = .ok (.tuple #[]) w' ∧ MapI w' b n (fun z => if z = x then 0 else f z) ∧ w.grownBy w' (some b) := by
  obtain ⟨D, h1, h2⟩ := h
  obtain ⟨w', hr, ho, hg⟩ := h1.drop (Maps.int_keyed Tryd.underlying3) ht (keyII hx) ty
  refine ⟨w', hr, ⟨_, ho, fun z hz => ?_⟩, hg.grown⟩
  by_cases e : z = x
  · subst e
    left
    simp only [if_true]
    exact ⟨trivial, fun z' => atKey_del_same _⟩
  · simp only [if_neg e]
    rcases h2 z hz with ⟨e0, h3⟩ | ⟨e0, h3⟩
    · exact .inl ⟨e0, fun z' => by rw [atKey_del_other (by intro h; exact e (by injection h))]; exact h3 z'⟩
    · exact .inr ⟨e0, fun z' => by rw [atKey_del_other (by intro h; exact e (by injection h))]; exact h3 z'⟩
theorem MapI.range (h : MapI w b n f) (ht : Tryd.prog.underlying t = some (.map 3 3)) :
    ∃ w' left cnt, (Instr.range t (.map (some b))).run Tryd.prog w = .ok (.pointer (some ⟨w.heap.size, 0, none⟩)) w' ∧ RangeI w' b w.heap.size n f left cnt ∧ (∀ x, I64 x → f x ≠ 0 → left x = true) ∧ w.grownBy w' none ∧ w'.heap.size = w.heap.size + 1 ∧ cnt ≤ n := by
  obtain ⟨D, h1, h2⟩ := h
  obtain ⟨w', hr, hrg, hg, hs⟩ := h1.range (Maps.int_keyed Tryd.underlying3) ht
  refine ⟨w', fun x => Maps.has D (.int .i64 x), _, hr, ⟨D, _, hrg, h2, fun x => rfl⟩, fun x hx h0 => ?_, hg, hs, h1.size_le⟩
  rcases h2 x hx with ⟨e, _⟩ | ⟨_, h3⟩
  · exact absurd e h0
  · exact Maps.has_true_of_atKey h3
theorem RangeI.owns (h : RangeI w b r n f left cnt) : MapI w b n f := by
  obtain ⟨D, lf, h1, h2, _⟩ := h
  exact ⟨D, h1.owns, h2⟩
theorem RangeI.kept (h : RangeI w b r n f left cnt) {row : Option Nat} (hg : w.grownBy w' row) (hb : some b ≠ row) (hr : some r ≠ row) : RangeI w' b r n f left cnt := by
  obtain ⟨D, lf, h1, h2, h3⟩ := h
  exact ⟨D, lf, h1.kept hg hb hr, h2, h3⟩
theorem RangeI.left_eq (h : RangeI w b r n f left cnt) : w.rangeLeft b r = cnt := by
  obtain ⟨D, lf, h1, h2, h3⟩ := h
  exact h1.left_eq
theorem RangeI.step (h : RangeI w b r n f left cnt) (ty : TypeId) :
    (cnt = 0 ∧ (Instr.next (.pointer (some ⟨r, 0, none⟩)) false ty).run Tryd.prog w = .ok (.tuple #[.bool false]) w) ∨
    ∃ x w' cnt', I64 x ∧ f x ≠ 0 ∧ I64 (f x) ∧ left x = true ∧ (Instr.next (.pointer (some ⟨r, 0, none⟩)) false ty).run Tryd.prog w = .ok (.tuple #[.bool true, .int .i64 x, .int .i64 (f x)]) w' ∧
      RangeI w' b r n f (fun z => left z && !decide (z = x)) cnt' ∧ cnt' < cnt ∧ w.grownBy w' (some r) ∧ w'.heap.size = w.heap.size ∧ (Instr.entry (.pointer (some ⟨r, 0, none⟩))).run Tryd.prog w' = .ok (.tuple #[.int .i64 x, .int .i64 (f x)]) w' := by
  obtain ⟨D, lf, h1, h2, h3⟩ := h
  rcases h1.next (Maps.int_keyed Tryd.underlying3) ty with ⟨h0, _, hr⟩ | ⟨key, v, kl, y, w', cnt', hkey, hl, hv, hat, hr, hrg, hlt, hg, hs, hen⟩
  · exact .inl ⟨h0, hr⟩
  · obtain ⟨x, rfl, rfl, hwx⟩ := Maps.keyOf_int_inv Tryd.underlying3 hkey
    obtain ⟨c, rfl, rfl, hwc⟩ := plainElem_int_inv Tryd.underlying3 hv
    have hx := wf_i64' hwx
    have hfx : f x ≠ 0 ∧ f x = c := by
      rcases h2 x hx with ⟨_, h4⟩ | ⟨e0, h4⟩
      · have a1 := (h4 .nil).symm.trans (hat .nil)
        cases a1
      · have a1 := (h4 .nil).symm.trans (hat .nil)
        simp only [DataW.lit.injEq, Lit.int.injEq, true_and] at a1
        exact ⟨e0, a1⟩
    rw [← hfx.2] at hr hen hwc
    refine .inr ⟨x, w', cnt', hx, hfx.1, wf_i64' hwc, by rw [h3]; exact hl, hr, ⟨D, _, hrg, h2, fun z => ?_⟩, hlt, hg, hs, hen⟩
    dsimp only
    rw [h3]
    congr 1
    congr 1
    rw [Bool.eq_iff_iff, decide_eq_true_iff]
    constructor
    · rintro rfl; exact WideAt.sameKey_self trivial
    · intro h; have := WideAt.sameKey_eq h; injection this
end
/-! ### Blocks do not meet -/
section
variable {s : HM.Shape} {n : Nat} {B : Nat → BitVec 64} {x y z : Int}
theorem size_in (h : 0 < sizeF s n B x) : s.data ≤ x ∧ x + sizeF s n B x ≤ s.data + 1024 * (n : Int) ∧ (x - s.data) % 64 = 0 ∧ sizeF s n B x ≤ 256 ∧ sizeF s n B x % 64 = 0 := by
  obtain ⟨i, q, hi, hq, ht, hx, hk⟩ := isB_sizeF h
  obtain ⟨k1, k2⟩ := tR_cls hq ht
  obtain ⟨L, hL, hL0, hL4, hLb⟩ := lines_bl k1
  have h1 := place_in hLb k2
  rw [hk, hL]
  rw [place_nat s i hL] at hx
  obtain ⟨r, hr⟩ : ∃ r, r = L * q := ⟨_, rfl⟩
  have e : 64 * L * q = 64 * r := by rw [hr, Nat.mul_assoc]
  rw [e] at hx h1
  omega
theorem size_apart (hx : 0 < sizeF s n B x) (hy : 0 < sizeF s n B y) (h1 : x ≤ z) (h2 : z < x + sizeF s n B x) (h3 : y ≤ z) (h4 : z < y + sizeF s n B y) : x = y := by
  obtain ⟨i, q, hi, hq, ht, ex, ek⟩ := isB_sizeF hx
  obtain ⟨i', q', hi', hq', ht', ey, ek'⟩ := isB_sizeF hy
  obtain ⟨k1, k2⟩ := tR_cls hq ht
  obtain ⟨k3, k4⟩ := tR_cls hq' ht'
  obtain ⟨L, hL, hL0, hL4, hLb⟩ := lines_bl k1
  obtain ⟨L', hL', hL0', hL4', hLb'⟩ := lines_bl k3
  have g1 := place_in hLb k2
  have g2 := place_in hLb' k4
  rw [ek, hL] at h2
  rw [ek', hL'] at h4
  rw [place_nat s i hL] at ex
  rw [place_nat s i' hL'] at ey
  have hii : i = i' := by
    obtain ⟨r, hr⟩ : ∃ r, r = 64 * L * q := ⟨_, rfl⟩
    obtain ⟨r', hr'⟩ : ∃ r, r = 64 * L' * q' := ⟨_, rfl⟩
    rw [← hr] at ex g1
    rw [← hr'] at ey g2
    omega
  subst hii
  have hLL : L = L' := by omega
  subst hLL
  rcases Nat.lt_trichotomy q q' with h | h | h
  · have h5 : 64 * L * (q + 1) ≤ 64 * L * q' := Nat.mul_le_mul (Nat.le_refl _) h
    rw [Nat.mul_add, Nat.mul_one] at h5
    obtain ⟨r, hr⟩ : ∃ r, r = 64 * L * q := ⟨_, rfl⟩
    obtain ⟨r', hr'⟩ : ∃ r, r = 64 * L * q' := ⟨_, rfl⟩
    rw [← hr] at ex h5
    rw [← hr'] at ey h5
    omega
  · rw [ex, ey, h]
  · have h5 : 64 * L * (q' + 1) ≤ 64 * L * q := Nat.mul_le_mul (Nat.le_refl _) h
    rw [Nat.mul_add, Nat.mul_one] at h5
    obtain ⟨r, hr⟩ : ∃ r, r = 64 * L * q := ⟨_, rfl⟩
    obtain ⟨r', hr'⟩ : ∃ r, r = 64 * L * q' := ⟨_, rfl⟩
    rw [← hr] at ex h5
    rw [← hr'] at ey h5
    omega
end
end Go.Proofs.YtcpackbljaabnaaDoor
