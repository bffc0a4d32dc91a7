/- What stays while maps are turned (PoolApart). -/
import Derived.Test.YtcpackbljaabnaaDoorPoolMaps
namespace Go.Proofs.YtcpackbljaabnaaDoor
set_option linter.unusedVariables false
set_option linter.unusedSimpArgs false
set_option maxRecDepth 100000
open Go Go.RowKit Go.Maps

section
variable {m : Nat} {V : PV} {s : HM.Shape}
theorem res_sizeF (h : Well m V) {c : Nat} (hc : c = 1 ∨ c = 2) (h0 : (reserveV s V c).2.2 = 0) : sizeF s m (bF V.T V.H) (reserveV s V c).2.1 = 0 ∧ ∀ z, sizeF s m (bF (reserveV s V c).1.T (reserveV s V c).1.H) z = if z = (reserveV s V c).2.1 then 64 * linesI c else sizeF s m (bF V.T V.H) z := by
  rcases resV (s := s) h hc with e | ⟨i, q, hi, hq, hok, e⟩
  · rw [e] at h0; cases h0
  · obtain ⟨-, -, -, h4, h5, h6⟩ := resV_size (s := s) h hc hi hq hok
    rw [e]
    refine ⟨h4, fun z => ?_⟩
    dsimp only
    by_cases ez : z = placeI s i c q
    · rw [if_pos ez, ez]; exact h5
    · rw [if_neg ez]; exact h6 z ez
theorem tak_sizeF (h : Well m V) (hm : 1 ≤ m ∧ m ≤ 4) (off z : Int) : sizeF s m (bF (takeV s V off).1.T (takeV s V off).1.H) z = sizeF s m (bF V.T V.H) z := by
  rcases takV (s := s) h hm off with e | ⟨i, q, -, hi, hq, ht, -, D', e, -⟩
  · rw [e]
  · rw [e]; exact takV_size h hi hq ht z
theorem drp_sizeF (h : Well m V) (hm : 1 ≤ m ∧ m ≤ 4) (off : Int) : ((dropV s V off).2 == 0) = decide (0 < sizeF s m (bF V.T V.H) off) ∧ ∀ z, sizeF s m (bF (dropV s V off).1.T (dropV s V off).1.H) z = if z = off then 0 else sizeF s m (bF V.T V.H) z := by
  rcases drpV_size (s := s) h hm off with ⟨e, h0⟩ | ⟨e, h1, h2, h3⟩
  · rw [e, h0]
    refine ⟨rfl, fun z => ?_⟩
    by_cases ez : z = off
    · rw [if_pos ez, ez]; exact h0
    · rw [if_neg ez]
  · rw [e]
    refine ⟨by rw [decide_eq_true h1]; rfl, fun z => ?_⟩
    by_cases ez : z = off
    · rw [if_pos ez, ez]; exact h2
    · rw [if_neg ez]; exact h3 z ez
end
theorem size_zero {m : Nat} {s : HM.Shape} (z : Int) : sizeF s m (bF (zL m) (zL m)) z = 0 := by
  rcases sizeF_cases (s := s) (n := m) (B := bF (zL m) (zL m)) z with h | ⟨i, q, _, _, _, ht, _, _⟩
  · exact h
  · unfold bF at ht
    rw [zL_get, BitVec.or_zero, WM.tR0] at ht
    cases ht
/-- Blocks, and a map's. -/
def GM (bm : Nat) (F : Nat → Prop) (k : Nat) : Prop := F k ∨ k = bm
theorem turn_m {w w' : World} {F F' : Nat → Prop} {bm : Nat} (t : Turn w F w' F') : Turn w (GM bm F) w' (GM bm F') :=
  ⟨t.mod.mono (fun k hk _ => .inl hk), fun k hk => by
    rcases hk with hk | hk
    · rcases t.new k hk with h | h
      · exact .inl (.inl h)
      · exact .inr h
    · exact .inl (.inr hk)⟩
theorem Told.mod {w w' : World} {B : Nat} {G K : Nat → Prop} {a : Option Addr} {n c : Nat} {xs : List Nat} (h : Told w B G a n c xs) (hm : Mod K w w') (hK : ∀ g, Value.ownBlock (.slice a n c) = some g → ¬ K g) : Told w' B G a n c xs :=
  ⟨ownsRow_mod h.own hm hK, h.len, h.small, h.away⟩
/-- All but the maps. -/
structure Rest (w0 w : World) (m b p tb tc hb hc : Nat) (V : PV) (F : Nat → Prop) (B bm : Nat) (a : Option Addr) (n c : Nat) (xs : List Nat) (gs : Nat) : Prop where
  pd : PD w b p (shN m) V.T V.H tb tc hb hc F V.D
  tl : Told w B (GM bm (PdK b tb hb F)) a n c xs
  sh : Blk w gs (shapeC (shN m)) 39
  bel : Below w0.heap.size w0 w
  sz : B ≤ w.heap.size
theorem Rest.mod {w0 w w' : World} {m b p tb tc hb hc : Nat} {V : PV} {F K : Nat → Prop} {B bm : Nat} {a : Option Addr} {n c : Nat} {xs : List Nat} {gs : Nat} (h : Rest w0 w m b p tb tc hb hc V F B bm a n c xs gs) (hm : Mod K w w') (h1 : ∀ k, PdK b tb hb F k → ¬ K k)
    (h2 : ∀ g, Value.ownBlock (.slice a n c) = some g → ¬ K g) (h3 : ¬ K gs) (h4 : ∀ k, K k → w0.heap.size ≤ k) : Rest w0 w' m b p tb tc hb hc V F B bm a n c xs gs :=
  ⟨h.pd.mod hm h1, h.tl.mod hm h2, h.sh.mod hm h3, h.bel.trans (hm.below h.bel.size h4), Nat.le_trans h.sz hm.size⟩
/-- A row apart: the change of one block that none of these is. -/
theorem Rest.one {w0 w w' : World} {m b p tb tc hb hc : Nat} {V : PV} {F : Nat → Prop} {B bm : Nat} {a : Option Addr} {n c : Nat} {xs : List Nat} {gs r : Nat} (h : Rest w0 w m b p tb tc hb hc V F B bm a n c xs gs) (hg : w.grownBy w' (some r)) (h1 : ¬ PdK b tb hb F r)
    (h2 : Value.ownBlock (.slice a n c) ≠ some r) (h3 : gs ≠ r) (h4 : w0.heap.size ≤ r) : Rest w0 w' m b p tb tc hb hc V F B bm a n c xs gs :=
  h.mod (mod_of_grown hg) (fun k hk e => h1 (by cases e; exact hk)) (fun g hg e => h2 (by cases e; exact hg)) (fun e => h3 (by cases e; rfl)) (fun k e => by cases e; exact h4)
/-- Each place that was counted was counted once, in a block that was visited. -/
def QI (f : Int → Int) (left : Int → Bool) (g : Int → Int) : Prop := ∀ z, I64 z → g z ≠ 0 → g z = 1 ∧ ∃ x, f x ≠ 0 ∧ left x = false ∧ x ≤ z ∧ z < x + f x
def QJ (f : Int → Int) (left : Int → Bool) (x : Int) (j : Nat) (g : Int → Int) : Prop := ∀ z, I64 z → g z ≠ 0 → g z = 1 ∧ ((∃ x, f x ≠ 0 ∧ left x = false ∧ x ≤ z ∧ z < x + f x) ∨ (x ≤ z ∧ z < x + 64 * (j : Int)))
theorem qj_zero {f g : Int → Int} {left : Int → Bool} {x : Int} (h : QI f left g) : QJ f left x 0 g := fun z hz h0 => ⟨(h z hz h0).1, .inl (h z hz h0).2⟩
theorem qj_fresh {s : HM.Shape} {n : Nat} {B : Nat → BitVec 64} {g : Int → Int} {left : Int → Bool} {x : Int} {j : Nat} (h : QJ (sizeF s n B) left x j g) (hx : sizeF s n B x ≠ 0) (hl : left x = true) (hj : 64 * (j : Int) < sizeF s n B x) (hI : I64 (x + 64 * (j : Int))) : g (x + 64 * (j : Int)) = 0 := by
  refine Decidable.byContradiction fun h0 => ?_
  rcases (h _ hI h0).2 with ⟨y, hy, hly, h1, h2⟩ | ⟨_, h2⟩
  · have n1 := sizeF_nn (s := s) (n := n) (B := B) (y := x)
    have n2 := sizeF_nn (s := s) (n := n) (B := B) (y := y)
    have e := size_apart (s := s) (n := n) (B := B) (x := x) (y := y) (z := x + 64 * (j : Int)) (by omega) (by omega) (by omega) (by omega) h1 h2
    rw [← e, hl] at hly
    cases hly
  · omega
theorem qj_succ {f g : Int → Int} {left : Int → Bool} {x : Int} {j : Nat} (h : QJ f left x j g) : QJ f left x (j + 1) (fun z => if z = x + 64 * (j : Int) then 1 else g z) := fun z hz h0 => by
  by_cases e : z = x + 64 * (j : Int)
  · simp only [if_pos e] at h0 ⊢
    exact ⟨trivial, .inr (by omega)⟩
  · simp only [if_neg e] at h0 ⊢
    obtain ⟨h1, h2⟩ := h z hz h0
    refine ⟨h1, ?_⟩
    rcases h2 with h2 | h2
    · exact .inl h2
    · exact .inr (by omega)
theorem qj_end {f g : Int → Int} {left : Int → Bool} {x : Int} {j : Nat} (h : QJ f left x j g) (hx : f x ≠ 0) (hj : 64 * (j : Int) ≤ f x) : QI f (fun z => left z && !decide (z = x)) g := fun z hz h0 => by
  obtain ⟨h1, h2⟩ := h z hz h0
  refine ⟨h1, ?_⟩
  rcases h2 with ⟨y, hy, hl, h3⟩ | h3
  · exact ⟨y, hy, by show (left y && !decide (y = x)) = false; rw [hl]; rfl, h3⟩
  · exact ⟨x, hx, by simp, by omega⟩
end Go.Proofs.YtcpackbljaabnaaDoor
