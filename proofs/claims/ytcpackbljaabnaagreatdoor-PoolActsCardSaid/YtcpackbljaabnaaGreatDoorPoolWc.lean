/- PoolWc: texts in one: PoolBegin, PoolPlain, PoolWell, PoolWell2, PoolAlive0, PoolCalm, PoolOwn. -/
import Derived.Test.YtcpackbljaabnaaGreatDoorPoolWb
import Derived.Test.YtcpackbljaabnaaGreatDoorHeadForm
import Derived.Test.YtcpackbljaabnaaGreatDoorHeadTorn0
/-! ### PoolBegin -/
namespace Go.Proofs.YtcpackbljaabnaaGreatDoor
set_option linter.unusedVariables false
set_option linter.unusedSimpArgs false
set_option maxRecDepth 100000
open Go Go.RowKit

/-- The shape of a device of m slabs. -/
def shN (m : Nat) : HM.Shape := ⟨((3 + 16 * m : Nat) : Int), (m : Int), 128, 192⟩
def begD (m : Nat) : NM.Dv := (NM.dev0 (3 + 16 * m)).format.1
theorem of_shN {m : Nat} (hm : 1 ≤ m ∧ m ≤ 4) : HM.of ((3 + 16 * m : Nat) : Int) = (shN m, true) := by
  rcases (show m = 1 ∨ m = 2 ∨ m = 3 ∨ m = 4 by omega) with rfl | rfl | rfl | rfl <;> decide +kernel
theorem dev0_len' (n : Nat) : (NM.dev0 n).ls.length = n := by simp [NM.dev0]
theorem beg_facts {m : Nat} (hm : 1 ≤ m ∧ m ≤ 4) : (NM.dev0 (3 + 16 * m)).format.2 = (shN m, 0) ∧ (begD m).openH = (shN m, 0) ∧ (begD m).Up ∧ (begD m).Ok ∧ (begD m).ls.length = 3 + 16 * m ∧ ∀ i, i < m → (begD m).word (128 + 8 * i) = 0#64 := by
  have hof : (HM.of (NM.dev0 (3 + 16 * m)).ls.length).2 = true := by rw [dev0_len', of_shN hm]
  have hs : (HM.of (NM.dev0 (3 + 16 * m)).ls.length).1 = shN m := by rw [dev0_len', of_shN hm]
  have hok := NM.dev0_ok (3 + 16 * m) (by omega)
  have hup := NM.dev0_up (3 + 16 * m)
  have hp : 0 < (NM.dev0 (3 + 16 * m)).ls.length := by rw [dev0_len']; omega
  obtain ⟨f1, f2, f3, f4, f5, f6⟩ := NM.format_up hok hup hp hof
  have fo := NM.open_format hok hup hp hof
  have hwl : (HM.words (HM.of (NM.dev0 (3 + 16 * m)).ls.length).1).length = 8 := by
    obtain ⟨hn1, hn2, hn3, _⟩ := HM.of_some hof
    rw [hn3]; exact HM.words_len (by omega) (by omega)
  rw [hs] at f1 fo
  refine ⟨f1, fo, f2, f3, by rw [← dev0_len' (3 + 16 * m)]; exact f4, fun i hi => ?_⟩
  have := f5 (128 + 8 * i) (by omega) (by unfold NM.Dv.size; rw [dev0_len']; omega)
  rw [show begD m = (NM.dev0 (3 + 16 * m)).format.1 from rfl, this]
  rw [List.getD, List.getElem?_eq_none (by rw [hwl]; omega)]; rfl
theorem get_word {D : NM.Dv} (hp : 0 < D.ls.length) (hd : D.down = false) {i : Nat} (hi : 136 + 8 * i ≤ D.size) : D.get ((128 + 8 * i : Nat) : Int) 1 = ([D.word (128 + 8 * i)], 0) := by
  have h : D.get ((128 + 8 * i : Nat) : Int) 1 = (wordsAt D (128 + 8 * i) 1, 0) := get_in (o := 128 + 8 * i) (n := 1) hp hd (by omega) (by omega)
  rw [h]; rfl
theorem wordD_word {D : NM.Dv} (hp : 0 < D.ls.length) (hd : D.down = false) {i : Nat} (hi : 136 + 8 * i ≤ D.size) : wordD D i = D.word (128 + 8 * i) := by
  unfold wordD; rw [get_word hp hd hi]; rfl
theorem badD_word {D : NM.Dv} (hp : 0 < D.ls.length) (hd : D.down = false) {i : Nat} (hi : 136 + 8 * i ≤ D.size) : badD D i = if WM.rightM (D.word (128 + 8 * i)) = true then none else some 5 := by
  unfold badD; rw [wordD_word hp hd hi, get_word hp hd hi, if_neg (by simp)]
theorem openE_none {D : NM.Dv} {n : Nat} (h : ∀ i, i < n → badD D i = none) : openE D n = none := by
  induction n with
  | zero => rfl
  | succ n ih => unfold openE; rw [ih (fun i hi => h i (by omega))]; exact h n (by omega)
theorem beg_tab {m : Nat} (hm : 1 ≤ m ∧ m ≤ 4) : openE (begD m) m = none ∧ tabD (begD m) m = List.replicate m 0#64 := by
  obtain ⟨_, _, hup, hok, hl, hw⟩ := beg_facts hm
  have hp : 0 < (begD m).ls.length := by rw [hl]; omega
  have hsz : ∀ i, i < m → 136 + 8 * i ≤ (begD m).size := fun i hi => by unfold NM.Dv.size; rw [hl]; omega
  refine ⟨openE_none fun i hi => ?_, ?_⟩
  · rw [badD_word hp hup.down (hsz i hi), hw i hi]; rfl
  · refine List.ext_getElem (by simp [tabD]) fun i h1 h2 => ?_
    have hi : i < m := by simpa [tabD] using h1
    simp only [tabD, List.getElem_map, List.getElem_range, List.getElem_replicate]
    rw [wordD_word hp hup.down (hsz i hi), hw i hi]
section
set_option maxHeartbeats 4000000
theorem begin_calls (m : Nat) (hm : 1 ≤ m ∧ m ≤ 4) (w0 : World) (hF : Fours w0) :
    Ret Tryz.prog 5 #[.int .i64 ((3 + 16 * m : Nat) : Int)] w0 fun v w' => ∃ p b tb tc hb hc F, v = .tuple #[.pointer (some ⟨p, 0, none⟩), .pointer (some ⟨b, 0, none⟩)] ∧
      PD w' b p (shN m) (List.replicate m 0#64) (List.replicate m 0#64) tb tc hb hc F (begD m) ∧ Below w0.heap.size w0 w' ∧ (∀ k, PdK b tb hb F k → w0.heap.size ≤ k) := by
  have bel0 := Below.refl w0.heap.size w0
  obtain ⟨f1, f2, f3, f4, f5, f6⟩ := beg_facts hm
  obtain ⟨t1, t2⟩ := beg_tab hm
  obtain ⟨L, hL⟩ : ∃ L : Int, L = ((3 + 16 * m : Nat) : Int) := ⟨_, rfl⟩
  have hL1 : L.toNat = 3 + 16 * m := by omega
  rw [← hL]
  refine ret_of (args := [_]) _ Tryz.func5 rfl Tryz.ntmps5 (by simp) ?_
  simp -implicitDefEqProofs [go_sem]
  refine callE_of (newB L w0 (by unfold I64; omega)) ?_
  rintro v w1 ⟨b1, ⟨hn, rfl⟩ | ⟨hn, p, F1, rfl, h1, hg1⟩⟩
  · omega
  · rw [hL1] at h1
    have hS1 : St w0 w1 p F1 (NM.dev0 (3 + 16 * m)) := ⟨h1, b1, hg1⟩
    have hst := NM.format_steps (D := NM.dev0 (3 + 16 * m)) (by rw [dev0_len']; omega)
    have hs0 : (NM.dev0 (3 + 16 * m)).steps = 0 := rfl
    simp -implicitDefEqProofs [go_sem]
    refine callE_of (format_calls w1 hS1 hF (by rw [hs0]; omega)) ?_
    rintro v w2 ⟨rfl, F2, h2, T2⟩
    have hS2 := hS1.step h2 T2
    have hF2 : Fours w2 := hF.next hS2.bel
    have hg2 := hS2.ge
    have e1 : (NM.dev0 (3 + 16 * m)).format.2.1 = shN m := by rw [f1]
    have e2 : (NM.dev0 (3 + 16 * m)).format.2.2 = 0 := by rw [f1]
    rw [e1, e2]
    have h2 : DevB w2 p F2 (begD m) := h2
    have bel2 := hS2.bel
    simp -implicitDefEqProofs [go_sem, ↓stShape (shN m)]
    generalize hw3 : World.alloc w2 _ = w3 at *
    obtain ⟨hB3, b3, sz3⟩ := new_facts hw3
    have bel3 := bel2.trans (b3.mono bel2.size)
    replace h2 := h2.next b3
    replace hF2 := hF2.next b3
    have hS := poolOpen_calls m w3 h2 hF2 (by omega) (fun _ => by rw [f2]; exact ⟨rfl, rfl⟩)
    refine callE_of hS ?_
    rintro v w4 hO
    unfold OpenP at hO
    rw [f2, t1, t2] at hO
    rcases hO with ⟨h, _⟩ | ⟨_, ⟨e, h, _⟩ | ⟨_, b, tb, tc, hb, hc, rfl, hP, b4, hge⟩⟩
    · exact absurd rfl h
    · cases h
    · simp -implicitDefEqProofs [go_sem]
      refine body_tmp2 2 3 rfl ?_
      simp -implicitDefEqProofs [go_sem]
      have := bel3.size
      refine ⟨p, b, ⟨rfl, rfl⟩, tb, tc, hb, hc, F2, ⟨hP, h2.next b4, fun k hk hk2 => ?_⟩, bel3.trans (b4.mono bel3.size), fun k hk => ?_⟩
      · have := hge k hk
        have := h2.lt k hk2
        omega
      · rcases hk with hk | hk
        · exact hg2 k hk
        · have := hge k hk; omega
end
end Go.Proofs.YtcpackbljaabnaaGreatDoor

/-! ### PoolPlain -/
namespace Go.Proofs.YtcpackbljaabnaaGreatDoor
set_option linter.unusedVariables false
set_option linter.unusedSimpArgs false
set_option maxRecDepth 100000
open Go Go.RowKit

/-- Put is PutAll of one word. -/
theorem put_same {D : NM.Dv} {o : Nat} (h8 : o % 8 = 0) (ho : o + 8 ≤ D.size) (n : BitVec 64) : runS D (putAllS o [n]) = runS D (putS o n) := by
  have hlines : linesOf o 1 = 1 := by unfold linesOf; rw [if_neg (by omega)]; omega
  have hs : putAllS o [n] = [.store (o : Int) n, .flush ((64 * (o / 64) : Nat) : Int), .fence] := by
    unfold putAllS
    rw [show ([n] : List (BitVec 64)).length = 1 from rfl, hlines]
    simp [storesS, flushesS, List.range_succ]
  unfold NM.Dv.size at ho
  rw [hs]
  unfold putS
  by_cases h0 : (D.step (.store (o : Int) n)).2 = 0
  · rw [runS_ok h0, runS_ok h0]
    have hlE := step_len D (.store (o : Int) n)
    generalize (D.step (.store (o : Int) n)).1 = E at *
    have hf : E.step (.flush ((64 * (o / 64) : Nat) : Int)) = E.step (.flush (o : Int)) := by
      show E.flush _ = E.flush _
      cases hd : E.down with
      | true => unfold NM.Dv.flush; rw [NM.ask_down (by omega) hd, NM.ask_down (by omega) hd]; rfl
      | false =>
        have a1 : E.ask ((64 * (o / 64) : Nat) : Int) 1 = 0 := NM.ask_nat (e := 1) (by omega) hd (by unfold NM.Dv.size; omega) (Nat.mod_one _)
        have a2 : E.ask (o : Int) 1 = 0 := NM.ask_nat (e := 1) (by omega) hd (by unfold NM.Dv.size; omega) (Nat.mod_one _)
        unfold NM.Dv.flush
        rw [if_pos a1, if_pos a2, Int.toNat_natCast, Int.toNat_natCast, show 64 * (o / 64) / 64 = o / 64 by omega]
    by_cases h1 : (E.step (.flush (o : Int))).2 = 0
    · rw [runS_ok h1, runS_ok (by rw [hf]; exact h1), hf]
    · rw [runS_err h1, runS_err (by rw [hf]; exact h1), hf]
  · rw [runS_err h0, runS_err h0]
/-- On a device that is up it answers OK, and turns the one word. -/
theorem put_up {D : NM.Dv} (hok : D.Ok) (hu : D.Up) (hp : 0 < D.ls.length) {o : Nat} (h8 : o % 8 = 0) (ho : o + 8 ≤ D.size) (n : BitVec 64) :
    (runS D (putS o n)).2 = 0 ∧ (runS D (putS o n)).1.Up ∧ (runS D (putS o n)).1.Ok ∧ (runS D (putS o n)).1.ls.length = D.ls.length ∧
    (∀ x, x % 8 = 0 → x < D.size → (runS D (putS o n)).1.word x = if x = o then n else D.word x) ∧ ((runS D (putS o n)).1.ln (o / 64)).chg = [] := by
  have hin := putAllS_in (o := o) (l := [n]) (N := D.ls.length) h8 (by unfold NM.Dv.size at ho; show o + 8 * 1 ≤ _; omega)
  obtain ⟨h1, h2⟩ := runS_upUp hu hp _ hin
  have h3 := runS_okk hok (putAllS o [n])
  have h4 := runS_len D (putAllS o [n])
  have h5 := fun x hx hxs => putAll_words hok hp (o := o) (l := [n]) h8 (by show o + 8 * 1 ≤ _; omega) h1 (x := x) hx hxs
  have h6 := putAll_one hp (o := o) (l := [n]) h8 (by show o + 8 * 1 ≤ _; omega) h1 (j := 0) (by show 0 < 1; omega)
  rw [put_same h8 ho] at h1 h2 h3 h4 h5 h6
  refine ⟨h1, h2, h3, h4, fun x hx hxs => ?_, ?_⟩
  · rw [h5 x hx hxs]
    by_cases e : x = o
    · subst e
      rw [if_pos ⟨Nat.le_refl _, by show x < x + 8 * 1; omega⟩, if_pos rfl, Nat.sub_self]; rfl
    · rw [if_neg e, if_neg]
      rintro ⟨h, h'⟩
      have h' : x < o + 8 * 1 := h'
      omega
  · simpa using h6
/-- What is known of a pool on a device that is up: the device's table is what the pool knows. -/
structure Well (m : Nat) (V : PV) : Prop where
  len : V.T.length = m
  lenH : V.H.length = m
  pair : ∀ i, i < m → WM.Pair (V.T.getD i 0#64) (V.H.getD i 0#64)
  up : V.D.Up
  ok : V.D.Ok
  lines : V.D.ls.length = 3 + 16 * m
  tab : ∀ i, i < m → V.D.word (128 + 8 * i) = V.T.getD i 0#64
theorem well_put {m i : Nat} {V : PV} {x : BitVec 64} (h : Well m V) (hm : 1 ≤ m ∧ m ≤ 4) (hi : i < m) (hx : WM.Pair x (V.H.getD i 0#64)) : (putV V i x).2 = 0 ∧ (putV V i x).1.T = V.T.set i x ∧ (putV V i x).1.H = V.H ∧ Well m (putV V i x).1 := by
  have hs : V.D.size = 64 * (3 + 16 * m) := by unfold NM.Dv.size; rw [h.lines]
  obtain ⟨u1, u2, u3, u4, u5, u6⟩ := put_up h.ok h.up (by rw [h.lines]; omega) (o := 128 + 8 * i) (by omega) (by omega) x
  have e1 : (putV V i x).2 = 0 := u1
  have e2 : (putV V i x).1.T = V.T.set i x := by show (if _ then _ else _) = _; rw [if_pos u1]
  have e3 : (putV V i x).1.H = V.H := rfl
  have hget : ∀ j, j < m → (V.T.set i x).getD j 0#64 = if j = i then x else V.T.getD j 0#64 := fun j hj => by
    by_cases e : j = i
    · subst e; rw [if_pos rfl]; simp [List.getD, h.len, hj]
    · rw [if_neg e]; simp [List.getD, Ne.symm e]
  refine ⟨e1, e2, e3, ⟨by rw [e2, List.length_set]; exact h.len, h.lenH, fun j hj => ?_, u2, u3, u4.trans h.lines, fun j hj => ?_⟩⟩
  · rw [e2, e3, hget j hj]
    split
    · rename_i e; subst e; exact hx
    · exact h.pair j hj
  · show (runS V.D (putS ((128 + 8 * i : Nat) : Int) x)).1.word (128 + 8 * j) = _
    rw [u5 _ (by omega) (by omega), e2, hget j hj]
    by_cases e : j = i
    · subst e; rw [if_pos rfl, if_pos rfl]
    · rw [if_neg (by omega), if_neg e]; exact h.tab j hj
end Go.Proofs.YtcpackbljaabnaaGreatDoor

/-! ### PoolWell -/
namespace Go.Proofs.YtcpackbljaabnaaGreatDoor
set_option linter.unusedVariables false
set_option linter.unusedSimpArgs false
set_option maxRecDepth 100000
open Go Go.RowKit

theorem wordsSet {l : List (BitVec 64)} {m i j : Nat} (hl : l.length = m) (hj : j < m) (x : BitVec 64) : (l.set i x).getD j 0#64 = if j = i then x else l.getD j 0#64 := by
  by_cases e : j = i
  · subst e; rw [if_pos rfl]; simp [List.getD, hl, hj]
  · rw [if_neg e]; simp [List.getD, Ne.symm e]
theorem well_held {m i : Nat} {V : PV} {y : BitVec 64} (h : Well m V) (hp : WM.Pair (V.T.getD i 0#64) y) : Well m { V with H := V.H.set i y } := by
  refine ⟨h.len, by rw [List.length_set]; exact h.lenH, fun j hj => ?_, h.up, h.ok, h.lines, h.tab⟩
  show WM.Pair (V.T.getD j 0#64) ((V.H.set i y).getD j 0#64)
  rw [wordsSet h.lenH hj]
  split
  · rename_i e; subst e; exact hp
  · exact h.pair j hj
theorem well_zero {m : Nat} (hm : 1 ≤ m ∧ m ≤ 4) : Well m ⟨List.replicate m 0#64, List.replicate m 0#64, begD m⟩ := by
  obtain ⟨f1, f2, f3, f4, f5, f6⟩ := beg_facts hm
  have hz : ∀ i, (List.replicate m 0#64).getD i 0#64 = 0#64 := fun i => by
    simp only [List.getD, List.getElem?_replicate]; split <;> rfl
  refine ⟨List.length_replicate, List.length_replicate, fun i _ => ?_, f3, f4, f5, fun i hi => ?_⟩
  · show WM.Pair ((List.replicate m 0#64).getD i 0#64) ((List.replicate m 0#64).getD i 0#64)
    rw [hz]; exact WM.Pair.zero
  · show (begD m).word (128 + 8 * i) = (List.replicate m 0#64).getD i 0#64
    rw [hz]; exact f6 i hi
theorem well_take {m : Nat} {V : PV} {s : HM.Shape} (h : Well m V) (hm : 1 ≤ m ∧ m ≤ 4) (off : Int) : Well m (takeV s V off).1 ∧ ((takeV s V off).2 = 0 ∨ ((takeV s V off).2 = 7 ∧ (takeV s V off).1 = V)) := by
  unfold takeV
  split
  · exact ⟨h, .inr ⟨rfl, rfl⟩⟩
  · rename_i i q hf
    obtain ⟨hi, hq, -, -⟩ := findP_some hf
    rw [h.len] at hi
    by_cases hh : WM.hasM (V.H.getD i 0#64) q = true
    · rw [if_pos hh]
      have ht : WM.tR (V.H.getD i 0#64) q = true := by rw [← WM.has_ref _ _ hq]; exact hh
      obtain ⟨k1, k2, k3⟩ := (h.pair i hi).keep hq ht
      rw [WM.cR_class]
      have hp0 : WM.Pair (WM.takeW (V.T.getD i 0#64) (WM.cR (V.H.getD i 0#64) : Nat) q) (WM.dropW (V.H.getD i 0#64) q) := k2
      have hs : V.D.size = 64 * (3 + 16 * m) := by unfold NM.Dv.size; rw [h.lines]
      obtain ⟨u1, u2, u3, u4, u5, u6⟩ := put_up h.ok h.up (by rw [h.lines]; omega) (o := 128 + 8 * i) (by omega) (by omega) (WM.takeW (V.T.getD i 0#64) (WM.cR (V.H.getD i 0#64) : Nat) q)
      have e1 : (putV V i (WM.takeW (V.T.getD i 0#64) (WM.cR (V.H.getD i 0#64) : Nat) q)).2 = 0 := u1
      have e2 : (putV V i (WM.takeW (V.T.getD i 0#64) (WM.cR (V.H.getD i 0#64) : Nat) q)).1.T = V.T.set i (WM.takeW (V.T.getD i 0#64) (WM.cR (V.H.getD i 0#64) : Nat) q) := by show (if _ then _ else _) = _; rw [if_pos u1]
      rw [if_pos e1]
      refine ⟨⟨?_, ?_, fun j hj => ?_, u2, u3, u4.trans h.lines, fun j hj => ?_⟩, .inl rfl⟩
      · show (putV V i _).1.T.length = m
        rw [e2, List.length_set]; exact h.len
      · show (V.H.set i _).length = m
        rw [List.length_set]; exact h.lenH
      · show WM.Pair ((putV V i _).1.T.getD j 0#64) ((V.H.set i _).getD j 0#64)
        rw [e2, wordsSet h.len hj, wordsSet h.lenH hj]
        by_cases e : j = i
        · rw [if_pos e, if_pos e]; exact hp0
        · rw [if_neg e, if_neg e]; exact h.pair j hj
      · show (runS V.D (putS ((128 + 8 * i : Nat) : Int) _)).1.word (128 + 8 * j) = (putV V i _).1.T.getD j 0#64
        rw [u5 _ (by omega) (by omega), e2, wordsSet h.len hj]
        by_cases e : j = i
        · subst e; rw [if_pos rfl, if_pos rfl]
        · rw [if_neg (by omega), if_neg e]; exact h.tab j hj
    · rw [if_neg hh]; exact ⟨h, .inr ⟨rfl, rfl⟩⟩
theorem well_drop {m : Nat} {V : PV} {s : HM.Shape} (h : Well m V) (hm : 1 ≤ m ∧ m ≤ 4) (off : Int) : Well m (dropV s V off).1 ∧ ((dropV s V off).2 = 0 ∨ ((dropV s V off).2 = 7 ∧ (dropV s V off).1 = V)) := by
  unfold dropV
  split
  · exact ⟨h, .inr ⟨rfl, rfl⟩⟩
  · rename_i i q hf
    obtain ⟨hi, hq, -, -⟩ := findP_some hf
    rw [h.len] at hi
    by_cases hh : WM.hasM (V.H.getD i 0#64) q = true
    · rw [if_pos hh]
      have ht : WM.tR (V.H.getD i 0#64) q = true := by rw [← WM.has_ref _ _ hq]; exact hh
      exact ⟨well_held h ((h.pair i hi).dropH hq ht).1, .inl rfl⟩
    · rw [if_neg hh]
      by_cases hy : WM.hasM (V.T.getD i 0#64) q = true
      · rw [if_pos hy]
        have ht : WM.tR (V.T.getD i 0#64) q = true := by rw [← WM.has_ref _ _ hq]; exact hy
        obtain ⟨e1, e2, e3, e4⟩ := well_put h hm hi ((h.pair i hi).dropT hq ht).1
        exact ⟨e4, .inl e1⟩
      · rw [if_neg hy]; exact ⟨h, .inr ⟨rfl, rfl⟩⟩
end Go.Proofs.YtcpackbljaabnaaGreatDoor

/-! ### PoolWell2 -/
namespace Go.Proofs.YtcpackbljaabnaaGreatDoor
set_option linter.unusedVariables false
set_option linter.unusedSimpArgs false
set_option maxRecDepth 100000
open Go Go.RowKit

/-- What Reserve makes of what is known, and its answer. -/
def reserveV (s : HM.Shape) (V : PV) (c : Nat) : PV × Int × Int :=
  match pickP (bF V.T V.H) V.T.length c with
  | none => (V, 0, 6)
  | some i => ({ V with H := V.H.set i (WM.takeW (V.H.getD i 0#64) c (WM.nextM (bF V.T V.H i) c)) }, placeI s i c (WM.nextM (bF V.T V.H i) c).toNat, 0)
theorem takeOk_next {x : BitVec 64} {c : Nat} (hx : WM.rB x = true) (hc : c = 1 ∨ c = 2) (h : 0 ≤ WM.nextM x c) : ∃ q : Nat, WM.nextM x c = q ∧ q < WM.bl c ∧ WM.takeOk x c q = true ∧ WM.tR x q = false ∧ ∀ j, j < q → WM.tR x j = true := by
  have hn := WM.next_ref x c
  rw [WM.blocksI_nat, Int.toNat_natCast] at hn
  split at hn
  · rename_i h1
    rcases WM.firstOff_cases x (WM.bl c) 0 with ⟨e, _⟩ | ⟨t, e, h2, h3, h4, h5⟩
    · omega
    · have hf : WM.tR x t = false := by rw [WM.bit_tR hx]; exact h4
      refine ⟨t, by rw [hn]; exact e, by omega, WM.take_ok hc (by omega) hx (by omega) hf, hf, fun j hj => ?_⟩
      rw [WM.bit_tR hx]; exact h5 j (by omega) hj
  · omega
theorem well_reserve {m : Nat} {V : PV} {s : HM.Shape} {c : Nat} (h : Well m V) (hc : c = 1 ∨ c = 2) : Well m (reserveV s V c).1 ∧ ((reserveV s V c).2.2 = 0 ∨ ((reserveV s V c).2.2 = 6 ∧ (reserveV s V c).1 = V)) := by
  unfold reserveV
  split
  · exact ⟨h, .inr ⟨rfl, rfl⟩⟩
  · rename_i i hp
    obtain ⟨hi, hge⟩ := pickP_of hp
    rw [h.len] at hi
    have hpr := h.pair i hi
    obtain ⟨q, hq, hqb, hok, _, _⟩ := takeOk_next (x := bF V.T V.H i) hpr.both.1 hc hge
    obtain ⟨r1, r2, r3⟩ := hpr.reserve (q := q) hok
    rw [hq]
    exact ⟨well_held h r2, .inl rfl⟩
section
variable {b p : Nat} {s : HM.Shape} {tb tc hb hc : Nat} {F : Nat → Prop}
/-- Reserve of a class, in the words of reserveV. -/
theorem poolReserve_calls (V : PV) (c : Nat) (hcl : c = 1 ∨ c = 2) (w0 : World) (h : PD w0 b p s V.T V.H tb tc hb hc F V.D) (hT : Tabs w0) (hn : V.T.length ≤ 64) (hs : 0 ≤ s.data ∧ s.data ≤ 1000000) :
    Ret Tryz.prog 9 #[.pointer (some ⟨b, 0, none⟩), .int .i64 (c : Int)] w0 fun v w' => v = .tuple #[.int .i64 (reserveV s V c).2.1, .int .i64 (reserveV s V c).2.2] ∧
      PD w' b p s (reserveV s V c).1.T (reserveV s V c).1.H tb tc hb hc F (reserveV s V c).1.D ∧ Turn w0 (PdK b tb hb F) w' (PdK b tb hb F) := by
  refine (reserve_calls w0 c h.pool hT hn hs).mono ?_
  rintro v w' (⟨h0, _⟩ | ⟨cn, hcn, _, h1⟩)
  · rcases hcl with rfl | rfl <;> exact absurd h0 (by decide)
  · obtain rfl : c = cn := by omega
    rcases h1 with ⟨hp, rfl, hb'⟩ | ⟨i, q, hp, hq, rfl, hP, hM⟩
    · have e : reserveV s V c = (V, 0, 6) := by unfold reserveV; rw [hp]
      rw [e]
      exact ⟨rfl, h.next hb', Turn.of hb'⟩
    · have e : reserveV s V c = ({ V with H := V.H.set i (WM.takeW (V.H.getD i 0#64) c q) }, placeI s i c q, 0) := by
        unfold reserveV; rw [hp]; dsimp only; rw [hq, Int.toNat_natCast]
      rw [e]
      exact ⟨rfl, ⟨hP, h.dev.mod hM (fun k hk e => h.apart k (.inr (.inr e)) hk), h.apart⟩, ⟨hM.mono (fun k hk _ => .inr (.inr (.inr hk))), fun k hk => .inl hk⟩⟩
end
end Go.Proofs.YtcpackbljaabnaaGreatDoor

/-! ### PoolAlive0 -/
namespace Go.Proofs.YtcpackbljaabnaaGreatDoor
set_option linter.unusedVariables false
set_option linter.unusedSimpArgs false
set_option maxRecDepth 100000
open Go Go.RowKit

def oneW : BitVec 64 := WM.takeW 0#64 1 0
theorem al_nx : WM.nextM 0#64 1 = 0 := by decide +kernel
theorem al_res1 (D : NM.Dv) : reserveV (shN 1) ⟨[0#64], [0#64], D⟩ 1 = (⟨[0#64], [oneW], D⟩, 192, 0) := by
  have hp : pickP (bF [0#64] [0#64]) 1 1 = some 0 := by decide +kernel
  have hb : bF [0#64] [0#64] 0 = 0#64 := by decide +kernel
  have e : placeI (shN 1) 0 1 0 = 192 := by decide +kernel
  unfold reserveV
  dsimp only
  rw [show ([0#64] : List (BitVec 64)).length = 1 from rfl, hp]
  dsimp only
  rw [hb, show ((1 : Nat) : Int) = 1 from rfl, al_nx]
  exact congrArg (fun x : Int => ((⟨[0#64], [oneW], D⟩ : PV), x, (0 : Int))) e
theorem al_res2 (D : NM.Dv) : reserveV (shN 1) ⟨[0#64], [oneW], D⟩ 2 = (⟨[0#64], [oneW], D⟩, 0, 6) := by
  have hp : pickP (bF [0#64] [oneW]) 1 2 = none := by decide +kernel
  unfold reserveV
  dsimp only
  rw [show ([0#64] : List (BitVec 64)).length = 1 from rfl, hp]
theorem al_many1 : manyL [oneW] 1 = 1 := by decide +kernel
theorem al_many0 : manyL [0#64] 1 = 0 := by decide +kernel
theorem al_find : findP (shN 1) 1 (bF [0#64] [oneW]) 192 = some (0, 0) := by decide +kernel
theorem al_find2 : findP (shN 1) 1 (bF [oneW] [0#64]) 192 = some (0, 0) := by decide +kernel
theorem al_find0 : findP (shN 1) 1 (bF [0#64] [0#64]) 192 = none := by decide +kernel
theorem al_has : WM.hasM oneW 0 = true := by decide +kernel
theorem al_has0 : WM.hasM 0#64 0 = false := by decide +kernel
theorem al_cls : WM.classM oneW = 1 := by decide +kernel
theorem al_drop : WM.dropW oneW 0 = 0#64 := by decide +kernel
theorem al_class : classV (shN 1) [oneW] [0#64] 192 = 1 := by decide +kernel
theorem al_all : allK (shN 1) [oneW] 1 = [192] := by decide +kernel
theorem al_all0 : allK (shN 1) [0#64] 1 = [] := by decide +kernel
theorem al_right : WM.rightM oneW = true := by decide +kernel
theorem al_take {D : NM.Dv} (h : (runS D (putS 128 oneW)).2 = 0) : takeV (shN 1) ⟨[0#64], [oneW], D⟩ 192 = (⟨[oneW], [0#64], (runS D (putS 128 oneW)).1⟩, 0) := by
  unfold takeV
  dsimp only
  rw [show ([0#64] : List (BitVec 64)).length = 1 from rfl, al_find]
  dsimp only
  rw [show ([oneW] : List (BitVec 64)).getD 0 0#64 = oneW from rfl, show ([0#64] : List (BitVec 64)).getD 0 0#64 = 0#64 from rfl, show ((0 : Nat) : Int) = 0 from rfl, if_pos al_has, al_cls, show WM.takeW 0#64 1 0 = oneW from rfl, al_drop]
  have e : (putV ⟨[0#64], [oneW], D⟩ 0 oneW).2 = 0 := h
  have e2 : (putV ⟨[0#64], [oneW], D⟩ 0 oneW).1.T = [oneW] := by
    exact if_pos h
  rw [if_pos e]
  exact congrArg (fun x => ((⟨x, [0#64], (runS D (putS 128 oneW)).1⟩ : PV), (0 : Int))) e2
end Go.Proofs.YtcpackbljaabnaaGreatDoor

/-! ### PoolCalm -/
namespace Go.Proofs.YtcpackbljaabnaaGreatDoor
set_option linter.unusedVariables false
set_option linter.unusedSimpArgs false
set_option maxRecDepth 100000
open Go Go.RowKit
namespace NM
/-- No line has a change that a crash may take. -/
def Calm (D : Dv) : Prop := ∀ i, i < D.ls.length → (D.ln i).chg = []
theorem put_rest {D : Dv} (hp : 0 < D.ls.length) {o : Nat} {n : BitVec 64} {i : Nat} (hi : i ≠ o / 64) (hiD : i < D.ls.length) (hc : (D.ln i).chg = []) : ((runS D (putS o n)).1.ln i).chg = [] := by
  refine (runS_inv (I := fun E => E.ls.length = D.ls.length ∧ (E.ln i).chg = []) _ (fun s hs E hE => ?_) ⟨rfl, hc⟩).2
  refine ⟨by rw [step_len]; exact hE.1, ?_⟩
  unfold putS at hs
  simp only [List.mem_cons, List.not_mem_nil, or_false] at hs
  rcases hs with rfl | rfl | rfl
  · show ((E.store _ _).1.ln i).chg = []
    rw [store_other (by omega) _ _ (fun o ho => by omega)]
    exact hE.2
  · show ((E.flush _).1.ln i).chg = []
    rw [flush_other (by omega) _ (fun o ho => by omega)]
    exact hE.2
  · show (E.fence.1.ln i).chg = []
    by_cases ha : E.ask 0 1 = 0
    · rw [fence_ln ha i (by omega)]; exact fence_nil hE.2
    · unfold Dv.fence; rw [if_neg ha]; exact hE.2
theorem put_calm {D : Dv} (hok : D.Ok) (hu : D.Up) (hp : 0 < D.ls.length) {o : Nat} (h8 : o % 8 = 0) (ho : o + 8 ≤ D.size) (n : BitVec 64) (h : Calm D) : Calm (runS D (putS o n)).1 := by
  obtain ⟨_, _, _, u4, _, u6⟩ := put_up hok hu hp h8 ho n
  intro i hi
  rw [u4] at hi
  by_cases e : i = o / 64
  · rw [e]; exact u6
  · exact put_rest hp e hi (h i hi)
theorem calm_crash {D : Dv} (ps : List (BitVec 8)) : Calm (D.crash ps) := fun i hi => crash_one ps (by rw [← crash_len D ps]; exact hi)
theorem calm_word {D : Dv} (hc : Calm D) (ps : List (BitVec 8)) {x : Nat} (hx : x < D.size) : (D.crash ps).word x = D.word x := by
  unfold Dv.size at hx
  unfold Dv.word
  rw [crash_same ps (by omega) (hc _ (by omega))]
theorem calm_open {D : Dv} (hc : Calm D) (hu : D.Up) (hp : 0 < D.ls.length) (ps : List (BitVec 8)) : (D.crash ps).openH = D.openH := by
  rw [open_up hp hu.down, open_up (by rw [crash_len]; exact hp) (Dv.Up.crash hp ps).down, crash_len]
  have e : wordsAt (D.crash ps) 0 8 = wordsAt D 0 8 := by
    unfold wordsAt
    refine List.map_congr_left fun i hi => ?_
    have := List.mem_range.1 hi
    exact calm_word hc ps (by unfold Dv.size; omega)
  rw [e]
theorem put_open {D : Dv} (hok : D.Ok) (hu : D.Up) (hp : 0 < D.ls.length) {o : Nat} (h8 : o % 8 = 0) (ho : o + 8 ≤ D.size) (h64 : 64 ≤ o) (n : BitVec 64) : (runS D (putS o n)).1.openH = D.openH := by
  obtain ⟨_, u2, _, u4, u5, _⟩ := put_up hok hu hp h8 ho n
  rw [open_up hp hu.down, open_up (by rw [u4]; exact hp) u2.down, u4]
  have e : wordsAt (runS D (putS o n)).1 0 8 = wordsAt D 0 8 := by
    unfold wordsAt
    refine List.map_congr_left fun i hi => ?_
    have := List.mem_range.1 hi
    rw [u5 (0 + 8 * i) (by omega) (by omega), if_neg (by omega)]
  rw [e]
end NM
theorem beg_calm {m : Nat} (hm : 1 ≤ m ∧ m ≤ 4) : NM.Calm (begD m) := by
  have hof : (HM.of (NM.dev0 (3 + 16 * m)).ls.length).2 = true := by rw [dev0_len', of_shN hm]
  obtain ⟨f1, f2, f3, f4, f5, f6⟩ := NM.format_up (NM.dev0_ok (3 + 16 * m) (by omega)) (NM.dev0_up (3 + 16 * m)) (by rw [dev0_len']; omega) hof
  intro i hi
  exact f6 i (by rw [← f4]; exact hi)
/-- What pool.Open reads of a device that a pool knows. -/
theorem well_tab {m : Nat} {V : PV} (h : Well m V) (hm : 1 ≤ m ∧ m ≤ 4) : openE V.D m = none ∧ tabD V.D m = V.T := by
  have hp : 0 < V.D.ls.length := by rw [h.lines]; omega
  have hsz : ∀ i, i < m → 136 + 8 * i ≤ V.D.size := fun i hi => by unfold NM.Dv.size; rw [h.lines]; omega
  refine ⟨openE_none fun i hi => ?_, ?_⟩
  · rw [badD_word hp h.up.down (hsz i hi), h.tab i hi, if_pos]
    have := (h.pair i hi).rt
    rw [WM.rB_eq] at this
    exact this
  · refine List.ext_getElem (by simp [tabD, h.len]) fun i h1 h2 => ?_
    have hi : i < m := by simpa [tabD] using h1
    simp only [tabD, List.getElem_map, List.getElem_range]
    rw [wordD_word hp h.up.down (hsz i hi), h.tab i hi]
    simp [List.getD, h2]
end Go.Proofs.YtcpackbljaabnaaGreatDoor

/-! ### PoolOwn -/
namespace Go.Proofs.YtcpackbljaabnaaGreatDoor
set_option linter.unusedVariables false
set_option linter.unusedSimpArgs false
set_option maxRecDepth 100000
open Go Go.RowKit

theorem lines_bl {c : Nat} (hc : c = 1 ∨ c = 2) : ∃ L : Nat, linesI c = (L : Int) ∧ 0 < L ∧ L ≤ 4 ∧ L * WM.bl c = 16 := by
  rcases hc with rfl | rfl
  · exact ⟨1, rfl, by decide, by decide, by decide⟩
  · exact ⟨4, rfl, by decide, by decide, by decide⟩
/-- A block's place in plain numbers. -/
theorem place_nat {c q L : Nat} (s : HM.Shape) (i : Nat) (hL : linesI c = (L : Int)) : placeI s i c q = s.data + ((1024 * i + 64 * L * q : Nat) : Int) := by
  unfold placeI
  rw [hL]
  have e5 : 64 * (L : Int) * (q : Int) = ((64 * L * q : Nat) : Int) := by push_cast; rfl
  rw [e5]; omega
theorem place_in {c q L : Nat} (hL0 : L * WM.bl c = 16) (hq : q < WM.bl c) : 64 * L * q + 64 * L ≤ 1024 := by
  have h : L * (q + 1) ≤ L * WM.bl c := Nat.mul_le_mul (Nat.le_refl _) hq
  rw [hL0, Nat.mul_add] at h
  have e : 64 * L * q = 64 * (L * q) := Nat.mul_assoc _ _ _
  omega
theorem findP_place {s : HM.Shape} {n i q c : Nat} {B : Nat → BitVec 64} (hi : i < n) (hc : c = 1 ∨ c = 2) (hB : WM.cR (B i) = c) (hq : q < WM.bl c) : findP s n B (placeI s i c q) = some (i, q) := by
  obtain ⟨L, hL, hL0, hL4, hLb⟩ := lines_bl hc
  have hin := place_in hLb hq
  rw [place_nat s i hL]
  obtain ⟨r, hr⟩ : ∃ r, r = 64 * L * q := ⟨_, rfl⟩
  rw [← hr] at hin ⊢
  have h1 : r % (64 * L) = 0 := by rw [hr]; exact Nat.mul_mod_right _ _
  have h2 : r / (64 * L) = q := by rw [hr]; exact Nat.mul_div_cancel_left q (by omega)
  unfold findP
  rw [if_neg (by omega), show s.data + ((1024 * i + r : Nat) : Int) - s.data = ((1024 * i + r : Nat) : Int) by omega, Int.toNat_natCast,
    show (1024 * i + r) / 1024 = i by omega, show (1024 * i + r) % 1024 = r by omega, WM.cR_class, hB, hL, Int.toNat_natCast, h1, h2, if_neg (by omega)]
theorem tR_cls {x : BitVec 64} {q : Nat} (hq : q < 16) (h : WM.tR x q = true) : (WM.cR x = 1 ∨ WM.cR x = 2) ∧ q < WM.bl (WM.cR x) := by
  obtain ⟨h1, h2⟩ := WM.tR_lt hq h
  refine ⟨?_, h2⟩
  unfold WM.bl at h2
  by_cases e1 : WM.cR x = 1
  · exact .inl e1
  · by_cases e2 : WM.cR x = 2
    · exact .inr e2
    · rw [if_neg e1, if_neg e2] at h2; omega
/-- How large is the block that is at a place; 0: there is none. -/
def sizeF (s : HM.Shape) (n : Nat) (B : Nat → BitVec 64) (x : Int) : Int :=
  match findP s n B x with
  | none => 0
  | some (i, q) => if WM.tR (B i) q = true then 64 * linesI (WM.cR (B i)) else 0
section
variable {s : HM.Shape} {n : Nat} {B B' : Nat → BitVec 64} {x : Int}
theorem sizeF_at {i q : Nat} (hi : i < n) (hq : q < 16) (ht : WM.tR (B i) q = true) : sizeF s n B (placeI s i (WM.cR (B i) : Nat) q) = 64 * linesI (WM.cR (B i)) := by
  obtain ⟨h1, h2⟩ := tR_cls hq ht
  unfold sizeF
  rw [findP_place hi h1 rfl h2]
  exact if_pos ht
theorem sizeF_cases (x : Int) : sizeF s n B x = 0 ∨ ∃ i q, findP s n B x = some (i, q) ∧ i < n ∧ q < 16 ∧ WM.tR (B i) q = true ∧ x = placeI s i (WM.cR (B i) : Nat) q ∧ sizeF s n B x = 64 * linesI (WM.cR (B i)) := by
  unfold sizeF
  cases hf : findP s n B x with
  | none => exact .inl rfl
  | some y =>
    obtain ⟨i, q⟩ := y
    obtain ⟨hi, hq, hx, -⟩ := findP_some hf
    rw [WM.cR_class] at hx
    dsimp only
    by_cases ht : WM.tR (B i) q = true
    · rw [if_pos ht]; exact .inr ⟨i, q, rfl, hi, hq, ht, hx, rfl⟩
    · rw [if_neg ht]; exact .inl rfl
theorem sizeF_ne {i q : Nat} (hi : i < n) (hq : q < 16) (ht : WM.tR (B i) q = true) : 0 < sizeF s n B (placeI s i (WM.cR (B i) : Nat) q) := by
  rw [sizeF_at hi hq ht]
  obtain ⟨L, hL, hL0, -, -⟩ := lines_bl (tR_cls hq ht).1
  rw [hL]; omega
/-- One slab is another one: the blocks of the others stay. -/
theorem sizeF_other (h : ∀ j, j < n → placeI s j 0 0 ≤ x → x < placeI s j 0 0 + 1024 → B' j = B j) : sizeF s n B' x = sizeF s n B x := by
  have hz : ∀ j : Nat, placeI s j 0 0 = s.data + 1024 * (j : Int) := fun j => by unfold placeI; simp
  have hf : findP s n B' x = findP s n B x := by
    unfold findP
    by_cases h1 : x < s.data ∨ s.data + 1024 * (n : Int) ≤ x
    · rw [if_pos h1, if_pos h1]
    · rw [if_neg h1, if_neg h1]
      obtain ⟨d, hd⟩ := Int.eq_ofNat_of_zero_le (by omega : 0 ≤ x - s.data)
      rw [hd, Int.toNat_natCast]
      rw [h (d / 1024) (by omega) (by rw [hz]; omega) (by rw [hz]; omega)]
  unfold sizeF
  rw [hf]
  cases hf2 : findP s n B x with
  | none => rfl
  | some y =>
    obtain ⟨i, q⟩ := y
    have e : B' i = B i := by
      obtain ⟨hi, hq, hx, hl⟩ := findP_some hf2
      have hl2 := linesI_le (WM.classM (B i))
      refine h i hi ?_ ?_
      · rw [hz, hx]; unfold placeI
        have : 0 ≤ 64 * linesI (WM.classM (B i)) * (q : Int) := Int.mul_nonneg (by omega) (by omega)
        omega
      · unfold findP at hf2
        split at hf2
        · cases hf2
        · rename_i h1
          split at hf2
          · cases hf2
          · simp only [Option.some.injEq, Prod.mk.injEq] at hf2
            rw [hz]; omega
    dsimp only
    rw [e]
end
end Go.Proofs.YtcpackbljaabnaaGreatDoor
