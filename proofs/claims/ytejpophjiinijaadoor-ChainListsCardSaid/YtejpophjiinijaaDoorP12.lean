/- P12: texts in one: P12a, P12b, P12c, P12d, P12e, P12f, P12g. -/
import Derived.Test.YtejpophjiinijaaDoorPoolWb
import Derived.Test.YtejpophjiinijaaDoorHeadForm
import Derived.Test.YtejpophjiinijaaDoorHeadTorn0
/-! ### P12a -/
/-! ### PoolBegin -/
namespace Go.Proofs.YtejpophjiinijaaDoor
set_option linter.unusedVariables false
set_option linter.unusedSimpArgs false
set_option maxRecDepth 100000
open Go Go.RowKit

/-- The shape of a device of m slabs. -/
def shN (m : Nat) : HM.Shape := ⟨((188 + m : Nat) : Int), (m : Int), 128, 256⟩
def begD (m : Nat) : NM.Dv := (NM.dev0 (188 + m)).format.1
theorem of_shN {m : Nat} (hm : m = 12) : HM.of ((188 + m : Nat) : Int) = (shN m, true) := by
  subst hm; decide +kernel
theorem dev0_len' (n : Nat) : (NM.dev0 n).ls.length = n := by simp [NM.dev0]
theorem beg_facts {m : Nat} (hm : m = 12) : (NM.dev0 (188 + m)).format.2 = (shN m, 0) ∧ (begD m).openH = (shN m, 0) ∧ (begD m).Up ∧ (begD m).Ok ∧ (begD m).ls.length = 188 + m ∧ ∀ i, i < m → (begD m).word (128 + 8 * i) = 0#64 := by
  have hof : (HM.of (NM.dev0 (188 + m)).ls.length).2 = true := by rw [dev0_len', of_shN hm]
  have hs : (HM.of (NM.dev0 (188 + m)).ls.length).1 = shN m := by rw [dev0_len', of_shN hm]
  have hok := NM.dev0_ok (188 + m) (by omega)
  have hup := NM.dev0_up (188 + m)
  have hp : 0 < (NM.dev0 (188 + m)).ls.length := by rw [dev0_len']; omega
  obtain ⟨f1, f2, f3, f4, f5, f6⟩ := NM.format_up hok hup hp hof
  have fo := NM.open_format hok hup hp hof
  have hwl : (HM.words (HM.of (NM.dev0 (188 + m)).ls.length).1).length = 8 := by
    obtain ⟨hn1, hn2, hn3, _⟩ := HM.of_some hof
    rw [hn3]; exact HM.words_len (by omega) (by omega)
  rw [hs] at f1 fo
  refine ⟨f1, fo, f2, f3, by rw [← dev0_len' (188 + m)]; exact f4, fun i hi => ?_⟩
  have := f5 (128 + 8 * i) (by omega) (by unfold NM.Dv.size; rw [dev0_len']; omega)
  rw [show begD m = (NM.dev0 (188 + m)).format.1 from rfl, this]
  rw [List.getD, List.getElem?_eq_none (by rw [hwl]; omega)]; rfl
theorem get_word {D : NM.Dv} (hp : 0 < D.ls.length) (hd : D.down = false) {i : Nat} (hi : 136 + 8 * i ≤ D.size) : D.get ((128 + 8 * i : Nat) : Int) 1 = ([D.word (128 + 8 * i)], 0) := by
  have h : D.get ((128 + 8 * i : Nat) : Int) 1 = (wordsAt D (128 + 8 * i) 1, 0) := get_in (o := 128 + 8 * i) (n := 1) hp hd (by omega) (by omega)
  rw [h]; rfl
theorem wordD_word {D : NM.Dv} (hp : 0 < D.ls.length) (hd : D.down = false) {i : Nat} (hi : 136 + 8 * i ≤ D.size) : wordD D i = D.word (128 + 8 * i) := by
  unfold wordD; rw [get_word hp hd hi]; rfl
theorem badD_word {D : NM.Dv} (hp : 0 < D.ls.length) (hd : D.down = false) {i : Nat} (hi : 136 + 8 * i ≤ D.size) : badD D i = if WM.rightM (D.word (128 + 8 * i)) = true then none else some 5 := by
  unfold badD; rw [wordD_word hp hd hi, get_word hp hd hi, if_neg (by simp)]
theorem openE_none {D : NM.Dv} {n : Nat} (h : ∀ i, i < n → badD D i = none) : openE D n = none := by
  induction n with
  | zero => rfl
  | succ n ih => unfold openE; rw [ih (fun i hi => h i (by omega))]; exact h n (by omega)
theorem beg_tab {m : Nat} (hm : m = 12) : openE (begD m) m = none ∧ tabD (begD m) m = List.replicate m 0#64 := by
  obtain ⟨_, _, hup, hok, hl, hw⟩ := beg_facts hm
  have hp : 0 < (begD m).ls.length := by rw [hl]; omega
  have hsz : ∀ i, i < m → 136 + 8 * i ≤ (begD m).size := fun i hi => by unfold NM.Dv.size; rw [hl]; omega
  refine ⟨openE_none fun i hi => ?_, ?_⟩
  · rw [badD_word hp hup.down (hsz i hi), hw i hi]; rfl
  · refine List.ext_getElem (by simp [tabD]) fun i h1 h2 => ?_
    have hi : i < m := by simpa [tabD] using h1
    simp only [tabD, List.getElem_map, List.getElem_range, List.getElem_replicate]
    rw [wordD_word hp hup.down (hsz i hi), hw i hi]
section
set_option maxHeartbeats 4000000
theorem begin_calls (m : Nat) (hm : m = 12) (w0 : World) (hF : Fours w0) :
    Ret Tryd.prog 31 #[.int .i64 ((188 + m : Nat) : Int)] w0 fun v w' => ∃ p b tb tc hb hc F, v = .tuple #[.pointer (some ⟨p, 0, none⟩), .pointer (some ⟨b, 0, none⟩)] ∧
      PD w' b p (shN m) (List.replicate m 0#64) (List.replicate m 0#64) tb tc hb hc F (begD m) ∧ Below w0.heap.size w0 w' ∧ (∀ k, PdK b tb hb F k → w0.heap.size ≤ k) := by
  have bel0 := Below.refl w0.heap.size w0
  obtain ⟨f1, f2, f3, f4, f5, f6⟩ := beg_facts hm
  obtain ⟨t1, t2⟩ := beg_tab hm
  obtain ⟨L, hL⟩ : ∃ L : Int, L = ((188 + m : Nat) : Int) := ⟨_, rfl⟩
  have hL1 : L.toNat = 188 + m := by omega
  rw [← hL]
  refine ret_of (args := [_]) _ Tryd.func31 rfl Tryd.ntmps31 (by simp) ?_
  simp -implicitDefEqProofs [go_sem]
  refine callE_of (newB L w0 (by unfold I64; omega)) ?_
  rintro v w1 ⟨b1, ⟨hn, rfl⟩ | ⟨hn, p, F1, rfl, h1, hg1⟩⟩
  · omega
  · rw [hL1] at h1
    have hS1 : St w0 w1 p F1 (NM.dev0 (188 + m)) := ⟨h1, b1, hg1⟩
    have hst := NM.format_steps (D := NM.dev0 (188 + m)) (by rw [dev0_len']; omega)
    have hs0 : (NM.dev0 (188 + m)).steps = 0 := rfl
    simp -implicitDefEqProofs [go_sem]
    refine callE_of (format_calls w1 hS1 hF (by rw [hs0]; omega)) ?_
    rintro v w2 ⟨rfl, F2, h2, T2⟩
    have hS2 := hS1.step h2 T2
    have hF2 : Fours w2 := hF.next hS2.bel
    have hg2 := hS2.ge
    have e1 : (NM.dev0 (188 + m)).format.2.1 = shN m := by rw [f1]
    have e2 : (NM.dev0 (188 + m)).format.2.2 = 0 := by rw [f1]
    rw [e1, e2]
    have h2 : DevB w2 p F2 (begD m) := h2
    have bel2 := hS2.bel
    simp -implicitDefEqProofs [go_sem, ↓stShape (shN m)]
    generalize hw3 : World.alloc w2 _ = w3 at *
    obtain ⟨hB3, b3, sz3⟩ := new_facts hw3
    have bel3 := bel2.trans (b3.mono bel2.size)
    replace h2 := h2.next b3
    replace hF2 := hF2.next b3
    have hS := poolOpen_calls m w3 h2 hF2 (by omega) (fun _ => by rw [f2]; exact ⟨rfl, rfl⟩)
    refine callE_of hS ?_
    rintro v w4 hO
    unfold OpenP at hO
    rw [f2, t1, t2] at hO
    rcases hO with ⟨h, _⟩ | ⟨_, ⟨e, h, _⟩ | ⟨_, b, tb, tc, hb, hc, rfl, hP, b4, hge⟩⟩
    · exact absurd rfl h
    · cases h
    · simp -implicitDefEqProofs [go_sem]
      refine body_tmp2 2 3 rfl ?_
      simp -implicitDefEqProofs [go_sem]
      have := bel3.size
      refine ⟨p, b, ⟨rfl, rfl⟩, tb, tc, hb, hc, F2, ⟨hP, h2.next b4, fun k hk hk2 => ?_⟩, bel3.trans (b4.mono bel3.size), fun k hk => ?_⟩
      · have := hge k hk
        have := h2.lt k hk2
        omega
      · rcases hk with hk | hk
        · exact hg2 k hk
        · have := hge k hk; omega
end
end Go.Proofs.YtejpophjiinijaaDoor

/-! ### PoolPlain -/
namespace Go.Proofs.YtejpophjiinijaaDoor
set_option linter.unusedVariables false
set_option linter.unusedSimpArgs false
set_option maxRecDepth 100000
open Go Go.RowKit

/-- Put is PutAll of one word. -/
theorem put_same {D : NM.Dv} {o : Nat} (h8 : o % 8 = 0) (ho : o + 8 ≤ D.size) (n : BitVec 64) : runS D (putAllS o [n]) = runS D (putS o n) := by
  have hlines : linesOf o 1 = 1 := by unfold linesOf; rw [if_neg (by omega)]; omega
  have hs : putAllS o [n] = [.store (o : Int) n, .flush ((64 * (o / 64) : Nat) : Int), .fence] := by
    unfold putAllS
    rw [show ([n] : List (BitVec 64)).length = 1 from rfl, hlines]
    simp [storesS, flushesS, List.range_succ]
  unfold NM.Dv.size at ho
  rw [hs]
  unfold putS
  by_cases h0 : (D.step (.store (o : Int) n)).2 = 0
  · rw [runS_ok h0, runS_ok h0]
    have hlE := step_len D (.store (o : Int) n)
    generalize (D.step (.store (o : Int) n)).1 = E at *
    have hf : E.step (.flush ((64 * (o / 64) : Nat) : Int)) = E.step (.flush (o : Int)) := by
      show E.flush _ = E.flush _
      cases hd : E.down with
      | true => unfold NM.Dv.flush; rw [NM.ask_down (by omega) hd, NM.ask_down (by omega) hd]; rfl
      | false =>
        have a1 : E.ask ((64 * (o / 64) : Nat) : Int) 1 = 0 := NM.ask_nat (e := 1) (by omega) hd (by unfold NM.Dv.size; omega) (Nat.mod_one _)
        have a2 : E.ask (o : Int) 1 = 0 := NM.ask_nat (e := 1) (by omega) hd (by unfold NM.Dv.size; omega) (Nat.mod_one _)
        unfold NM.Dv.flush
        rw [if_pos a1, if_pos a2, Int.toNat_natCast, Int.toNat_natCast, show 64 * (o / 64) / 64 = o / 64 by omega]
    by_cases h1 : (E.step (.flush (o : Int))).2 = 0
    · rw [runS_ok h1, runS_ok (by rw [hf]; exact h1), hf]
    · rw [runS_err h1, runS_err (by rw [hf]; exact h1), hf]
  · rw [runS_err h0, runS_err h0]
/-- On a device that is up it answers OK, and turns the one word. -/
theorem put_up {D : NM.Dv} (hok : D.Ok) (hu : D.Up) (hp : 0 < D.ls.length) {o : Nat} (h8 : o % 8 = 0) (ho : o + 8 ≤ D.size) (n : BitVec 64) :
    (runS D (putS o n)).2 = 0 ∧ (runS D (putS o n)).1.Up ∧ (runS D (putS o n)).1.Ok ∧ (runS D (putS o n)).1.ls.length = D.ls.length ∧
    (∀ x, x % 8 = 0 → x < D.size → (runS D (putS o n)).1.word x = if x = o then n else D.word x) ∧ ((runS D (putS o n)).1.ln (o / 64)).chg = [] := by
  have hin := putAllS_in (o := o) (l := [n]) (N := D.ls.length) h8 (by unfold NM.Dv.size at ho; show o + 8 * 1 ≤ _; omega)
  obtain ⟨h1, h2⟩ := runS_upUp hu hp _ hin
  have h3 := runS_okk hok (putAllS o [n])
  have h4 := runS_len D (putAllS o [n])
  have h5 := fun x hx hxs => putAll_words hok hp (o := o) (l := [n]) h8 (by show o + 8 * 1 ≤ _; omega) h1 (x := x) hx hxs
  have h6 := putAll_one hp (o := o) (l := [n]) h8 (by show o + 8 * 1 ≤ _; omega) h1 (j := 0) (by show 0 < 1; omega)
  rw [put_same h8 ho] at h1 h2 h3 h4 h5 h6
  refine ⟨h1, h2, h3, h4, fun x hx hxs => ?_, ?_⟩
  · rw [h5 x hx hxs]
    by_cases e : x = o
    · subst e
      rw [if_pos ⟨Nat.le_refl _, by show x < x + 8 * 1; omega⟩, if_pos rfl, Nat.sub_self]; rfl
    · rw [if_neg e, if_neg]
      rintro ⟨h, h'⟩
      have h' : x < o + 8 * 1 := h'
      omega
  · simpa using h6
/-- What is known of a pool on a device that is up: the device's table is what the pool knows. -/
structure Well (m : Nat) (V : PV) : Prop where
  len : V.T.length = m
  lenH : V.H.length = m
  pair : ∀ i, i < m → WM.Pair (V.T.getD i 0#64) (V.H.getD i 0#64)
  up : V.D.Up
  ok : V.D.Ok
  lines : V.D.ls.length = 188 + m
  tab : ∀ i, i < m → V.D.word (128 + 8 * i) = V.T.getD i 0#64
theorem well_put {m i : Nat} {V : PV} {x : BitVec 64} (h : Well m V) (hm : m = 12) (hi : i < m) (hx : WM.Pair x (V.H.getD i 0#64)) : (putV V i x).2 = 0 ∧ (putV V i x).1.T = V.T.set i x ∧ (putV V i x).1.H = V.H ∧ Well m (putV V i x).1 := by
  have hs : V.D.size = 64 * (188 + m) := by unfold NM.Dv.size; rw [h.lines]
  obtain ⟨u1, u2, u3, u4, u5, u6⟩ := put_up h.ok h.up (by rw [h.lines]; omega) (o := 128 + 8 * i) (by omega) (by omega) x
  have e1 : (putV V i x).2 = 0 := u1
  have e2 : (putV V i x).1.T = V.T.set i x := by show (if _ then _ else _) = _; rw [if_pos u1]
  have e3 : (putV V i x).1.H = V.H := rfl
  have hget : ∀ j, j < m → (V.T.set i x).getD j 0#64 = if j = i then x else V.T.getD j 0#64 := fun j hj => by
    by_cases e : j = i
    · subst e; rw [if_pos rfl]; simp [List.getD, h.len, hj]
    · rw [if_neg e]; simp [List.getD, Ne.symm e]
  refine ⟨e1, e2, e3, ⟨by rw [e2, List.length_set]; exact h.len, h.lenH, fun j hj => ?_, u2, u3, u4.trans h.lines, fun j hj => ?_⟩⟩
  · rw [e2, e3, hget j hj]
    split
    · rename_i e; subst e; exact hx
    · exact h.pair j hj
  · show (runS V.D (putS ((128 + 8 * i : Nat) : Int) x)).1.word (128 + 8 * j) = _
    rw [u5 _ (by omega) (by omega), e2, hget j hj]
    by_cases e : j = i
    · subst e; rw [if_pos rfl, if_pos rfl]
    · rw [if_neg (by omega), if_neg e]; exact h.tab j hj
end Go.Proofs.YtejpophjiinijaaDoor

/-! ### PoolWell -/
namespace Go.Proofs.YtejpophjiinijaaDoor
set_option linter.unusedVariables false
set_option linter.unusedSimpArgs false
set_option maxRecDepth 100000
open Go Go.RowKit

theorem wordsSet {l : List (BitVec 64)} {m i j : Nat} (hl : l.length = m) (hj : j < m) (x : BitVec 64) : (l.set i x).getD j 0#64 = if j = i then x else l.getD j 0#64 := by
  by_cases e : j = i
  · subst e; rw [if_pos rfl]; simp [List.getD, hl, hj]
  · rw [if_neg e]; simp [List.getD, Ne.symm e]
theorem well_held {m i : Nat} {V : PV} {y : BitVec 64} (h : Well m V) (hp : WM.Pair (V.T.getD i 0#64) y) : Well m { V with H := V.H.set i y } := by
  refine ⟨h.len, by rw [List.length_set]; exact h.lenH, fun j hj => ?_, h.up, h.ok, h.lines, h.tab⟩
  show WM.Pair (V.T.getD j 0#64) ((V.H.set i y).getD j 0#64)
  rw [wordsSet h.lenH hj]
  split
  · rename_i e; subst e; exact hp
  · exact h.pair j hj
theorem well_zero {m : Nat} (hm : m = 12) : Well m ⟨List.replicate m 0#64, List.replicate m 0#64, begD m⟩ := by
  obtain ⟨f1, f2, f3, f4, f5, f6⟩ := beg_facts hm
  have hz : ∀ i, (List.replicate m 0#64).getD i 0#64 = 0#64 := fun i => by
    simp only [List.getD, List.getElem?_replicate]; split <;> rfl
  refine ⟨List.length_replicate, List.length_replicate, fun i _ => ?_, f3, f4, f5, fun i hi => ?_⟩
  · show WM.Pair ((List.replicate m 0#64).getD i 0#64) ((List.replicate m 0#64).getD i 0#64)
    rw [hz]; exact WM.Pair.zero
  · show (begD m).word (128 + 8 * i) = (List.replicate m 0#64).getD i 0#64
    rw [hz]; exact f6 i hi
theorem well_take {m : Nat} {V : PV} {s : HM.Shape} (h : Well m V) (hm : m = 12) (off : Int) : Well m (takeV s V off).1 ∧ ((takeV s V off).2 = 0 ∨ ((takeV s V off).2 = 7 ∧ (takeV s V off).1 = V)) := by
  unfold takeV
  split
  · exact ⟨h, .inr ⟨rfl, rfl⟩⟩
  · rename_i i q hf
    obtain ⟨hi, hq, -, -⟩ := findP_some hf
    rw [h.len] at hi
    by_cases hh : WM.hasM (V.H.getD i 0#64) q = true
    · rw [if_pos hh]
      have ht : WM.tR (V.H.getD i 0#64) q = true := by rw [← WM.has_ref _ _ hq]; exact hh
      obtain ⟨k1, k2, k3⟩ := (h.pair i hi).keep hq ht
      rw [WM.cR_class]
      have hp0 : WM.Pair (WM.takeW (V.T.getD i 0#64) (WM.cR (V.H.getD i 0#64) : Nat) q) (WM.dropW (V.H.getD i 0#64) q) := k2
      have hs : V.D.size = 64 * (188 + m) := by unfold NM.Dv.size; rw [h.lines]
      obtain ⟨u1, u2, u3, u4, u5, u6⟩ := put_up h.ok h.up (by rw [h.lines]; omega) (o := 128 + 8 * i) (by omega) (by omega) (WM.takeW (V.T.getD i 0#64) (WM.cR (V.H.getD i 0#64) : Nat) q)
      have e1 : (putV V i (WM.takeW (V.T.getD i 0#64) (WM.cR (V.H.getD i 0#64) : Nat) q)).2 = 0 := u1
      have e2 : (putV V i (WM.takeW (V.T.getD i 0#64) (WM.cR (V.H.getD i 0#64) : Nat) q)).1.T = V.T.set i (WM.takeW (V.T.getD i 0#64) (WM.cR (V.H.getD i 0#64) : Nat) q) := by show (if _ then _ else _) = _; rw [if_pos u1]
      rw [if_pos e1]
      refine ⟨⟨?_, ?_, fun j hj => ?_, u2, u3, u4.trans h.lines, fun j hj => ?_⟩, .inl rfl⟩
      · show (putV V i _).1.T.length = m
        rw [e2, List.length_set]; exact h.len
      · show (V.H.set i _).length = m
        rw [List.length_set]; exact h.lenH
      · show WM.Pair ((putV V i _).1.T.getD j 0#64) ((V.H.set i _).getD j 0#64)
        rw [e2, wordsSet h.len hj, wordsSet h.lenH hj]
        by_cases e : j = i
        · rw [if_pos e, if_pos e]; exact hp0
        · rw [if_neg e, if_neg e]; exact h.pair j hj
      · show (runS V.D (putS ((128 + 8 * i : Nat) : Int) _)).1.word (128 + 8 * j) = (putV V i _).1.T.getD j 0#64
        rw [u5 _ (by omega) (by omega), e2, wordsSet h.len hj]
        by_cases e : j = i
        · subst e; rw [if_pos rfl, if_pos rfl]
        · rw [if_neg (by omega), if_neg e]; exact h.tab j hj
    · rw [if_neg hh]; exact ⟨h, .inr ⟨rfl, rfl⟩⟩
theorem well_drop {m : Nat} {V : PV} {s : HM.Shape} (h : Well m V) (hm : m = 12) (off : Int) : Well m (dropV s V off).1 ∧ ((dropV s V off).2 = 0 ∨ ((dropV s V off).2 = 7 ∧ (dropV s V off).1 = V)) := by
  unfold dropV
  split
  · exact ⟨h, .inr ⟨rfl, rfl⟩⟩
  · rename_i i q hf
    obtain ⟨hi, hq, -, -⟩ := findP_some hf
    rw [h.len] at hi
    by_cases hh : WM.hasM (V.H.getD i 0#64) q = true
    · rw [if_pos hh]
      have ht : WM.tR (V.H.getD i 0#64) q = true := by rw [← WM.has_ref _ _ hq]; exact hh
      exact ⟨well_held h ((h.pair i hi).dropH hq ht).1, .inl rfl⟩
    · rw [if_neg hh]
      by_cases hy : WM.hasM (V.T.getD i 0#64) q = true
      · rw [if_pos hy]
        have ht : WM.tR (V.T.getD i 0#64) q = true := by rw [← WM.has_ref _ _ hq]; exact hy
        obtain ⟨e1, e2, e3, e4⟩ := well_put h hm hi ((h.pair i hi).dropT hq ht).1
        exact ⟨e4, .inl e1⟩
      · rw [if_neg hy]; exact ⟨h, .inr ⟨rfl, rfl⟩⟩
end Go.Proofs.YtejpophjiinijaaDoor

/-! ### PoolWell2 -/
namespace Go.Proofs.YtejpophjiinijaaDoor
set_option linter.unusedVariables false
set_option linter.unusedSimpArgs false
set_option maxRecDepth 100000
open Go Go.RowKit

/-- What Reserve makes of what is known, and its answer. -/
def reserveV (s : HM.Shape) (V : PV) (c : Nat) : PV × Int × Int :=
  match pickP (bF V.T V.H) V.T.length c with
  | none => (V, 0, 6)
  | some i => ({ V with H := V.H.set i (WM.takeW (V.H.getD i 0#64) c (WM.nextM (bF V.T V.H i) c)) }, placeI s i c (WM.nextM (bF V.T V.H i) c).toNat, 0)
theorem takeOk_next {x : BitVec 64} {c : Nat} (hx : WM.rB x = true) (hc : c = 1 ∨ c = 2) (h : 0 ≤ WM.nextM x c) : ∃ q : Nat, WM.nextM x c = q ∧ q < WM.bl c ∧ WM.takeOk x c q = true ∧ WM.tR x q = false ∧ ∀ j, j < q → WM.tR x j = true := by
  have hn := WM.next_ref x c
  rw [WM.blocksI_nat, Int.toNat_natCast] at hn
  split at hn
  · rename_i h1
    rcases WM.firstOff_cases x (WM.bl c) 0 with ⟨e, _⟩ | ⟨t, e, h2, h3, h4, h5⟩
    · omega
    · have hf : WM.tR x t = false := by rw [WM.bit_tR hx]; exact h4
      refine ⟨t, by rw [hn]; exact e, by omega, WM.take_ok hc (by omega) hx (by omega) hf, hf, fun j hj => ?_⟩
      rw [WM.bit_tR hx]; exact h5 j (by omega) hj
  · omega
theorem well_reserve {m : Nat} {V : PV} {s : HM.Shape} {c : Nat} (h : Well m V) (hc : c = 1 ∨ c = 2) : Well m (reserveV s V c).1 ∧ ((reserveV s V c).2.2 = 0 ∨ ((reserveV s V c).2.2 = 6 ∧ (reserveV s V c).1 = V)) := by
  unfold reserveV
  split
  · exact ⟨h, .inr ⟨rfl, rfl⟩⟩
  · rename_i i hp
    obtain ⟨hi, hge⟩ := pickP_of hp
    rw [h.len] at hi
    have hpr := h.pair i hi
    obtain ⟨q, hq, hqb, hok, _, _⟩ := takeOk_next (x := bF V.T V.H i) hpr.both.1 hc hge
    obtain ⟨r1, r2, r3⟩ := hpr.reserve (q := q) hok
    rw [hq]
    exact ⟨well_held h r2, .inl rfl⟩
section
variable {b p : Nat} {s : HM.Shape} {tb tc hb hc : Nat} {F : Nat → Prop}
/-- Reserve of a class, in the words of reserveV. -/
theorem poolReserve_calls (V : PV) (c : Nat) (hcl : c = 1 ∨ c = 2) (w0 : World) (h : PD w0 b p s V.T V.H tb tc hb hc F V.D) (hT : Tabs w0) (hn : V.T.length ≤ 64) (hs : 0 ≤ s.data ∧ s.data ≤ 1000000) :
    Ret Tryd.prog 48 #[.pointer (some ⟨b, 0, none⟩), .int .i64 (c : Int)] w0 fun v w' => v = .tuple #[.int .i64 (reserveV s V c).2.1, .int .i64 (reserveV s V c).2.2] ∧
      PD w' b p s (reserveV s V c).1.T (reserveV s V c).1.H tb tc hb hc F (reserveV s V c).1.D ∧ Turn w0 (PdK b tb hb F) w' (PdK b tb hb F) := by
  refine (reserve_calls w0 c h.pool hT hn hs).mono ?_
  rintro v w' (⟨h0, _⟩ | ⟨cn, hcn, _, h1⟩)
  · rcases hcl with rfl | rfl <;> exact absurd h0 (by decide)
  · obtain rfl : c = cn := by omega
    rcases h1 with ⟨hp, rfl, hb'⟩ | ⟨i, q, hp, hq, rfl, hP, hM⟩
    · have e : reserveV s V c = (V, 0, 6) := by unfold reserveV; rw [hp]
      rw [e]
      exact ⟨rfl, h.next hb', Turn.of hb'⟩
    · have e : reserveV s V c = ({ V with H := V.H.set i (WM.takeW (V.H.getD i 0#64) c q) }, placeI s i c q, 0) := by
        unfold reserveV; rw [hp]; dsimp only; rw [hq, Int.toNat_natCast]
      rw [e]
      exact ⟨rfl, ⟨hP, h.dev.mod hM (fun k hk e => h.apart k (.inr (.inr e)) hk), h.apart⟩, ⟨hM.mono (fun k hk _ => .inr (.inr (.inr hk))), fun k hk => .inl hk⟩⟩
end
end Go.Proofs.YtejpophjiinijaaDoor

/-! ### PoolCalm -/
namespace Go.Proofs.YtejpophjiinijaaDoor
set_option linter.unusedVariables false
set_option linter.unusedSimpArgs false
set_option maxRecDepth 100000
open Go Go.RowKit
namespace NM
/-- No line has a change that a crash may take. -/
def Calm (D : Dv) : Prop := ∀ i, i < D.ls.length → (D.ln i).chg = []
theorem put_rest {D : Dv} (hp : 0 < D.ls.length) {o : Nat} {n : BitVec 64} {i : Nat} (hi : i ≠ o / 64) (hiD : i < D.ls.length) (hc : (D.ln i).chg = []) : ((runS D (putS o n)).1.ln i).chg = [] := by
  refine (runS_inv (I := fun E => E.ls.length = D.ls.length ∧ (E.ln i).chg = []) _ (fun s hs E hE => ?_) ⟨rfl, hc⟩).2
  refine ⟨by rw [step_len]; exact hE.1, ?_⟩
  unfold putS at hs
  simp only [List.mem_cons, List.not_mem_nil, or_false] at hs
  rcases hs with rfl | rfl | rfl
  · show ((E.store _ _).1.ln i).chg = []
    rw [store_other (by omega) _ _ (fun o ho => by omega)]
    exact hE.2
  · show ((E.flush _).1.ln i).chg = []
    rw [flush_other (by omega) _ (fun o ho => by omega)]
    exact hE.2
  · show (E.fence.1.ln i).chg = []
    by_cases ha : E.ask 0 1 = 0
    · rw [fence_ln ha i (by omega)]; exact fence_nil hE.2
    · unfold Dv.fence; rw [if_neg ha]; exact hE.2
theorem put_calm {D : Dv} (hok : D.Ok) (hu : D.Up) (hp : 0 < D.ls.length) {o : Nat} (h8 : o % 8 = 0) (ho : o + 8 ≤ D.size) (n : BitVec 64) (h : Calm D) : Calm (runS D (putS o n)).1 := by
  obtain ⟨_, _, _, u4, _, u6⟩ := put_up hok hu hp h8 ho n
  intro i hi
  rw [u4] at hi
  by_cases e : i = o / 64
  · rw [e]; exact u6
  · exact put_rest hp e hi (h i hi)
theorem calm_crash {D : Dv} (ps : List (BitVec 8)) : Calm (D.crash ps) := fun i hi => crash_one ps (by rw [← crash_len D ps]; exact hi)
theorem calm_word {D : Dv} (hc : Calm D) (ps : List (BitVec 8)) {x : Nat} (hx : x < D.size) : (D.crash ps).word x = D.word x := by
  unfold Dv.size at hx
  unfold Dv.word
  rw [crash_same ps (by omega) (hc _ (by omega))]
theorem calm_open {D : Dv} (hc : Calm D) (hu : D.Up) (hp : 0 < D.ls.length) (ps : List (BitVec 8)) : (D.crash ps).openH = D.openH := by
  rw [open_up hp hu.down, open_up (by rw [crash_len]; exact hp) (Dv.Up.crash hp ps).down, crash_len]
  have e : wordsAt (D.crash ps) 0 8 = wordsAt D 0 8 := by
    unfold wordsAt
    refine List.map_congr_left fun i hi => ?_
    have := List.mem_range.1 hi
    exact calm_word hc ps (by unfold Dv.size; omega)
  rw [e]
theorem put_open {D : Dv} (hok : D.Ok) (hu : D.Up) (hp : 0 < D.ls.length) {o : Nat} (h8 : o % 8 = 0) (ho : o + 8 ≤ D.size) (h64 : 64 ≤ o) (n : BitVec 64) : (runS D (putS o n)).1.openH = D.openH := by
  obtain ⟨_, u2, _, u4, u5, _⟩ := put_up hok hu hp h8 ho n
  rw [open_up hp hu.down, open_up (by rw [u4]; exact hp) u2.down, u4]
  have e : wordsAt (runS D (putS o n)).1 0 8 = wordsAt D 0 8 := by
    unfold wordsAt
    refine List.map_congr_left fun i hi => ?_
    have := List.mem_range.1 hi
    rw [u5 (0 + 8 * i) (by omega) (by omega), if_neg (by omega)]
  rw [e]
end NM
theorem beg_calm {m : Nat} (hm : m = 12) : NM.Calm (begD m) := by
  have hof : (HM.of (NM.dev0 (188 + m)).ls.length).2 = true := by rw [dev0_len', of_shN hm]
  obtain ⟨f1, f2, f3, f4, f5, f6⟩ := NM.format_up (NM.dev0_ok (188 + m) (by omega)) (NM.dev0_up (188 + m)) (by rw [dev0_len']; omega) hof
  intro i hi
  exact f6 i (by rw [← f4]; exact hi)
/-- What pool.Open reads of a device that a pool knows. -/
theorem well_tab {m : Nat} {V : PV} (h : Well m V) (hm : m = 12) : openE V.D m = none ∧ tabD V.D m = V.T := by
  have hp : 0 < V.D.ls.length := by rw [h.lines]; omega
  have hsz : ∀ i, i < m → 136 + 8 * i ≤ V.D.size := fun i hi => by unfold NM.Dv.size; rw [h.lines]; omega
  refine ⟨openE_none fun i hi => ?_, ?_⟩
  · rw [badD_word hp h.up.down (hsz i hi), h.tab i hi, if_pos]
    have := (h.pair i hi).rt
    rw [WM.rB_eq] at this
    exact this
  · refine List.ext_getElem (by simp [tabD, h.len]) fun i h1 h2 => ?_
    have hi : i < m := by simpa [tabD] using h1
    simp only [tabD, List.getElem_map, List.getElem_range]
    rw [wordD_word hp h.up.down (hsz i hi), h.tab i hi]
    simp [List.getD, h2]
end Go.Proofs.YtejpophjiinijaaDoor

/-! ### PoolOwn -/
namespace Go.Proofs.YtejpophjiinijaaDoor
set_option linter.unusedVariables false
set_option linter.unusedSimpArgs false
set_option maxRecDepth 100000
open Go Go.RowKit

theorem lines_bl {c : Nat} (hc : c = 1 ∨ c = 2) : ∃ L : Nat, linesI c = (L : Int) ∧ 0 < L ∧ L ≤ 4 ∧ L * WM.bl c = 16 := by
  rcases hc with rfl | rfl
  · exact ⟨1, rfl, by decide, by decide, by decide⟩
  · exact ⟨4, rfl, by decide, by decide, by decide⟩
/-- A block's place in plain numbers. -/
theorem place_nat {c q L : Nat} (s : HM.Shape) (i : Nat) (hL : linesI c = (L : Int)) : placeI s i c q = s.data + ((1024 * i + 64 * L * q : Nat) : Int) := by
  unfold placeI
  rw [hL]
  have e5 : 64 * (L : Int) * (q : Int) = ((64 * L * q : Nat) : Int) := by push_cast; rfl
  rw [e5]; omega
theorem place_in {c q L : Nat} (hL0 : L * WM.bl c = 16) (hq : q < WM.bl c) : 64 * L * q + 64 * L ≤ 1024 := by
  have h : L * (q + 1) ≤ L * WM.bl c := Nat.mul_le_mul (Nat.le_refl _) hq
  rw [hL0, Nat.mul_add] at h
  have e : 64 * L * q = 64 * (L * q) := Nat.mul_assoc _ _ _
  omega
theorem findP_place {s : HM.Shape} {n i q c : Nat} {B : Nat → BitVec 64} (hi : i < n) (hc : c = 1 ∨ c = 2) (hB : WM.cR (B i) = c) (hq : q < WM.bl c) : findP s n B (placeI s i c q) = some (i, q) := by
  obtain ⟨L, hL, hL0, hL4, hLb⟩ := lines_bl hc
  have hin := place_in hLb hq
  rw [place_nat s i hL]
  obtain ⟨r, hr⟩ : ∃ r, r = 64 * L * q := ⟨_, rfl⟩
  rw [← hr] at hin ⊢
  have h1 : r % (64 * L) = 0 := by rw [hr]; exact Nat.mul_mod_right _ _
  have h2 : r / (64 * L) = q := by rw [hr]; exact Nat.mul_div_cancel_left q (by omega)
  unfold findP
  rw [if_neg (by omega), show s.data + ((1024 * i + r : Nat) : Int) - s.data = ((1024 * i + r : Nat) : Int) by omega, Int.toNat_natCast,
    show (1024 * i + r) / 1024 = i by omega, show (1024 * i + r) % 1024 = r by omega, WM.cR_class, hB, hL, Int.toNat_natCast, h1, h2, if_neg (by omega)]
theorem tR_cls {x : BitVec 64} {q : Nat} (hq : q < 16) (h : WM.tR x q = true) : (WM.cR x = 1 ∨ WM.cR x = 2) ∧ q < WM.bl (WM.cR x) := by
  obtain ⟨h1, h2⟩ := WM.tR_lt hq h
  refine ⟨?_, h2⟩
  unfold WM.bl at h2
  by_cases e1 : WM.cR x = 1
  · exact .inl e1
  · by_cases e2 : WM.cR x = 2
    · exact .inr e2
    · rw [if_neg e1, if_neg e2] at h2; omega
/-- How large is the block that is at a place; 0: there is none. -/
def sizeF (s : HM.Shape) (n : Nat) (B : Nat → BitVec 64) (x : Int) : Int :=
  match findP s n B x with
  | none => 0
  | some (i, q) => if WM.tR (B i) q = true then 64 * linesI (WM.cR (B i)) else 0
section
variable {s : HM.Shape} {n : Nat} {B B' : Nat → BitVec 64} {x : Int}
theorem sizeF_at {i q : Nat} (hi : i < n) (hq : q < 16) (ht : WM.tR (B i) q = true) : sizeF s n B (placeI s i (WM.cR (B i) : Nat) q) = 64 * linesI (WM.cR (B i)) := by
  obtain ⟨h1, h2⟩ := tR_cls hq ht
  unfold sizeF
  rw [findP_place hi h1 rfl h2]
  exact if_pos ht
theorem sizeF_cases (x : Int) : sizeF s n B x = 0 ∨ ∃ i q, findP s n B x = some (i, q) ∧ i < n ∧ q < 16 ∧ WM.tR (B i) q = true ∧ x = placeI s i (WM.cR (B i) : Nat) q ∧ sizeF s n B x = 64 * linesI (WM.cR (B i)) := by
  unfold sizeF
  cases hf : findP s n B x with
  | none => exact .inl rfl
  | some y =>
    obtain ⟨i, q⟩ := y
    obtain ⟨hi, hq, hx, -⟩ := findP_some hf
    rw [WM.cR_class] at hx
    dsimp only
    by_cases ht : WM.tR (B i) q = true
    · rw [if_pos ht]; exact .inr ⟨i, q, rfl, hi, hq, ht, hx, rfl⟩
    · rw [if_neg ht]; exact .inl rfl
theorem sizeF_ne {i q : Nat} (hi : i < n) (hq : q < 16) (ht : WM.tR (B i) q = true) : 0 < sizeF s n B (placeI s i (WM.cR (B i) : Nat) q) := by
  rw [sizeF_at hi hq ht]
  obtain ⟨L, hL, hL0, -, -⟩ := lines_bl (tR_cls hq ht).1
  rw [hL]; omega
/-- One slab is another one: the blocks of the others stay. -/
theorem sizeF_other (h : ∀ j, j < n → placeI s j 0 0 ≤ x → x < placeI s j 0 0 + 1024 → B' j = B j) : sizeF s n B' x = sizeF s n B x := by
  have hz : ∀ j : Nat, placeI s j 0 0 = s.data + 1024 * (j : Int) := fun j => by unfold placeI; simp
  have hf : findP s n B' x = findP s n B x := by
    unfold findP
    by_cases h1 : x < s.data ∨ s.data + 1024 * (n : Int) ≤ x
    · rw [if_pos h1, if_pos h1]
    · rw [if_neg h1, if_neg h1]
      obtain ⟨d, hd⟩ := Int.eq_ofNat_of_zero_le (by omega : 0 ≤ x - s.data)
      rw [hd, Int.toNat_natCast]
      rw [h (d / 1024) (by omega) (by rw [hz]; omega) (by rw [hz]; omega)]
  unfold sizeF
  rw [hf]
  cases hf2 : findP s n B x with
  | none => rfl
  | some y =>
    obtain ⟨i, q⟩ := y
    have e : B' i = B i := by
      obtain ⟨hi, hq, hx, hl⟩ := findP_some hf2
      have hl2 := linesI_le (WM.classM (B i))
      refine h i hi ?_ ?_
      · rw [hz, hx]; unfold placeI
        have : 0 ≤ 64 * linesI (WM.classM (B i)) * (q : Int) := Int.mul_nonneg (by omega) (by omega)
        omega
      · unfold findP at hf2
        split at hf2
        · cases hf2
        · rename_i h1
          split at hf2
          · cases hf2
          · simp only [Option.some.injEq, Prod.mk.injEq] at hf2
            rw [hz]; omega
    dsimp only
    rw [e]
end
end Go.Proofs.YtejpophjiinijaaDoor

/-! ### P12b -/
namespace Go.Proofs.YtejpophjiinijaaDoor
set_option linter.unusedVariables false
set_option linter.unusedSimpArgs false
set_option maxRecDepth 100000
open Go Go.RowKit

theorem bF_H {m i : Nat} {T H : List (BitVec 64)} (hH : H.length = m) (x : BitVec 64) {j : Nat} (hj : j < m) : bF T (H.set i x) j = if j = i then T.getD i 0#64 ||| x else bF T H j := by
  unfold bF
  rw [wordsSet hH hj]
  by_cases e : j = i
  · subst e; rw [if_pos rfl, if_pos rfl]
  · rw [if_neg e, if_neg e]
theorem bF_T {m i : Nat} {T H : List (BitVec 64)} (hT : T.length = m) (x : BitVec 64) {j : Nat} (hj : j < m) : bF (T.set i x) H j = if j = i then x ||| H.getD i 0#64 else bF T H j := by
  unfold bF
  rw [wordsSet hT hj]
  by_cases e : j = i
  · subst e; rw [if_pos rfl, if_pos rfl]
  · rw [if_neg e, if_neg e]
theorem bF_TH {m i : Nat} {T H : List (BitVec 64)} (hT : T.length = m) (hH : H.length = m) (x y : BitVec 64) {j : Nat} (hj : j < m) : bF (T.set i x) (H.set i y) j = if j = i then x ||| y else bF T H j := by
  unfold bF
  rw [wordsSet hT hj, wordsSet hH hj]
  by_cases e : j = i
  · rw [if_pos e, if_pos e, if_pos e]
  · rw [if_neg e, if_neg e, if_neg e]
theorem place_inj {s : HM.Shape} {i i' q q' c c' : Nat} (hc : c = 1 ∨ c = 2) (hc' : c' = 1 ∨ c' = 2) (hq : q < WM.bl c) (hq' : q' < WM.bl c') (h : placeI s i c q = placeI s i' c' q') : i = i' ∧ (c = c' → q = q') := by
  obtain ⟨L, hL, hL0, hL4, hLb⟩ := lines_bl hc
  obtain ⟨L', hL', hL0', hL4', hLb'⟩ := lines_bl hc'
  have h1 := place_in hLb hq
  have h2 := place_in hLb' hq'
  rw [place_nat s i hL, place_nat s i' hL'] at h
  obtain ⟨r, hr⟩ : ∃ r, r = 64 * L * q := ⟨_, rfl⟩
  obtain ⟨r', hr'⟩ : ∃ r, r = 64 * L' * q' := ⟨_, rfl⟩
  rw [← hr] at h h1
  rw [← hr'] at h h2
  refine ⟨by omega, fun e => ?_⟩
  subst e
  have e2 : L = L' := by rw [hL] at hL'; omega
  subst e2
  have e3 : r = r' := by omega
  rw [hr, hr'] at e3
  exact Nat.eq_of_mul_eq_mul_left (by omega : 0 < 64 * L) e3
/-- A block of some words, its place, its size. -/
def isB (s : HM.Shape) (n : Nat) (B : Nat → BitVec 64) (y k : Int) : Prop := ∃ i q : Nat, i < n ∧ q < 16 ∧ WM.tR (B i) q = true ∧ y = placeI s i (WM.cR (B i) : Nat) q ∧ k = 64 * linesI (WM.cR (B i))
section
variable {s : HM.Shape} {n : Nat} {B B' : Nat → BitVec 64} {x y : Int}
theorem sizeF_isB {k : Int} (h : isB s n B y k) : sizeF s n B y = k ∧ 0 < k := by
  obtain ⟨i, q, hi, hq, ht, rfl, rfl⟩ := h
  have h1 := sizeF_at (s := s) hi hq ht
  have h2 := sizeF_ne (s := s) hi hq ht
  exact ⟨h1, h1 ▸ h2⟩
theorem isB_sizeF (h : 0 < sizeF s n B y) : isB s n B y (sizeF s n B y) := by
  rcases sizeF_cases (s := s) (n := n) (B := B) y with h0 | ⟨i, q, -, hi, hq, ht, hy, hk⟩
  · omega
  · exact ⟨i, q, hi, hq, ht, hy, hk⟩
theorem sizeF_nn : 0 ≤ sizeF s n B y := by
  rcases sizeF_cases (s := s) (n := n) (B := B) y with h0 | ⟨i, q, -, hi, hq, ht, hy, hk⟩
  · omega
  · have := linesI_le (WM.cR (B i)); omega
theorem sizeF_ext (h : ∀ k, isB s n B' y k ↔ isB s n B y k) : sizeF s n B' y = sizeF s n B y := by
  have n1 := sizeF_nn (s := s) (n := n) (B := B) (y := y)
  have n2 := sizeF_nn (s := s) (n := n) (B := B') (y := y)
  by_cases h1 : 0 < sizeF s n B' y
  · exact (sizeF_isB ((h _).1 (isB_sizeF h1))).1.symm
  · by_cases h2 : 0 < sizeF s n B y
    · exact (sizeF_isB ((h _).2 (isB_sizeF h2))).1
    · omega
theorem sizeF_same (h : ∀ j, j < n → B' j = B j) (y : Int) : sizeF s n B' y = sizeF s n B y := sizeF_other fun j hj _ _ => h j hj
/-- One block more. -/
theorem sizeF_more {i q c : Nat} (hi : i < n) (hc : c = 1 ∨ c = 2) (hq : q < WM.bl c) (ho : ∀ j, j < n → j ≠ i → B' j = B j) (hk : WM.cR (B i) = 0 ∨ WM.cR (B i) = c) (hc' : WM.cR (B' i) = c) (hf : WM.tR (B i) q = false)
    (ht : ∀ j, j < 16 → WM.tR (B' i) j = WM.setT (WM.tR (B i)) q true j) : sizeF s n B (placeI s i c q) = 0 ∧ sizeF s n B' (placeI s i c q) = 64 * linesI c ∧ ∀ y, y ≠ placeI s i c q → sizeF s n B' y = sizeF s n B y := by
  have hq16 : q < 16 := Nat.lt_of_lt_of_le hq (WM.bl_le c)
  refine ⟨?_, ?_, fun y hy => sizeF_ext fun k => ⟨?_, ?_⟩⟩
  · rcases sizeF_cases (s := s) (n := n) (B := B) (placeI s i c q) with h0 | ⟨i', q', -, hi', hq', ht', hy, -⟩
    · exact h0
    · obtain ⟨k1, k2⟩ := tR_cls hq' ht'
      obtain ⟨rfl, e2⟩ := place_inj hc k1 hq k2 hy
      rcases hk with hk | hk
      · omega
      · rw [e2 hk.symm] at hf; rw [hf] at ht'; cases ht'
  · have h1 : WM.tR (B' i) q = true := by rw [ht q hq16]; simp [WM.setT]
    have := sizeF_at (s := s) hi hq16 h1
    rw [hc'] at this; exact this
  · rintro ⟨i', q', hi', hq', ht', rfl, rfl⟩
    by_cases e : i' = i
    · subst e
      have h2 : q' ≠ q := fun e => hy (by rw [hc', e])
      rw [ht q' hq'] at ht'
      have h3 : WM.tR (B i') q' = true := by simpa [WM.setT, h2] using ht'
      have h4 : WM.cR (B i') = c := by
        rcases hk with hk | hk
        · have := (WM.tR_lt hq' h3).1; omega
        · exact hk
      exact ⟨i', q', hi', hq', h3, by rw [hc', h4], by rw [hc', h4]⟩
    · rw [ho i' hi' e] at ht' ⊢
      exact ⟨i', q', hi', hq', ht', rfl, rfl⟩
  · rintro ⟨i', q', hi', hq', ht', rfl, rfl⟩
    by_cases e : i' = i
    · subst e
      have h4 : WM.cR (B i') = c := by
        rcases hk with hk | hk
        · have := (WM.tR_lt hq' ht').1; omega
        · exact hk
      have h3 : WM.tR (B' i') q' = true := by rw [ht q' hq']; simp [WM.setT, ht']
      exact ⟨i', q', hi', hq', h3, by rw [hc', h4], by rw [hc', h4]⟩
    · have h3 : WM.tR (B' i') q' = true := by rw [ho i' hi' e]; exact ht'
      exact ⟨i', q', hi', hq', h3, by rw [ho i' hi' e], by rw [ho i' hi' e]⟩
/-- One block less. -/
theorem sizeF_less {i q : Nat} (hi : i < n) (hq : q < 16) (ho : ∀ j, j < n → j ≠ i → B' j = B j) (ht : WM.tR (B i) q = true) (hk : WM.cR (B' i) = 0 ∨ WM.cR (B' i) = WM.cR (B i))
    (ht' : ∀ j, j < 16 → WM.tR (B' i) j = WM.setT (WM.tR (B i)) q false j) : sizeF s n B' (placeI s i (WM.cR (B i) : Nat) q) = 0 ∧ ∀ y, y ≠ placeI s i (WM.cR (B i) : Nat) q → sizeF s n B' y = sizeF s n B y := by
  obtain ⟨k1, k2⟩ := tR_cls hq ht
  have hoff : ∀ q', q' < 16 → WM.tR (B' i) q' = true → q' ≠ q ∧ WM.tR (B i) q' = true ∧ WM.cR (B' i) = WM.cR (B i) := fun q' hq' h => by
    have h0 := (WM.tR_lt hq' h).1
    rw [ht' q' hq'] at h
    by_cases e : q' = q
    · rw [e] at h; simp [WM.setT] at h
    · refine ⟨e, by simpa [WM.setT, e] using h, by omega⟩
  refine ⟨?_, fun y hy => sizeF_ext fun k => ⟨?_, ?_⟩⟩
  · rcases sizeF_cases (s := s) (n := n) (B := B') (placeI s i (WM.cR (B i) : Nat) q) with h0 | ⟨i', q', -, hi', hq', h3, hy, -⟩
    · exact h0
    · obtain ⟨k3, k4⟩ := tR_cls hq' h3
      obtain ⟨rfl, e2⟩ := place_inj k1 k3 k2 k4 hy
      obtain ⟨h5, h6, h7⟩ := hoff q' hq' h3
      exact absurd (e2 h7.symm).symm h5
  · rintro ⟨i', q', hi', hq', h3, rfl, rfl⟩
    by_cases e : i' = i
    · subst e
      obtain ⟨h5, h6, h7⟩ := hoff q' hq' h3
      exact ⟨i', q', hi', hq', h6, by rw [h7], by rw [h7]⟩
    · rw [ho i' hi' e] at h3 ⊢
      exact ⟨i', q', hi', hq', h3, rfl, rfl⟩
  · rintro ⟨i', q', hi', hq', h3, rfl, rfl⟩
    by_cases e : i' = i
    · subst e
      have h5 : q' ≠ q := fun e => hy (by rw [e])
      have h6 : WM.tR (B' i') q' = true := by rw [ht' q' hq']; simp [WM.setT, h5, h3]
      obtain ⟨-, -, h7⟩ := hoff q' hq' h6
      exact ⟨i', q', hi', hq', h6, by rw [h7], by rw [h7]⟩
    · have h4 : WM.tR (B' i') q' = true := by rw [ho i' hi' e]; exact h3
      exact ⟨i', q', hi', hq', h4, by rw [ho i' hi' e], by rw [ho i' hi' e]⟩
end
section
variable {m : Nat} {V : PV} {s : HM.Shape}
/-- Reserve: no room, or one block more is held. -/
theorem resV (h : Well m V) {c : Nat} (hc : c = 1 ∨ c = 2) : reserveV s V c = (V, 0, 6) ∨ ∃ i q : Nat, i < m ∧ q < WM.bl c ∧ WM.takeOk (bF V.T V.H i) c q = true ∧
    reserveV s V c = (⟨V.T, V.H.set i (WM.takeW (V.H.getD i 0#64) c q), V.D⟩, placeI s i c q, 0) := by
  unfold reserveV
  split
  · exact .inl rfl
  · rename_i i hp
    obtain ⟨hi, hge⟩ := pickP_of hp
    rw [h.len] at hi
    obtain ⟨q, hq, hqb, hok, _, _⟩ := takeOk_next (x := bF V.T V.H i) (h.pair i hi).both.1 hc hge
    rw [hq, Int.toNat_natCast]
    exact .inr ⟨i, q, hi, hqb, hok, rfl⟩
/-- .. and what is at each place then. -/
theorem resV_size (h : Well m V) {c i q : Nat} (hc : c = 1 ∨ c = 2) (hi : i < m) (hq : q < WM.bl c) (hok : WM.takeOk (bF V.T V.H i) c q = true) :
    Well m ⟨V.T, V.H.set i (WM.takeW (V.H.getD i 0#64) c q), V.D⟩ ∧ WM.tR (WM.takeW (V.H.getD i 0#64) c q) q = true ∧ WM.cR (bF V.T (V.H.set i (WM.takeW (V.H.getD i 0#64) c q)) i) = c ∧
    sizeF s m (bF V.T V.H) (placeI s i c q) = 0 ∧ sizeF s m (bF V.T (V.H.set i (WM.takeW (V.H.getD i 0#64) c q))) (placeI s i c q) = 64 * linesI c ∧
    ∀ y, y ≠ placeI s i c q → sizeF s m (bF V.T (V.H.set i (WM.takeW (V.H.getD i 0#64) c q))) y = sizeF s m (bF V.T V.H) y := by
  have hpr := h.pair i hi
  have hq16 : q < 16 := Nat.lt_of_lt_of_le hq (WM.bl_le c)
  obtain ⟨r1, r2, r3⟩ := hpr.reserve (q := q) hok
  have hB' : bF V.T (V.H.set i (WM.takeW (V.H.getD i 0#64) c q)) i = WM.takeW (bF V.T V.H i) c q := by
    rw [bF_H h.lenH _ hi, if_pos rfl]; exact r3
  obtain ⟨cn, qn, e1, e2, -, -, h5, h6, h7, h8⟩ := WM.take_state hok
  obtain ⟨-, q2, e3, e4, -, -, g5, g6, g7, g8⟩ := WM.take_state r1
  obtain rfl : cn = c := by omega
  obtain rfl : qn = q := by omega
  obtain rfl : q2 = qn := by omega
  have hcR := (WM.cR_norm h7).1
  refine ⟨well_held h r2, ?_, by rw [hB', hcR], ?_⟩
  · rw [g8 _ hq16]; simp [WM.setT]
  · refine sizeF_more hi hc hq (fun j hj hne => ?_) (by omega) (by rw [hB', hcR]) h5 (fun j hj => by rw [hB', h8 j hj])
    rw [bF_H h.lenH _ hj, if_neg hne]
/-- Take of a place where a block is held. -/
theorem takV (h : Well m V) (hm : m = 12) (off : Int) : takeV s V off = (V, 7) ∨ ∃ i q : Nat, findP s m (bF V.T V.H) off = some (i, q) ∧ i < m ∧ q < 16 ∧ WM.tR (V.H.getD i 0#64) q = true ∧ off = placeI s i (WM.cR (bF V.T V.H i) : Nat) q ∧
    ∃ D', takeV s V off = (⟨V.T.set i (WM.takeW (V.T.getD i 0#64) (WM.cR (V.H.getD i 0#64) : Nat) q), V.H.set i (WM.dropW (V.H.getD i 0#64) q), D'⟩, 0) ∧ D' = (runS V.D (putS ((128 + 8 * i : Nat) : Int) (WM.takeW (V.T.getD i 0#64) (WM.cR (V.H.getD i 0#64) : Nat) q))).1 := by
  unfold takeV
  rw [h.len]
  cases hf : findP s m (bF V.T V.H) off with
  | none => exact .inl rfl
  | some y =>
    obtain ⟨i, q⟩ := y
    obtain ⟨hi, hq, hx, -⟩ := findP_some hf
    rw [WM.cR_class] at hx
    dsimp only
    by_cases hh : WM.hasM (V.H.getD i 0#64) q = true
    · rw [if_pos hh, WM.cR_class]
      have ht : WM.tR (V.H.getD i 0#64) q = true := by rw [← WM.has_ref _ _ hq]; exact hh
      have hs : V.D.size = 64 * (188 + m) := by unfold NM.Dv.size; rw [h.lines]
      obtain ⟨u1, -⟩ := put_up h.ok h.up (by rw [h.lines]; omega) (o := 128 + 8 * i) (by omega) (by omega) (WM.takeW (V.T.getD i 0#64) (WM.cR (V.H.getD i 0#64) : Nat) q)
      have e1 : (putV V i (WM.takeW (V.T.getD i 0#64) (WM.cR (V.H.getD i 0#64) : Nat) q)).2 = 0 := u1
      rw [if_pos e1]
      refine .inr ⟨i, q, rfl, hi, hq, ht, hx, _, ?_, rfl⟩
      refine Prod.ext ?_ rfl
      exact congrArg (fun x => PV.mk x _ _) (if_pos u1)
    · rw [if_neg hh]; exact .inl rfl
/-- Drop of a place. -/
theorem drpV (h : Well m V) (hm : m = 12) (off : Int) : (dropV s V off = (V, 7) ∧ sizeF s m (bF V.T V.H) off = 0) ∨ ∃ i q : Nat, findP s m (bF V.T V.H) off = some (i, q) ∧ i < m ∧ q < 16 ∧ off = placeI s i (WM.cR (bF V.T V.H i) : Nat) q ∧
    ((WM.tR (V.H.getD i 0#64) q = true ∧ dropV s V off = (⟨V.T, V.H.set i (WM.dropW (V.H.getD i 0#64) q), V.D⟩, 0)) ∨
     (WM.tR (V.H.getD i 0#64) q = false ∧ WM.tR (V.T.getD i 0#64) q = true ∧ dropV s V off = (⟨V.T.set i (WM.dropW (V.T.getD i 0#64) q), V.H, (runS V.D (putS ((128 + 8 * i : Nat) : Int) (WM.dropW (V.T.getD i 0#64) q))).1⟩, 0))) := by
  unfold dropV sizeF
  rw [h.len]
  cases hf : findP s m (bF V.T V.H) off with
  | none => exact .inl ⟨rfl, rfl⟩
  | some y =>
    obtain ⟨i, q⟩ := y
    obtain ⟨hi, hq, hx, -⟩ := findP_some hf
    rw [WM.cR_class] at hx
    dsimp only
    have hb := (h.pair i hi).both.2.2 q hq
    rw [WM.has_ref _ _ hq, WM.has_ref _ _ hq]
    cases hH : WM.tR (V.H.getD i 0#64) q with
    | true => rw [if_pos rfl]; exact .inr ⟨i, q, rfl, hi, hq, hx, .inl ⟨hH, rfl⟩⟩
    | false =>
      rw [if_neg (by decide)]
      cases hT : WM.tR (V.T.getD i 0#64) q with
      | true =>
        rw [if_pos rfl]
        refine .inr ⟨i, q, rfl, hi, hq, hx, .inr ⟨hH, hT, ?_⟩⟩
        have hs : V.D.size = 64 * (188 + m) := by unfold NM.Dv.size; rw [h.lines]
        obtain ⟨u1, -⟩ := put_up h.ok h.up (by rw [h.lines]; omega) (o := 128 + 8 * i) (by omega) (by omega) (WM.dropW (V.T.getD i 0#64) q)
        refine Prod.ext ?_ u1
        exact congrArg (fun x => PV.mk x _ _) (if_pos u1)
      | false =>
        rw [if_neg (by decide)]
        have e : WM.tR (bF V.T V.H i) q = false := by
          have : WM.tR (bF V.T V.H i) q = (WM.tR (V.T.getD i 0#64) q || WM.tR (V.H.getD i 0#64) q) := hb
          rw [this, hH, hT]; rfl
        exact .inl ⟨rfl, by rw [e]; rfl⟩
/-- What Take leaves at each place. -/
theorem takV_size (h : Well m V) {i q : Nat} (hi : i < m) (hq : q < 16) (ht : WM.tR (V.H.getD i 0#64) q = true) (y : Int) :
    sizeF s m (bF (V.T.set i (WM.takeW (V.T.getD i 0#64) (WM.cR (V.H.getD i 0#64) : Nat) q)) (V.H.set i (WM.dropW (V.H.getD i 0#64) q))) y = sizeF s m (bF V.T V.H) y := by
  obtain ⟨k1, k2, k3⟩ := (h.pair i hi).keep hq ht
  refine sizeF_same (fun j hj => ?_) y
  rw [bF_TH h.len h.lenH _ _ hj]
  by_cases e : j = i
  · subst e; rw [if_pos rfl]; exact k3
  · rw [if_neg e]
/-- What Drop leaves at each place. -/
theorem drpV_size (h : Well m V) (hm : m = 12) (off : Int) : (dropV s V off = (V, 7) ∧ sizeF s m (bF V.T V.H) off = 0) ∨
    ((dropV s V off).2 = 0 ∧ 0 < sizeF s m (bF V.T V.H) off ∧ sizeF s m (bF (dropV s V off).1.T (dropV s V off).1.H) off = 0 ∧ ∀ y, y ≠ off → sizeF s m (bF (dropV s V off).1.T (dropV s V off).1.H) y = sizeF s m (bF V.T V.H) y) := by
  rcases drpV (s := s) h hm off with h0 | ⟨i, q, hf, hi, hq, hx, ⟨hH, he⟩ | ⟨hH, hT, he⟩⟩
  · exact .inl h0
  · right
    have hb := (h.pair i hi).both.2.2 q hq
    have ht : WM.tR (bF V.T V.H i) q = true := by
      have : WM.tR (bF V.T V.H i) q = (WM.tR (V.T.getD i 0#64) q || WM.tR (V.H.getD i 0#64) q) := hb
      rw [this, hH, Bool.or_true]
    obtain ⟨-, d2⟩ := (h.pair i hi).dropH hq hH
    have hB' : bF V.T (V.H.set i (WM.dropW (V.H.getD i 0#64) q)) i = WM.dropW (bF V.T V.H i) q := by rw [bF_H h.lenH _ hi, if_pos rfl]; exact d2
    obtain ⟨-, f2, f3⟩ := WM.drop_full hq ht
    have hl := sizeF_less (s := s) (B' := bF V.T (V.H.set i (WM.dropW (V.H.getD i 0#64) q))) hi hq (fun j hj hne => by rw [bF_H h.lenH _ hj, if_neg hne]) ht (by rw [hB']; exact f2) (fun j hj => by rw [hB']; exact f3 j hj)
    rw [he]
    refine ⟨rfl, ?_, ?_⟩
    · rw [hx]; exact sizeF_ne hi hq ht
    · rw [hx]; exact hl
  · right
    have hb := (h.pair i hi).both.2.2 q hq
    have ht : WM.tR (bF V.T V.H i) q = true := by
      have : WM.tR (bF V.T V.H i) q = (WM.tR (V.T.getD i 0#64) q || WM.tR (V.H.getD i 0#64) q) := hb
      rw [this, hT, Bool.true_or]
    obtain ⟨-, d2⟩ := (h.pair i hi).dropT hq hT
    have hB' : bF (V.T.set i (WM.dropW (V.T.getD i 0#64) q)) V.H i = WM.dropW (bF V.T V.H i) q := by rw [bF_T h.len _ hi, if_pos rfl]; exact d2
    obtain ⟨-, f2, f3⟩ := WM.drop_full hq ht
    have hl := sizeF_less (s := s) (B' := bF (V.T.set i (WM.dropW (V.T.getD i 0#64) q)) V.H) hi hq (fun j hj hne => by rw [bF_T h.len _ hj, if_neg hne]) ht (by rw [hB']; exact f2) (fun j hj => by rw [hB']; exact f3 j hj)
    rw [he]
    refine ⟨rfl, ?_, ?_⟩
    · rw [hx]; exact sizeF_ne hi hq ht
    · rw [hx]; exact hl
/-- What was just reserved can be taken. -/
theorem res_take (h : Well m V) (hm : m = 12) {c : Nat} (hc : c = 1 ∨ c = 2) (h0 : (reserveV s V c).2.2 = 0) : (takeV s (reserveV s V c).1 (reserveV s V c).2.1).2 = 0 := by
  rcases resV (s := s) h hc with e | ⟨i, q, hi, hq, hok, e⟩
  · rw [e] at h0; cases h0
  · obtain ⟨w1, w2, w3, -, -, -⟩ := resV_size (s := s) h hc hi hq hok
    have hq16 : q < 16 := Nat.lt_of_lt_of_le hq (WM.bl_le c)
    rw [e]
    rcases takV (s := s) w1 hm (placeI s i c q) with h7 | ⟨i', q', -, -, -, -, -, D', h7, -⟩
    · exfalso
      unfold takeV at h7
      dsimp only at h7
      have hf := findP_place (s := s) (B := bF V.T (V.H.set i (WM.takeW (V.H.getD i 0#64) c q))) hi hc w3 hq
      rw [h.len, hf] at h7
      dsimp only at h7
      have hg : (V.H.set i (WM.takeW (V.H.getD i 0#64) c q)).getD i 0#64 = WM.takeW (V.H.getD i 0#64) c q := by rw [wordsSet h.lenH hi, if_pos rfl]
      rw [hg, WM.has_ref _ _ hq16, w2, if_pos rfl] at h7
      have hs : V.D.size = 64 * (188 + m) := by unfold NM.Dv.size; rw [h.lines]
      split at h7
      · cases congrArg Prod.snd h7
      · rename_i hne
        obtain ⟨u1, -⟩ := put_up h.ok h.up (by rw [h.lines]; omega) (o := 128 + 8 * i) (by omega) (by omega) (WM.takeW (V.T.getD i 0#64) (WM.classM (WM.takeW (V.H.getD i 0#64) c q)) q)
        exact hne u1
    · rw [h7]
end
end Go.Proofs.YtejpophjiinijaaDoor

/-! ### P12c -/
namespace Go.Proofs.YtejpophjiinijaaDoor
set_option linter.unusedVariables false
set_option linter.unusedSimpArgs false
set_option maxRecDepth 100000
open Go Go.RowKit

def zL (m : Nat) : List (BitVec 64) := List.replicate m 0#64
theorem zL_len (m : Nat) : (zL m).length = m := List.length_replicate
theorem beg_small {m : Nat} (hm : m = 12) : (begD m).steps ≤ 100000 := by
  have := NM.format_steps (D := NM.dev0 (188 + m)) (by rw [dev0_len']; omega)
  have hs0 : (NM.dev0 (188 + m)).steps = 0 := rfl
  unfold begD; omega
structure Good (m k : Nat) (V : PV) : Prop where
  well : Well m V
  open_ : V.D.openH = (shN m, 0)
  calm : NM.Calm V.D
  steps : V.D.steps ≤ 100000 + 3 * k
section
variable {m k : Nat} {V : PV}
theorem good_zero (hm : m = 12) : Good m 0 ⟨zL m, zL m, begD m⟩ := ⟨well_zero hm, (beg_facts hm).2.1, beg_calm hm, beg_small hm⟩
theorem Good.mono (h : Good m k V) {k' : Nat} (hk : k ≤ k') : Good m k' V := ⟨h.well, h.open_, h.calm, by have := h.steps; omega⟩
theorem Good.put (h : Good m k V) (hm : m = 12) {i : Nat} (hi : i < m) (x : BitVec 64) {D' : NM.Dv} (hD : D' = (runS V.D (putS ((128 + 8 * i : Nat) : Int) x)).1) : D'.openH = (shN m, 0) ∧ NM.Calm D' ∧ D'.steps ≤ 100000 + 3 * (k + 1) := by
  have hl := h.well.lines
  have hs : V.D.size = 64 * (188 + m) := by unfold NM.Dv.size; rw [hl]
  have h1 := NM.put_open h.well.ok h.well.up (by rw [hl]; omega) (o := 128 + 8 * i) (by omega) (by omega) (by omega) x
  have h2 := NM.put_calm h.well.ok h.well.up (by rw [hl]; omega) (o := 128 + 8 * i) (by omega) (by omega) x h.calm
  have h3 := runS_steps V.D (putS ((128 + 8 * i : Nat) : Int) x)
  have h4 : (putS ((128 + 8 * i : Nat) : Int) x).length = 3 := rfl
  have h5 := h.steps
  rw [hD]
  exact ⟨h1.trans h.open_, h2, by omega⟩
theorem Good.reserve (h : Good m k V) (s : HM.Shape) {c : Nat} (hc : c = 1 ∨ c = 2) : Good m k (reserveV s V c).1 := by
  have hw := (well_reserve (s := s) h.well hc).1
  rcases resV (s := s) h.well hc with e | ⟨i, q, hi, hq, hok, e⟩
  · rw [e]; exact h
  · rw [e] at hw ⊢; exact ⟨hw, h.open_, h.calm, h.steps⟩
theorem Good.take (h : Good m k V) (hm : m = 12) (s : HM.Shape) (off : Int) : Good m (k + 1) (takeV s V off).1 := by
  have hw := (well_take (s := s) h.well hm off).1
  rcases takV (s := s) h.well hm off with e | ⟨i, q, -, hi, -, -, -, D', e, hD⟩
  · rw [e]; exact h.mono (by omega)
  · rw [e] at hw ⊢
    obtain ⟨h1, h2, h3⟩ := h.put hm hi _ hD
    exact ⟨hw, h1, h2, h3⟩
theorem Good.drop (h : Good m k V) (hm : m = 12) (s : HM.Shape) (off : Int) : Good m (k + 1) (dropV s V off).1 := by
  have hw := (well_drop (s := s) h.well hm off).1
  rcases drpV (s := s) h.well hm off with ⟨e, -⟩ | ⟨i, q, -, hi, -, -, ⟨-, e⟩ | ⟨-, -, e⟩⟩
  · rw [e]; exact h.mono (by omega)
  · rw [e] at hw ⊢
    exact ⟨hw, h.open_, h.calm, by have := h.steps; show V.D.steps ≤ _; omega⟩
  · rw [e] at hw ⊢
    obtain ⟨h1, h2, h3⟩ := h.put hm hi _ rfl
    exact ⟨hw, h1, h2, h3⟩
theorem res_small (h : Well m V) (hm : m = 12) {c : Nat} (hc : c = 1 ∨ c = 2) : ∃ n : Nat, (reserveV (shN m) V c).2.1 = (n : Int) ∧ n ≤ 20000 := by
  rcases resV (s := shN m) h hc with e | ⟨i, q, hi, hq, hok, e⟩
  · exact ⟨0, by rw [e]; rfl, by omega⟩
  · obtain ⟨L, hL, hL0, hL4, hLb⟩ := lines_bl hc
    have h1 := place_in hLb hq
    rw [e]
    refine ⟨256 + (1024 * i + 64 * L * q), ?_, by omega⟩
    show placeI (shN m) i c q = _
    rw [place_nat _ i hL]
    show (256 : Int) + _ = _
    omega
end
/-! ### A pool that is opened again -/
section
variable {m : Nat} {V : PV} {s : HM.Shape}
theorem zL_get (m i : Nat) : (zL m).getD i 0#64 = 0#64 := by
  unfold zL; simp only [List.getD, List.getElem?_replicate]; split <;> rfl
theorem many_zero : ∀ n m, manyL (zL m) n = 0
  | 0, _ => rfl
  | n + 1, m => by unfold manyL; rw [many_zero n m, zL_get]; decide +kernel
theorem mem_all {s : HM.Shape} {T : List (BitVec 64)} {x : Nat} : ∀ {n : Nat}, x ∈ allK s T n → ∃ i q, i < n ∧ q < 16 ∧ WM.tR (T.getD i 0#64) q = true ∧ x = placeN s i (WM.classM (T.getD i 0#64)) q
  | 0, h => by cases h
  | n + 1, h => by
    rcases List.mem_append.1 (show x ∈ allK s T n ++ rowK s n (T.getD n 0#64) from h) with h | h
    · obtain ⟨i, q, h1, h2⟩ := mem_all h
      exact ⟨i, q, by omega, h2⟩
    · unfold rowK at h
      obtain ⟨q, hq, rfl⟩ := List.mem_map.1 h
      rw [WM.list_ref, List.mem_filter, List.mem_range] at hq
      exact ⟨n, q, by omega, hq.1, hq.2, rfl⟩
theorem all_small {T : List (BitVec 64)} {x : Nat} (hm : m ≤ 4) (hx : x ∈ allK (shN m) T m) : x ≤ 20000 := by
  obtain ⟨i, q, hi, hq, ht, rfl⟩ := mem_all hx
  obtain ⟨k1, k2⟩ := tR_cls hq ht
  obtain ⟨L, hL, hL0, hL4, hLb⟩ := lines_bl k1
  have h1 := place_in hLb k2
  have h2 := placeN_int (shN m) (show (0 : Int) ≤ 256 by decide) i (WM.classM (T.getD i 0#64)) q
  rw [WM.cR_class] at h2 ⊢
  rw [place_nat _ i hL] at h2
  have h3 : (shN m).data = 256 := rfl
  omega
/-- At a block that is taken: both pools tell its class, and the new one has nothing held there. -/
theorem again_at (h : Well m V) (hd : 0 ≤ s.data) {x : Nat} (hx : x ∈ allK s V.T m) : ∃ c : Nat, (c = 1 ∨ c = 2) ∧ classV s V.T V.H x = c ∧ classV s V.T (zL m) x = c ∧ ∀ D, takeV s ⟨V.T, zL m, D⟩ x = (⟨V.T, zL m, D⟩, 7) := by
  obtain ⟨i, q, hi, hq, ht, rfl⟩ := mem_all hx
  obtain ⟨k1, k2⟩ := tR_cls hq ht
  rw [← placeN_int s hd, WM.cR_class]
  have hb : WM.cR (bF V.T V.H i) = WM.cR (V.T.getD i 0#64) := by
    rcases (h.pair i hi).cT with e | e
    · omega
    · exact e.symm
  have hb0 : bF V.T (zL m) i = V.T.getD i 0#64 := by unfold bF; rw [zL_get, BitVec.or_zero]
  have f1 := findP_place (s := s) (B := bF V.T V.H) hi k1 hb k2
  have f2 := findP_place (s := s) (B := bF V.T (zL m)) hi k1 (by rw [hb0]) k2
  have hhas : WM.hasM (V.T.getD i 0#64) q = true := by rw [WM.has_ref _ _ hq]; exact ht
  refine ⟨WM.cR (V.T.getD i 0#64), k1, ?_, ?_, fun D => ?_⟩
  · unfold classV; rw [h.len, f1]; dsimp only; rw [if_pos hhas, WM.cR_class]
  · unfold classV; rw [h.len, f2]; dsimp only; rw [if_pos hhas, WM.cR_class]
  · unfold takeV; dsimp only; rw [h.len, f2]; dsimp only; rw [zL_get, WM.has_zero, if_neg (by decide)]
end
end Go.Proofs.YtejpophjiinijaaDoor

/-! ### P12d -/
namespace Go.Proofs.YtejpophjiinijaaDoor
set_option linter.unusedVariables false
set_option linter.unusedSimpArgs false
set_option maxRecDepth 100000
open Go Go.RowKit

namespace NM
open Go.Proofs.YtejpophjiinijaaDoor.WM (getM putM putM_length putM_getD hasB get_put byteOf byteOf_wd wd)
/-- A word of a line is what it was, or it is the one that is put. -/
def CQ (W : Nat → BitVec 64) (o : Nat) (n : BitVec 64) (i : Nat) (b : List (BitVec 8)) : Prop := b.length = 64 ∧ ∀ r, r < 8 → getM b (8 * r) = W (64 * i + 8 * r) ∨ (64 * i + 8 * r = o ∧ getM b (8 * r) = n)
def CI (W : Nat → BitVec 64) (o : Nat) (n : BitVec 64) (N : Nat) (E : Dv) : Prop := E.ls.length = N ∧ E.Ok ∧ ∀ i, i < N → AllC (CQ W o n i) (E.ln i)
section
variable {W : Nat → BitVec 64} {o N : Nat} {n : BitVec 64}
theorem ci_store (hn : 1 ≤ N) (h8 : o % 8 = 0) {E : Dv} (h : CI W o n N E) : CI W o n N (E.store (o : Int) n).1 := by
  obtain ⟨hl, hok, hq⟩ := h
  refine ⟨by have := step_len E (.store (o : Int) n); exact this.trans hl, hok.store _ _, fun i hi => ?_⟩
  refine AllC.storeLn hok (by omega) _ _ (hq i hi) ?_
  by_cases ha : E.ask (o : Int) 8 = 0
  · obtain ⟨o', ho', _, hos⟩ := ask8 (by omega) ha
    have : o' = o := by omega
    subst this
    rw [store_now hok _ ha h8 hos]
    by_cases e : i = o' / 64
    · rw [if_pos e]
      obtain ⟨q, hq8⟩ : ∃ q, o' % 64 = 8 * q := ⟨o' % 64 / 8, by omega⟩
      subst e
      rw [hq8]
      have hb := (hq _ hi).now
      refine ⟨by rw [putM_length]; exact hb.1, fun r hr => ?_⟩
      rw [get_put _ q r _ (by rw [hb.1]; omega)]
      by_cases e : q = r
      · subst e; rw [if_pos rfl]; exact .inr ⟨by omega, rfl⟩
      · rw [if_neg e]; exact hb.2 r hr
    · rw [if_neg e]; exact (hq i hi).now
  · rw [store_fail _ _ ha]; exact (hq i hi).now
theorem ci_put (hn : 1 ≤ N) (h8 : o % 8 = 0) {E : Dv} (h : CI W o n N E) : CI W o n N (runS E (putS o n)).1 := by
  refine runS_inv (I := CI W o n N) _ (fun s hs E hE => ?_) h
  unfold putS at hs
  simp only [List.mem_cons, List.not_mem_nil, or_false] at hs
  rcases hs with rfl | rfl | rfl
  · exact ci_store hn h8 hE
  · exact ⟨(step_len E (.flush _)).trans hE.1, hE.2.1.flush _, fun i hi => AllC.flushLn (by have := hE.1; omega) _ (hE.2.2 i hi)⟩
  · exact ⟨(step_len E .fence).trans hE.1, hE.2.1.fence, fun i hi => AllC.fenceLn (by have := hE.1; omega) (hE.2.2 i hi)⟩
theorem ci_start {D : Dv} (hok : D.Ok) (hc : Calm D) : CI D.word o n D.ls.length D := by
  refine ⟨rfl, hok, fun i hi => allC_one ⟨(Dv.Ok0.ln hok.to0 i).len, fun r hr => .inl ?_⟩ (hc i hi)⟩
  unfold Dv.word
  rw [show (64 * i + 8 * r) / 64 = i by omega, show (64 * i + 8 * r) % 64 = 8 * r by omega]
theorem ci_crash {E : Dv} (h : CI W o n N E) (ps : List (BitVec 8)) {x : Nat} (hx : x % 8 = 0) (hxN : x < 64 * N) : (E.crash ps).word x = W x ∨ (x = o ∧ (E.crash ps).word x = n) := by
  obtain ⟨hl, hok, hq⟩ := h
  obtain ⟨k, hk, e⟩ := crash_ln (D := E) ps (i := x / 64) (by omega)
  have hQ := (hq (x / 64) (by omega)).crash hk
  have h2 := hQ.2 (x % 64 / 8) (by omega)
  unfold Dv.word
  rw [e]
  rw [show 8 * (x % 64 / 8) = x % 64 by omega, show 64 * (x / 64) + x % 64 = x by omega] at h2
  exact h2
end
theorem stop_ls (D : Dv) (z : Int) : (D.stop z).ls = D.ls := by unfold Dv.stop; split <;> rfl
theorem stop_steps (D : Dv) (z : Int) : (D.stop z).steps = D.steps := by unfold Dv.stop; split <;> rfl
theorem stop_ln (D : Dv) (z : Int) (i : Nat) : (D.stop z).ln i = D.ln i := by unfold Dv.ln; rw [stop_ls]
theorem stop_word (D : Dv) (z : Int) (x : Nat) : (D.stop z).word x = D.word x := by unfold Dv.word; rw [stop_ln]
theorem crash_stepsE (D : Dv) (ps : List (BitVec 8)) : (D.crash ps).steps = D.steps := by unfold Dv.crash; split <;> rfl
theorem ok_stop {D : Dv} (h : D.Ok) (z : Int) (hz : z ≤ 9223372036854775807) : (D.stop z).Ok := h.stop z hz
/-- A put behind a Stop, then a crash. -/
theorem cut_put {D : Dv} (hok : D.Ok) (hc : Calm D) (hp : 0 < D.ls.length) {o : Nat} (h8 : o % 8 = 0) (ho : o + 8 ≤ D.size) (n : BitVec 64) {z : Int} (hz : z ≤ 9223372036854775807) (ps : List (BitVec 8)) :
    ((runS (D.stop z) (putS o n)).2 = 0 ∨ (runS (D.stop z) (putS o n)).2 = 12) ∧ (runS (D.stop z) (putS o n)).1.ls.length = D.ls.length ∧
    (∀ x, x % 8 = 0 → x < D.size → ((runS (D.stop z) (putS o n)).1.crash ps).word x = D.word x ∨ (x = o ∧ ((runS (D.stop z) (putS o n)).1.crash ps).word x = n)) ∧
    ((runS (D.stop z) (putS o n)).2 = 0 → ((runS (D.stop z) (putS o n)).1.crash ps).word o = n) := by
  have hl : (D.stop z).ls.length = D.ls.length := by rw [stop_ls]
  have hsz : (D.stop z).size = D.size := by unfold Dv.size; rw [hl]
  have hok1 := ok_stop hok z hz
  have hcalm1 : Calm (D.stop z) := fun i hi => by rw [stop_ln]; exact hc i (by rw [← hl]; exact hi)
  have hw : (D.stop z).word = D.word := funext fun x => stop_word D z x
  have h1 := ci_start (o := o) (n := n) hok1 hcalm1
  rw [hw, hl] at h1
  have h2 := ci_put (by omega) h8 h1
  have hlen : (runS (D.stop z) (putS o n)).1.ls.length = D.ls.length := h2.1
  have hin := putAllS_in (o := o) (l := [n]) (N := (D.stop z).ls.length) h8 (by unfold Dv.size at ho; show o + 8 * 1 ≤ _; rw [hl]; omega)
  have he := runS_err2 (D := D.stop z) (by omega) _ hin
  have hone := fun h => putAll_one (D := D.stop z) (by omega) (o := o) (l := [n]) h8 (by show o + 8 * 1 ≤ _; omega) h (j := 0) (by show 0 < 1; omega)
  have hwd := fun h => putAll_words hok1 (by omega) (o := o) (l := [n]) h8 (by show o + 8 * 1 ≤ _; omega) h (x := o) h8 (by omega)
  rw [Go.Proofs.YtejpophjiinijaaDoor.put_same h8 (by omega)] at he hone hwd
  refine ⟨he, hlen, fun x hx hxs => ?_, fun h => ?_⟩
  · exact ci_crash h2 ps hx (by unfold Dv.size at hxs; exact hxs)
  · have hone := hone h
    have hwd := hwd h
    rw [if_pos ⟨Nat.le_refl _, by show o < o + 8 * 1; omega⟩, Nat.sub_self] at hwd
    have hs := crash_same ps (i := o / 64) (by rw [hlen]; unfold Dv.size at ho; omega) (by simpa using hone)
    have : ((runS (D.stop z) (putS o n)).1.crash ps).word o = (runS (D.stop z) (putS o n)).1.word o := by
      unfold Dv.word; rw [hs]
    rw [this]; exact hwd
end NM
section
variable {m k i : Nat} {V : PV} {x : BitVec 64} {z : Int}
/-- A device that has the header, and a table: what a pool opens. -/
theorem good_of {T : List (BitVec 64)} {D E : NM.Dv} {ps : List (BitVec 8)} (hm : m = 12) (hu : D.Up) (ho : D.openH = (shN m, 0)) (hl : D.ls.length = 188 + m) (hle : E.ls.length = D.ls.length) (hok : (E.crash ps).Ok) (hT : T.length = m) (hr : ∀ j, j < m → WM.rB (T.getD j 0#64) = true)
    (hs : E.steps ≤ 100000 + 3 * k) (hw : ∀ y, y % 8 = 0 → y < 64 → (E.crash ps).word y = D.word y) (ht : ∀ j, j < m → (E.crash ps).word (128 + 8 * j) = T.getD j 0#64) : Good m k ⟨T, zL m, E.crash ps⟩ := by
  have hcl := NM.crash_len E ps
  have hup := NM.Dv.Up.crash (D := E) (by rw [hle, hl]; omega) ps
  refine ⟨⟨hT, zL_len m, fun j hj => ?_, hup, hok, by rw [hcl, hle, hl], ht⟩, ?_, NM.calm_crash ps, by rw [NM.crash_stepsE]; exact hs⟩
  · show WM.Pair (T.getD j 0#64) ((zL m).getD j 0#64)
    rw [zL_get]
    exact ⟨hr j hj, WM.rB0, .inr (.inl WM.cR0), fun i _ _ => WM.tR0 i⟩
  · rw [← ho, NM.open_up (by rw [hl]; omega) hu.down, NM.open_up (by rw [hcl, hle, hl]; omega) hup.down, hcl, hle]
    have e : wordsAt (E.crash ps) 0 8 = wordsAt D 0 8 := by
      unfold wordsAt
      refine List.map_congr_left fun i hi => ?_
      have := List.mem_range.1 hi
      exact hw (0 + 8 * i) (by omega) (by omega)
    rw [e]
/-- A put that ends anywhere: the pool that is opened behind the crash has the old word, or the new one. -/
theorem cut_good (h : Good m k V) (hm : m = 12) (hi : i < m) (hx : WM.rB x = true) (hz : z ≤ 9223372036854775807) (ps : List (BitVec 8)) (hok : ((runS (V.D.stop z) (putS ((128 + 8 * i : Nat) : Int) x)).1.crash ps).Ok) :
    ((runS (V.D.stop z) (putS ((128 + 8 * i : Nat) : Int) x)).2 = 0 ∧ Good m (k + 1) ⟨V.T.set i x, zL m, (runS (V.D.stop z) (putS ((128 + 8 * i : Nat) : Int) x)).1.crash ps⟩) ∨
    ((runS (V.D.stop z) (putS ((128 + 8 * i : Nat) : Int) x)).2 = 12 ∧ ∃ T', (T' = V.T ∨ T' = V.T.set i x) ∧ Good m (k + 1) ⟨T', zL m, (runS (V.D.stop z) (putS ((128 + 8 * i : Nat) : Int) x)).1.crash ps⟩) := by
  have hw := h.well
  have hl := hw.lines
  have hs : V.D.size = 64 * (188 + m) := by unfold NM.Dv.size; rw [hl]
  obtain ⟨c1, c2, c3, c4⟩ := NM.cut_put hw.ok h.calm (by rw [hl]; omega) (o := 128 + 8 * i) (by omega) (by omega) x hz ps
  have hst := runS_steps (V.D.stop z) (putS ((128 + 8 * i : Nat) : Int) x)
  have h4 : (putS ((128 + 8 * i : Nat) : Int) x).length = 3 := rfl
  rw [NM.stop_steps, h4] at hst
  have h5 := h.steps
  generalize runS (V.D.stop z) (putS ((128 + 8 * i : Nat) : Int) x) = R at *
  have hr : ∀ j, j < m → WM.rB (V.T.getD j 0#64) = true := fun j hj => (hw.pair j hj).rt
  have hr2 : ∀ j, j < m → WM.rB ((V.T.set i x).getD j 0#64) = true := fun j hj => by
    rw [wordsSet hw.len hj]
    by_cases e : j = i
    · rw [if_pos e]; exact hx
    · rw [if_neg e]; exact hr j hj
  have hlow : ∀ y, y % 8 = 0 → y < 64 → (R.1.crash ps).word y = V.D.word y := fun y hy hy64 => by
    rcases c3 y hy (by omega) with h | ⟨h, _⟩
    · exact h
    · omega
  have hold : ∀ j, j < m → j ≠ i → (R.1.crash ps).word (128 + 8 * j) = V.T.getD j 0#64 := fun j hj hne => by
    rcases c3 (128 + 8 * j) (by omega) (by omega) with h | ⟨h, _⟩
    · rw [h]; exact hw.tab j hj
    · omega
  have hnew : (R.1.crash ps).word (128 + 8 * i) = x → Good m (k + 1) ⟨V.T.set i x, zL m, R.1.crash ps⟩ := fun hwi =>
    good_of hm hw.up h.open_ hl c2 hok (by rw [List.length_set]; exact hw.len) hr2 (by omega) hlow (fun j hj => by
      rw [wordsSet hw.len hj]
      by_cases e : j = i
      · subst e; rw [if_pos rfl]; exact hwi
      · rw [if_neg e]; exact hold j hj e)
  rcases c1 with e | e
  · exact .inl ⟨e, hnew (c4 e)⟩
  · refine .inr ⟨e, ?_⟩
    rcases c3 (128 + 8 * i) (by omega) (by omega) with h1 | ⟨_, h1⟩
    · refine ⟨V.T, .inl rfl, good_of hm hw.up h.open_ hl c2 hok hw.len hr (by omega) hlow (fun j hj => ?_)⟩
      by_cases e : j = i
      · subst e; rw [h1]; exact hw.tab j hj
      · exact hold j hj e
    · exact ⟨_, .inr rfl, hnew h1⟩
end
end Go.Proofs.YtejpophjiinijaaDoor

/-! ### P12e -/
namespace Go.Proofs.YtejpophjiinijaaDoor
set_option linter.unusedVariables false
set_option linter.unusedSimpArgs false
set_option maxRecDepth 100000
open Go Go.RowKit

/-- How many entries are x. -/
def cntN (x : Nat) : List Nat → Nat
  | [] => 0
  | y :: l => (if y = x then 1 else 0) + cntN x l
theorem cnt_filter (x : Nat) : ∀ l : List Nat, (l.filter (fun y => decide (y ≠ x))).length + cntN x l = l.length
  | [] => rfl
  | y :: l => by
    have h := cnt_filter x l
    by_cases e : y = x
    · rw [List.filter_cons_of_neg (by simp [e])]
      show _ + ((if y = x then 1 else 0) + cntN x l) = l.length + 1
      rw [if_pos e]; omega
    · rw [List.filter_cons_of_pos (by simp [e])]
      show (List.filter _ l).length + 1 + ((if y = x then 1 else 0) + cntN x l) = l.length + 1
      rw [if_neg e]; omega
theorem cnt_append (x : Nat) : ∀ a b : List Nat, cntN x (a ++ b) = cntN x a + cntN x b
  | [], b => by show cntN x b = 0 + _; omega
  | y :: a, b => by show _ + cntN x (a ++ b) = _ + cntN x a + _; rw [cnt_append x a b]; omega
theorem cnt_zero (x : Nat) : ∀ l : List Nat, (∀ y ∈ l, y ≠ x) → cntN x l = 0
  | [], _ => rfl
  | y :: l, h => by
    show (if y = x then 1 else 0) + cntN x l = 0
    rw [if_neg (h y List.mem_cons_self), cnt_zero x l (fun z hz => h z (List.mem_cons_of_mem _ hz))]
theorem cnt_take (x : Nat) (l : List Nat) {k : Nat} (hk : k < l.length) : cntN x (l.take (k + 1)) = cntN x (l.take k) + (if l[k] = x then 1 else 0) := by
  rw [List.take_succ_eq_append_getElem hk, cnt_append]; rfl
theorem cnt_le (x : Nat) (l : List Nat) : cntN x l ≤ l.length := by have := cnt_filter x l; omega
theorem cnt_map {f : Nat → Nat} {x : Nat} : ∀ {l : List Nat}, l.Nodup → (∀ a ∈ l, ∀ b ∈ l, f a = f b → a = b) → cntN x (l.map f) ≤ 1
  | [], _, _ => by show (0 : Nat) ≤ 1; omega
  | a :: l, hn, hf => by
    have h1 := List.nodup_cons.1 hn
    show (if f a = x then 1 else 0) + cntN x (l.map f) ≤ 1
    by_cases e : f a = x
    · rw [if_pos e, cnt_zero x _ (fun y hy => by
        obtain ⟨b, hb, rfl⟩ := List.mem_map.1 hy
        intro e2
        have := hf a List.mem_cons_self b (List.mem_cons_of_mem _ hb) (e.trans e2.symm)
        exact h1.1 (this ▸ hb))]
      omega
    · rw [if_neg e]
      have := cnt_map (f := f) (x := x) h1.2 (fun a ha b hb => hf a (List.mem_cons_of_mem _ ha) b (List.mem_cons_of_mem _ hb))
      omega
section
variable {s : HM.Shape}
theorem placeN_inj (hd : 0 ≤ s.data) {i i' q q' c c' : Nat} (hc : c = 1 ∨ c = 2) (hc' : c' = 1 ∨ c' = 2) (hq : q < WM.bl c) (hq' : q' < WM.bl c') (h : placeN s i c q = placeN s i' c' q') : i = i' ∧ (c = c' → q = q') := by
  refine place_inj (s := s) hc hc' hq hq' ?_
  rw [placeN_int s hd, placeN_int s hd, h]
theorem row_cnt (hd : 0 ≤ s.data) (x k : Nat) (t : BitVec 64) : cntN x (rowK s k t) ≤ 1 := by
  unfold rowK
  rw [WM.list_ref, WM.cR_class]
  refine cnt_map (List.Nodup.sublist List.filter_sublist List.nodup_range) (fun a ha b hb e => ?_)
  rw [List.mem_filter, List.mem_range] at ha hb
  obtain ⟨k1, k2⟩ := tR_cls ha.1 ha.2
  obtain ⟨-, k4⟩ := tR_cls hb.1 hb.2
  exact (placeN_inj hd k1 k1 k2 k4 e).2 rfl
theorem all_cnt (hd : 0 ≤ s.data) (x : Nat) (T : List (BitVec 64)) : ∀ n, cntN x (allK s T n) ≤ 1
  | 0 => by show (0 : Nat) ≤ 1; omega
  | n + 1 => by
    show cntN x (allK s T n ++ rowK s n (T.getD n 0#64)) ≤ 1
    rw [cnt_append]
    have h1 := all_cnt hd x T n
    have h2 := row_cnt hd x n (T.getD n 0#64)
    by_cases e : cntN x (allK s T n) = 0
    · omega
    · rw [cnt_zero x (rowK s n (T.getD n 0#64)) ?_]
      · omega
      · rintro y hy rfl
        have hm : y ∈ allK s T n := Decidable.byContradiction fun h => e (cnt_zero y _ (fun z hz e2 => h (e2 ▸ hz)))
        obtain ⟨i, q, hi, hq, ht, e1⟩ := mem_all hm
        unfold rowK at hy
        obtain ⟨q', hq', e2⟩ := List.mem_map.1 hy
        rw [WM.list_ref, List.mem_filter, List.mem_range] at hq'
        obtain ⟨k1, k2⟩ := tR_cls hq ht
        obtain ⟨k3, k4⟩ := tR_cls hq'.1 hq'.2
        rw [WM.cR_class] at e1 e2
        have := (placeN_inj hd k3 k1 k4 k2 (e2.trans e1)).1
        omega
/-- Two words that differ at one block. -/
theorem row_filter (hd : 0 ≤ s.data) {i q c : Nat} {t t' : BitVec 64} (hc : c = 1 ∨ c = 2) (hq : q < WM.bl c) (h : WM.cR t = 0 ∨ WM.cR t = c) (h' : WM.cR t' = 0 ∨ WM.cR t' = c) (hb : ∀ j, j < 16 → j ≠ q → WM.tR t' j = WM.tR t j) :
    (rowK s i t').filter (fun y => decide (y ≠ placeN s i c q)) = (rowK s i t).filter (fun y => decide (y ≠ placeN s i c q)) := by
  have hrow : ∀ u : BitVec 64, (WM.cR u = 0 ∨ WM.cR u = c) → (rowK s i u).filter (fun y => decide (y ≠ placeN s i c q)) = (((List.range 16).filter (fun j => WM.tR u j && decide (j ≠ q))).map (placeN s i c)) := fun u hu => by
    unfold rowK
    rw [WM.list_ref, WM.cR_class]
    rcases hu with hu | hu
    · have hz : ∀ j ∈ List.range 16, ¬ WM.tR u j = true := fun j hj h => (WM.tR_lt (List.mem_range.1 hj) h).1 hu
      have e1 : (List.range 16).filter (WM.tR u) = [] := List.filter_eq_nil_iff.2 hz
      have e2 : (List.range 16).filter (fun j => WM.tR u j && decide (j ≠ q)) = [] := List.filter_eq_nil_iff.2 (fun j hj => by have := hz j hj; simp [this])
      rw [e1, e2]; rfl
    · rw [hu, List.filter_map, List.filter_filter]
      congr 1
      refine List.filter_congr fun j hj => ?_
      have hj16 := List.mem_range.1 hj
      cases ht : WM.tR u j with
      | false => simp
      | true =>
        obtain ⟨k1, k2⟩ := tR_cls hj16 ht
        rw [hu] at k2
        have : placeN s i c j = placeN s i c q ↔ j = q := ⟨fun e => (placeN_inj hd hc hc k2 hq e).2 rfl, fun e => by rw [e]⟩
        simp [this]
  rw [hrow t' h', hrow t h]
  congr 1
  refine List.filter_congr fun j hj => ?_
  by_cases e : j = q
  · simp [e]
  · rw [hb j (List.mem_range.1 hj) e]
theorem all_filter (hd : 0 ≤ s.data) {m i q c : Nat} {T : List (BitVec 64)} {t' : BitVec 64} (hT : T.length = m) (hc : c = 1 ∨ c = 2) (hq : q < WM.bl c) (h : WM.cR (T.getD i 0#64) = 0 ∨ WM.cR (T.getD i 0#64) = c) (h' : WM.cR t' = 0 ∨ WM.cR t' = c)
    (hb : ∀ j, j < 16 → j ≠ q → WM.tR t' j = WM.tR (T.getD i 0#64) j) : ∀ n, n ≤ m → (allK s (T.set i t') n).filter (fun y => decide (y ≠ placeN s i c q)) = (allK s T n).filter (fun y => decide (y ≠ placeN s i c q))
  | 0, _ => rfl
  | n + 1, hn => by
    show (allK s (T.set i t') n ++ rowK s n ((T.set i t').getD n 0#64)).filter _ = (allK s T n ++ rowK s n (T.getD n 0#64)).filter _
    rw [List.filter_append, List.filter_append, all_filter hd hT hc hq h h' hb n (by omega), wordsSet hT (by omega : n < m)]
    by_cases e : n = i
    · subst e; rw [if_pos rfl, row_filter hd hc hq h h' hb]
    · rw [if_neg e]
end
end Go.Proofs.YtejpophjiinijaaDoor

/-! ### P12f -/
namespace Go.Proofs.YtejpophjiinijaaDoor
set_option linter.unusedVariables false
set_option linter.unusedSimpArgs false
set_option maxRecDepth 100000
open Go Go.RowKit

section
variable {m k : Nat} {V : PV} {z : Int}
theorem good_crash (h : Good m k V) (hm : m = 12) (ps : List (BitVec 8)) (hok : ((V.D.stop z).crash ps).Ok) : Good m k ⟨V.T, zL m, (V.D.stop z).crash ps⟩ := by
  have hw := h.well
  have hl := hw.lines
  have hs : V.D.size = 64 * (188 + m) := by unfold NM.Dv.size; rw [hl]
  have hl1 : (V.D.stop z).ls.length = V.D.ls.length := by rw [NM.stop_ls]
  have hs1 : (V.D.stop z).size = V.D.size := by unfold NM.Dv.size; rw [hl1]
  have hc : NM.Calm (V.D.stop z) := fun i hi => by rw [NM.stop_ln]; exact h.calm i (by rw [← hl1]; exact hi)
  have hwd : ∀ y, y < V.D.size → ((V.D.stop z).crash ps).word y = V.D.word y := fun y hy => by rw [NM.calm_word hc ps (by omega), NM.stop_word]
  exact good_of hm hw.up h.open_ hl hl1 hok hw.len (fun j hj => (hw.pair j hj).rt) (by rw [NM.stop_steps]; exact h.steps) (fun y _ hy => hwd y (by omega)) (fun j hj => by rw [hwd _ (by omega)]; exact hw.tab j hj)
/-- What Take, or Drop, and a crash leave. -/
def DurP (m k : Nat) (V : PV) (n : Nat) (R : PV × Int) : Prop := ∀ ps, (R.1.D.crash ps).Ok → ∃ T', Good m (k + 1) ⟨T', zL m, R.1.D.crash ps⟩ ∧ R.1.T.length = m ∧
  (((R.2 = 0 ∨ R.2 = 7) ∧ T' = R.1.T) ∨ (R.2 = 12 ∧ R.1.T = V.T ∧ (allK (shN m) T' m).filter (fun y => decide (y ≠ n)) = (allK (shN m) V.T m).filter (fun y => decide (y ≠ n))))
theorem dur_none (h : Good m k V) (hm : m = 12) (n : Nat) (H : List (BitVec 64)) {e : Int} (he : e = 0 ∨ e = 7) : DurP m k V n (⟨V.T, H, V.D.stop z⟩, e) :=
  fun ps hok => ⟨V.T, (good_crash h hm ps hok).mono (by omega), h.well.len, .inl ⟨he, rfl⟩⟩
theorem dur_put (h : Good m k V) (hm : m = 12) (hz : z ≤ 9223372036854775807) {n i q c : Nat} {x : BitVec 64} (hi : i < m) (hx : WM.rB x = true) (hn : n = placeN (shN m) i c q) (hc : c = 1 ∨ c = 2) (hq : q < WM.bl c)
    (h1 : WM.cR (V.T.getD i 0#64) = 0 ∨ WM.cR (V.T.getD i 0#64) = c) (h2 : WM.cR x = 0 ∨ WM.cR x = c) (hb : ∀ j, j < 16 → j ≠ q → WM.tR x j = WM.tR (V.T.getD i 0#64) j) (H : List (BitVec 64)) {R : PV × Int}
    (hD : R.1.D = (runS (V.D.stop z) (putS ((128 + 8 * i : Nat) : Int) x)).1) (he : R.2 = (runS (V.D.stop z) (putS ((128 + 8 * i : Nat) : Int) x)).2) (hT : R.1.T = if (runS (V.D.stop z) (putS ((128 + 8 * i : Nat) : Int) x)).2 = 0 then V.T.set i x else V.T) : DurP m k V n R := by
  intro ps hok
  rw [hD] at hok ⊢
  rw [he, hT]
  have hf := all_filter (s := shN m) (show (0 : Int) ≤ 256 by decide) h.well.len hc hq h1 h2 hb m (Nat.le_refl _)
  rw [← hn] at hf
  rcases cut_good h hm hi hx hz ps hok with ⟨e, hg⟩ | ⟨e, T', hT', hg⟩
  · rw [e, if_pos rfl]
    exact ⟨_, hg, by rw [List.length_set]; exact h.well.len, .inl ⟨.inl rfl, rfl⟩⟩
  · rw [e, if_neg (by decide)]
    refine ⟨T', hg, h.well.len, .inr ⟨rfl, rfl, ?_⟩⟩
    rcases hT' with rfl | rfl
    · rfl
    · exact hf
theorem dur_take (h : Good m k V) (hm : m = 12) (hz : z ≤ 9223372036854775807) (n : Nat) : DurP m k V n (takeV (shN m) ⟨V.T, V.H, V.D.stop z⟩ (n : Int)) := by
  have hw := h.well
  unfold takeV
  dsimp only
  rw [hw.len]
  cases hf : findP (shN m) m (bF V.T V.H) (n : Int) with
  | none => exact dur_none h hm n V.H (.inr rfl)
  | some y =>
    obtain ⟨i, q⟩ := y
    obtain ⟨hi, hq, hx, -⟩ := findP_some hf
    rw [WM.cR_class, placeN_int _ (show (0 : Int) ≤ 256 by decide)] at hx
    have hn : n = placeN (shN m) i (WM.cR (bF V.T V.H i) : Nat) q := by omega
    dsimp only
    by_cases hh : WM.hasM (V.H.getD i 0#64) q = true
    · rw [if_pos hh, WM.cR_class]
      have ht : WM.tR (V.H.getD i 0#64) q = true := by rw [← WM.has_ref _ _ hq]; exact hh
      have hpr := hw.pair i hi
      obtain ⟨k1, k2, k3⟩ := hpr.keep hq ht
      obtain ⟨l1, l2⟩ := tR_cls hq ht
      have hcc : WM.cR (V.H.getD i 0#64) = WM.cR (bF V.T V.H i) := by
        rcases hpr.cH with e | e
        · omega
        · exact e
      obtain ⟨cn, q2, e1, e2, -, -, -, -, g7, g8⟩ := WM.take_state k1
      obtain rfl : cn = WM.cR (V.H.getD i 0#64) := by omega
      obtain rfl : q2 = q := by omega
      have hcw := WM.cR_norm g7
      obtain ⟨x, hxd⟩ : ∃ x, x = WM.takeW (V.T.getD i 0#64) (WM.cR (V.H.getD i 0#64) : Nat) q2 := ⟨_, rfl⟩
      rw [← hxd] at hcw g8 k2 ⊢
      have key : ∀ R : PV × Int, R.1.D = (runS (V.D.stop z) (putS ((128 + 8 * i : Nat) : Int) x)).1 → R.2 = (runS (V.D.stop z) (putS ((128 + 8 * i : Nat) : Int) x)).2 → R.1.T = (if (runS (V.D.stop z) (putS ((128 + 8 * i : Nat) : Int) x)).2 = 0 then V.T.set i x else V.T) → DurP m k V n R := fun R a b c =>
        dur_put h hm hz hi hcw.2 hn (by rw [← hcc]; exact l1) (by rw [← hcc]; exact l2) (by rcases hpr.cT with e | e
                                                                                            · exact .inl e
                                                                                            · exact .inr e) (.inr (by rw [hcw.1, hcc])) (fun j hj hne => by rw [g8 j hj]; simp [WM.setT, hne]) V.H a b c
      by_cases he : (putV ⟨V.T, V.H, V.D.stop z⟩ i x).2 = 0
      · rw [if_pos he]
        exact key _ rfl he.symm rfl
      · rw [if_neg he]
        exact key _ rfl rfl rfl
    · rw [if_neg hh]; exact dur_none h hm n V.H (.inr rfl)
theorem dur_drop (h : Good m k V) (hm : m = 12) (hz : z ≤ 9223372036854775807) (n : Nat) : DurP m k V n (dropV (shN m) ⟨V.T, V.H, V.D.stop z⟩ (n : Int)) := by
  have hw := h.well
  unfold dropV
  dsimp only
  rw [hw.len]
  cases hf : findP (shN m) m (bF V.T V.H) (n : Int) with
  | none => exact dur_none h hm n V.H (.inr rfl)
  | some y =>
    obtain ⟨i, q⟩ := y
    obtain ⟨hi, hq, hx, -⟩ := findP_some hf
    rw [WM.cR_class, placeN_int _ (show (0 : Int) ≤ 256 by decide)] at hx
    have hn : n = placeN (shN m) i (WM.cR (bF V.T V.H i) : Nat) q := by omega
    dsimp only
    by_cases hh : WM.hasM (V.H.getD i 0#64) q = true
    · rw [if_pos hh]; exact dur_none h hm n _ (.inl rfl)
    · rw [if_neg hh]
      by_cases hy : WM.hasM (V.T.getD i 0#64) q = true
      · rw [if_pos hy]
        have ht : WM.tR (V.T.getD i 0#64) q = true := by rw [← WM.has_ref _ _ hq]; exact hy
        have hpr := hw.pair i hi
        obtain ⟨l1, l2⟩ := tR_cls hq ht
        have hcc : WM.cR (V.T.getD i 0#64) = WM.cR (bF V.T V.H i) := by
          rcases hpr.cT with e | e
          · omega
          · exact e
        obtain ⟨f1, f2, f3⟩ := WM.drop_full hq ht
        exact dur_put h hm hz hi f1 hn (by rw [← hcc]; exact l1) (by rw [← hcc]; exact l2) (.inr hcc) (by rw [← hcc]; exact f2) (fun j hj hne => by rw [f3 j hj]; simp [WM.setT, hne]) V.H rfl rfl rfl
      · rw [if_neg hy]; exact dur_none h hm n V.H (.inr rfl)
end
theorem putV_steps (V : PV) (i : Nat) (x : BitVec 64) : (putV V i x).1.D.steps ≤ V.D.steps + 3 := runS_steps V.D (putS ((128 + 8 * i : Nat) : Int) x)
theorem takeV_steps (s : HM.Shape) (V : PV) (off : Int) : (takeV s V off).1.D.steps ≤ V.D.steps + 3 := by
  unfold takeV
  split
  · exact Nat.le_add_right _ _
  · split
    · split
      · exact putV_steps V _ _
      · exact putV_steps V _ _
    · exact Nat.le_add_right _ _
theorem dropV_steps (s : HM.Shape) (V : PV) (off : Int) : (dropV s V off).1.D.steps ≤ V.D.steps + 3 := by
  unfold dropV
  split
  · exact Nat.le_add_right _ _
  · split
    · exact Nat.le_add_right _ _
    · split
      · exact putV_steps V _ _
      · exact Nat.le_add_right _ _
/-- The place in what was told. -/
theorem idx_of {at_ : Int} {n : Nat} (hn : 0 < n) (hn2 : n ≤ 1000) : ∃ (r : Int) (j : Nat), at_.tmod n = r ∧ -1000 ≤ r ∧ r ≤ 1000 ∧ (r + n).tmod n = (j : Int) ∧ j < n := by
  have hb : -(n : Int) < at_.tmod n ∧ at_.tmod n < n := by
    rcases Int.le_total 0 at_ with h | h
    · rw [Int.tmod_eq_emod_of_nonneg h]
      have h1 := Int.emod_nonneg at_ (show (n : Int) ≠ 0 by omega)
      have h2 := Int.emod_lt_of_pos at_ (show (0 : Int) < n by omega)
      omega
    · have h3 : at_.tmod n = -((-at_).tmod n) := by rw [Int.neg_tmod, Int.neg_neg]
      rw [h3, Int.tmod_eq_emod_of_nonneg (by omega)]
      have h1 := Int.emod_nonneg (-at_) (show (n : Int) ≠ 0 by omega)
      have h2 := Int.emod_lt_of_pos (-at_) (show (0 : Int) < n by omega)
      omega
  refine ⟨at_.tmod n, ((at_.tmod n + n).tmod n).toNat, rfl, by omega, by omega, ?_, ?_⟩
  · rw [Int.toNat_of_nonneg]
    rw [Int.tmod_eq_emod_of_nonneg (by omega)]
    exact Int.emod_nonneg _ (by omega)
  · rw [Int.tmod_eq_emod_of_nonneg (by omega)]
    have h1 := Int.emod_nonneg (at_.tmod n + n) (show (n : Int) ≠ 0 by omega)
    have h2 := Int.emod_lt_of_pos (at_.tmod n + n) (show (0 : Int) < n by omega)
    omega
end Go.Proofs.YtejpophjiinijaaDoor

/-! ### P12g -/
namespace Go.Proofs.YtejpophjiinijaaDoor
set_option linter.unusedVariables false
set_option linter.unusedSimpArgs false
set_option maxRecDepth 100000
open Go Go.RowKit

/-- Open of a device that a pool knows. -/
theorem openWell_calls {m k : Nat} {V : PV} {p : Nat} {F : Nat → Prop} (hm : m = 12) (hg : Good m k V) (w : World) (h : DevB w p F V.D) (hF : Fours w) :
    Ret Tryd.prog 28 #[.pointer (some ⟨p, 0, none⟩)] w fun v w' => ∃ q ta tac ha hac, v = .tuple #[.pointer (some ⟨q, 0, none⟩), .int .i64 0] ∧ PoolAt w' q p (shN m) V.T (zL m) ta tac ha hac ∧ Below w.heap.size w w' ∧ (∀ k, (k = q ∨ k = ta ∨ k = ha) → w.heap.size ≤ k) := by
  obtain ⟨t1, t2⟩ := well_tab hg.well hm
  refine (poolOpen_calls m w h hF (by omega) (fun _ => by rw [hg.open_]; exact ⟨rfl, rfl⟩)).mono ?_
  intro v w' hO
  unfold OpenP at hO
  rw [hg.open_, t1, t2] at hO
  rcases hO with ⟨h, _⟩ | ⟨_, ⟨e, h, _⟩ | ⟨_, q, ta, tac, ha, hac, rfl, hQ, hb', hgq⟩⟩
  · exact absurd rfl h
  · cases h
  · exact ⟨q, ta, tac, ha, hac, rfl, hQ, hb', hgq⟩
theorem dat_ok (m : Nat) : 0 ≤ (shN m).data ∧ (shN m).data ≤ 1000000 := ⟨show (0 : Int) ≤ 256 by decide, show (256 : Int) ≤ 1000000 by decide⟩
end Go.Proofs.YtejpophjiinijaaDoor
