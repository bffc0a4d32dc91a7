/- A line's crash: its walk. -/
import Derived.Test.YtkljlgahdlgmpaaNvmBack
namespace Go.Proofs.Ytkljlgahdlgmpaa
open Go Go.RowKit Go.Shelf

attribute [local go_sem] Oper.semAt_some

/-- The changes undone, one behind the other. -/
def undoF (cs : List (Nat × BitVec 64)) (b : List (BitVec 8)) : List (BitVec 8) := cs.foldl (fun b c => WM.putM b c.1 c.2) b
theorem undoF_snoc (cs : List (Nat × BitVec 64)) (c : Nat × BitVec 64) (b : List (BitVec 8)) : undoF (cs ++ [c]) b = WM.putM (undoF cs b) c.1 c.2 := by simp [undoF]
theorem undoF_all (cs : List (Nat × BitVec 64)) (b : List (BitVec 8)) : undoF cs.reverse b = NM.undo cs b := by simp [undoF, NM.undo]
theorem undoF_length (cs : List (Nat × BitVec 64)) : ∀ (b : List (BitVec 8)), (undoF cs b).length = b.length := by
  induction cs with
  | nil => intro b; rfl
  | cons c cs ih => intro b; show (undoF cs _).length = _; rw [ih, WM.putM_length]
def undoD (D : NM.Dv) (i : Nat) (pre : List (Nat × BitVec 64)) : NM.Dv := D.setLn i { D.ln i with now := undoF pre (D.ln i).now }
theorem undoD_nil (D : NM.Dv) (i : Nat) (hi : i < D.ls.length) : undoD D i [] = D := by
  show D.setLn i { D.ln i with now := (D.ln i).now } = D
  exact setLn_same D i hi
theorem undoD_ln (D : NM.Dv) (i : Nat) (hi : i < D.ls.length) (pre : List (Nat × BitVec 64)) : (undoD D i pre).ln i = { D.ln i with now := undoF pre (D.ln i).now } := by
  unfold undoD; rw [NM.Dv.setLn_ln D i _ hi, if_pos rfl]
theorem undoD_len (D : NM.Dv) (i : Nat) (pre : List (Nat × BitVec 64)) : (undoD D i pre).ls.length = D.ls.length := NM.Dv.setLn_len _ _ _
theorem undoD_snoc (D : NM.Dv) (i : Nat) (hi : i < D.ls.length) (pre : List (Nat × BitVec 64)) (x : Nat × BitVec 64) :
    (undoD D i pre).setLn i { (undoD D i pre).ln i with now := WM.putM ((undoD D i pre).ln i).now x.1 x.2 } = undoD D i (pre ++ [x]) := by
  rw [undoD_ln D i hi]
  unfold undoD
  rw [setLn_setLn, undoF_snoc]

theorem undoD_snoc' (D : NM.Dv) (i : Nat) (hi : i < D.ls.length) (pre : List Chg) (x : Chg) :
    (undoD D i (pre.map (·.1))).setLn i { (undoD D i (pre.map (·.1))).ln i with now := WM.putM ((undoD D i (pre.map (·.1))).ln i).now x.1.1 x.1.2 } = undoD D i ((pre ++ [x]).map (·.1)) := by
  rw [undoD_snoc D i hi, List.map_append]; rfl
theorem boxed_later {W W' : World} {B : Nat} {t : TypeId} {v : Value} (h : Boxed W B t v) (hb : Below W.heap.size W W') : Boxed W' B t v := (hb.block B h.lt).trans h
theorem mod_of_grown {W W' : World} {row : Option Nat} (hg : W.grownBy W' row) : Mod (fun k => row = some k) W W' := ⟨hg.os, hg.tape, hg.output, hg.size, fun k hlt hk => hg.block k hlt (fun e => hk e.symm)⟩
theorem DevAt.lb_lt {w : World} {p lb : Nat} {D : NM.Dv} {S : Nat → Spot} (h : DevAt w p lb D S) : lb < w.heap.size := h.lt lb (.inr (.inl rfl))
/-- A device lies in cells alone. -/
theorem devAt_own {β : Type} (p lb : Nat) (f : β → NM.Dv) (S : Nat → Spot) : Own (fun s W => DevAt W p lb (f s) S) := fun s X Y row hs hg hrow => by
  refine hs.mod (mod_of_grown hg) (fun k hk e => ?_)
  obtain ⟨o, ho, hc⟩ := hrow k e
  have hcell : ∃ C t f, X.heap[k]? = some (.cells C t f) := by
    rcases hk with rfl | rfl | ⟨i, hi, hk⟩
    · exact ⟨_, _, _, hs.dev⟩
    · obtain ⟨C, hC⟩ := hs.lines; exact ⟨_, _, _, hC.blk⟩
    · rcases (hs.own i hi).2 with ⟨h, _⟩ | ⟨g, cap, cur, hv, _, hh, _⟩
      · rw [h] at hk; cases hk
      · rw [hv] at hk; cases hk; exact ⟨_, _, _, hh⟩
  obtain ⟨C, t, f, h⟩ := hcell
  rw [h] at ho; cases ho; cases hc
theorem modAt_own {β : Type} {B : Nat} (F : Nat → Prop) (w0 : World) (hB : w0.heap.size ≤ B) : OwnFrom B (fun (_ : β) W => Mod F w0 W) := fun s X Y row hs hg hrow =>
  hs.grown hg (fun k hk => .inr (by have := (hrow k hk).1; omega))
theorem blk_own {β : Type} (B : Nat) (t : TypeId) (f : β → Array Value) : Own (fun s W => Blk W B (f s) t) := fun s X Y row hs hg hrow =>
  (hg.block B hs.lt (fun e => by obtain ⟨o, ho, hc⟩ := hrow B e.symm; rw [show X.heap[B]? = _ from hs] at ho; cases ho; cases hc)).trans hs
theorem chgCells_get : ∀ (cs : List (Nat × BitVec 64)) (j : Nat) (h : j < cs.length), (chgCells cs)[j * 2]? = some (.int .i64 (cs[j].1 : Int)) ∧ (chgCells cs)[j * 2 + 1]? = some (.int .u64 (uv cs[j].2))
  | [], j, h => by cases h
  | c :: cs, 0, h => by simp [chgCells]
  | c :: cs, j + 1, h => by
    have := chgCells_get cs j (by simpa using h)
    rw [show (j + 1) * 2 = j * 2 + 1 + 1 by omega]
    simpa [chgCells] using this
theorem back_ok {W : World} {p lb : Nat} {D : NM.Dv} {S : Nat → Spot} (h : DevAt W p lb D S) {i : Nat} (hi : i < D.ls.length) {cs : List Chg} (hcs : (D.ln i).chg = cs.map (·.1)) {Bl Bc k : Nat} {t t' : TypeId} (hl : Boxed W Bl t (.pointer (some ⟨lb, i * 66, none⟩))) (hc : Boxed W Bc t' (.int .i64 (k : Int))) :
    BackOk Bl Bc lb (i * 66) k (S i).1 (S i).2 cs W := by
  have hlen : (D.ln i).chg.length = cs.length := by rw [hcs, List.length_map]
  obtain ⟨C, hL⟩ := h.lines
  refine ⟨hl.cell, hc.cell, by rw [hL.blk.cell, hL.chg i hi, ← hlen]; rfl, fun j hj => ?_⟩
  have hown := h.own i hi
  rcases hown.2 with ⟨hv, h0⟩ | ⟨g, cap, cur, hv, _, hh, _⟩
  · omega
  · simp only [spotV, Value.slice.injEq] at hv
    obtain ⟨hv, _, _⟩ := hv
    obtain ⟨h1, h2⟩ := chgCells_get (D.ln i).chg j (by omega)
    have hcj : (D.ln i).chg[j]'(by omega) = cs[j].1 := by simp [hcs]
    rw [hcj] at h1 h2
    have hg : spotV (D.ln i) (S i) = .slice (some ⟨g, 0, none⟩) (D.ln i).chg.length (S i).2 := by unfold spotV; rw [hv]
    rw [hg] at hown
    have c1 := hown.cells (g := g) rfl _ _ h1
    have c2 := hown.cells (g := g) rfl _ _ h2
    rw [Addr.add_lit, Nat.zero_add] at c1 c2
    exact ⟨g, hv, c1, c2⟩

set_option maxRecDepth 100000 in
set_option maxHeartbeats 4000000 in
theorem crash_in {p lb : Nat} {D : NM.Dv} {S : Nat → Spot} (n : Nat) (hn : 6 ≤ n) (i k : Nat) (w0 : World) (h : DevAt w0 p lb D S) (hi : i < D.ls.length) (hk : k ≤ (D.ln i).chg.length) (hcs : (D.ln i).chg.length ≤ 1099511627776) :
    CallsIn Fence.wide n Try.prog 47 #[.pointer (some ⟨lb, i * 66, none⟩), .int .i64 (k : Int)] w0 fun e w' => e = .returned (.tuple #[]) ∧ DevAt w' p lb (D.setLn i ((D.ln i).crash k)) (setS S i (none, 0)) ∧ Mod (fun k => k = lb) w0 w' := by
  have h1 : 1 ≤ n := by omega
  obtain ⟨cs, hcv⟩ : ∃ cs : List Chg, (D.ln i).chg = cs.map (·.1) := ⟨(D.ln i).chg.pmap Subtype.mk (NM.Dv.Ok0.ln h.ok i).at_, by rw [List.map_pmap]; simp⟩
  have hlen : (D.ln i).chg.length = cs.length := by rw [hcv, List.length_map]
  rw [hlen] at hk hcs
  refine callsIn_of_wp_marks Try.func47 rfl trivial ?_ rfl
  simp only [Try.ntmps47, List.size_toArray, List.length_cons, List.length_nil, Nat.reduceAdd, Nat.reduceSub, Array.replicate_succ, Array.replicate_zero, List.push_toArray, List.append_toArray, List.nil_append, List.cons_append]
  gi_wp2_with (refine ⟨trivial, ?_⟩; gi_at_call 62; refine (callsIn_wide.2 (back_calls lb (i * 66) k _)).mono ?_; rintro e w' ⟨v, rfl, rfl, rfl⟩)
  have bA := ((Boxed.new w0 88 (.pointer (some ⟨lb, i * 66, none⟩))).alloc (.cells #[.pointer (some ⟨lb, i * 66, none⟩)] 88)).alloc (.cells #[.int .i64 (k : Int)] 3)
  have bL := (Boxed.new (w0.alloc (.cells #[.pointer (some ⟨lb, i * 66, none⟩)] 88)) 88 (.pointer (some ⟨lb, i * 66, none⟩))).alloc (.cells #[.int .i64 (k : Int)] 3)
  have bC := Boxed.new ((w0.alloc (.cells #[.pointer (some ⟨lb, i * 66, none⟩)] 88)).alloc (.cells #[.pointer (some ⟨lb, i * 66, none⟩)] 88)) 3 (.int .i64 (k : Int))
  simp only [World.size_alloc] at bL bC
  have hB0 : Below w0.heap.size w0 (((w0.alloc (.cells #[.pointer (some ⟨lb, i * 66, none⟩)] 88)).alloc (.cells #[.pointer (some ⟨lb, i * 66, none⟩)] 88)).alloc (.cells #[.int .i64 (k : Int)] 3)) := (((Below.refl _ w0).alloc (Nat.le_refl _) _).alloc (by simp) _).alloc (by simp; omega) _
  have hsz : (((w0.alloc (.cells #[.pointer (some ⟨lb, i * 66, none⟩)] 88)).alloc (.cells #[.pointer (some ⟨lb, i * 66, none⟩)] 88)).alloc (.cells #[.int .i64 (k : Int)] 3)).heap.size = w0.heap.size + 3 := by simp
  try simp only [World.size_alloc]
  obtain ⟨W0, hW0⟩ : ∃ W0, (((w0.alloc (.cells #[.pointer (some ⟨lb, i * 66, none⟩)] 88)).alloc (.cells #[.pointer (some ⟨lb, i * 66, none⟩)] 88)).alloc (.cells #[.int .i64 (k : Int)] 3)) = W0 := ⟨_, rfl⟩
  rw [hW0] at bA bL bC hB0 hsz ⊢
  clear hW0
  have hD0 := h.next hB0
  have hlbw := h.lb_lt
  refine wpIn_rangeFunc_ownH (α := Chg) rfl h1 (gf := 67) (lb := #[.pointer (some ⟨w0.heap.size + 1, 0, none⟩), .pointer (some ⟨w0.heap.size + 1 + 1, 0, none⟩)]) rfl trivial (enters_of Try.func67 (by kernel_rfl) rfl)
    (back_stops (n - 1) (by omega) (w0.heap.size + 1) (w0.heap.size + 1 + 1) lb (i * 66) k (S i).1 (S i).2 cs hk hcs W0 ?hstart) (fun h1 h2 => h2 ∘ h1) ?hKb (Below.refl _ _) (fun _ => rfl)
    (fun pre W => (DevAt W p lb (undoD D i (pre.map (·.1))) S ∧ Boxed W w0.heap.size 88 (.pointer (some ⟨lb, i * 66, none⟩)) ∧ Boxed W (w0.heap.size + 1) 88 (.pointer (some ⟨lb, i * 66, none⟩)) ∧ Boxed W (w0.heap.size + 1 + 1) 3 (.int .i64 (k : Int))) ∧ Mod (fun k => k = lb) w0 W)
    (fun _ _ _ => False)
    (OwnFrom.and (OwnFrom.and (Own.from (devAt_own _ _ _ _) _) (OwnFrom.and (Own.from (boxed_own _ _ _) _) (OwnFrom.and (Own.from (boxed_own _ _ _) _) (Own.from (boxed_own _ _ _) _)))) (modAt_own _ _ (by omega)))
    (fun _ _ _ _ _ hs _ _ => hs)
    ⟨⟨by rw [List.map_nil, undoD_nil D i hi]; exact hD0, bA, bL, bC⟩, Mod.of hB0⟩
    (fun x a' W => ∃ Bx, w0.heap.size + 2 < Bx ∧ Blk W Bx #[.int .i64 (x.1.1 : Int), .int .u64 (uv x.1.2)] 94 ∧ a' = { tmps := #[.pointer (some ⟨lb, i * 66, none⟩), .int .i64 (k : Int), .pointer (some ⟨w0.heap.size, 0, none⟩), undef, .pointer (some ⟨Bx, 0, none⟩), .pointer (some ⟨lb, i * 66, none⟩), .int .i64 (k : Int), .func (.func 67) #[] #[.pointer (some ⟨w0.heap.size + 1, 0, none⟩), .pointer (some ⟨w0.heap.size + 1 + 1, 0, none⟩)], .agg #[.int .i64 (x.1.1 : Int), .int .u64 (uv x.1.2)], undef, undef, undef, undef, undef, undef, undef, undef, undef, undef, undef, undef], defers := [] })
    (fun x a' _ X Y row hs hg hr => by obtain ⟨Bx, h1, h2, h3⟩ := hs; exact ⟨Bx, h1, blk_own Bx 94 (fun (_ : Unit) => _) () X Y row h2 hg (fun r e => (hr r e).2), h3⟩)
    ?assign ?body ?done ?stop
  case hstart => exact fun W hW => back_ok (h.next (hB0.trans (hW.mono (by omega)))) hi hcv (boxed_later bL hW) (boxed_later bC hW)
  case hKb =>
    intro W l o o' hl ho hoc _ hok
    have hg := grownBy_putObj' W l o'
    have hr : ∀ r, some l = some r → ∃ o : Obj, W.heap[r]? = some o ∧ o.isCells = false := fun r e => by cases e; exact ⟨o, ho, hoc⟩
    refine ⟨cell_kept hok.l hg hr, cell_kept hok.k hg hr, cell_kept hok.s hg hr, fun j hj => ?_⟩
    obtain ⟨g, h1, h2, h3⟩ := hok.c j hj
    exact ⟨g, h1, cell_kept h2 hg hr, cell_kept h3 hg hr⟩
  case assign =>
    rintro l pre x W K ⟨⟨hD1, bA1, bL1, bC1⟩, hM1⟩ hK
    dsimp only [encC]
    gi_wp2
    have hM1' := hM1.size
    have hb := W.heap.size
    exact hK _ _ ((KeepsOthers.alloc _ _).from _) (fun _ => back_ok (hD1.next ((Below.refl _ W).alloc (Nat.le_refl _) _)) (by rw [undoD_len]; exact hi) (by rw [undoD_ln D i hi]; exact hcv) (bL1.alloc _) (bC1.alloc _)) ⟨⟨hD1.next ((Below.refl _ W).alloc (Nat.le_refl _) _), bA1.alloc _, bL1.alloc _, bC1.alloc _⟩, hM1.alloc _⟩ ⟨W.heap.size, bC1.lt, Blk.new W _ _, rfl⟩
  case body =>
    rintro l pre x a' W hl ⟨r, hr⟩ ⟨⟨hD1, bA1, bL1, bC1⟩, hM1⟩ ⟨Bx, hBx, bX, rfl⟩ hlt
    have cA := bA1.cell
    have cX0 := bX.cell 0
    have cX1 := bX.cell 1
    obtain ⟨q, hq, hq8⟩ := x.2
    have hset := set_calls i q x.1.2 W hD1 (by rw [undoD_len]; exact hi) hq8
    rw [← hq, undoD_snoc' D i hi] at hset
    clear hq
    have h1' : 1 ≤ n - 1 - 1 := by omega
    gi_wp2_with (refine ⟨trivial, ?_⟩; gi_at_call 48; refine (CallsIn.inRound l (callsIn_wide.2 hset)).mono ?_; rintro e w' ⟨v, rfl, rfl, hD2, hM2⟩)
    have hbox : ∀ {B : Nat} {t : TypeId} {v : Value}, B ≠ lb → Boxed W B t v → Boxed w' B t v := fun hne hb => (hM2.block _ hb.lt hne).trans hb
    have hbA := hbox (by omega) bA1
    have hbL := hbox (by omega) bL1
    have hbC := hbox (by omega) bC1
    refine ⟨⟨hM2.size, fun k o hB hk ho => ?_⟩, fun _ => back_ok hD2 (by rw [undoD_len]; exact hi) (by rw [undoD_ln D i hi]; exact hcv) hbL hbC, ⟨hD2, hbA, hbL, hbC⟩, hM1.trans hM2 (fun k hk _ => hk)⟩
    by_cases e : k = lb
    · subst e
      obtain ⟨C, hC⟩ := hD1.lines
      rw [show W.heap[k]? = _ from hC.blk] at hk; cases hk; cases ho
    · exact (hM2.block k (Array.getElem?_eq_some_iff.1 hk).1 e).trans hk
  case done =>
    rintro D2 ys W hD2 rfl ⟨⟨hD1, bA1, bL1, bC1⟩, hM1⟩ hK
    have cA := bA1.cell
    obtain ⟨C, hL⟩ := hD1.lines
    have hiu : i < (undoD D i ((((cs.drop k).reverse)).map (·.1))).ls.length := by rw [undoD_len]; exact hi
    have c64 := hL.blk.cell (i * 66 + 64)
    rw [hL.chg i hiu] at c64
    have f64 := hL.blk.thaw (i * 66 + 64)
    have c65 := hL.blk.cell (i * 66 + 65)
    rw [hL.mark i hiu] at c65
    have f65 := hL.blk.thaw (i * 66 + 65)
    gi_wp2
    gi_region
    have hK1 := (KeepsOthers.setCell W ⟨lb, i * 66 + 64, none⟩ (.slice none 0 0)).same D2 _ hK rfl
    have hK2 := (KeepsOthers.setCell (W.setCell ⟨lb, i * 66 + 64, none⟩ (.slice none 0 0)) ⟨lb, i * 66 + 65, none⟩ (.int .i64 0)).same D2 _ hK1 rfl
    have hK3 : (((W.setCell ⟨lb, i * 66 + 64, none⟩ (.slice none 0 0)).setCell ⟨lb, i * 66 + 65, none⟩ (.int .i64 0)).drew).heap[D2]? = some (.deferred (some [])) := hK2
    refine ⟨by simp, .inl ⟨_, _, rfl, run_takeDeferred hK3, ?_⟩⟩
    have hCs : i * 66 + 66 ≤ C.size := by rw [hL.size, undoD_len]; omega
    have hg : ∀ j, ((C.setIfInBounds (i * 66 + 64) (.slice none 0 0)).setIfInBounds (i * 66 + 65) (.int .i64 0))[j]? = if j = i * 66 + 65 then some (.int .i64 0) else if j = i * 66 + 64 then some (.slice none 0 0) else C[j]? := fun j => by
      rw [Array.getElem?_setIfInBounds, Array.getElem?_setIfInBounds]
      by_cases e : j = i * 66 + 65
      · subst e; rw [if_pos rfl, if_pos rfl, if_pos (by simp; omega)]
      · rw [if_neg (fun e2 => e e2.symm), if_neg e]
        by_cases e2 : j = i * 66 + 64
        · subst e2; rw [if_pos rfl, if_pos rfl, if_pos (by omega)]
        · rw [if_neg (fun e3 => e2 e3.symm), if_neg e2]
    have hmL : Mod (fun k => k = lb) W (((W.setCell ⟨lb, i * 66 + 64, none⟩ (.slice none 0 0)).setCell ⟨lb, i * 66 + 65, none⟩ (.int .i64 0)).drew) := (((Mod.refl (fun k => k = lb) W).setCell (a := ⟨lb, i * 66 + 64, none⟩) (.inl rfl) _).setCell (a := ⟨lb, i * 66 + 65, none⟩) (.inl rfl) _).drew
    have hcr : (D.ln i).crash k = { now := undoF (((cs.drop k).reverse).map (·.1)) (D.ln i).now, chg := [], mark := 0 } := by
      unfold NM.Ln.crash
      rw [hcv, ← List.map_drop, List.map_reverse, undoF_all]
    have hfin := hD1.setLine (l' := (D.ln i).crash k) (s' := (none, 0)) hL hiu ((NM.Dv.Ok0.ln h.ok i).crash k) ((hL.blk.set _ (.slice none 0 0)).set (i * 66 + 65) (.int .i64 0)).drew (by simp) (fun j hj => by rw [hg, if_neg (by omega), if_neg (by omega)])
      (fun j hj => by rw [hg, if_neg (by omega), if_neg (by omega), hcr, hL.now i hiu j hj, undoD_ln D i hi]) (by rw [hg, if_neg (by omega), if_pos rfl, hcr]; rfl) (by rw [hg, if_pos rfl, hcr]; rfl) hmL (fun k hk => .inl hk) (by rw [hcr]; exact World.ownsRow_nil _ _ _ _) (fun k hk => by rw [hcr] at hk; cases hk)
    have hun : ∀ l', (undoD D i (((cs.drop k).reverse).map (·.1))).setLn i l' = D.setLn i l' := fun l' => setLn_setLn _ _ _ _
    rw [hun] at hfin
    refine ⟨_, results_none rfl _ _ _, rfl, devAt_own p lb (fun (_ : Unit) => _) _ () _ _ (some D2) hfin (grownBy_putObj' _ D2 _) (fun r e => by cases e; exact ⟨_, hK3, rfl⟩), ?_⟩
    exact (hM1.trans hmL (fun k hk _ => hk)).grown (grownBy_putObj' _ D2 _) (fun r e => by cases e; exact .inr (by omega))
  case stop =>
    rintro D c pre W _ _ h _
    exact h.elim

/-- A line's crash, as a call. -/
theorem lcrash_calls {p lb : Nat} {D : NM.Dv} {S : Nat → Spot} (i k : Nat) (w0 : World) (h : DevAt w0 p lb D S) (hi : i < D.ls.length) (hk : k ≤ (D.ln i).chg.length) (hcs : (D.ln i).chg.length ≤ 1099511627776) :
    Ret Try.prog 47 #[.pointer (some ⟨lb, i * 66, none⟩), .int .i64 (k : Int)] w0 fun v w' => v = .tuple #[] ∧ DevAt w' p lb (D.setLn i ((D.ln i).crash k)) (setS S i (none, 0)) ∧ Mod (fun k => k = lb) w0 w' :=
  (callsIn_wide.1 (crash_in 6 (Nat.le_refl _) i k w0 h hi hk hcs)).mono fun _ _ h => ⟨_, h.1, rfl, h.2⟩
end Go.Proofs.Ytkljlgahdlgmpaa
