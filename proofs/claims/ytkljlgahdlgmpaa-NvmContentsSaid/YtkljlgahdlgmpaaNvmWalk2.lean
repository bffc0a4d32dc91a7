/- A line's calls, and those of a device that turn lines: walks. -/
import Derived.Test.YtkljlgahdlgmpaaNvmWalk
import Derived.Laws.Cover3
namespace Go.Proofs.Ytkljlgahdlgmpaa
open Go Go.RowKit

theorem setS_same (S : Nat → Spot) (i : Nat) : setS S i (S i) = S := by
  funext j; unfold setS; by_cases h : j = i
  · subst h; simp
  · simp [h]
/-- The changes of a line, where other blocks turn. -/
theorem DevAt.ownMod {w w' : World} {p lb : Nat} {D : NM.Dv} {S : Nat → Spot} {F : Nat → Prop} (h : DevAt w p lb D S) {i : Nat} (hi : i < D.ls.length) (hm : Mod F w w') (hF : ∀ k, Value.ownBlock (spotV (D.ln i) (S i)) = some k → ¬ F k) :
    w'.ownsRow 0 94 2 (spotV (D.ln i) (S i)) (D.ln i).chg.length (chgCells (D.ln i).chg) := by
  obtain ⟨h1, h2⟩ := h.own i hi
  refine ⟨h1, ?_⟩
  rcases h2 with h2 | ⟨g, cap, cur, hv, hg, hh, r⟩
  · exact Or.inl h2
  · have hB : Blk w g cur 94 := hh
    exact Or.inr ⟨g, cap, cur, hv, hg, hB.mod hm (hF g (by rw [hv]; rfl)), r⟩
def byteCs (l : List (BitVec 8)) : Array Value := (cellsK .u8 l).toArray
theorem byteCs_size (l : List (BitVec 8)) : (byteCs l).size = l.length := by simp [byteCs, cellsK]
theorem byteCs_get (l : List (BitVec 8)) (j : Nat) (hj : j < l.length) : (byteCs l)[j]? = some (.int .u8 (uv (l.getD j 0#8))) := by simp [byteCs, cellsK, hj]
theorem byteCs_one (l : List (BitVec 8)) : ∀ v ∈ (byteCs l).toList, v.oneCell' = true := by
  intro v hv; simp [byteCs] at hv; exact cellsK_one v hv
theorem arrI : (Try.prog.info? 89).map (·.size) = some 64 := by kernel_rfl

set_option linter.unusedSimpArgs false in
theorem set_calls {p lb : Nat} {D : NM.Dv} {S : Nat → Spot} (i q : Nat) (n : BitVec 64) (w0 : World) (h : DevAt w0 p lb D S) (hi : i < D.ls.length) (hq : q < 8) :
    Ret Try.prog 48 #[.pointer (some ⟨lb, i * 66, none⟩), .int .i64 ((8 * q : Nat) : Int), .int .u64 (uv n)] w0 fun v w' => v = .tuple #[] ∧ DevAt w' p lb (D.setLn i { D.ln i with now := WM.putM (D.ln i).now (8 * q) n }) S ∧ Mod (fun k => k = lb) w0 w' := by
  have hl := (NM.Dv.Ok0.ln h.ok i)
  have harr := Try.underlying89
  refine ret_of (args := [_, _, _]) _ Try.func48 rfl Try.ntmps48 (by simp) ?_
  have hP := put_calls (some ⟨lb, i * 66, none⟩) (D.ln i).now 64 64 ((8 * q : Nat) : Int) n w0 hl.len (by decide) (h.now hi)
  have hhas : WM.hasB 64 ((8 * q : Nat) : Int) = true := by unfold WM.hasB; rw [decide_eq_true_iff]; omega
  have hput : putB (D.ln i).now ((8 * q : Nat) : Int) n = WM.putM (D.ln i).now (8 * q) n := by
    unfold putB; rw [hl.len, if_pos hhas, Int.toNat_natCast]
  rw [hhas, hput] at hP
  generalize hy : 8 * q = y at *
  simp -implicitDefEqProofs [go_sem]
  refine callE_of hP ?_
  rintro v w1 ⟨a1, c1, rfl, hin1, b1⟩
  have h1 := h.next b1
  have hlen : (WM.putM (D.ln i).now y n).length = 64 := by rw [WM.putM_length, hl.len]
  generalize hnw : WM.putM (D.ln i).now y n = N at *
  obtain h0 | ⟨b, o, rfl, hc⟩ := hin1.at_
  · rw [h0] at hlen; simp at hlen
  obtain ⟨C, hL⟩ := h1.lines
  have hsz : i * 66 + 66 ≤ C.size := by rw [hL.size]; omega
  have hb64 : (byteCs N).size = 64 := by rw [byteCs_size, hlen]
  have hld := ldCells (P := Try.prog) (w := w1) (g := b) (o := o) (cs := byteCs N) harr rfl arrI hb64 (fun j hj => by
    have hj' : j < N.length := by rw [byteCs_size] at hj; exact hj
    rw [hc j hj']; simp [byteCs, cellsK])
  have hst := stE (P := Try.prog) (ty := 89) (o := i * 66) (cs := byteCs N) hL.blk (by rw [hb64]; exact arrI) (by omega) (byteCs_one N)
  have har := fun w a c => run_arrayAt (P := Try.prog) (w := w) 89 5 64 a 64 c harr (Nat.le_refl _)
  have hm2 : Mod (fun k => k = lb) w1 (w1.setRow lb (segPut C (i * 66) (byteCs N))) := (Mod.refl (fun k => k = lb) w1).row (g := lb) (.inl rfl) _
  have hown := h1.ownMod hi hm2 (fun k hk e => (h1.notp i hi).2 (e ▸ hk))
  have hg := segPut_get C (i * 66) (byteCs N) (by omega)
  rw [hb64] at hg
  have hD := h1.setLine (l' := { D.ln i with now := N }) (s' := S i) hL hi ⟨hlen, hl.at_, hl.mark⟩ (hL.blk.row _) (segPut_size _ _ _ (by omega)) (fun k hk => by rw [hg, if_neg (by omega)])
    (fun j hj => by rw [hg, if_pos (by omega), show i * 66 + j - i * 66 = j by omega, byteCs_get _ _ (by omega)])
    (by rw [hg, if_neg (by omega)]; exact hL.chg i hi) (by rw [hg, if_neg (by omega)]; exact hL.mark i hi) hm2 (fun k hk => .inl hk) hown (fun k hk => .inl hk)
  rw [setS_same] at hD
  simp -implicitDefEqProofs [go_sem, har, ↓hld, ↓hst]
  refine body_end (body_none rfl ?_)
  exact ⟨rfl, hD, (Mod.of b1).trans hm2 (fun k hk _ => hk)⟩
end Go.Proofs.Ytkljlgahdlgmpaa
