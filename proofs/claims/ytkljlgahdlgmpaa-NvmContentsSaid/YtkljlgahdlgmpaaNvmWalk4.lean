/- Store: its walk. -/
import Derived.Test.YtkljlgahdlgmpaaNvmWalk3
namespace Go.Proofs.Ytkljlgahdlgmpaa
open Go Go.RowKit

theorem setLn_setLn (D : NM.Dv) (i : Nat) (a b : NM.Ln) : (D.setLn i a).setLn i b = D.setLn i b := by simp [NM.Dv.setLn]
theorem chgCells_append (a b : List (Nat × BitVec 64)) : chgCells (a ++ b) = chgCells a ++ chgCells b := by simp [chgCells]
theorem chgI : ∃ i z, Try.prog.info? 94 = some i ∧ i.zero = some z ∧ i.size = 2 ∧ i.bytes = 16 ∧ z.cells.size = 2 := by
  have h : (Try.prog.info? 94).map (fun i => (i.zero.map (fun z => z.cells.size), i.size, i.bytes)) = some (some 2, 2, 16) := by kernel_rfl
  obtain ⟨i, hi, h2⟩ := Option.map_eq_some_iff.1 h
  simp only [Prod.mk.injEq] at h2
  obtain ⟨z, hz, h3⟩ := Option.map_eq_some_iff.1 h2.1
  exact ⟨i, z, hi, hz, h2.2.1, h2.2.2, h3⟩

theorem ownsRow_mod {w w' : World} {F : Nat → Prop} {B : Nat} {e : TypeId} {k : Nat} {v : Value} {n : Nat} {xs : List Value} (h : w.ownsRow B e k v n xs) (hm : Mod F w w') (hF : ∀ g, v.ownBlock = some g → ¬ F g) : w'.ownsRow B e k v n xs := by
  obtain ⟨h1, h2⟩ := h
  refine ⟨h1, ?_⟩
  rcases h2 with h2 | ⟨g, cap, cur, hv, hg, hh, r⟩
  · exact Or.inl h2
  · have hB : Blk w g cur e := hh
    exact Or.inr ⟨g, cap, cur, hv, hg, hB.mod hm (hF g (by rw [hv]; rfl)), r⟩

set_option maxHeartbeats 1000000 in
set_option linter.unusedSimpArgs false in
theorem store_calls {p lb : Nat} {D : NM.Dv} {S : Nat → Spot} (off : Int) (n : BitVec 64) (w0 : World) (h : DevAt w0 p lb D S) (ho : I64 off) (hc : D.steps < 1099511627776) (hok : D.Ok) :
    Ret Try.prog 22 #[.pointer (some ⟨p, 0, none⟩), .int .i64 off, .int .u64 (uv n)] w0 fun v w' => v = .int .i64 (D.store off n).2 ∧ DevStep w0 p lb D S (D.store off n).1 w' := by
  have ho' := ho
  obtain ⟨ho1, ho2⟩ := ho
  refine ret_of (args := [_, _, _]) _ Try.func22 rfl Try.ntmps22 (by simp) ?_
  simp -implicitDefEqProofs [go_sem]
  refine callE_of (load_calls off w0 h ho') ?_
  rintro v w1 ⟨rfl, rfl⟩
  by_cases ha : D.ask off 8 = 0
  · obtain ⟨o, rfl, ho8, hos⟩ := ask8 h.pos ha
    have hld : D.load (o : Int) = (D.word o, 0) := by unfold NM.Dv.load; rw [if_pos ha, Int.toNat_natCast]
    rw [hld]
    by_cases hn : D.word o = n
    · have hn' : (D.word o != n) = false := by rw [hn]; simp
      have hst : D.store (o : Int) n = (D.done, 0) := by unfold NM.Dv.store; rw [if_pos ha, Int.toNat_natCast, if_pos hn]
      simp -implicitDefEqProofs [go_sem, hn']
      refine callE_of (done_calls w1 h hc) ?_
      rintro v w2 ⟨rfl, hA2, hmd, _⟩
      simp -implicitDefEqProofs [go_sem]
      refine body_tmp 6 rfl ?_
      simp -implicitDefEqProofs [go_sem, hst]
      exact step_done hA2 hmd
    · have hn' : (D.word o != n) = true := by rw [bne_iff_ne]; exact hn
      have hQ : o / 64 < D.ls.length := by unfold NM.Dv.size at hos; omega
      have hwq : IntKind.i64.wrap ((o : Int) / 64) = ((o / 64 : Nat) : Int) := by rw [IntWalk.i64_in _ (by omega)]; rfl
      have hwr : (o : Int).tmod 64 = ((o % 64 : Nat) : Int) := by rw [Int.tmod_eq_emod_of_nonneg (by omega)]; rfl
      have hQ' : ((o / 64 : Nat) : Int) < D.ls.length := by omega
      have hst : D.store (o : Int) n = ((D.setLn (o / 64) ((D.ln (o / 64)).store (o % 64) n)).done, 0) := by unfold NM.Dv.store; rw [if_pos ha, Int.toNat_natCast, if_neg hn]
      obtain ⟨q, hq, hq8⟩ : ∃ q, o % 64 = 8 * q ∧ q < 8 := ⟨o % 64 / 8, by omega, by omega⟩
      have hwd : D.word o = WM.getM (D.ln (o / 64)).now (o % 64) := rfl
      rw [hst]
      generalize hold : D.word o = old at *
      generalize o / 64 = Q at *
      generalize o % 64 = T at *
      have hl := NM.Dv.Ok0.ln h.ok Q
      have hcl := NM.Dv.Ok.lnChg hok Q
      obtain ⟨C, hL⟩ := h.lines
      have g64 := hL.blk.cell (Q * 66 + 64)
      rw [hL.chg Q hQ, spotV] at g64
      have hCs : Q * 66 + 66 ≤ C.size := by rw [hL.size]; omega
      -- the new change, and the append
      obtain ⟨ti, tz, hti, htz, hts, htb, htc⟩ := chgI
      have belA : Below w1.heap.size w1 (w1.alloc (.cells #[.int .i64 (T : Int), .int .u64 (uv old)] 94)) := (Below.refl _ _).alloc (Nat.le_refl _) _
      have szA : (w1.alloc (.cells #[.int .i64 (T : Int), .int .u64 (uv old)] 94)).heap.size = w1.heap.size + 1 := by simp
      have hNew := Blk.new w1 #[.int .i64 (T : Int), .int .u64 (uv old)] 94
      have ownA := ownsRow_next (h.own Q hQ) belA
      obtain ⟨g, cap', w2, hr2, hown2, hgr, hwh⟩ := run_append_where (P := Try.prog) 0 (t := 90) (ty := 90) Try.underlying90 hti htz hts htb htc (by decide) ownA ⟨w1.heap.size, 0, none⟩ (m := 1) (c := 1) (news := [.int .i64 (T : Int), .int .u64 (uv old)]) rfl
        (fun j u hu => by
          rw [Addr.add_lit, Nat.zero_add, hNew.cell]
          simpa using hu) (by simp [Value.oneCell']) (by decide) (by omega) (by omega) (by omega)
      have hm1 : Mod (fun k => Value.ownBlock (spotV (D.ln Q) (S Q)) = some k) w1 w2 := (Mod.of belA).grown hgr (fun k hk => .inl hk)
      have hlb2 := hL.blk.mod hm1 (fun e => (h.notp Q hQ).2 e)
      obtain ⟨l1, hl1⟩ : ∃ l1 : NM.Ln, l1 = { D.ln Q with chg := (D.ln Q).chg ++ [(T, old)] } := ⟨_, rfl⟩
      have hlen1 : l1.chg.length = (D.ln Q).chg.length + 1 := by rw [hl1]; simp
      have hgb : Value.ownBlock (spotV (D.ln Q) (S Q)) = some g ∨ w1.heap.size ≤ g := by
        rcases hwh with h2 | h2
        · exact .inl h2
        · right; omega
      have hglb : g ≠ lb := by
        rintro rfl
        rcases hgb with h2 | h2
        · exact (h.notp Q hQ).2 h2
        · have := hL.blk.lt; omega
      have hmL : Mod (fun k => k = lb) w2 (w2.setCell ⟨lb, Q * 66 + 64, none⟩ (.slice (some ⟨g, 0, none⟩) ((D.ln Q).chg.length + 1) cap')) := (Mod.refl (fun k => k = lb) w2).setCell (a := ⟨lb, Q * 66 + 64, none⟩) (.inl rfl) _
      have hm3 : Mod (fun k => k = lb ∨ Value.ownBlock (spotV (D.ln Q) (S Q)) = some k) w1 (w2.setCell ⟨lb, Q * 66 + 64, none⟩ (.slice (some ⟨g, 0, none⟩) ((D.ln Q).chg.length + 1) cap')) :=
        (hm1.mono (fun k hk _ => .inr hk)).trans hmL (fun k hk _ => .inl hk)
      have hown3 := ownsRow_mod hown2 hmL (fun k hk e => hglb (by
        have : some g = some k := hk
        rw [e] at this; exact Option.some.inj this))
      have hg : ∀ k, (C.setIfInBounds (Q * 66 + 64) (.slice (some ⟨g, 0, none⟩) ((D.ln Q).chg.length + 1) cap'))[k]? = if k = Q * 66 + 64 then some (.slice (some ⟨g, 0, none⟩) ((D.ln Q).chg.length + 1) cap') else C[k]? := fun k => by
        rw [Array.getElem?_setIfInBounds]
        by_cases e : k = Q * 66 + 64
        · subst e; rw [if_pos rfl, if_pos rfl, if_pos (by omega)]
        · rw [if_neg (fun e2 => e e2.symm), if_neg e]
      have hchg1 : chgCells l1.chg = chgCells (D.ln Q).chg ++ [.int .i64 (T : Int), .int .u64 (uv old)] := by rw [hl1]; simp [chgCells]
      have hsp : spotV l1 (some ⟨g, 0, none⟩, cap') = .slice (some ⟨g, 0, none⟩) ((D.ln Q).chg.length + 1) cap' := by unfold spotV; rw [hlen1]
      have hok1 : l1.Ok := by
        rw [hl1]
        refine ⟨hl.len, fun c hc => ?_, by have := hl.mark; simp; omega⟩
        rcases List.mem_append.1 hc with hc | hc
        · exact hl.at_ c hc
        · rw [List.mem_singleton.1 hc]; exact ⟨q, hq, hq8⟩
      have hwh1 : ∀ k, Value.ownBlock (spotV l1 (some ⟨g, 0, none⟩, cap')) = some k → Value.ownBlock (spotV (D.ln Q) (S Q)) = some k ∨ w1.heap.size ≤ k := fun k hk => by
        have : some g = some k := hk
        rw [← Option.some.inj this]; exact hgb
      have hD1 := h.setLine (l' := l1) (s' := (some ⟨g, 0, none⟩, cap')) hL hQ hok1 (hlb2.set _ _) (by simp) (fun k hk => by rw [hg, if_neg (by omega)])
        (fun j hj => by rw [hg, if_neg (by omega)]; rw [hl1]; exact hL.now Q hQ j hj) (by rw [hg, if_pos rfl, hsp]) (by rw [hg, if_neg (by omega), hl1]; exact hL.mark Q hQ) hm3 (fun k hk => hk) (by rw [hsp, hlen1, hchg1]; exact hown3) hwh1
      have hF1 := setLine_F (p := p) (lb := lb) (S := S) (l' := l1) (s' := (some ⟨g, 0, none⟩, cap')) (w := w1) hQ hwh1
      have hQ1 : Q < (D.setLn Q l1).ls.length := by rw [NM.Dv.setLn_len]; exact hQ
      have hset := set_calls Q q n _ hD1 hQ1 hq8
      have hln1 : (D.setLn Q l1).ln Q = l1 := by rw [NM.Dv.setLn_ln D Q l1 hQ, if_pos rfl]
      have hD2 : (D.setLn Q l1).setLn Q { l1 with now := WM.putM l1.now (8 * q) n } = D.setLn Q ((D.ln Q).store T n) := by
        rw [setLn_setLn, hl1, hwd, ← hq]; rfl
      rw [hln1, hD2, ← hq] at hset
      have f64 := hlb2.thaw (Q * 66 + 64)
      have c64 := hlb2.cell (Q * 66 + 64)
      rw [hL.chg Q hQ, spotV] at c64
      generalize hw3 : World.setCell w2 _ _ = w3 at *
      simp -implicitDefEqProofs [go_sem, ha, hn', h.dev.cell, hwq, hwr, hQ, hQ', g64, hr2, f64, c64, hw3]
      refine callE_of hset ?_
      rintro v w4 ⟨rfl, hA4, hm4⟩
      simp -implicitDefEqProofs [go_sem]
      refine callE_of (done_calls w4 hA4 (by simpa [NM.Dv.setLn] using hc)) ?_
      rintro v w5 ⟨rfl, hA5, hmd, _⟩
      simp -implicitDefEqProofs [go_sem]
      refine body_tmp 6 rfl ?_
      simp -implicitDefEqProofs [go_sem]
      refine DevStep.head hD1 (hm3.mono (fun k hk _ => ?_)) hF1 (DevStep.head hA4 (hm4.mono (fun k hk _ => .inr (.inl hk))) (fun k hk => .inl ?_) (step_done hA5 hmd))
      · rcases hk with hk | hk
        · exact .inr (.inl hk)
        · exact .inr (.inr ⟨Q, hQ, hk⟩)
      · rcases hk with hk | hk | ⟨i, hi, hk⟩
        · exact .inl hk
        · exact .inr (.inl hk)
        · refine .inr (.inr ⟨i, by rw [NM.Dv.setLn_len] at hi ⊢; exact hi, ?_⟩)
          rw [NM.Dv.setLn_ln _ _ _ hQ] at hk ⊢
          by_cases e : i = Q
          · subst e
            rw [if_pos rfl] at hk ⊢
            simp only [setS, if_true] at hk ⊢
            exact hk
          · rw [if_neg e] at hk ⊢; exact hk
  · have hld : D.load off = (0#64, D.ask off 8) := by unfold NM.Dv.load; rw [if_neg ha]
    have ha' : (D.ask off 8 != 0) = true := by rw [bne_iff_ne]; exact ha
    simp -implicitDefEqProofs [go_sem, hld, ha, ha']
    refine body_tmp 6 rfl ?_
    simp -implicitDefEqProofs [go_sem, NM.Dv.store, ha]
    exact DevStep.refl h
end Go.Proofs.Ytkljlgahdlgmpaa
