/- A device in memory. -/
import Derived.Test.YtkljlgahdlgmpaaBase
import Derived.Test.YtkljlgahdlgmpaaWordMem
import Derived.Test.YtkljlgahdlgmpaaMod
import Derived.Test.YtkljlgahdlgmpaaWhere
import Derived.Test.YtkljlgahdlgmpaaNvmMath
namespace Go.Proofs.Ytkljlgahdlgmpaa
open Go Go.RowKit

/-- Where a line's changes lie. -/
abbrev Spot := Option Addr × Nat
def spotV (l : NM.Ln) (s : Spot) : Value := .slice s.1 l.chg.length s.2
def chgCells (cs : List (Nat × BitVec 64)) : List Value := cs.flatMap fun c => [.int .i64 (c.1 : Int), .int .u64 (uv c.2)]
/-- A device's lines, in a block. -/
structure LinesAt (w : World) (lb : Nat) (D : NM.Dv) (S : Nat → Spot) (C : Array Value) : Prop where
  blk : Blk w lb C 92
  size : C.size = 66 * D.ls.length
  now : ∀ i, i < D.ls.length → ∀ j, j < 64 → C[i * 66 + j]? = some (.int .u8 (uv ((D.ln i).now.getD j 0#8)))
  chg : ∀ i, i < D.ls.length → C[i * 66 + 64]? = some (spotV (D.ln i) (S i))
  mark : ∀ i, i < D.ls.length → C[i * 66 + 65]? = some (.int .i64 ((D.ln i).mark : Int))
/-- The blocks of a device. -/
def DevF (p lb : Nat) (D : NM.Dv) (S : Nat → Spot) (k : Nat) : Prop := k = p ∨ k = lb ∨ ∃ i, i < D.ls.length ∧ Value.ownBlock (spotV (D.ln i) (S i)) = some k
structure DevAt (w : World) (p lb : Nat) (D : NM.Dv) (S : Nat → Spot) : Prop where
  dev : Blk w p #[.slice (some ⟨lb, 0, none⟩) D.ls.length D.ls.length, .bool D.down, .int .i64 D.left, .int .i64 (D.steps : Int)] 53
  lines : ∃ C, LinesAt w lb D S C
  own : ∀ i, i < D.ls.length → w.ownsRow 0 94 2 (spotV (D.ln i) (S i)) (D.ln i).chg.length (chgCells (D.ln i).chg)
  ne : p ≠ lb
  notp : ∀ i, i < D.ls.length → Value.ownBlock (spotV (D.ln i) (S i)) ≠ some p ∧ Value.ownBlock (spotV (D.ln i) (S i)) ≠ some lb
  apart : ∀ i j, i < D.ls.length → j < D.ls.length → i ≠ j → ∀ k, Value.ownBlock (spotV (D.ln i) (S i)) = some k → Value.ownBlock (spotV (D.ln j) (S j)) ≠ some k
  ok : D.Ok0
  pos : 0 < D.ls.length

section
variable {w w' : World} {p lb : Nat} {D : NM.Dv} {S : Nat → Spot}
theorem DevAt.lt (h : DevAt w p lb D S) : ∀ k, DevF p lb D S k → k < w.heap.size := by
  rintro k (rfl | rfl | ⟨i, hi, hk⟩)
  · exact h.dev.lt
  · obtain ⟨C, hC⟩ := h.lines; exact hC.blk.lt
  · exact ((h.own i hi).lt k hk).2
/-- What does not touch its blocks leaves it. -/
theorem DevAt.mod {F : Nat → Prop} (h : DevAt w p lb D S) (hm : Mod F w w') (hF : ∀ k, DevF p lb D S k → ¬ F k) : DevAt w' p lb D S := by
  obtain ⟨C, hC⟩ := h.lines
  refine ⟨h.dev.mod hm (hF _ (.inl rfl)), ⟨C, hC.blk.mod hm (hF _ (.inr (.inl rfl))), hC.size, hC.now, hC.chg, hC.mark⟩, fun i hi => ?_, h.ne, h.notp, h.apart, h.ok, h.pos⟩
  obtain ⟨h1, h2⟩ := h.own i hi
  refine ⟨h1, ?_⟩
  rcases h2 with h2 | ⟨g, cap, cur, hv, hg, hh, r⟩
  · exact Or.inl h2
  · have hB : Blk w g cur 94 := hh
    exact Or.inr ⟨g, cap, cur, hv, hg, hB.mod hm (hF g (.inr (.inr ⟨i, hi, by rw [hv]; rfl⟩))), r⟩
theorem DevAt.next (h : DevAt w p lb D S) (hb : Below w.heap.size w w') : DevAt w' p lb D S := h.mod (Mod.of (F := fun _ => False) hb) (fun _ _ h => h)
/-- The bytes of a line, as a slice. -/
theorem DevAt.now (h : DevAt w p lb D S) {i : Nat} (hi : i < D.ls.length) : SlIn .u8 w (some ⟨lb, i * 66, none⟩) (D.ln i).now 64 := by
  obtain ⟨C, hC⟩ := h.lines
  have hl := (NM.Dv.Ok0.ln h.ok i).len
  refine ⟨Or.inr ⟨_, _, rfl, fun j hj => ?_⟩, by omega, by decide, fun h => by cases h⟩
  rw [hC.blk.cell, hC.now i hi j (by omega)]
  simp [List.getD, hj]
theorem DevAt.head {D' : NM.Dv} (h : DevAt w p lb D S) (hb : Blk w' p #[.slice (some ⟨lb, 0, none⟩) D'.ls.length D'.ls.length, .bool D'.down, .int .i64 D'.left, .int .i64 (D'.steps : Int)] 53)
    (hm : Mod (fun k => k = p) w w') (hl : D'.ls = D.ls) (hok : D'.Ok0) : DevAt w' p lb D' S := by
  have hln : ∀ i, D'.ln i = D.ln i := fun i => by unfold NM.Dv.ln; rw [hl]
  have hlen : D'.ls.length = D.ls.length := by rw [hl]
  obtain ⟨C, hC⟩ := h.lines
  refine ⟨hb, ⟨C, hC.blk.mod hm (fun e => h.ne e.symm), by rw [hlen]; exact hC.size, fun i hi j hj => by rw [hln]; exact hC.now i (hlen ▸ hi) j hj, fun i hi => by rw [hln]; exact hC.chg i (hlen ▸ hi), fun i hi => by rw [hln]; exact hC.mark i (hlen ▸ hi)⟩, fun i hi => ?_, h.ne, fun i hi => by rw [hln]; exact h.notp i (hlen ▸ hi), fun i j hi hj hij => by rw [hln, hln]; exact h.apart i j (hlen ▸ hi) (hlen ▸ hj) hij, hok, by rw [hlen]; exact h.pos⟩
  rw [hln]
  obtain ⟨h1, h2⟩ := h.own i (hlen ▸ hi)
  refine ⟨h1, ?_⟩
  rcases h2 with h2 | ⟨g, cap, cur, hv, hg, hh, r⟩
  · exact Or.inl h2
  · have hB : Blk w g cur 94 := hh
    exact Or.inr ⟨g, cap, cur, hv, hg, hB.mod hm (fun e => (h.notp i (hlen ▸ hi)).1 (by rw [hv, ← e]; rfl)), r⟩
/-- One line made anew. -/
def setS (S : Nat → Spot) (i : Nat) (s : Spot) : Nat → Spot := fun j => if j = i then s else S j
theorem DevAt.setLine {C C' : Array Value} {F : Nat → Prop} {i : Nat} {l' : NM.Ln} {s' : Spot} (h : DevAt w p lb D S) (hL : LinesAt w lb D S C) (hi : i < D.ls.length) (hl : l'.Ok)
    (hb : Blk w' lb C' 92) (hs : C'.size = C.size) (hout : ∀ k, (k < i * 66 ∨ i * 66 + 66 ≤ k) → C'[k]? = C[k]?)
    (hnow : ∀ j, j < 64 → C'[i * 66 + j]? = some (.int .u8 (uv (l'.now.getD j 0#8)))) (hchg : C'[i * 66 + 64]? = some (spotV l' s')) (hmark : C'[i * 66 + 65]? = some (.int .i64 (l'.mark : Int)))
    (hm : Mod F w w') (hF : ∀ k, F k → k = lb ∨ Value.ownBlock (spotV (D.ln i) (S i)) = some k)
    (hown : w'.ownsRow 0 94 2 (spotV l' s') l'.chg.length (chgCells l'.chg))
    (hwhere : ∀ k, Value.ownBlock (spotV l' s') = some k → Value.ownBlock (spotV (D.ln i) (S i)) = some k ∨ w.heap.size ≤ k) :
    DevAt w' p lb (D.setLn i l') (setS S i s') := by
  have hlen := NM.Dv.setLn_len D i l'
  have hln := NM.Dv.setLn_ln D i l' hi
  have hnotF : ∀ j, j < D.ls.length → j ≠ i → ∀ k, Value.ownBlock (spotV (D.ln j) (S j)) = some k → ¬ F k := by
    intro j hj hji k hk hf
    rcases hF k hf with rfl | h2
    · exact (h.notp j hj).2 hk
    · exact h.apart j i hj hi hji k hk h2
  have hp : ¬ F p := fun hf => by
    rcases hF p hf with h2 | h2
    · exact h.ne h2
    · exact (h.notp i hi).1 h2
  have hlt : ∀ j, j < D.ls.length → ∀ k, Value.ownBlock (spotV (D.ln j) (S j)) = some k → k < w.heap.size := fun j hj k hk => ((h.own j hj).lt k hk).2
  refine ⟨?_, ⟨C', hb, by rw [hs, hlen]; exact hL.size, fun j hj t ht => ?_, fun j hj => ?_, fun j hj => ?_⟩, fun j hj => ?_, h.ne, fun j hj => ?_, fun j k hj hk hjk g hg => ?_, NM.Dv.Ok0.setLn h.ok i hl, by rw [hlen]; exact h.pos⟩
  · have := h.dev.mod hm hp
    rw [hlen]; exact this
  · rw [hlen] at hj
    rw [hln]
    by_cases e : j = i
    · subst e; rw [if_pos rfl]; exact hnow t ht
    · rw [if_neg e, hout _ (by omega)]; exact hL.now j hj t ht
  · rw [hlen] at hj
    rw [hln]
    by_cases e : j = i
    · subst e; rw [if_pos rfl]; simp only [setS, if_true]; exact hchg
    · rw [if_neg e, hout _ (by omega)]; simp only [setS, e, if_false]; exact hL.chg j hj
  · rw [hlen] at hj
    rw [hln]
    by_cases e : j = i
    · subst e; rw [if_pos rfl]; exact hmark
    · rw [if_neg e, hout _ (by omega)]; exact hL.mark j hj
  · rw [hlen] at hj
    rw [hln]
    by_cases e : j = i
    · subst e; rw [if_pos rfl]; simp only [setS, if_true]; exact hown
    · rw [if_neg e]; simp only [setS, e, if_false]
      obtain ⟨h1, h2⟩ := h.own j hj
      refine ⟨h1, ?_⟩
      rcases h2 with h2 | ⟨g, cap, cur, hv, hg, hh, r⟩
      · exact Or.inl h2
      · have hB : Blk w g cur 94 := hh
        exact Or.inr ⟨g, cap, cur, hv, hg, hB.mod hm (hnotF j hj e g (by rw [hv]; rfl)), r⟩
  · rw [hlen] at hj
    rw [hln]
    by_cases e : j = i
    · subst e; rw [if_pos rfl]; simp only [setS, if_true]
      have hplt := h.dev.lt
      have hlblt := hL.blk.lt
      refine ⟨fun h2 => ?_, fun h2 => ?_⟩
      · rcases hwhere p h2 with h3 | h3
        · exact (h.notp j hi).1 h3
        · omega
      · rcases hwhere lb h2 with h3 | h3
        · exact (h.notp j hi).2 h3
        · omega
    · rw [if_neg e]; simp only [setS, e, if_false]; exact h.notp j hj
  · rw [hlen] at hj hk
    rw [hln] at hg ⊢
    by_cases e : j = i
    · subst e
      have e2 : ¬ k = j := fun e2 => hjk e2.symm
      rw [if_pos rfl] at hg
      rw [if_neg e2]
      simp only [setS, if_true] at hg
      simp only [setS, e2, if_false]
      intro hk2
      rcases hwhere g hg with h3 | h3
      · exact h.apart j k hj hk hjk g h3 hk2
      · have := hlt k hk g hk2; omega
    · rw [if_neg e] at hg
      simp only [setS, e, if_false] at hg
      by_cases e2 : k = i
      · subst e2
        rw [if_pos rfl]
        simp only [setS, if_true]
        intro hk2
        rcases hwhere g hk2 with h3 | h3
        · exact h.apart j k hj hk hjk g hg h3
        · have := hlt j hj g hg; omega
      · rw [if_neg e2]
        simp only [setS, e2, if_false]
        exact h.apart j k hj hk hjk g hg
end

set_option linter.unusedSimpArgs false in
theorem size_calls {p lb : Nat} {D : NM.Dv} {S : Nat → Spot} (w : World) (h : DevAt w p lb D S) : Ret Try.prog 26 #[.pointer (some ⟨p, 0, none⟩)] w fun v w' => v = .int .i64 (D.size : Int) ∧ w' = w := by
  have hm := h.ok.most
  have hw := IntWalk.i64_in ((D.ls.length : Int) * 64) (by omega)
  refine ret_of (args := [_]) _ Try.func26 rfl Try.ntmps26 (by simp) ?_
  simp -implicitDefEqProofs [go_sem, h.dev.cell, hw]
  refine body_tmp 2 rfl ?_
  simp -implicitDefEqProofs [go_sem, NM.Dv.size]
  omega
end Go.Proofs.Ytkljlgahdlgmpaa
