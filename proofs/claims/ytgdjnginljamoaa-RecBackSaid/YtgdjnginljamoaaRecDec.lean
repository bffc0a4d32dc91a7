/- Reading words: rec.Decode. -/
import Derived.Test.YtgdjnginljamoaaRecRef
import Derived.Test.YtgdjnginljamoaaHeld
import Derived.Laws.Rows
import Derived.Laws.ResultCell
import Derived.Laws.IdiomStrings
namespace Go.Proofs.Ytgdjnginljamoaa
open Go Go.RowKit

section
variable {P : Program} {fn : Func} {R : Value → World → Prop} {e : Env} {w : World}
theorem body_cell_tmp (p u : Tmp) {ty t' : TypeId} {g : Nat} {cs : Array Value} {d : TypeDesc} {t : Tag (bodyR P fn R, Exit.ret)} (h : fn.results = #[.cell p ty, .tmp u]) (hp : e p = .pointer (some ⟨g, 0, none⟩)) (hB : Blk w g cs t')
    (hu : P.underlying ty = some d) (hd : (match d with | .struct _ | .array _ _ => true | _ => false) = true) (hi : (P.info? ty).map (·.size) = some cs.size) (hR : R (.tuple #[.agg cs, e u]) w) : goE (bodyR P fn R) .ret t e w := by
  intro tmps ht
  refine ⟨_, ?_, hR⟩
  rw [results_cell_tmp h tmps P w, ht, ht, hp]
  show ((loadVar ty ⟨g, 0, none⟩).run P w).andThen _ = _
  rw [run_loadVar_row w g t' ty cs (0, 0) d hB hu hd hi]
  rfl
end

theorem Blk.set4 {w : World} {b : Nat} {e : TypeId} {x0 x1 x2 x3 v0 v1 v2 v3 : Value} (h : Blk w b #[x0, x1, x2, x3] e) :
    Blk ((((w.setCell ⟨b, 0, none⟩ v0).setCell ⟨b, 1, none⟩ v1).setCell ⟨b, 2, none⟩ v2).setCell ⟨b, 3, none⟩ v3) b #[v0, v1, v2, v3] e :=
  (((h.set 0 v0).set 1 v1).set 2 v2).set 3 v3
theorem Below.own4 {B b : Nat} {w w' : World} {v0 v1 v2 v3 : Value} (h : Below B w w') (hb : B ≤ b) :
    Below B w ((((w'.setCell ⟨b, 0, none⟩ v0).setCell ⟨b, 1, none⟩ v1).setCell ⟨b, 2, none⟩ v2).setCell ⟨b, 3, none⟩ v3) :=
  (((h.setCell hb _).setCell hb _).setCell hb _).setCell hb _
/-- The text of words. -/
def byteM (l : List (BitVec 64)) (i : Nat) : BitVec 8 := ((l.getD (3 + i / 8) 0#64) >>> (i % 8 * 8)).setWidth 8
def textM (l : List (BitVec 64)) (n : Nat) : ByteArray := ⟨((List.range n).map fun i => UInt8.ofBitVec (byteM l i)).toArray⟩
def sizeM (l : List (BitVec 64)) : Nat := ((l.getD 0 0#64) >>> 16).toNat
def goneM (l : List (BitVec 64)) : Bool := (l.getD 0 0#64) &&& 256#64 != 0#64
def okM (l : List (BitVec 64)) : Bool := decide (l.length = 8) && decide (sizeM l ≤ 40) && decide (encM (l.getD 1 0#64) (l.getD 2 0#64) (goneM l) (textM l (sizeM l)) = l)
def decM (l : List (BitVec 64)) : Value := if okM l then recV (l.getD 1 0#64) (l.getD 2 0#64) (goneM l) (textM l (sizeM l)) else .agg #[.int .u64 0, .int .u64 0, .bool false, .string ⟨#[]⟩]

set_option maxHeartbeats 1000000 in
set_option linter.unusedSimpArgs false in
theorem decode_calls (a : Option Addr) (l : List (BitVec 64)) (n c : Nat) (w : World) (hn : l.length = n) (hin : SlIn .u64 w a l c) :
    Ret Try.prog 11 #[.slice a n c] w fun v w' => v = .tuple #[decM l, .bool (okM l)] ∧ Below w.heap.size w w' := by
  subst hn
  have bel : ∀ o, Below w.heap.size w (w.alloc o) := fun o => (Below.refl _ _).alloc (Nat.le_refl _) _
  obtain ⟨x0, hx0⟩ : ∃ x, x = l.getD 0 0#64 := ⟨_, rfl⟩
  obtain ⟨x1, hx1⟩ : ∃ x, x = l.getD 1 0#64 := ⟨_, rfl⟩
  obtain ⟨x2, hx2⟩ : ∃ x, x = l.getD 2 0#64 := ⟨_, rfl⟩
  have hst := Try.underlying29
  have hsi : (Try.prog.info? 29).map (·.size) = some 4 := by kernel_rfl
  refine ret_of (args := [_]) _ Try.func11 rfl Try.ntmps11 (by simp) ?_
  simp -implicitDefEqProofs [go_sem]
  have hBz := Blk.new w #[.int .u64 0, .int .u64 0, .bool false, .string ⟨#[]⟩] 29
  have belz := bel (.cells #[.int .u64 0, .int .u64 0, .bool false, .string ⟨#[]⟩] 29)
  have hzs : (w.alloc (.cells #[.int .u64 0, .int .u64 0, .bool false, .string ⟨#[]⟩] 29)).heap.size = w.heap.size + 1 := by simp
  generalize w.alloc (.cells #[.int .u64 0, .int .u64 0, .bool false, .string ⟨#[]⟩] 29) = wz at *
  generalize hbp : w.heap.size = bp at *
  have gz0 := hBz.cell 0
  have gz1 := hBz.cell 1
  have gz2 := hBz.cell 2
  have gz3 := hBz.cell 3
  have fz0 := hBz.thaw 0
  have fz1 := hBz.thaw 1
  have fz2 := hBz.thaw 2
  have fz3 := hBz.thaw 3
  simp at gz0 gz1 gz2 gz3
  by_cases h8 : l.length = 8
  · obtain rfl | ⟨b, off, rfl, hc⟩ := hin.at_
    · simp at h8
    have h8' : ((l.length : Int) != 8) = false := by rw [bne_eq_false_iff_eq]; omega
    have hcell : ∀ w', Below bp w w' → ∀ i, i < 8 → w'.cell? ⟨b, off + i, none⟩ = some (.int .u64 (uv (l.getD i 0#64))) := by
      intro w' bw i hi
      have := hc i (by omega)
      rw [← hbp] at bw
      rw [(bw.cell (p := ⟨_, _, none⟩) (World.block_lt_of_cell? w _ this)), this]
      simp [List.getD, show i < l.length by omega]
    have g0 := hcell _ belz 0 (by omega)
    rw [← hx0, Nat.add_zero] at g0
    by_cases hs : sizeM l ≤ 40
    · have hs' : ¬ 40#64 < x0 >>> 16 := by
        rw [BitVec.lt_def]; unfold sizeM at hs; rw [← hx0] at hs; simp; simp at hs; omega
      obtain ⟨m, hm⟩ : ∃ m, m = sizeM l := ⟨_, rfl⟩
      have hmu : uv (x0 >>> 16) = (m : Int) := by rw [hm, hx0]; rfl
      have hmk := run_make_n (P := Try.prog) (t := 43) (e := 5) (z := .int .u8 0) (bytes := 1) Try.underlying43 (by kernel_rfl) rfl .u64 .u64 m (by omega) (by omega) wz
      rw [← hmu] at hmk
      simp -implicitDefEqProofs [go_sem, h8', g0, hs', h8, hmk]
      rw [hmu]
      have hms := hm ▸ hs
      have bel1 : Below bp wz (wz.alloc (.cells (Array.replicate m (.int .u8 0)) 5)) := (Below.refl _ _).alloc (by omega) _
      refine wpE_loop (fun e' w' => ∃ (k : Nat) (C : Array Value), k ≤ m ∧ C.size = m ∧ (∀ i, i < k → C[i]? = some (.int .u8 (uv (byteM l i)))) ∧ e' 0 = .slice (some ⟨b, off, none⟩) 8 c ∧ e' 2 = .pointer (some ⟨bp, 0, none⟩) ∧ e' 4 = .slice (some ⟨wz.heap.size, 0, none⟩) m m ∧ e' 26 = .int .i64 m ∧ e' 27 = .int .i64 k ∧
        Blk w' wz.heap.size C 5 ∧ Below wz.heap.size wz w') (fun e' _ => m - (intOf (e' 27)).toNat) ?_ ?_
      · refine ⟨0, Array.replicate m (.int .u8 0), Nat.zero_le _, by simp, fun i hi => by omega, ?_⟩
        simp -implicitDefEqProofs [go_sem]
        exact ⟨Blk.new _ _ _, (Below.refl _ _).alloc (Nat.le_refl _) _⟩
      · rintro e' w' ⟨k, C, hk, hC, hCi, h0, h2, h4, h26, h27, hB, bel3⟩
        by_cases hlt : k < m
        · have hw := IntWalk.i64_in ((k : Int) + 1) (by omega)
          have gx := hcell w' (belz.trans (bel3.mono (by omega))) (3 + k / 8) (by omega)
          have hb := byteM.eq_1 l k
          have hwq : IntKind.i64.wrap ((k : Int) / 8) = ((k / 8 : Nat) : Int) := by rw [IntWalk.i64_in _ (by omega)]; rfl
          have hwr : (k : Int).tmod 8 = ((k % 8 : Nat) : Int) := by rw [Int.tmod_eq_emod_of_nonneg (by omega)]; rfl
          have hQ : k / 8 < 5 := by omega
          have hR : k % 8 < 8 := by omega
          generalize k / 8 = Q at *
          generalize k % 8 = R at *
          have hw3 := IntWalk.i64_in (3 + (Q : Int)) (by omega)
          have hwm := IntWalk.i64_in ((R : Int) * 8) (by omega)
          have hq0 : (0 : Int) ≤ 3 + Q := by omega
          have hq8 : (3 : Int) + Q < 8 := by omega
          have hqn : (3 + (Q : Int)).toNat = 3 + Q := by omega
          have hRn : ((R : Int) * 8).toNat = R * 8 := by omega
          generalize l.getD (3 + Q) 0#64 = xq at *
          obtain ⟨v0, hv0⟩ : ∃ v0, C[k]? = some v0 := ⟨C[k]'(by omega), Array.getElem?_eq_getElem _⟩
          have gy := (hB.cell k).trans hv0
          have gf := hB.thaw k
          simp -implicitDefEqProofs [go_sem, h0, h2, h4, h26, h27, hlt, hwq, hwr, hw3, hwm, hq0, hq8, hqn, hRn, gx, gy, gf, hw]
          refine goE_round ⟨k + 1, C.setIfInBounds k (.int .u8 (uv (byteM l k))), by omega, by simp [hC], ?_, ?_⟩ ?_
          · intro i hi
            rw [Array.getElem?_setIfInBounds]
            by_cases hik : k = i
            · subst hik; simp [hC, hlt]
            · rw [if_neg hik]; exact hCi i (by omega)
          · simp -implicitDefEqProofs [go_sem, h0, h2, h4, h26]
            rw [hb]
            exact ⟨hB.set _ _, bel3.setCell (Nat.le_refl _) _⟩
          · simp -implicitDefEqProofs [go_sem, intOf, h27]; omega
        · have hk' : k = m := by omega
          subst hk'
          simp -implicitDefEqProofs [go_sem, h0, h2, h4, h26, h27]
          have bel4 := belz.trans (bel3.mono (by omega))
          obtain ⟨S, hS⟩ : ∃ S : World → Prop, S = fun w2 => Below w'.heap.size w' w2 := ⟨_, rfl⟩
          have hr0 : ∀ w'', S w'' → w''.cell? ⟨b, off, none⟩ = some (.int .u64 (uv x0)) := fun w'' hb => by
            rw [hS] at hb
            have := hcell _ (bel4.trans (hb.mono (hbp ▸ bel4.size))) 0 (by omega); rw [← hx0, Nat.add_zero] at this; exact this
          have hr1 : ∀ w'', S w'' → w''.cell? ⟨b, off + 1, none⟩ = some (.int .u64 (uv x1)) := fun w'' hb => by
            rw [hS] at hb
            have := hcell _ (bel4.trans (hb.mono (hbp ▸ bel4.size))) 1 (by omega); rw [← hx1] at this; exact this
          have hr2 : ∀ w'', S w'' → w''.cell? ⟨b, off + 2, none⟩ = some (.int .u64 (uv x2)) := fun w'' hb => by
            rw [hS] at hb
            have := hcell _ (bel4.trans (hb.mono (hbp ▸ bel4.size))) 2 (by omega); rw [← hx2] at this; exact this
          have hcv : ∀ w'', S w'' → (convert 43 9 (.slice (some ⟨wz.heap.size, 0, none⟩) k k)).run Try.prog w'' = .ok (.string (textM l k)) w'' := by
            intro w'' hb
            rw [hS] at hb
            have := run_convert_bytes_back (P := Try.prog) w'' 43 9 5 ⟨wz.heap.size, 0, none⟩ k ((List.range k).map fun i => UInt8.ofBitVec (byteM l i)) Try.underlying43 Try.underlying5 Try.underlying9 (by
              intro j hj
              have hj' : j < k := by simpa using hj
              rw [Addr.add_lit, Nat.zero_add, (hB.below hb hB.lt).cell, hCi j hj']
              simp
              rfl)
            unfold textM
            simpa using this
          refine drawE_held 14 (S) mixed (by decide +kernel) (by simp only [List.take_succ_cons, List.take_zero]; rfl) (by simp only [List.drop_succ_cons, List.drop_zero]; rfl) (by first | exact (Below.refl _ _).drew | (subst_vars; exact (Below.refl _ _).drew)) (fun hsome => ?_)
          simp -implicitDefEqProofs [go_sem, h0, h2, h4, h26, h27, h8, hsome]
          refine onHeld_of (.int .u64 (uv x1)) (fun w2 hw2 => by simp -implicitDefEqProofs [go_sem, hr1 w2 hw2]) ?_
          simp -implicitDefEqProofs [go_sem, h0, h2, h4, h26, h27, h8, hsome]
          refine onHeld_of (.int .u64 (uv x2)) (fun w2 hw2 => by simp -implicitDefEqProofs [go_sem, hr2 w2 hw2]) ?_
          simp -implicitDefEqProofs [go_sem, h0, h2, h4, h26, h27, h8, hsome]
          refine onHeld_of (.int .u64 (uv x0)) (fun w2 hw2 => by simp -implicitDefEqProofs [go_sem, hr0 w2 hw2]) ?_
          simp -implicitDefEqProofs [go_sem, h0, h2, h4, h26, h27, h8, hsome]
          refine onHeld_of (.string (textM l k)) (fun w2 hw2 => by simp -implicitDefEqProofs [go_sem, hcv w2 hw2]) ?_
          simp -implicitDefEqProofs [go_sem, h0, h2, h4, h26, h27, h8, hsome]
          unfold endE
          simp -implicitDefEqProofs [go_sem]
          have hg : (x0 &&& 256#64 != 0#64) = goneM l := by rw [hx0]; rfl
          rw [hg]
          refine ⟨by rw [hS]; exact ((Below.refl _ _).alloc (Nat.le_refl _) _).drew, by rw [hS]; exact ((Below.refl _ _).alloc (Nat.le_refl _) _).drew, ?_⟩
          have hE := encode_calls x1 x2 (goneM l) (textM l k)
          unfold recV at hE
          have hB6 := (Blk.new w' #[.int .u64 (uv x1), .int .u64 (uv x2), .bool (goneM l), .string (textM l k)] 29).drew
          have bel6 : Below bp w (w'.alloc (.cells #[.int .u64 (uv x1), .int .u64 (uv x2), .bool (goneM l), .string (textM l k)] 29)).drew := (bel4.alloc (hbp ▸ bel4.size) _).drew
          have hBz6 := (hBz.below (bel3.alloc bel3.size (.cells #[.int .u64 (uv x1), .int .u64 (uv x2), .bool (goneM l), .string (textM l k)] 29)).drew (by omega))
          generalize (w'.alloc (.cells #[.int .u64 (uv x1), .int .u64 (uv x2), .bool (goneM l), .string (textM l k)] 29)).drew = w6 at *
          refine callE_of (hE _) ?_
          rintro v w7 ⟨a7, c7, rfl, hin7, bel7⟩
          have bel7' := bel6.trans (bel7.mono (hbp ▸ bel6.size))
          have hBz7 := hBz6.below bel7 hBz6.lt
          have hB7 := hB6.below bel7 hB6.lt
          have okM_eq : okM l = decide (encM x1 x2 (goneM l) (textM l k) = l) := by
            rw [okM, decide_eq_true h8, decide_eq_true hs, ← hm, ← hx1, ← hx2]; rfl
          cases hright : rightB x1 (goneM l) (textM l k)
          · have hok : okM l = false := by
              rw [okM_eq, encM, hright]
              simp
              intro h; rw [h] at h8; simp at h8
            have fz0 := hBz7.thaw 0
            have fz1 := hBz7.thaw 1
            have fz2 := hBz7.thaw 2
            have fz3 := hBz7.thaw 3
            have gz0 := hBz7.cell 0
            have gz1 := hBz7.cell 1
            have gz2 := hBz7.cell 2
            have gz3 := hBz7.cell 3
            simp at gz0 gz1 gz2 gz3
            simp -implicitDefEqProofs [go_sem, h0, h2, h8, undef, gz0, gz1, gz2, gz3, fz0, fz1, fz2, fz3]
            refine body_cell_tmp 2 3 (ty := 29) rfl (by simp -implicitDefEqProofs [go_sem, h2]) (t' := 29) (g := bp) (cs := #[.int .u64 0, .int .u64 0, .bool false, .string ⟨#[]⟩]) ?_ hst rfl hsi ?_
            · exact hBz7.set4
            · simp -implicitDefEqProofs [go_sem, decM, hok]
              exact Below.own4 bel7' (Nat.le_refl _)
          · simp -implicitDefEqProofs [go_sem, h0, h2, h8]
            have hl7 : SlAt .u64 w7 (some ⟨b, off, none⟩) l := hin.at_.below (hbp ▸ bel7')
            refine callE_of (equal_calls a7 (some ⟨b, off, none⟩) (encM x1 x2 (goneM l) (textM l k)) l _ 8 c7 c w7 rfl h8 (by have := hin7.le; have := hin7.max; omega) hin7.at_ hl7) ?_
            rintro v w8 ⟨rfl, bel8⟩
            have bel8' := bel7'.trans (bel8.mono (hbp ▸ bel7'.size))
            have hBz8 := hBz7.below bel8 hBz7.lt
            have hB8 := hB7.below bel8 hB7.lt
            have fz0 := hBz8.thaw 0
            have fz1 := hBz8.thaw 1
            have fz2 := hBz8.thaw 2
            have fz3 := hBz8.thaw 3
            have gz0 := hBz8.cell 0
            have gz1 := hBz8.cell 1
            have gz2 := hBz8.cell 2
            have gz3 := hBz8.cell 3
            have gr0 := hB8.cell 0
            have gr1 := hB8.cell 1
            have gr2 := hB8.cell 2
            have gr3 := hB8.cell 3
            simp at gz0 gz1 gz2 gz3 gr0 gr1 gr2 gr3
            by_cases heq : encM x1 x2 (goneM l) (textM l k) = l
            · have hok : okM l = true := by rw [okM_eq]; exact decide_eq_true heq
              rw [decide_eq_true heq]
              simp -implicitDefEqProofs [go_sem, h0, h2, h8, gz0, gz1, gz2, gz3, fz0, fz1, fz2, fz3, gr0, gr1, gr2, gr3]
              refine body_cell_tmp 2 3 (ty := 29) rfl (by simp -implicitDefEqProofs [go_sem, h2]) (t' := 29) (g := bp) (cs := #[.int .u64 (uv x1), .int .u64 (uv x2), .bool (goneM l), .string (textM l k)]) ?_ hst rfl hsi ?_
              · exact hBz8.set4
              · have hdec : decM l = .agg #[.int .u64 (uv x1), .int .u64 (uv x2), .bool (goneM l), .string (textM l k)] := by
                  rw [decM, if_pos hok, ← hm, ← hx1, ← hx2]; rfl
                simp -implicitDefEqProofs [go_sem, hdec, hok]
                exact Below.own4 bel8' (Nat.le_refl _)
            · have hok : okM l = false := by rw [okM_eq]; exact decide_eq_false heq
              rw [decide_eq_false heq]
              simp -implicitDefEqProofs [go_sem, h0, h2, h8, gz0, gz1, gz2, gz3, fz0, fz1, fz2, fz3]
              refine body_cell_tmp 2 3 (ty := 29) rfl (by simp -implicitDefEqProofs [go_sem, h2]) (t' := 29) (g := bp) (cs := #[.int .u64 0, .int .u64 0, .bool false, .string ⟨#[]⟩]) ?_ hst rfl hsi ?_
              · exact hBz8.set4
              · simp -implicitDefEqProofs [go_sem, decM, hok]
                exact Below.own4 bel8' (Nat.le_refl _)
    · have hs' : 40#64 < x0 >>> 16 := by
        rw [BitVec.lt_def]; unfold sizeM at hs; rw [← hx0] at hs; simp; simp at hs; omega
      have hok : okM l = false := by simp [okM, hs]
      simp -implicitDefEqProofs [go_sem, h8', g0, hs', h8, gz0, gz1, gz2, gz3, fz0, fz1, fz2, fz3]
      refine body_cell_tmp 2 3 (ty := 29) rfl rfl (t' := 29) (g := bp) (cs := #[.int .u64 0, .int .u64 0, .bool false, .string ⟨#[]⟩]) ?_ hst rfl hsi ?_
      · exact hBz.set4
      · simp -implicitDefEqProofs [go_sem, decM, hok]
        exact Below.own4 belz (Nat.le_refl _)
  · have h8' : ((l.length : Int) != 8) = true := by rw [bne_iff_ne]; omega
    have hok : okM l = false := by simp [okM, h8]
    simp -implicitDefEqProofs [go_sem, h8', undef, gz0, gz1, gz2, gz3, fz0, fz1, fz2, fz3]
    refine body_cell_tmp 2 3 (ty := 29) rfl rfl (t' := 29) (g := bp) (cs := #[.int .u64 0, .int .u64 0, .bool false, .string ⟨#[]⟩]) ?_ hst rfl hsi ?_
    · exact hBz.set4
    · simp -implicitDefEqProofs [go_sem, decM, hok]
      exact Below.own4 belz (Nat.le_refl _)
end Go.Proofs.Ytgdjnginljamoaa
