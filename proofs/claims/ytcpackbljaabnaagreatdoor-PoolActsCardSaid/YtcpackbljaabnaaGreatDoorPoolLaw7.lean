/- PoolActs: its walk. -/
import Derived.Test.YtcpackbljaabnaaGreatDoorRPoolW
namespace Go.Proofs.YtcpackbljaabnaaGreatDoor
set_option linter.unusedVariables false
set_option linter.unusedSimpArgs false
set_option maxRecDepth 100000
open Go Go.RowKit

theorem mod8_cases (x : BitVec 8) : x % 8#8 = 0#8 ∨ x % 8#8 = 1#8 ∨ x % 8#8 = 2#8 ∨ x % 8#8 = 3#8 ∨ x % 8#8 = 4#8 ∨ x % 8#8 = 5#8 ∨ x % 8#8 = 6#8 ∨ x % 8#8 = 7#8 := by
  have h : (x % 8#8).toNat = x.toNat % 8 := by simp
  have e : ∀ n : Nat, n < 8 → (x % 8#8).toNat = n → x % 8#8 = BitVec.ofNat 8 n := fun n hn hx => BitVec.eq_of_toNat_eq (by rw [hx]; simp; omega)
  have h4 : x.toNat % 8 = 0 ∨ x.toNat % 8 = 1 ∨ x.toNat % 8 = 2 ∨ x.toNat % 8 = 3 ∨ x.toNat % 8 = 4 ∨ x.toNat % 8 = 5 ∨ x.toNat % 8 = 6 ∨ x.toNat % 8 = 7 := by omega
  rcases h4 with k | k | k | k | k | k | k | k
  · exact .inl (e 0 (by omega) (by omega))
  · exact .inr (.inl (e 1 (by omega) (by omega)))
  · exact .inr (.inr (.inl (e 2 (by omega) (by omega))))
  · exact .inr (.inr (.inr (.inl (e 3 (by omega) (by omega)))))
  · exact .inr (.inr (.inr (.inr (.inl (e 4 (by omega) (by omega))))))
  · exact .inr (.inr (.inr (.inr (.inr (.inl (e 5 (by omega) (by omega)))))))
  · exact .inr (.inr (.inr (.inr (.inr (.inr (.inl (e 6 (by omega) (by omega))))))))
  · exact .inr (.inr (.inr (.inr (.inr (.inr (.inr (e 7 (by omega) (by omega))))))))
theorem load_tab {m k i : Nat} {V : PV} (h : Good m k V) (hm : 1 ≤ m ∧ m ≤ 4) (hi : i < m) : V.D.load (128 + 8 * (i : Int)) = (V.T.getD i 0#64, 0) := by
  have hw := h.well
  have h1 := load_in (D := V.D) (by rw [hw.lines]; omega) (o := 128 + 8 * i) (by omega) (by unfold NM.Dv.size; rw [hw.lines]; omega)
  rw [hw.up.down, if_neg (by decide), hw.tab i hi] at h1
  rw [← h1]
  congr 1
theorem good_crash0 {m k : Nat} {V : PV} (h : Good m k V) (hm : 1 ≤ m ∧ m ≤ 4) (ps : List (BitVec 8)) (hok : (V.D.crash ps).Ok) : Good m k ⟨V.T, zL m, V.D.crash ps⟩ := by
  have hw := h.well
  have hl := hw.lines
  have hs : V.D.size = 64 * (3 + 16 * m) := by unfold NM.Dv.size; rw [hl]
  exact good_of hm hw.up h.open_ hl rfl hok hw.len (fun j hj => (hw.pair j hj).rt) h.steps (fun y _ hy => NM.calm_word h.calm ps (by omega)) (fun j hj => by rw [NM.calm_word h.calm ps (by omega)]; exact hw.tab j hj)
theorem awX_new {w : World} {G : Nat → Prop} {gr : Nat} {x : Value} {l : List (BitVec 64)} {w6 : World} (hf : FreshOr w6 (.bool true) x) (hG : ∀ k, G k → k < w6.heap.size) (hx : SlV w x l) (hl : 0 < l.length) (hgr : gr = w.heap.size) : AwX G gr (.slice none 0 0) x := by
  intro b z k d e
  rcases hf with h | ⟨g, o, n', c', h, hg⟩
  · rw [h] at e; cases e
  · have hlt := hx.lt hl e
    rw [h] at e
    simp only [Value.slice.injEq, Option.some.injEq, Addr.mk.injEq] at e
    obtain ⟨⟨rfl, -, -⟩, -, -⟩ := e
    exact ⟨fun hk => by have := hG _ hk; omega, by simp [Value.ownBlock], by omega⟩
set_option maxHeartbeats 16000000 in
theorem poolActs_walk (x0 : BitVec 8) (a1 : Option Addr) (l1 : List PAct) (cap1 : Nat) (w0 : World) (hF : Fours w0) (hT : Tabs w0) (in1 : PActsIn w0 a1 l1 cap1) :
    Ret Tryz.prog 3 #[.int .u8 (uv x0), .slice a1 l1.length cap1] w0 fun v w' => v = .bool true ∧ Below w0.heap.size w0 w' := by
  have bel0 := Below.refl w0.heap.size w0
  obtain ⟨m, hm⟩ : ∃ m, m = 1 + x0.toNat % 4 := ⟨_, rfl⟩
  have hm4 : 1 ≤ m ∧ m ≤ 4 := by omega
  obtain ⟨L, hL⟩ : ∃ L : Int, L = ((3 + 16 * m : Nat) : Int) := ⟨_, rfl⟩
  have hdat := dat_ok m
  have hL64 : I64 L := by unfold I64; omega
  have hof : HM.of L = (shN m, true) := by rw [hL]; exact of_shN hm4
  have hstP : Tryz.prog.underlying 35 = _ := Tryz.underlying35
  have hstS : Tryz.prog.underlying 30 = _ := Tryz.underlying30
  refine ret_of (args := [_, _]) _ Tryz.func3 rfl Tryz.ntmps3 (by simp) ?_
  simp -implicitDefEqProofs [go_sem]
  refine callE_of (poolAlive_calls w0 hF hT) ?_
  rintro v w1 ⟨rfl, b1⟩
  have bel1 := bel0.trans (b1.mono bel0.size)
  by_cases h100 : (120 : Int) < l1.length
  · simp -implicitDefEqProofs [go_sem, h100]
    refine body_tmp 4 rfl ?_
    simp -implicitDefEqProofs [go_sem]
    exact bel1
  simp -implicitDefEqProofs [go_sem, h100]
  refine callE_of (linesL hm hL w1) ?_
  rintro v w2 ⟨rfl, rfl⟩
  simp -implicitDefEqProofs [go_sem]
  refine callE_of (beginL hm4 hL w2 (hF.next bel1)) ?_
  rintro v w3 ⟨p, b, tb, tc, hb, hc, F, rfl, hPD, b3, hge⟩
  have bel3 := bel1.trans (b3.mono bel1.size)
  have hge3 : ∀ k, PdK b tb hb F k → w0.heap.size ≤ k := fun k hk => Nat.le_trans bel1.size (hge k hk)
  have hg0 := good_zero hm4
  have hlt3 := hPD.lt
  simp -implicitDefEqProofs [go_sem]
  refine callE_of (linesL hm hL w3) ?_
  rintro v w4 ⟨rfl, rfl⟩
  simp -implicitDefEqProofs [go_sem]
  refine callE_of (refOf_calls L w4 hL64) ?_
  rintro v w5 ⟨rfl, b5⟩
  rw [hof]
  have bel5 := bel3.trans (b5.mono bel3.size)
  replace hPD := hPD.next b5
  have hld5 := ldAll (P := Tryz.prog) (Blk.new w5 (shapeC (shN m)) 30) hstS rfl rshapeI4 rfl
  simp -implicitDefEqProofs [go_sem, ↓stRShape (shN m), ↓hld5]
  generalize hw6 : World.alloc w5 _ = w6 at *
  obtain ⟨hB6, b6, sz6⟩ := new_facts hw6
  have bel6 := bel5.trans (b6.mono bel5.size)
  replace hPD := hPD.next b6
  refine callE_of (rNew_calls (shN m) m w6 rfl (by omega)) ?_
  rintro v w7 ⟨x, y, rfl, hx, hy, b7, fx, fy⟩
  have bel7 := bel6.trans (b7.mono bel6.size)
  replace hPD := hPD.next b7
  have hSh := hB6.next b7
  have hrp : ∀ (w : World) (e : Env) (dst : Option Tmp) (x' y' : Operand) (ty' : TypeId) (pos : String) (af : Array Edge) (gd : Option (Nat × Bool)), ev e x' = .pointer (some ⟨w.heap.size, 0, none⟩) → ev e y' = .agg (rpC (shN m) x y) →
    xOp Tryz.prog e ⟨dst, .store 35 x' y', ty', pos, af, gd⟩ (w.alloc (.cells #[.int .i64 0, .int .i64 0, .int .i64 0, .int .i64 0, .slice none 0 0, .slice none 0 0] 35)) = .ok .skip (w.alloc (.cells (rpC (shN m) x y) 35)) :=
    stNew (P := Tryz.prog) rpI rfl (rpC_one (shN m) hx hy)
  simp -implicitDefEqProofs [go_sem, ↓hrp]
  have hx7 := hx
  have hy7 := hy
  generalize hw8 : World.alloc w7 _ = w8 at *
  obtain ⟨hB8, b8, sz8⟩ := new_facts hw8
  have bel8 := bel7.trans (b8.mono bel7.size)
  replace hPD := hPD.next b8
  replace hSh := hSh.next b8
  replace hx := hx.next b8
  replace hy := hy.next b8
  have hz0 : bL ⟨zL m, zL m, begD m⟩ = zL m := by
    symm
    refine bL_ext rfl fun i hi => ?_
    show (zL m).getD i 0#64 = (zL m).getD i 0#64 ||| (zL m).getD i 0#64
    rw [zL_get, BitVec.or_zero]
  obtain ⟨gr, hgr⟩ : ∃ g, g = w7.heap.size := ⟨_, rfl⟩
  obtain ⟨gs, hgs⟩ : ∃ g, g = w5.heap.size := ⟨_, rfl⟩
  obtain ⟨B, hB⟩ : ∃ g, g = w8.heap.size := ⟨_, rfl⟩
  have hzl : 0 < (zL m).length := by rw [zL_len]; omega
  have z5 := b5.size
  have z6 := b6.size
  have z7 := b7.size
  have hboth : Both w0 w8 m b p tb tc hb hc ⟨zL m, zL m, begD m⟩ F gr gs B none 0 0 [] x y (zL m) (zL m) :=
    ⟨hPD, by rw [hgr]; exact hB8, hx, hy, by rw [hgs]; exact hSh, told_nil _ _ _, bel8, by omega, hge3, fun h => by have := hlt3 _ h; omega, fun h => by have := hlt3 _ h; omega,
     awX_new fx (fun k hk => by have := hlt3 _ hk; omega) hx7 hzl hgr, awX_new fy (fun k hk => by have := hlt3 _ hk; omega) hy7 hzl hgr, hzl, hzl, ⟨by omega, by have := bel7.size; omega⟩, ⟨by omega, by omega⟩⟩
  rw [← hgr, ← hgs]
  clear hPD hSh hx hy hx7 hy7 hB8 hge hge3 hlt3 hrp
  refine wpE_loop (fun e' w' => ∃ (k : Nat) (V : PV) (F : Nat → Prop) (a : Option Addr) (n c : Nat) (xs : List Nat) (x y : Value), k ≤ l1.length ∧ n ≤ k ∧ e' 5 = .pointer (some ⟨p, 0, none⟩) ∧ e' 6 = .pointer (some ⟨b, 0, none⟩) ∧ e' 7 = .pointer (some ⟨gs, 0, none⟩) ∧ e' 9 = .pointer (some ⟨gr, 0, none⟩) ∧ e' 10 = .slice a n c ∧
    e' 57 = .slice a1 l1.length cap1 ∧ e' 58 = .int .i64 (l1.length : Int) ∧ e' 59 = .int .i64 (k : Int) ∧ Good m (2 * k) V ∧ Both w0 w' m b p tb tc hb hc V F gr gs B a n c xs x y V.T (bL V)) (fun e' _ => l1.length - (intOf (e' 59)).toNat) ?_ ?_
  · refine ⟨0, ⟨zL m, zL m, begD m⟩, F, none, 0, 0, [], x, y, by omega, by omega, ?_⟩
    simp -implicitDefEqProofs [go_sem]
    exact ⟨hg0, by rw [hz0]; exact hboth⟩
  · clear hboth hg0
    rintro e' w9 ⟨k, V, F, a, n, c, xs, x, y, hk, hnk, g5, g6, g7, g9, g10, g57, g58, g59, hg, hbo⟩
    have bel9 := hbo.bel
    have hn : V.T.length ≤ 64 := by rw [hg.well.len]; omega
    have hVT : 0 < V.T.length := by rw [hg.well.len]; omega
    have hstp := hg.steps
    by_cases hlt : k < l1.length
    · have hlt' : (k : Int) < l1.length := by omega
      have k1 := IntWalk.i64_in ((k : Int) + 1) (by omega)
      obtain ⟨bA, oA, rfl, hcell, hoff⟩ := (in1.next hbo.bel).get hlt
      obtain ⟨A, hA⟩ : ∃ A, A = l1[k] := ⟨_, rfl⟩
      rw [← hA] at hcell hoff
      have hld := ldCells (P := Tryz.prog) (w := w9) (g := bA) (o := oA + k * 2) (cs := A.cs) Tryz.underlying39 rfl pactI rfl hcell
      have hst := pactNew A
      simp -implicitDefEqProofs [go_sem, g5, g6, g7, g9, g10, g57, g58, g59, hlt, hlt', ↓hld, ↓hst]
      generalize hw10 : World.alloc w9 _ = w10 at *
      obtain ⟨hB10, b10, sz10⟩ := new_facts hw10
      have bel10 := bel9.trans (b10.mono bel9.size)
      replace hbo := hbo.next b10
      rcases mod8_cases A.kind with hr | hr | hr | hr | hr | hr | hr | hr
      · by_cases hn0 : n = 0
        · subst hn0
          have hd12 : (1 : Nat) = 1 ∨ (1 : Nat) = 2 := .inl rfl
          have hdw : IntKind.i64.wrap (1 + IntKind.i64.wrap ((IntKind.i64.wrap (uv 0#8)).tdiv 2)) = ((1 : Nat) : Int) := by decide +kernel
          simp -implicitDefEqProofs [go_sem, g5, g6, g7, g9, g10, g57, g58, g59, hB10.cell, A.c0, A.c1, hr, hdw]
          have hres := poolReserve_calls V 1 hd12 w10 hbo.pd (hT.next hbo.bel) hn hdat
          refine callE_of hres ?_
          obtain ⟨R0, hR0⟩ : ∃ R, R = reserveV (shN m) V 1 := ⟨_, rfl⟩
          have hg2 := hg.reserve (shN m) hd12
          have h00 := (well_reserve (s := shN m) hg.well hd12).2
          obtain ⟨u, hu1, hu2⟩ := res_small hg.well hm4 hd12
          rw [← hR0] at hg2 h00 hu1 ⊢
          rintro v w11 ⟨rfl, hPD11, t11⟩
          have hbo11 := hbo.turn (V' := R0.1) hPD11 t11
          have hldR := ldAll (P := Tryz.prog) hbo11.ref hstP rfl rpI rfl
          simp -implicitDefEqProofs [go_sem, g5, g6, g7, g9, g10, g57, g58, g59, ↓hldR]
          refine callE_of (rReserve_calls hg.well hm4 hd12 x y w11 hbo11.sx hbo11.sy) ?_
          rintro v w12 ⟨x2, y2, rfl, hx2, hy2, b12, fx, fy⟩
          rw [← hR0] at hx2 hy2 ⊢
          obtain ⟨V1, xx, ee⟩ := R0
          dsimp only at hg2 h00 hu1 hPD11 hbo11 hx2 hy2 ⊢
          subst hu1
          have hlT : 0 < V1.T.length := by rw [hg2.well.len]; omega
          have hlB : 0 < (bL V1).length := by rw [bL_len]; exact hlT
          have b12a : Below w11.heap.size w11 (w12.alloc (.cells (rpC (shN m) x2 y2) 35)) := b12.alloc b12.size _
          have bN : Below w12.heap.size w12 (w12.alloc (.cells (rpC (shN m) x2 y2) 35)) := (Below.refl _ _).alloc (Nat.le_refl _) _
          have hboR := hbo11.ref_step b12a (hx2.next bN) (hy2.next bN) fx fy hlT hlB
          have hrp2 : ∀ (w : World) (e : Env) (dst : Option Tmp) (x' y' : Operand) (ty' : TypeId) (pos : String) (af : Array Edge) (gd : Option (Nat × Bool)), ev e x' = .pointer (some ⟨w.heap.size, 0, none⟩) → ev e y' = .agg (rpC (shN m) x2 y2) →
            xOp Tryz.prog e ⟨dst, .store 35 x' y', ty', pos, af, gd⟩ (w.alloc (.cells #[.int .i64 0, .int .i64 0, .int .i64 0, .int .i64 0, .slice none 0 0, .slice none 0 0] 35)) = .ok .skip (w.alloc (.cells (rpC (shN m) x2 y2) 35)) :=
            stNew (P := Tryz.prog) rpI rfl (rpC_one (shN m) hx2 hy2)
          have hld19 := ldAll (P := Tryz.prog) (Blk.new w12 (rpC (shN m) x2 y2) 35) hstP rfl rpI rfl
          have hsR := stAll (P := Tryz.prog) (cs := rpC (shN m) x2 y2) (hbo11.ref.next b12a) rpI rfl (rpC_one (shN m) hx2 hy2)
          rcases h00 with rfl | ⟨rfl, -⟩
          · simp -implicitDefEqProofs [go_sem, g5, g6, g7, g9, g10, g57, g58, g59, ↓hrp2, ↓hld19, ↓hsR]
            generalize hwR : World.setRow _ _ _ = wR at *
            have hszR : wR.heap.size = w12.heap.size + 1 := by rw [← hwR]; simp
            obtain ⟨gn, cn, w13, hr13, hbo12⟩ := hboR.push (by omega) u hu2
            rw [hszR] at hr13
            simp -implicitDefEqProofs [go_sem, g5, g6, g7, g9, g10, g57, g58, g59, hr13]
            have hn2 : V1.T.length ≤ 64 := by rw [hg2.well.len]; omega
            have hnB : (bL V1).length ≤ 64 := by rw [bL_len]; exact hn2
            have hmany := many_eq hg2.well m (Nat.le_refl _)
            have mz1 := manyL_le V1.H m
            have mz2 := manyL_le V1.T m
            obtain ⟨MH, hMH⟩ : ∃ M, M = manyL V1.H m := ⟨_, rfl⟩
            obtain ⟨MT, hMT⟩ : ∃ M, M = manyL V1.T m := ⟨_, rfl⟩
            obtain ⟨MB, hMB⟩ : ∃ M, M = manyL (bL V1) m := ⟨_, rfl⟩
            rw [← hMH, ← hMT, ← hMB] at hmany
            rw [← hMH] at mz1
            rw [← hMT] at mz2
            have hsub : (MB : Int) - (MT : Int) = (MH : Int) := by omega
            have kMH := IntWalk.i64_in (MH : Int) (by omega)
            obtain ⟨LA, hLA⟩ : ∃ LA, LA = allK (shN m) V1.T V1.T.length := ⟨_, rfl⟩
            refine drawE_mix [.pure 0, .pure 1, .pure 2, .pure 3, .pure 4, .pure 6, .pure 9, .take 7, .take 10, .run 5 [7, 10], .run 8 [10], .run 11 [], .pure 12, .pure 13, .pure 14, .pure 15, .pure 16, .take 18, .run 17 [18], .run 19 [], .run 20 [], .pure 21, .pure 22] mixed (by decide +kernel) (by simp only [withOps, MStep.num, List.filterMap_cons, List.filterMap_nil, List.getElem?_cons_succ, List.getElem?_cons_zero, Option.map_some]; rfl) ?_
            have hbo14 := hbo12.next (Below.refl _ _).drew
            generalize World.drew w13 = w14 at *
            simp -implicitDefEqProofs [go_sem, g5, g6, g7, g9, g10, g57, g58, g59]
            refine onTake_of (fun w' => Below w14.heap.size w14 w') y2 (Below.refl _ _) (fun w' hw => by simp -implicitDefEqProofs [go_sem, g9, (hbo14.ref.next hw).cell, rpC_5]) ?_
            simp -implicitDefEqProofs [go_sem, g5, g6, g7, g9, g10, g57, g58, g59]
            refine onTake_of (fun w' => Below w14.heap.size w14 w') x2 (Below.refl _ _) (fun w' hw => by simp -implicitDefEqProofs [go_sem, g9, (hbo14.ref.next hw).cell, rpC_4]) ?_
            have hheld := poolHeld_calls w14 hbo14.pd.pool hn2
            rw [hg2.well.lenH, ← hMH] at hheld
            simp -implicitDefEqProofs [go_sem, g5, g6, g7, g9, g10, g57, g58, g59]
            refine callE_of hheld ?_
            rintro v w15 ⟨rfl, b15⟩
            refine ⟨.inr (by simp -implicitDefEqProofs [go_sem] <;> exact b15), ?_⟩
            have hbo15 := hbo14.next b15
            have hcB := rCount_calls y2 (bL V1) w15 hbo15.sy hnB
            rw [bL_len, hg2.well.len, ← hMB] at hcB
            simp -implicitDefEqProofs [go_sem, g5, g6, g7, g9, g10, g57, g58, g59]
            refine callE_of hcB ?_
            rintro v w16 ⟨rfl, b16⟩
            have c16 := b15.trans (b16.mono b15.size)
            refine ⟨.inr (by simp -implicitDefEqProofs [go_sem] <;> exact c16), ?_⟩
            have hbo16 := hbo15.next b16
            have hcT := rCount_calls x2 V1.T w16 hbo16.sx hn2
            rw [hg2.well.len, ← hMT] at hcT
            simp -implicitDefEqProofs [go_sem, g5, g6, g7, g9, g10, g57, g58, g59]
            refine callE_of hcT ?_
            rintro v w17 ⟨rfl, b17⟩
            have c17 := c16.trans (b17.mono c16.size)
            refine ⟨.inr (by simp -implicitDefEqProofs [go_sem] <;> exact c17), ?_⟩
            have hbo17 := hbo16.next b17
            simp -implicitDefEqProofs [go_sem, g5, g6, g7, g9, g10, g57, g58, g59, hsub, kMH]
            refine onTake_of (fun w' => Below w17.heap.size w17 w') (.agg (rpC (shN m) x2 y2)) (Below.refl _ _) (fun w' hw => by simp -implicitDefEqProofs [go_sem, g9, (hbo17.ref.next hw).cell, rpC_0, rpC_1, rpC_2, rpC_3, rpC_4, rpC_5]; rfl) ?_
            have hall := poolAll_calls w17 hbo17.pd.pool hn2 hdat
            rw [← hLA] at hall
            simp -implicitDefEqProofs [go_sem, g5, g6, g7, g9, g10, g57, g58, g59]
            refine callE_of hall ?_
            rintro v w18 ⟨a18, c18, rfl, hv18, b18⟩
            refine ⟨.inr (by simp -implicitDefEqProofs [go_sem] <;> exact b18), ?_⟩
            have hbo18 := hbo17.next b18
            have hallR := rAll_calls (shN m) x2 y2 V1.T (bL V1) w18 hbo18.sx hbo18.sy hn2 hdat
            rw [← hLA] at hallR
            simp -implicitDefEqProofs [go_sem, g5, g6, g7, g9, g10, g57, g58, g59]
            refine callE_of hallR ?_
            rintro v w19 ⟨a19, c19, rfl, hv19, b19⟩
            have hbo19 := hbo18.next b19
            have c19' := b18.trans (b19.mono b18.size)
            refine ⟨.inr (by simp -implicitDefEqProofs [go_sem] <;> exact c19'), ?_⟩
            simp -implicitDefEqProofs [go_sem, g5, g6, g7, g9, g10, g57, g58, g59]
            refine callE_of (sameI_calls a18 a19 LA LA c18 c19 w19 (hv18.next b19) hv19) ?_
            rintro v w20 ⟨rfl, b20⟩
            have hbo20 := hbo19.next b20
            have c20' := c19'.trans (b20.mono c19'.size)
            refine ⟨.inr (by simp -implicitDefEqProofs [go_sem] <;> exact c20'), ?_⟩
            rw [decide_eq_true (rfl : LA = LA)]
            simp -implicitDefEqProofs [go_sem, g5, g6, g7, g9, g10, g57, g58, g59, k1]
            refine goE_round ⟨k + 1, V1, F, (some ⟨gn, 0, none⟩), (0 + 1), cn, (xs ++ [u]), x2, y2, by omega, by omega, ?_⟩ ?_
            · simp -implicitDefEqProofs [go_sem, g5, g6, g7, g9, g10, g57, g58, g59]
              exact ⟨hg2.mono (by omega), hbo20⟩
            · simp -implicitDefEqProofs [go_sem, intOf, g59, k1]; omega
          · simp -implicitDefEqProofs [go_sem, g5, g6, g7, g9, g10, g57, g58, g59, ↓hrp2, ↓hld19, ↓hsR]
            generalize World.setRow _ _ _ = w13 at *
            have hbo12 := hboR
            have hn2 : V1.T.length ≤ 64 := by rw [hg2.well.len]; omega
            have hnB : (bL V1).length ≤ 64 := by rw [bL_len]; exact hn2
            have hmany := many_eq hg2.well m (Nat.le_refl _)
            have mz1 := manyL_le V1.H m
            have mz2 := manyL_le V1.T m
            obtain ⟨MH, hMH⟩ : ∃ M, M = manyL V1.H m := ⟨_, rfl⟩
            obtain ⟨MT, hMT⟩ : ∃ M, M = manyL V1.T m := ⟨_, rfl⟩
            obtain ⟨MB, hMB⟩ : ∃ M, M = manyL (bL V1) m := ⟨_, rfl⟩
            rw [← hMH, ← hMT, ← hMB] at hmany
            rw [← hMH] at mz1
            rw [← hMT] at mz2
            have hsub : (MB : Int) - (MT : Int) = (MH : Int) := by omega
            have kMH := IntWalk.i64_in (MH : Int) (by omega)
            obtain ⟨LA, hLA⟩ : ∃ LA, LA = allK (shN m) V1.T V1.T.length := ⟨_, rfl⟩
            refine drawE_mix [.pure 0, .pure 1, .pure 2, .pure 3, .pure 4, .pure 6, .pure 9, .take 7, .take 10, .run 5 [7, 10], .run 8 [10], .run 11 [], .pure 12, .pure 13, .pure 14, .pure 15, .pure 16, .take 18, .run 17 [18], .run 19 [], .run 20 [], .pure 21, .pure 22] mixed (by decide +kernel) (by simp only [withOps, MStep.num, List.filterMap_cons, List.filterMap_nil, List.getElem?_cons_succ, List.getElem?_cons_zero, Option.map_some]; rfl) ?_
            have hbo14 := hbo12.next (Below.refl _ _).drew
            generalize World.drew w13 = w14 at *
            simp -implicitDefEqProofs [go_sem, g5, g6, g7, g9, g10, g57, g58, g59]
            refine onTake_of (fun w' => Below w14.heap.size w14 w') y2 (Below.refl _ _) (fun w' hw => by simp -implicitDefEqProofs [go_sem, g9, (hbo14.ref.next hw).cell, rpC_5]) ?_
            simp -implicitDefEqProofs [go_sem, g5, g6, g7, g9, g10, g57, g58, g59]
            refine onTake_of (fun w' => Below w14.heap.size w14 w') x2 (Below.refl _ _) (fun w' hw => by simp -implicitDefEqProofs [go_sem, g9, (hbo14.ref.next hw).cell, rpC_4]) ?_
            have hheld := poolHeld_calls w14 hbo14.pd.pool hn2
            rw [hg2.well.lenH, ← hMH] at hheld
            simp -implicitDefEqProofs [go_sem, g5, g6, g7, g9, g10, g57, g58, g59]
            refine callE_of hheld ?_
            rintro v w15 ⟨rfl, b15⟩
            refine ⟨.inr (by simp -implicitDefEqProofs [go_sem] <;> exact b15), ?_⟩
            have hbo15 := hbo14.next b15
            have hcB := rCount_calls y2 (bL V1) w15 hbo15.sy hnB
            rw [bL_len, hg2.well.len, ← hMB] at hcB
            simp -implicitDefEqProofs [go_sem, g5, g6, g7, g9, g10, g57, g58, g59]
            refine callE_of hcB ?_
            rintro v w16 ⟨rfl, b16⟩
            have c16 := b15.trans (b16.mono b15.size)
            refine ⟨.inr (by simp -implicitDefEqProofs [go_sem] <;> exact c16), ?_⟩
            have hbo16 := hbo15.next b16
            have hcT := rCount_calls x2 V1.T w16 hbo16.sx hn2
            rw [hg2.well.len, ← hMT] at hcT
            simp -implicitDefEqProofs [go_sem, g5, g6, g7, g9, g10, g57, g58, g59]
            refine callE_of hcT ?_
            rintro v w17 ⟨rfl, b17⟩
            have c17 := c16.trans (b17.mono c16.size)
            refine ⟨.inr (by simp -implicitDefEqProofs [go_sem] <;> exact c17), ?_⟩
            have hbo17 := hbo16.next b17
            simp -implicitDefEqProofs [go_sem, g5, g6, g7, g9, g10, g57, g58, g59, hsub, kMH]
            refine onTake_of (fun w' => Below w17.heap.size w17 w') (.agg (rpC (shN m) x2 y2)) (Below.refl _ _) (fun w' hw => by simp -implicitDefEqProofs [go_sem, g9, (hbo17.ref.next hw).cell, rpC_0, rpC_1, rpC_2, rpC_3, rpC_4, rpC_5]; rfl) ?_
            have hall := poolAll_calls w17 hbo17.pd.pool hn2 hdat
            rw [← hLA] at hall
            simp -implicitDefEqProofs [go_sem, g5, g6, g7, g9, g10, g57, g58, g59]
            refine callE_of hall ?_
            rintro v w18 ⟨a18, c18, rfl, hv18, b18⟩
            refine ⟨.inr (by simp -implicitDefEqProofs [go_sem] <;> exact b18), ?_⟩
            have hbo18 := hbo17.next b18
            have hallR := rAll_calls (shN m) x2 y2 V1.T (bL V1) w18 hbo18.sx hbo18.sy hn2 hdat
            rw [← hLA] at hallR
            simp -implicitDefEqProofs [go_sem, g5, g6, g7, g9, g10, g57, g58, g59]
            refine callE_of hallR ?_
            rintro v w19 ⟨a19, c19, rfl, hv19, b19⟩
            have hbo19 := hbo18.next b19
            have c19' := b18.trans (b19.mono b18.size)
            refine ⟨.inr (by simp -implicitDefEqProofs [go_sem] <;> exact c19'), ?_⟩
            simp -implicitDefEqProofs [go_sem, g5, g6, g7, g9, g10, g57, g58, g59]
            refine callE_of (sameI_calls a18 a19 LA LA c18 c19 w19 (hv18.next b19) hv19) ?_
            rintro v w20 ⟨rfl, b20⟩
            have hbo20 := hbo19.next b20
            have c20' := c19'.trans (b20.mono c19'.size)
            refine ⟨.inr (by simp -implicitDefEqProofs [go_sem] <;> exact c20'), ?_⟩
            rw [decide_eq_true (rfl : LA = LA)]
            simp -implicitDefEqProofs [go_sem, g5, g6, g7, g9, g10, g57, g58, g59, k1]
            refine goE_round ⟨k + 1, V1, F, a, 0, c, xs, x2, y2, by omega, by omega, ?_⟩ ?_
            · simp -implicitDefEqProofs [go_sem, g5, g6, g7, g9, g10, g57, g58, g59]
              exact ⟨hg2.mono (by omega), hbo20⟩
            · simp -implicitDefEqProofs [go_sem, intOf, g59, k1]; omega
        · have hd12 : (1 : Nat) = 1 ∨ (1 : Nat) = 2 := .inl rfl
          have hdw : IntKind.i64.wrap (1 + IntKind.i64.wrap ((IntKind.i64.wrap (uv 0#8)).tdiv 2)) = ((1 : Nat) : Int) := by decide +kernel
          have hn1 : 0 < n := by omega
          obtain ⟨r, j, i1, i2, i3, i4, i5⟩ := idx_of (at_ := A.at_) hn1 (by omega)
          obtain ⟨bt, ot, z, rfl, gx, hxm, hz, -⟩ := hbo.tl.get i5
          have s1 := IntWalk.i64_in r (by omega)
          have s2 := IntWalk.i64_in (r + (n : Int)) (by omega)
          have s3 := IntWalk.i64_in (j : Int) (by omega)
          have i5' : (j : Int) < n := by omega
          have ho : I64 (z : Int) := by unfold I64; omega
          simp -implicitDefEqProofs [go_sem, g5, g6, g7, g9, g10, g57, g58, g59, hB10.cell, A.c0, A.c1, hr, hn1, hn0, i1, i4, s1, s2, s3, gx, i5, i5', hdw]
          have hres := poolReserve_calls V 1 hd12 w10 hbo.pd (hT.next hbo.bel) hn hdat
          refine callE_of hres ?_
          obtain ⟨R0, hR0⟩ : ∃ R, R = reserveV (shN m) V 1 := ⟨_, rfl⟩
          have hg2 := hg.reserve (shN m) hd12
          have h00 := (well_reserve (s := shN m) hg.well hd12).2
          obtain ⟨u, hu1, hu2⟩ := res_small hg.well hm4 hd12
          rw [← hR0] at hg2 h00 hu1 ⊢
          rintro v w11 ⟨rfl, hPD11, t11⟩
          have hbo11 := hbo.turn (V' := R0.1) hPD11 t11
          have hldR := ldAll (P := Tryz.prog) hbo11.ref hstP rfl rpI rfl
          simp -implicitDefEqProofs [go_sem, g5, g6, g7, g9, g10, g57, g58, g59, ↓hldR]
          refine callE_of (rReserve_calls hg.well hm4 hd12 x y w11 hbo11.sx hbo11.sy) ?_
          rintro v w12 ⟨x2, y2, rfl, hx2, hy2, b12, fx, fy⟩
          rw [← hR0] at hx2 hy2 ⊢
          obtain ⟨V1, xx, ee⟩ := R0
          dsimp only at hg2 h00 hu1 hPD11 hbo11 hx2 hy2 ⊢
          subst hu1
          have hlT : 0 < V1.T.length := by rw [hg2.well.len]; omega
          have hlB : 0 < (bL V1).length := by rw [bL_len]; exact hlT
          have b12a : Below w11.heap.size w11 (w12.alloc (.cells (rpC (shN m) x2 y2) 35)) := b12.alloc b12.size _
          have bN : Below w12.heap.size w12 (w12.alloc (.cells (rpC (shN m) x2 y2) 35)) := (Below.refl _ _).alloc (Nat.le_refl _) _
          have hboR := hbo11.ref_step b12a (hx2.next bN) (hy2.next bN) fx fy hlT hlB
          have hrp2 : ∀ (w : World) (e : Env) (dst : Option Tmp) (x' y' : Operand) (ty' : TypeId) (pos : String) (af : Array Edge) (gd : Option (Nat × Bool)), ev e x' = .pointer (some ⟨w.heap.size, 0, none⟩) → ev e y' = .agg (rpC (shN m) x2 y2) →
            xOp Tryz.prog e ⟨dst, .store 35 x' y', ty', pos, af, gd⟩ (w.alloc (.cells #[.int .i64 0, .int .i64 0, .int .i64 0, .int .i64 0, .slice none 0 0, .slice none 0 0] 35)) = .ok .skip (w.alloc (.cells (rpC (shN m) x2 y2) 35)) :=
            stNew (P := Tryz.prog) rpI rfl (rpC_one (shN m) hx2 hy2)
          have hld19 := ldAll (P := Tryz.prog) (Blk.new w12 (rpC (shN m) x2 y2) 35) hstP rfl rpI rfl
          have hsR := stAll (P := Tryz.prog) (cs := rpC (shN m) x2 y2) (hbo11.ref.next b12a) rpI rfl (rpC_one (shN m) hx2 hy2)
          rcases h00 with rfl | ⟨rfl, -⟩
          · simp -implicitDefEqProofs [go_sem, g5, g6, g7, g9, g10, g57, g58, g59, ↓hrp2, ↓hld19, ↓hsR]
            generalize hwR : World.setRow _ _ _ = wR at *
            have hszR : wR.heap.size = w12.heap.size + 1 := by rw [← hwR]; simp
            obtain ⟨gn, cn, w13, hr13, hbo12⟩ := hboR.push (by omega) u hu2
            rw [hszR] at hr13
            simp -implicitDefEqProofs [go_sem, g5, g6, g7, g9, g10, g57, g58, g59, hr13]
            have hn2 : V1.T.length ≤ 64 := by rw [hg2.well.len]; omega
            have hnB : (bL V1).length ≤ 64 := by rw [bL_len]; exact hn2
            have hmany := many_eq hg2.well m (Nat.le_refl _)
            have mz1 := manyL_le V1.H m
            have mz2 := manyL_le V1.T m
            obtain ⟨MH, hMH⟩ : ∃ M, M = manyL V1.H m := ⟨_, rfl⟩
            obtain ⟨MT, hMT⟩ : ∃ M, M = manyL V1.T m := ⟨_, rfl⟩
            obtain ⟨MB, hMB⟩ : ∃ M, M = manyL (bL V1) m := ⟨_, rfl⟩
            rw [← hMH, ← hMT, ← hMB] at hmany
            rw [← hMH] at mz1
            rw [← hMT] at mz2
            have hsub : (MB : Int) - (MT : Int) = (MH : Int) := by omega
            have kMH := IntWalk.i64_in (MH : Int) (by omega)
            obtain ⟨LA, hLA⟩ : ∃ LA, LA = allK (shN m) V1.T V1.T.length := ⟨_, rfl⟩
            refine drawE_mix [.pure 0, .pure 1, .pure 2, .pure 3, .pure 4, .pure 6, .pure 9, .take 7, .take 10, .run 5 [7, 10], .run 8 [10], .run 11 [], .pure 12, .pure 13, .pure 14, .pure 15, .pure 16, .take 18, .run 17 [18], .run 19 [], .run 20 [], .pure 21, .pure 22] mixed (by decide +kernel) (by simp only [withOps, MStep.num, List.filterMap_cons, List.filterMap_nil, List.getElem?_cons_succ, List.getElem?_cons_zero, Option.map_some]; rfl) ?_
            have hbo14 := hbo12.next (Below.refl _ _).drew
            generalize World.drew w13 = w14 at *
            simp -implicitDefEqProofs [go_sem, g5, g6, g7, g9, g10, g57, g58, g59]
            refine onTake_of (fun w' => Below w14.heap.size w14 w') y2 (Below.refl _ _) (fun w' hw => by simp -implicitDefEqProofs [go_sem, g9, (hbo14.ref.next hw).cell, rpC_5]) ?_
            simp -implicitDefEqProofs [go_sem, g5, g6, g7, g9, g10, g57, g58, g59]
            refine onTake_of (fun w' => Below w14.heap.size w14 w') x2 (Below.refl _ _) (fun w' hw => by simp -implicitDefEqProofs [go_sem, g9, (hbo14.ref.next hw).cell, rpC_4]) ?_
            have hheld := poolHeld_calls w14 hbo14.pd.pool hn2
            rw [hg2.well.lenH, ← hMH] at hheld
            simp -implicitDefEqProofs [go_sem, g5, g6, g7, g9, g10, g57, g58, g59]
            refine callE_of hheld ?_
            rintro v w15 ⟨rfl, b15⟩
            refine ⟨.inr (by simp -implicitDefEqProofs [go_sem] <;> exact b15), ?_⟩
            have hbo15 := hbo14.next b15
            have hcB := rCount_calls y2 (bL V1) w15 hbo15.sy hnB
            rw [bL_len, hg2.well.len, ← hMB] at hcB
            simp -implicitDefEqProofs [go_sem, g5, g6, g7, g9, g10, g57, g58, g59]
            refine callE_of hcB ?_
            rintro v w16 ⟨rfl, b16⟩
            have c16 := b15.trans (b16.mono b15.size)
            refine ⟨.inr (by simp -implicitDefEqProofs [go_sem] <;> exact c16), ?_⟩
            have hbo16 := hbo15.next b16
            have hcT := rCount_calls x2 V1.T w16 hbo16.sx hn2
            rw [hg2.well.len, ← hMT] at hcT
            simp -implicitDefEqProofs [go_sem, g5, g6, g7, g9, g10, g57, g58, g59]
            refine callE_of hcT ?_
            rintro v w17 ⟨rfl, b17⟩
            have c17 := c16.trans (b17.mono c16.size)
            refine ⟨.inr (by simp -implicitDefEqProofs [go_sem] <;> exact c17), ?_⟩
            have hbo17 := hbo16.next b17
            simp -implicitDefEqProofs [go_sem, g5, g6, g7, g9, g10, g57, g58, g59, hsub, kMH]
            refine onTake_of (fun w' => Below w17.heap.size w17 w') (.agg (rpC (shN m) x2 y2)) (Below.refl _ _) (fun w' hw => by simp -implicitDefEqProofs [go_sem, g9, (hbo17.ref.next hw).cell, rpC_0, rpC_1, rpC_2, rpC_3, rpC_4, rpC_5]; rfl) ?_
            have hall := poolAll_calls w17 hbo17.pd.pool hn2 hdat
            rw [← hLA] at hall
            simp -implicitDefEqProofs [go_sem, g5, g6, g7, g9, g10, g57, g58, g59]
            refine callE_of hall ?_
            rintro v w18 ⟨a18, c18, rfl, hv18, b18⟩
            refine ⟨.inr (by simp -implicitDefEqProofs [go_sem] <;> exact b18), ?_⟩
            have hbo18 := hbo17.next b18
            have hallR := rAll_calls (shN m) x2 y2 V1.T (bL V1) w18 hbo18.sx hbo18.sy hn2 hdat
            rw [← hLA] at hallR
            simp -implicitDefEqProofs [go_sem, g5, g6, g7, g9, g10, g57, g58, g59]
            refine callE_of hallR ?_
            rintro v w19 ⟨a19, c19, rfl, hv19, b19⟩
            have hbo19 := hbo18.next b19
            have c19' := b18.trans (b19.mono b18.size)
            refine ⟨.inr (by simp -implicitDefEqProofs [go_sem] <;> exact c19'), ?_⟩
            simp -implicitDefEqProofs [go_sem, g5, g6, g7, g9, g10, g57, g58, g59]
            refine callE_of (sameI_calls a18 a19 LA LA c18 c19 w19 (hv18.next b19) hv19) ?_
            rintro v w20 ⟨rfl, b20⟩
            have hbo20 := hbo19.next b20
            have c20' := c19'.trans (b20.mono c19'.size)
            refine ⟨.inr (by simp -implicitDefEqProofs [go_sem] <;> exact c20'), ?_⟩
            rw [decide_eq_true (rfl : LA = LA)]
            simp -implicitDefEqProofs [go_sem, g5, g6, g7, g9, g10, g57, g58, g59, k1]
            refine goE_round ⟨k + 1, V1, F, (some ⟨gn, 0, none⟩), (n + 1), cn, (xs ++ [u]), x2, y2, by omega, by omega, ?_⟩ ?_
            · simp -implicitDefEqProofs [go_sem, g5, g6, g7, g9, g10, g57, g58, g59]
              exact ⟨hg2.mono (by omega), hbo20⟩
            · simp -implicitDefEqProofs [go_sem, intOf, g59, k1]; omega
          · simp -implicitDefEqProofs [go_sem, g5, g6, g7, g9, g10, g57, g58, g59, ↓hrp2, ↓hld19, ↓hsR]
            generalize World.setRow _ _ _ = w13 at *
            have hbo12 := hboR
            have hn2 : V1.T.length ≤ 64 := by rw [hg2.well.len]; omega
            have hnB : (bL V1).length ≤ 64 := by rw [bL_len]; exact hn2
            have hmany := many_eq hg2.well m (Nat.le_refl _)
            have mz1 := manyL_le V1.H m
            have mz2 := manyL_le V1.T m
            obtain ⟨MH, hMH⟩ : ∃ M, M = manyL V1.H m := ⟨_, rfl⟩
            obtain ⟨MT, hMT⟩ : ∃ M, M = manyL V1.T m := ⟨_, rfl⟩
            obtain ⟨MB, hMB⟩ : ∃ M, M = manyL (bL V1) m := ⟨_, rfl⟩
            rw [← hMH, ← hMT, ← hMB] at hmany
            rw [← hMH] at mz1
            rw [← hMT] at mz2
            have hsub : (MB : Int) - (MT : Int) = (MH : Int) := by omega
            have kMH := IntWalk.i64_in (MH : Int) (by omega)
            obtain ⟨LA, hLA⟩ : ∃ LA, LA = allK (shN m) V1.T V1.T.length := ⟨_, rfl⟩
            refine drawE_mix [.pure 0, .pure 1, .pure 2, .pure 3, .pure 4, .pure 6, .pure 9, .take 7, .take 10, .run 5 [7, 10], .run 8 [10], .run 11 [], .pure 12, .pure 13, .pure 14, .pure 15, .pure 16, .take 18, .run 17 [18], .run 19 [], .run 20 [], .pure 21, .pure 22] mixed (by decide +kernel) (by simp only [withOps, MStep.num, List.filterMap_cons, List.filterMap_nil, List.getElem?_cons_succ, List.getElem?_cons_zero, Option.map_some]; rfl) ?_
            have hbo14 := hbo12.next (Below.refl _ _).drew
            generalize World.drew w13 = w14 at *
            simp -implicitDefEqProofs [go_sem, g5, g6, g7, g9, g10, g57, g58, g59]
            refine onTake_of (fun w' => Below w14.heap.size w14 w') y2 (Below.refl _ _) (fun w' hw => by simp -implicitDefEqProofs [go_sem, g9, (hbo14.ref.next hw).cell, rpC_5]) ?_
            simp -implicitDefEqProofs [go_sem, g5, g6, g7, g9, g10, g57, g58, g59]
            refine onTake_of (fun w' => Below w14.heap.size w14 w') x2 (Below.refl _ _) (fun w' hw => by simp -implicitDefEqProofs [go_sem, g9, (hbo14.ref.next hw).cell, rpC_4]) ?_
            have hheld := poolHeld_calls w14 hbo14.pd.pool hn2
            rw [hg2.well.lenH, ← hMH] at hheld
            simp -implicitDefEqProofs [go_sem, g5, g6, g7, g9, g10, g57, g58, g59]
            refine callE_of hheld ?_
            rintro v w15 ⟨rfl, b15⟩
            refine ⟨.inr (by simp -implicitDefEqProofs [go_sem] <;> exact b15), ?_⟩
            have hbo15 := hbo14.next b15
            have hcB := rCount_calls y2 (bL V1) w15 hbo15.sy hnB
            rw [bL_len, hg2.well.len, ← hMB] at hcB
            simp -implicitDefEqProofs [go_sem, g5, g6, g7, g9, g10, g57, g58, g59]
            refine callE_of hcB ?_
            rintro v w16 ⟨rfl, b16⟩
            have c16 := b15.trans (b16.mono b15.size)
            refine ⟨.inr (by simp -implicitDefEqProofs [go_sem] <;> exact c16), ?_⟩
            have hbo16 := hbo15.next b16
            have hcT := rCount_calls x2 V1.T w16 hbo16.sx hn2
            rw [hg2.well.len, ← hMT] at hcT
            simp -implicitDefEqProofs [go_sem, g5, g6, g7, g9, g10, g57, g58, g59]
            refine callE_of hcT ?_
            rintro v w17 ⟨rfl, b17⟩
            have c17 := c16.trans (b17.mono c16.size)
            refine ⟨.inr (by simp -implicitDefEqProofs [go_sem] <;> exact c17), ?_⟩
            have hbo17 := hbo16.next b17
            simp -implicitDefEqProofs [go_sem, g5, g6, g7, g9, g10, g57, g58, g59, hsub, kMH]
            refine onTake_of (fun w' => Below w17.heap.size w17 w') (.agg (rpC (shN m) x2 y2)) (Below.refl _ _) (fun w' hw => by simp -implicitDefEqProofs [go_sem, g9, (hbo17.ref.next hw).cell, rpC_0, rpC_1, rpC_2, rpC_3, rpC_4, rpC_5]; rfl) ?_
            have hall := poolAll_calls w17 hbo17.pd.pool hn2 hdat
            rw [← hLA] at hall
            simp -implicitDefEqProofs [go_sem, g5, g6, g7, g9, g10, g57, g58, g59]
            refine callE_of hall ?_
            rintro v w18 ⟨a18, c18, rfl, hv18, b18⟩
            refine ⟨.inr (by simp -implicitDefEqProofs [go_sem] <;> exact b18), ?_⟩
            have hbo18 := hbo17.next b18
            have hallR := rAll_calls (shN m) x2 y2 V1.T (bL V1) w18 hbo18.sx hbo18.sy hn2 hdat
            rw [← hLA] at hallR
            simp -implicitDefEqProofs [go_sem, g5, g6, g7, g9, g10, g57, g58, g59]
            refine callE_of hallR ?_
            rintro v w19 ⟨a19, c19, rfl, hv19, b19⟩
            have hbo19 := hbo18.next b19
            have c19' := b18.trans (b19.mono b18.size)
            refine ⟨.inr (by simp -implicitDefEqProofs [go_sem] <;> exact c19'), ?_⟩
            simp -implicitDefEqProofs [go_sem, g5, g6, g7, g9, g10, g57, g58, g59]
            refine callE_of (sameI_calls a18 a19 LA LA c18 c19 w19 (hv18.next b19) hv19) ?_
            rintro v w20 ⟨rfl, b20⟩
            have hbo20 := hbo19.next b20
            have c20' := c19'.trans (b20.mono c19'.size)
            refine ⟨.inr (by simp -implicitDefEqProofs [go_sem] <;> exact c20'), ?_⟩
            rw [decide_eq_true (rfl : LA = LA)]
            simp -implicitDefEqProofs [go_sem, g5, g6, g7, g9, g10, g57, g58, g59, k1]
            refine goE_round ⟨k + 1, V1, F, (some ⟨bt, ot, none⟩), n, c, xs, x2, y2, by omega, by omega, ?_⟩ ?_
            · simp -implicitDefEqProofs [go_sem, g5, g6, g7, g9, g10, g57, g58, g59]
              exact ⟨hg2.mono (by omega), hbo20⟩
            · simp -implicitDefEqProofs [go_sem, intOf, g59, k1]; omega
      · by_cases hn0 : n = 0
        · subst hn0
          have hd12 : (1 : Nat) = 1 ∨ (1 : Nat) = 2 := .inl rfl
          have hdw : IntKind.i64.wrap (1 + IntKind.i64.wrap ((IntKind.i64.wrap (uv 1#8)).tdiv 2)) = ((1 : Nat) : Int) := by decide +kernel
          simp -implicitDefEqProofs [go_sem, g5, g6, g7, g9, g10, g57, g58, g59, hB10.cell, A.c0, A.c1, hr, hdw]
          have hres := poolReserve_calls V 1 hd12 w10 hbo.pd (hT.next hbo.bel) hn hdat
          refine callE_of hres ?_
          obtain ⟨R0, hR0⟩ : ∃ R, R = reserveV (shN m) V 1 := ⟨_, rfl⟩
          have hg2 := hg.reserve (shN m) hd12
          have h00 := (well_reserve (s := shN m) hg.well hd12).2
          obtain ⟨u, hu1, hu2⟩ := res_small hg.well hm4 hd12
          rw [← hR0] at hg2 h00 hu1 ⊢
          rintro v w11 ⟨rfl, hPD11, t11⟩
          have hbo11 := hbo.turn (V' := R0.1) hPD11 t11
          have hldR := ldAll (P := Tryz.prog) hbo11.ref hstP rfl rpI rfl
          simp -implicitDefEqProofs [go_sem, g5, g6, g7, g9, g10, g57, g58, g59, ↓hldR]
          refine callE_of (rReserve_calls hg.well hm4 hd12 x y w11 hbo11.sx hbo11.sy) ?_
          rintro v w12 ⟨x2, y2, rfl, hx2, hy2, b12, fx, fy⟩
          rw [← hR0] at hx2 hy2 ⊢
          obtain ⟨V1, xx, ee⟩ := R0
          dsimp only at hg2 h00 hu1 hPD11 hbo11 hx2 hy2 ⊢
          subst hu1
          have hlT : 0 < V1.T.length := by rw [hg2.well.len]; omega
          have hlB : 0 < (bL V1).length := by rw [bL_len]; exact hlT
          have b12a : Below w11.heap.size w11 (w12.alloc (.cells (rpC (shN m) x2 y2) 35)) := b12.alloc b12.size _
          have bN : Below w12.heap.size w12 (w12.alloc (.cells (rpC (shN m) x2 y2) 35)) := (Below.refl _ _).alloc (Nat.le_refl _) _
          have hboR := hbo11.ref_step b12a (hx2.next bN) (hy2.next bN) fx fy hlT hlB
          have hrp2 : ∀ (w : World) (e : Env) (dst : Option Tmp) (x' y' : Operand) (ty' : TypeId) (pos : String) (af : Array Edge) (gd : Option (Nat × Bool)), ev e x' = .pointer (some ⟨w.heap.size, 0, none⟩) → ev e y' = .agg (rpC (shN m) x2 y2) →
            xOp Tryz.prog e ⟨dst, .store 35 x' y', ty', pos, af, gd⟩ (w.alloc (.cells #[.int .i64 0, .int .i64 0, .int .i64 0, .int .i64 0, .slice none 0 0, .slice none 0 0] 35)) = .ok .skip (w.alloc (.cells (rpC (shN m) x2 y2) 35)) :=
            stNew (P := Tryz.prog) rpI rfl (rpC_one (shN m) hx2 hy2)
          have hld19 := ldAll (P := Tryz.prog) (Blk.new w12 (rpC (shN m) x2 y2) 35) hstP rfl rpI rfl
          have hsR := stAll (P := Tryz.prog) (cs := rpC (shN m) x2 y2) (hbo11.ref.next b12a) rpI rfl (rpC_one (shN m) hx2 hy2)
          rcases h00 with rfl | ⟨rfl, -⟩
          · simp -implicitDefEqProofs [go_sem, g5, g6, g7, g9, g10, g57, g58, g59, ↓hrp2, ↓hld19, ↓hsR]
            generalize hwR : World.setRow _ _ _ = wR at *
            have hszR : wR.heap.size = w12.heap.size + 1 := by rw [← hwR]; simp
            obtain ⟨gn, cn, w13, hr13, hbo12⟩ := hboR.push (by omega) u hu2
            rw [hszR] at hr13
            simp -implicitDefEqProofs [go_sem, g5, g6, g7, g9, g10, g57, g58, g59, hr13]
            have hn2 : V1.T.length ≤ 64 := by rw [hg2.well.len]; omega
            have hnB : (bL V1).length ≤ 64 := by rw [bL_len]; exact hn2
            have hmany := many_eq hg2.well m (Nat.le_refl _)
            have mz1 := manyL_le V1.H m
            have mz2 := manyL_le V1.T m
            obtain ⟨MH, hMH⟩ : ∃ M, M = manyL V1.H m := ⟨_, rfl⟩
            obtain ⟨MT, hMT⟩ : ∃ M, M = manyL V1.T m := ⟨_, rfl⟩
            obtain ⟨MB, hMB⟩ : ∃ M, M = manyL (bL V1) m := ⟨_, rfl⟩
            rw [← hMH, ← hMT, ← hMB] at hmany
            rw [← hMH] at mz1
            rw [← hMT] at mz2
            have hsub : (MB : Int) - (MT : Int) = (MH : Int) := by omega
            have kMH := IntWalk.i64_in (MH : Int) (by omega)
            obtain ⟨LA, hLA⟩ : ∃ LA, LA = allK (shN m) V1.T V1.T.length := ⟨_, rfl⟩
            refine drawE_mix [.pure 0, .pure 1, .pure 2, .pure 3, .pure 4, .pure 6, .pure 9, .take 7, .take 10, .run 5 [7, 10], .run 8 [10], .run 11 [], .pure 12, .pure 13, .pure 14, .pure 15, .pure 16, .take 18, .run 17 [18], .run 19 [], .run 20 [], .pure 21, .pure 22] mixed (by decide +kernel) (by simp only [withOps, MStep.num, List.filterMap_cons, List.filterMap_nil, List.getElem?_cons_succ, List.getElem?_cons_zero, Option.map_some]; rfl) ?_
            have hbo14 := hbo12.next (Below.refl _ _).drew
            generalize World.drew w13 = w14 at *
            simp -implicitDefEqProofs [go_sem, g5, g6, g7, g9, g10, g57, g58, g59]
            refine onTake_of (fun w' => Below w14.heap.size w14 w') y2 (Below.refl _ _) (fun w' hw => by simp -implicitDefEqProofs [go_sem, g9, (hbo14.ref.next hw).cell, rpC_5]) ?_
            simp -implicitDefEqProofs [go_sem, g5, g6, g7, g9, g10, g57, g58, g59]
            refine onTake_of (fun w' => Below w14.heap.size w14 w') x2 (Below.refl _ _) (fun w' hw => by simp -implicitDefEqProofs [go_sem, g9, (hbo14.ref.next hw).cell, rpC_4]) ?_
            have hheld := poolHeld_calls w14 hbo14.pd.pool hn2
            rw [hg2.well.lenH, ← hMH] at hheld
            simp -implicitDefEqProofs [go_sem, g5, g6, g7, g9, g10, g57, g58, g59]
            refine callE_of hheld ?_
            rintro v w15 ⟨rfl, b15⟩
            refine ⟨.inr (by simp -implicitDefEqProofs [go_sem] <;> exact b15), ?_⟩
            have hbo15 := hbo14.next b15
            have hcB := rCount_calls y2 (bL V1) w15 hbo15.sy hnB
            rw [bL_len, hg2.well.len, ← hMB] at hcB
            simp -implicitDefEqProofs [go_sem, g5, g6, g7, g9, g10, g57, g58, g59]
            refine callE_of hcB ?_
            rintro v w16 ⟨rfl, b16⟩
            have c16 := b15.trans (b16.mono b15.size)
            refine ⟨.inr (by simp -implicitDefEqProofs [go_sem] <;> exact c16), ?_⟩
            have hbo16 := hbo15.next b16
            have hcT := rCount_calls x2 V1.T w16 hbo16.sx hn2
            rw [hg2.well.len, ← hMT] at hcT
            simp -implicitDefEqProofs [go_sem, g5, g6, g7, g9, g10, g57, g58, g59]
            refine callE_of hcT ?_
            rintro v w17 ⟨rfl, b17⟩
            have c17 := c16.trans (b17.mono c16.size)
            refine ⟨.inr (by simp -implicitDefEqProofs [go_sem] <;> exact c17), ?_⟩
            have hbo17 := hbo16.next b17
            simp -implicitDefEqProofs [go_sem, g5, g6, g7, g9, g10, g57, g58, g59, hsub, kMH]
            refine onTake_of (fun w' => Below w17.heap.size w17 w') (.agg (rpC (shN m) x2 y2)) (Below.refl _ _) (fun w' hw => by simp -implicitDefEqProofs [go_sem, g9, (hbo17.ref.next hw).cell, rpC_0, rpC_1, rpC_2, rpC_3, rpC_4, rpC_5]; rfl) ?_
            have hall := poolAll_calls w17 hbo17.pd.pool hn2 hdat
            rw [← hLA] at hall
            simp -implicitDefEqProofs [go_sem, g5, g6, g7, g9, g10, g57, g58, g59]
            refine callE_of hall ?_
            rintro v w18 ⟨a18, c18, rfl, hv18, b18⟩
            refine ⟨.inr (by simp -implicitDefEqProofs [go_sem] <;> exact b18), ?_⟩
            have hbo18 := hbo17.next b18
            have hallR := rAll_calls (shN m) x2 y2 V1.T (bL V1) w18 hbo18.sx hbo18.sy hn2 hdat
            rw [← hLA] at hallR
            simp -implicitDefEqProofs [go_sem, g5, g6, g7, g9, g10, g57, g58, g59]
            refine callE_of hallR ?_
            rintro v w19 ⟨a19, c19, rfl, hv19, b19⟩
            have hbo19 := hbo18.next b19
            have c19' := b18.trans (b19.mono b18.size)
            refine ⟨.inr (by simp -implicitDefEqProofs [go_sem] <;> exact c19'), ?_⟩
            simp -implicitDefEqProofs [go_sem, g5, g6, g7, g9, g10, g57, g58, g59]
            refine callE_of (sameI_calls a18 a19 LA LA c18 c19 w19 (hv18.next b19) hv19) ?_
            rintro v w20 ⟨rfl, b20⟩
            have hbo20 := hbo19.next b20
            have c20' := c19'.trans (b20.mono c19'.size)
            refine ⟨.inr (by simp -implicitDefEqProofs [go_sem] <;> exact c20'), ?_⟩
            rw [decide_eq_true (rfl : LA = LA)]
            simp -implicitDefEqProofs [go_sem, g5, g6, g7, g9, g10, g57, g58, g59, k1]
            refine goE_round ⟨k + 1, V1, F, (some ⟨gn, 0, none⟩), (0 + 1), cn, (xs ++ [u]), x2, y2, by omega, by omega, ?_⟩ ?_
            · simp -implicitDefEqProofs [go_sem, g5, g6, g7, g9, g10, g57, g58, g59]
              exact ⟨hg2.mono (by omega), hbo20⟩
            · simp -implicitDefEqProofs [go_sem, intOf, g59, k1]; omega
          · simp -implicitDefEqProofs [go_sem, g5, g6, g7, g9, g10, g57, g58, g59, ↓hrp2, ↓hld19, ↓hsR]
            generalize World.setRow _ _ _ = w13 at *
            have hbo12 := hboR
            have hn2 : V1.T.length ≤ 64 := by rw [hg2.well.len]; omega
            have hnB : (bL V1).length ≤ 64 := by rw [bL_len]; exact hn2
            have hmany := many_eq hg2.well m (Nat.le_refl _)
            have mz1 := manyL_le V1.H m
            have mz2 := manyL_le V1.T m
            obtain ⟨MH, hMH⟩ : ∃ M, M = manyL V1.H m := ⟨_, rfl⟩
            obtain ⟨MT, hMT⟩ : ∃ M, M = manyL V1.T m := ⟨_, rfl⟩
            obtain ⟨MB, hMB⟩ : ∃ M, M = manyL (bL V1) m := ⟨_, rfl⟩
            rw [← hMH, ← hMT, ← hMB] at hmany
            rw [← hMH] at mz1
            rw [← hMT] at mz2
            have hsub : (MB : Int) - (MT : Int) = (MH : Int) := by omega
            have kMH := IntWalk.i64_in (MH : Int) (by omega)
            obtain ⟨LA, hLA⟩ : ∃ LA, LA = allK (shN m) V1.T V1.T.length := ⟨_, rfl⟩
            refine drawE_mix [.pure 0, .pure 1, .pure 2, .pure 3, .pure 4, .pure 6, .pure 9, .take 7, .take 10, .run 5 [7, 10], .run 8 [10], .run 11 [], .pure 12, .pure 13, .pure 14, .pure 15, .pure 16, .take 18, .run 17 [18], .run 19 [], .run 20 [], .pure 21, .pure 22] mixed (by decide +kernel) (by simp only [withOps, MStep.num, List.filterMap_cons, List.filterMap_nil, List.getElem?_cons_succ, List.getElem?_cons_zero, Option.map_some]; rfl) ?_
            have hbo14 := hbo12.next (Below.refl _ _).drew
            generalize World.drew w13 = w14 at *
            simp -implicitDefEqProofs [go_sem, g5, g6, g7, g9, g10, g57, g58, g59]
            refine onTake_of (fun w' => Below w14.heap.size w14 w') y2 (Below.refl _ _) (fun w' hw => by simp -implicitDefEqProofs [go_sem, g9, (hbo14.ref.next hw).cell, rpC_5]) ?_
            simp -implicitDefEqProofs [go_sem, g5, g6, g7, g9, g10, g57, g58, g59]
            refine onTake_of (fun w' => Below w14.heap.size w14 w') x2 (Below.refl _ _) (fun w' hw => by simp -implicitDefEqProofs [go_sem, g9, (hbo14.ref.next hw).cell, rpC_4]) ?_
            have hheld := poolHeld_calls w14 hbo14.pd.pool hn2
            rw [hg2.well.lenH, ← hMH] at hheld
            simp -implicitDefEqProofs [go_sem, g5, g6, g7, g9, g10, g57, g58, g59]
            refine callE_of hheld ?_
            rintro v w15 ⟨rfl, b15⟩
            refine ⟨.inr (by simp -implicitDefEqProofs [go_sem] <;> exact b15), ?_⟩
            have hbo15 := hbo14.next b15
            have hcB := rCount_calls y2 (bL V1) w15 hbo15.sy hnB
            rw [bL_len, hg2.well.len, ← hMB] at hcB
            simp -implicitDefEqProofs [go_sem, g5, g6, g7, g9, g10, g57, g58, g59]
            refine callE_of hcB ?_
            rintro v w16 ⟨rfl, b16⟩
            have c16 := b15.trans (b16.mono b15.size)
            refine ⟨.inr (by simp -implicitDefEqProofs [go_sem] <;> exact c16), ?_⟩
            have hbo16 := hbo15.next b16
            have hcT := rCount_calls x2 V1.T w16 hbo16.sx hn2
            rw [hg2.well.len, ← hMT] at hcT
            simp -implicitDefEqProofs [go_sem, g5, g6, g7, g9, g10, g57, g58, g59]
            refine callE_of hcT ?_
            rintro v w17 ⟨rfl, b17⟩
            have c17 := c16.trans (b17.mono c16.size)
            refine ⟨.inr (by simp -implicitDefEqProofs [go_sem] <;> exact c17), ?_⟩
            have hbo17 := hbo16.next b17
            simp -implicitDefEqProofs [go_sem, g5, g6, g7, g9, g10, g57, g58, g59, hsub, kMH]
            refine onTake_of (fun w' => Below w17.heap.size w17 w') (.agg (rpC (shN m) x2 y2)) (Below.refl _ _) (fun w' hw => by simp -implicitDefEqProofs [go_sem, g9, (hbo17.ref.next hw).cell, rpC_0, rpC_1, rpC_2, rpC_3, rpC_4, rpC_5]; rfl) ?_
            have hall := poolAll_calls w17 hbo17.pd.pool hn2 hdat
            rw [← hLA] at hall
            simp -implicitDefEqProofs [go_sem, g5, g6, g7, g9, g10, g57, g58, g59]
            refine callE_of hall ?_
            rintro v w18 ⟨a18, c18, rfl, hv18, b18⟩
            refine ⟨.inr (by simp -implicitDefEqProofs [go_sem] <;> exact b18), ?_⟩
            have hbo18 := hbo17.next b18
            have hallR := rAll_calls (shN m) x2 y2 V1.T (bL V1) w18 hbo18.sx hbo18.sy hn2 hdat
            rw [← hLA] at hallR
            simp -implicitDefEqProofs [go_sem, g5, g6, g7, g9, g10, g57, g58, g59]
            refine callE_of hallR ?_
            rintro v w19 ⟨a19, c19, rfl, hv19, b19⟩
            have hbo19 := hbo18.next b19
            have c19' := b18.trans (b19.mono b18.size)
            refine ⟨.inr (by simp -implicitDefEqProofs [go_sem] <;> exact c19'), ?_⟩
            simp -implicitDefEqProofs [go_sem, g5, g6, g7, g9, g10, g57, g58, g59]
            refine callE_of (sameI_calls a18 a19 LA LA c18 c19 w19 (hv18.next b19) hv19) ?_
            rintro v w20 ⟨rfl, b20⟩
            have hbo20 := hbo19.next b20
            have c20' := c19'.trans (b20.mono c19'.size)
            refine ⟨.inr (by simp -implicitDefEqProofs [go_sem] <;> exact c20'), ?_⟩
            rw [decide_eq_true (rfl : LA = LA)]
            simp -implicitDefEqProofs [go_sem, g5, g6, g7, g9, g10, g57, g58, g59, k1]
            refine goE_round ⟨k + 1, V1, F, a, 0, c, xs, x2, y2, by omega, by omega, ?_⟩ ?_
            · simp -implicitDefEqProofs [go_sem, g5, g6, g7, g9, g10, g57, g58, g59]
              exact ⟨hg2.mono (by omega), hbo20⟩
            · simp -implicitDefEqProofs [go_sem, intOf, g59, k1]; omega
        · have hd12 : (1 : Nat) = 1 ∨ (1 : Nat) = 2 := .inl rfl
          have hdw : IntKind.i64.wrap (1 + IntKind.i64.wrap ((IntKind.i64.wrap (uv 1#8)).tdiv 2)) = ((1 : Nat) : Int) := by decide +kernel
          have hn1 : 0 < n := by omega
          obtain ⟨r, j, i1, i2, i3, i4, i5⟩ := idx_of (at_ := A.at_) hn1 (by omega)
          obtain ⟨bt, ot, z, rfl, gx, hxm, hz, -⟩ := hbo.tl.get i5
          have s1 := IntWalk.i64_in r (by omega)
          have s2 := IntWalk.i64_in (r + (n : Int)) (by omega)
          have s3 := IntWalk.i64_in (j : Int) (by omega)
          have i5' : (j : Int) < n := by omega
          have ho : I64 (z : Int) := by unfold I64; omega
          simp -implicitDefEqProofs [go_sem, g5, g6, g7, g9, g10, g57, g58, g59, hB10.cell, A.c0, A.c1, hr, hn1, hn0, i1, i4, s1, s2, s3, gx, i5, i5', hdw]
          have hres := poolReserve_calls V 1 hd12 w10 hbo.pd (hT.next hbo.bel) hn hdat
          refine callE_of hres ?_
          obtain ⟨R0, hR0⟩ : ∃ R, R = reserveV (shN m) V 1 := ⟨_, rfl⟩
          have hg2 := hg.reserve (shN m) hd12
          have h00 := (well_reserve (s := shN m) hg.well hd12).2
          obtain ⟨u, hu1, hu2⟩ := res_small hg.well hm4 hd12
          rw [← hR0] at hg2 h00 hu1 ⊢
          rintro v w11 ⟨rfl, hPD11, t11⟩
          have hbo11 := hbo.turn (V' := R0.1) hPD11 t11
          have hldR := ldAll (P := Tryz.prog) hbo11.ref hstP rfl rpI rfl
          simp -implicitDefEqProofs [go_sem, g5, g6, g7, g9, g10, g57, g58, g59, ↓hldR]
          refine callE_of (rReserve_calls hg.well hm4 hd12 x y w11 hbo11.sx hbo11.sy) ?_
          rintro v w12 ⟨x2, y2, rfl, hx2, hy2, b12, fx, fy⟩
          rw [← hR0] at hx2 hy2 ⊢
          obtain ⟨V1, xx, ee⟩ := R0
          dsimp only at hg2 h00 hu1 hPD11 hbo11 hx2 hy2 ⊢
          subst hu1
          have hlT : 0 < V1.T.length := by rw [hg2.well.len]; omega
          have hlB : 0 < (bL V1).length := by rw [bL_len]; exact hlT
          have b12a : Below w11.heap.size w11 (w12.alloc (.cells (rpC (shN m) x2 y2) 35)) := b12.alloc b12.size _
          have bN : Below w12.heap.size w12 (w12.alloc (.cells (rpC (shN m) x2 y2) 35)) := (Below.refl _ _).alloc (Nat.le_refl _) _
          have hboR := hbo11.ref_step b12a (hx2.next bN) (hy2.next bN) fx fy hlT hlB
          have hrp2 : ∀ (w : World) (e : Env) (dst : Option Tmp) (x' y' : Operand) (ty' : TypeId) (pos : String) (af : Array Edge) (gd : Option (Nat × Bool)), ev e x' = .pointer (some ⟨w.heap.size, 0, none⟩) → ev e y' = .agg (rpC (shN m) x2 y2) →
            xOp Tryz.prog e ⟨dst, .store 35 x' y', ty', pos, af, gd⟩ (w.alloc (.cells #[.int .i64 0, .int .i64 0, .int .i64 0, .int .i64 0, .slice none 0 0, .slice none 0 0] 35)) = .ok .skip (w.alloc (.cells (rpC (shN m) x2 y2) 35)) :=
            stNew (P := Tryz.prog) rpI rfl (rpC_one (shN m) hx2 hy2)
          have hld19 := ldAll (P := Tryz.prog) (Blk.new w12 (rpC (shN m) x2 y2) 35) hstP rfl rpI rfl
          have hsR := stAll (P := Tryz.prog) (cs := rpC (shN m) x2 y2) (hbo11.ref.next b12a) rpI rfl (rpC_one (shN m) hx2 hy2)
          rcases h00 with rfl | ⟨rfl, -⟩
          · simp -implicitDefEqProofs [go_sem, g5, g6, g7, g9, g10, g57, g58, g59, ↓hrp2, ↓hld19, ↓hsR]
            generalize hwR : World.setRow _ _ _ = wR at *
            have hszR : wR.heap.size = w12.heap.size + 1 := by rw [← hwR]; simp
            obtain ⟨gn, cn, w13, hr13, hbo12⟩ := hboR.push (by omega) u hu2
            rw [hszR] at hr13
            simp -implicitDefEqProofs [go_sem, g5, g6, g7, g9, g10, g57, g58, g59, hr13]
            have hn2 : V1.T.length ≤ 64 := by rw [hg2.well.len]; omega
            have hnB : (bL V1).length ≤ 64 := by rw [bL_len]; exact hn2
            have hmany := many_eq hg2.well m (Nat.le_refl _)
            have mz1 := manyL_le V1.H m
            have mz2 := manyL_le V1.T m
            obtain ⟨MH, hMH⟩ : ∃ M, M = manyL V1.H m := ⟨_, rfl⟩
            obtain ⟨MT, hMT⟩ : ∃ M, M = manyL V1.T m := ⟨_, rfl⟩
            obtain ⟨MB, hMB⟩ : ∃ M, M = manyL (bL V1) m := ⟨_, rfl⟩
            rw [← hMH, ← hMT, ← hMB] at hmany
            rw [← hMH] at mz1
            rw [← hMT] at mz2
            have hsub : (MB : Int) - (MT : Int) = (MH : Int) := by omega
            have kMH := IntWalk.i64_in (MH : Int) (by omega)
            obtain ⟨LA, hLA⟩ : ∃ LA, LA = allK (shN m) V1.T V1.T.length := ⟨_, rfl⟩
            refine drawE_mix [.pure 0, .pure 1, .pure 2, .pure 3, .pure 4, .pure 6, .pure 9, .take 7, .take 10, .run 5 [7, 10], .run 8 [10], .run 11 [], .pure 12, .pure 13, .pure 14, .pure 15, .pure 16, .take 18, .run 17 [18], .run 19 [], .run 20 [], .pure 21, .pure 22] mixed (by decide +kernel) (by simp only [withOps, MStep.num, List.filterMap_cons, List.filterMap_nil, List.getElem?_cons_succ, List.getElem?_cons_zero, Option.map_some]; rfl) ?_
            have hbo14 := hbo12.next (Below.refl _ _).drew
            generalize World.drew w13 = w14 at *
            simp -implicitDefEqProofs [go_sem, g5, g6, g7, g9, g10, g57, g58, g59]
            refine onTake_of (fun w' => Below w14.heap.size w14 w') y2 (Below.refl _ _) (fun w' hw => by simp -implicitDefEqProofs [go_sem, g9, (hbo14.ref.next hw).cell, rpC_5]) ?_
            simp -implicitDefEqProofs [go_sem, g5, g6, g7, g9, g10, g57, g58, g59]
            refine onTake_of (fun w' => Below w14.heap.size w14 w') x2 (Below.refl _ _) (fun w' hw => by simp -implicitDefEqProofs [go_sem, g9, (hbo14.ref.next hw).cell, rpC_4]) ?_
            have hheld := poolHeld_calls w14 hbo14.pd.pool hn2
            rw [hg2.well.lenH, ← hMH] at hheld
            simp -implicitDefEqProofs [go_sem, g5, g6, g7, g9, g10, g57, g58, g59]
            refine callE_of hheld ?_
            rintro v w15 ⟨rfl, b15⟩
            refine ⟨.inr (by simp -implicitDefEqProofs [go_sem] <;> exact b15), ?_⟩
            have hbo15 := hbo14.next b15
            have hcB := rCount_calls y2 (bL V1) w15 hbo15.sy hnB
            rw [bL_len, hg2.well.len, ← hMB] at hcB
            simp -implicitDefEqProofs [go_sem, g5, g6, g7, g9, g10, g57, g58, g59]
            refine callE_of hcB ?_
            rintro v w16 ⟨rfl, b16⟩
            have c16 := b15.trans (b16.mono b15.size)
            refine ⟨.inr (by simp -implicitDefEqProofs [go_sem] <;> exact c16), ?_⟩
            have hbo16 := hbo15.next b16
            have hcT := rCount_calls x2 V1.T w16 hbo16.sx hn2
            rw [hg2.well.len, ← hMT] at hcT
            simp -implicitDefEqProofs [go_sem, g5, g6, g7, g9, g10, g57, g58, g59]
            refine callE_of hcT ?_
            rintro v w17 ⟨rfl, b17⟩
            have c17 := c16.trans (b17.mono c16.size)
            refine ⟨.inr (by simp -implicitDefEqProofs [go_sem] <;> exact c17), ?_⟩
            have hbo17 := hbo16.next b17
            simp -implicitDefEqProofs [go_sem, g5, g6, g7, g9, g10, g57, g58, g59, hsub, kMH]
            refine onTake_of (fun w' => Below w17.heap.size w17 w') (.agg (rpC (shN m) x2 y2)) (Below.refl _ _) (fun w' hw => by simp -implicitDefEqProofs [go_sem, g9, (hbo17.ref.next hw).cell, rpC_0, rpC_1, rpC_2, rpC_3, rpC_4, rpC_5]; rfl) ?_
            have hall := poolAll_calls w17 hbo17.pd.pool hn2 hdat
            rw [← hLA] at hall
            simp -implicitDefEqProofs [go_sem, g5, g6, g7, g9, g10, g57, g58, g59]
            refine callE_of hall ?_
            rintro v w18 ⟨a18, c18, rfl, hv18, b18⟩
            refine ⟨.inr (by simp -implicitDefEqProofs [go_sem] <;> exact b18), ?_⟩
            have hbo18 := hbo17.next b18
            have hallR := rAll_calls (shN m) x2 y2 V1.T (bL V1) w18 hbo18.sx hbo18.sy hn2 hdat
            rw [← hLA] at hallR
            simp -implicitDefEqProofs [go_sem, g5, g6, g7, g9, g10, g57, g58, g59]
            refine callE_of hallR ?_
            rintro v w19 ⟨a19, c19, rfl, hv19, b19⟩
            have hbo19 := hbo18.next b19
            have c19' := b18.trans (b19.mono b18.size)
            refine ⟨.inr (by simp -implicitDefEqProofs [go_sem] <;> exact c19'), ?_⟩
            simp -implicitDefEqProofs [go_sem, g5, g6, g7, g9, g10, g57, g58, g59]
            refine callE_of (sameI_calls a18 a19 LA LA c18 c19 w19 (hv18.next b19) hv19) ?_
            rintro v w20 ⟨rfl, b20⟩
            have hbo20 := hbo19.next b20
            have c20' := c19'.trans (b20.mono c19'.size)
            refine ⟨.inr (by simp -implicitDefEqProofs [go_sem] <;> exact c20'), ?_⟩
            rw [decide_eq_true (rfl : LA = LA)]
            simp -implicitDefEqProofs [go_sem, g5, g6, g7, g9, g10, g57, g58, g59, k1]
            refine goE_round ⟨k + 1, V1, F, (some ⟨gn, 0, none⟩), (n + 1), cn, (xs ++ [u]), x2, y2, by omega, by omega, ?_⟩ ?_
            · simp -implicitDefEqProofs [go_sem, g5, g6, g7, g9, g10, g57, g58, g59]
              exact ⟨hg2.mono (by omega), hbo20⟩
            · simp -implicitDefEqProofs [go_sem, intOf, g59, k1]; omega
          · simp -implicitDefEqProofs [go_sem, g5, g6, g7, g9, g10, g57, g58, g59, ↓hrp2, ↓hld19, ↓hsR]
            generalize World.setRow _ _ _ = w13 at *
            have hbo12 := hboR
            have hn2 : V1.T.length ≤ 64 := by rw [hg2.well.len]; omega
            have hnB : (bL V1).length ≤ 64 := by rw [bL_len]; exact hn2
            have hmany := many_eq hg2.well m (Nat.le_refl _)
            have mz1 := manyL_le V1.H m
            have mz2 := manyL_le V1.T m
            obtain ⟨MH, hMH⟩ : ∃ M, M = manyL V1.H m := ⟨_, rfl⟩
            obtain ⟨MT, hMT⟩ : ∃ M, M = manyL V1.T m := ⟨_, rfl⟩
            obtain ⟨MB, hMB⟩ : ∃ M, M = manyL (bL V1) m := ⟨_, rfl⟩
            rw [← hMH, ← hMT, ← hMB] at hmany
            rw [← hMH] at mz1
            rw [← hMT] at mz2
            have hsub : (MB : Int) - (MT : Int) = (MH : Int) := by omega
            have kMH := IntWalk.i64_in (MH : Int) (by omega)
            obtain ⟨LA, hLA⟩ : ∃ LA, LA = allK (shN m) V1.T V1.T.length := ⟨_, rfl⟩
            refine drawE_mix [.pure 0, .pure 1, .pure 2, .pure 3, .pure 4, .pure 6, .pure 9, .take 7, .take 10, .run 5 [7, 10], .run 8 [10], .run 11 [], .pure 12, .pure 13, .pure 14, .pure 15, .pure 16, .take 18, .run 17 [18], .run 19 [], .run 20 [], .pure 21, .pure 22] mixed (by decide +kernel) (by simp only [withOps, MStep.num, List.filterMap_cons, List.filterMap_nil, List.getElem?_cons_succ, List.getElem?_cons_zero, Option.map_some]; rfl) ?_
            have hbo14 := hbo12.next (Below.refl _ _).drew
            generalize World.drew w13 = w14 at *
            simp -implicitDefEqProofs [go_sem, g5, g6, g7, g9, g10, g57, g58, g59]
            refine onTake_of (fun w' => Below w14.heap.size w14 w') y2 (Below.refl _ _) (fun w' hw => by simp -implicitDefEqProofs [go_sem, g9, (hbo14.ref.next hw).cell, rpC_5]) ?_
            simp -implicitDefEqProofs [go_sem, g5, g6, g7, g9, g10, g57, g58, g59]
            refine onTake_of (fun w' => Below w14.heap.size w14 w') x2 (Below.refl _ _) (fun w' hw => by simp -implicitDefEqProofs [go_sem, g9, (hbo14.ref.next hw).cell, rpC_4]) ?_
            have hheld := poolHeld_calls w14 hbo14.pd.pool hn2
            rw [hg2.well.lenH, ← hMH] at hheld
            simp -implicitDefEqProofs [go_sem, g5, g6, g7, g9, g10, g57, g58, g59]
            refine callE_of hheld ?_
            rintro v w15 ⟨rfl, b15⟩
            refine ⟨.inr (by simp -implicitDefEqProofs [go_sem] <;> exact b15), ?_⟩
            have hbo15 := hbo14.next b15
            have hcB := rCount_calls y2 (bL V1) w15 hbo15.sy hnB
            rw [bL_len, hg2.well.len, ← hMB] at hcB
            simp -implicitDefEqProofs [go_sem, g5, g6, g7, g9, g10, g57, g58, g59]
            refine callE_of hcB ?_
            rintro v w16 ⟨rfl, b16⟩
            have c16 := b15.trans (b16.mono b15.size)
            refine ⟨.inr (by simp -implicitDefEqProofs [go_sem] <;> exact c16), ?_⟩
            have hbo16 := hbo15.next b16
            have hcT := rCount_calls x2 V1.T w16 hbo16.sx hn2
            rw [hg2.well.len, ← hMT] at hcT
            simp -implicitDefEqProofs [go_sem, g5, g6, g7, g9, g10, g57, g58, g59]
            refine callE_of hcT ?_
            rintro v w17 ⟨rfl, b17⟩
            have c17 := c16.trans (b17.mono c16.size)
            refine ⟨.inr (by simp -implicitDefEqProofs [go_sem] <;> exact c17), ?_⟩
            have hbo17 := hbo16.next b17
            simp -implicitDefEqProofs [go_sem, g5, g6, g7, g9, g10, g57, g58, g59, hsub, kMH]
            refine onTake_of (fun w' => Below w17.heap.size w17 w') (.agg (rpC (shN m) x2 y2)) (Below.refl _ _) (fun w' hw => by simp -implicitDefEqProofs [go_sem, g9, (hbo17.ref.next hw).cell, rpC_0, rpC_1, rpC_2, rpC_3, rpC_4, rpC_5]; rfl) ?_
            have hall := poolAll_calls w17 hbo17.pd.pool hn2 hdat
            rw [← hLA] at hall
            simp -implicitDefEqProofs [go_sem, g5, g6, g7, g9, g10, g57, g58, g59]
            refine callE_of hall ?_
            rintro v w18 ⟨a18, c18, rfl, hv18, b18⟩
            refine ⟨.inr (by simp -implicitDefEqProofs [go_sem] <;> exact b18), ?_⟩
            have hbo18 := hbo17.next b18
            have hallR := rAll_calls (shN m) x2 y2 V1.T (bL V1) w18 hbo18.sx hbo18.sy hn2 hdat
            rw [← hLA] at hallR
            simp -implicitDefEqProofs [go_sem, g5, g6, g7, g9, g10, g57, g58, g59]
            refine callE_of hallR ?_
            rintro v w19 ⟨a19, c19, rfl, hv19, b19⟩
            have hbo19 := hbo18.next b19
            have c19' := b18.trans (b19.mono b18.size)
            refine ⟨.inr (by simp -implicitDefEqProofs [go_sem] <;> exact c19'), ?_⟩
            simp -implicitDefEqProofs [go_sem, g5, g6, g7, g9, g10, g57, g58, g59]
            refine callE_of (sameI_calls a18 a19 LA LA c18 c19 w19 (hv18.next b19) hv19) ?_
            rintro v w20 ⟨rfl, b20⟩
            have hbo20 := hbo19.next b20
            have c20' := c19'.trans (b20.mono c19'.size)
            refine ⟨.inr (by simp -implicitDefEqProofs [go_sem] <;> exact c20'), ?_⟩
            rw [decide_eq_true (rfl : LA = LA)]
            simp -implicitDefEqProofs [go_sem, g5, g6, g7, g9, g10, g57, g58, g59, k1]
            refine goE_round ⟨k + 1, V1, F, (some ⟨bt, ot, none⟩), n, c, xs, x2, y2, by omega, by omega, ?_⟩ ?_
            · simp -implicitDefEqProofs [go_sem, g5, g6, g7, g9, g10, g57, g58, g59]
              exact ⟨hg2.mono (by omega), hbo20⟩
            · simp -implicitDefEqProofs [go_sem, intOf, g59, k1]; omega
      · by_cases hn0 : n = 0
        · subst hn0
          have hd12 : (2 : Nat) = 1 ∨ (2 : Nat) = 2 := .inr rfl
          have hdw : IntKind.i64.wrap (1 + IntKind.i64.wrap ((IntKind.i64.wrap (uv 2#8)).tdiv 2)) = ((2 : Nat) : Int) := by decide +kernel
          simp -implicitDefEqProofs [go_sem, g5, g6, g7, g9, g10, g57, g58, g59, hB10.cell, A.c0, A.c1, hr, hdw]
          have hres := poolReserve_calls V 2 hd12 w10 hbo.pd (hT.next hbo.bel) hn hdat
          refine callE_of hres ?_
          obtain ⟨R0, hR0⟩ : ∃ R, R = reserveV (shN m) V 2 := ⟨_, rfl⟩
          have hg2 := hg.reserve (shN m) hd12
          have h00 := (well_reserve (s := shN m) hg.well hd12).2
          obtain ⟨u, hu1, hu2⟩ := res_small hg.well hm4 hd12
          rw [← hR0] at hg2 h00 hu1 ⊢
          rintro v w11 ⟨rfl, hPD11, t11⟩
          have hbo11 := hbo.turn (V' := R0.1) hPD11 t11
          have hldR := ldAll (P := Tryz.prog) hbo11.ref hstP rfl rpI rfl
          simp -implicitDefEqProofs [go_sem, g5, g6, g7, g9, g10, g57, g58, g59, ↓hldR]
          refine callE_of (rReserve_calls hg.well hm4 hd12 x y w11 hbo11.sx hbo11.sy) ?_
          rintro v w12 ⟨x2, y2, rfl, hx2, hy2, b12, fx, fy⟩
          rw [← hR0] at hx2 hy2 ⊢
          obtain ⟨V1, xx, ee⟩ := R0
          dsimp only at hg2 h00 hu1 hPD11 hbo11 hx2 hy2 ⊢
          subst hu1
          have hlT : 0 < V1.T.length := by rw [hg2.well.len]; omega
          have hlB : 0 < (bL V1).length := by rw [bL_len]; exact hlT
          have b12a : Below w11.heap.size w11 (w12.alloc (.cells (rpC (shN m) x2 y2) 35)) := b12.alloc b12.size _
          have bN : Below w12.heap.size w12 (w12.alloc (.cells (rpC (shN m) x2 y2) 35)) := (Below.refl _ _).alloc (Nat.le_refl _) _
          have hboR := hbo11.ref_step b12a (hx2.next bN) (hy2.next bN) fx fy hlT hlB
          have hrp2 : ∀ (w : World) (e : Env) (dst : Option Tmp) (x' y' : Operand) (ty' : TypeId) (pos : String) (af : Array Edge) (gd : Option (Nat × Bool)), ev e x' = .pointer (some ⟨w.heap.size, 0, none⟩) → ev e y' = .agg (rpC (shN m) x2 y2) →
            xOp Tryz.prog e ⟨dst, .store 35 x' y', ty', pos, af, gd⟩ (w.alloc (.cells #[.int .i64 0, .int .i64 0, .int .i64 0, .int .i64 0, .slice none 0 0, .slice none 0 0] 35)) = .ok .skip (w.alloc (.cells (rpC (shN m) x2 y2) 35)) :=
            stNew (P := Tryz.prog) rpI rfl (rpC_one (shN m) hx2 hy2)
          have hld19 := ldAll (P := Tryz.prog) (Blk.new w12 (rpC (shN m) x2 y2) 35) hstP rfl rpI rfl
          have hsR := stAll (P := Tryz.prog) (cs := rpC (shN m) x2 y2) (hbo11.ref.next b12a) rpI rfl (rpC_one (shN m) hx2 hy2)
          rcases h00 with rfl | ⟨rfl, -⟩
          · simp -implicitDefEqProofs [go_sem, g5, g6, g7, g9, g10, g57, g58, g59, ↓hrp2, ↓hld19, ↓hsR]
            generalize hwR : World.setRow _ _ _ = wR at *
            have hszR : wR.heap.size = w12.heap.size + 1 := by rw [← hwR]; simp
            obtain ⟨gn, cn, w13, hr13, hbo12⟩ := hboR.push (by omega) u hu2
            rw [hszR] at hr13
            simp -implicitDefEqProofs [go_sem, g5, g6, g7, g9, g10, g57, g58, g59, hr13]
            have hn2 : V1.T.length ≤ 64 := by rw [hg2.well.len]; omega
            have hnB : (bL V1).length ≤ 64 := by rw [bL_len]; exact hn2
            have hmany := many_eq hg2.well m (Nat.le_refl _)
            have mz1 := manyL_le V1.H m
            have mz2 := manyL_le V1.T m
            obtain ⟨MH, hMH⟩ : ∃ M, M = manyL V1.H m := ⟨_, rfl⟩
            obtain ⟨MT, hMT⟩ : ∃ M, M = manyL V1.T m := ⟨_, rfl⟩
            obtain ⟨MB, hMB⟩ : ∃ M, M = manyL (bL V1) m := ⟨_, rfl⟩
            rw [← hMH, ← hMT, ← hMB] at hmany
            rw [← hMH] at mz1
            rw [← hMT] at mz2
            have hsub : (MB : Int) - (MT : Int) = (MH : Int) := by omega
            have kMH := IntWalk.i64_in (MH : Int) (by omega)
            obtain ⟨LA, hLA⟩ : ∃ LA, LA = allK (shN m) V1.T V1.T.length := ⟨_, rfl⟩
            refine drawE_mix [.pure 0, .pure 1, .pure 2, .pure 3, .pure 4, .pure 6, .pure 9, .take 7, .take 10, .run 5 [7, 10], .run 8 [10], .run 11 [], .pure 12, .pure 13, .pure 14, .pure 15, .pure 16, .take 18, .run 17 [18], .run 19 [], .run 20 [], .pure 21, .pure 22] mixed (by decide +kernel) (by simp only [withOps, MStep.num, List.filterMap_cons, List.filterMap_nil, List.getElem?_cons_succ, List.getElem?_cons_zero, Option.map_some]; rfl) ?_
            have hbo14 := hbo12.next (Below.refl _ _).drew
            generalize World.drew w13 = w14 at *
            simp -implicitDefEqProofs [go_sem, g5, g6, g7, g9, g10, g57, g58, g59]
            refine onTake_of (fun w' => Below w14.heap.size w14 w') y2 (Below.refl _ _) (fun w' hw => by simp -implicitDefEqProofs [go_sem, g9, (hbo14.ref.next hw).cell, rpC_5]) ?_
            simp -implicitDefEqProofs [go_sem, g5, g6, g7, g9, g10, g57, g58, g59]
            refine onTake_of (fun w' => Below w14.heap.size w14 w') x2 (Below.refl _ _) (fun w' hw => by simp -implicitDefEqProofs [go_sem, g9, (hbo14.ref.next hw).cell, rpC_4]) ?_
            have hheld := poolHeld_calls w14 hbo14.pd.pool hn2
            rw [hg2.well.lenH, ← hMH] at hheld
            simp -implicitDefEqProofs [go_sem, g5, g6, g7, g9, g10, g57, g58, g59]
            refine callE_of hheld ?_
            rintro v w15 ⟨rfl, b15⟩
            refine ⟨.inr (by simp -implicitDefEqProofs [go_sem] <;> exact b15), ?_⟩
            have hbo15 := hbo14.next b15
            have hcB := rCount_calls y2 (bL V1) w15 hbo15.sy hnB
            rw [bL_len, hg2.well.len, ← hMB] at hcB
            simp -implicitDefEqProofs [go_sem, g5, g6, g7, g9, g10, g57, g58, g59]
            refine callE_of hcB ?_
            rintro v w16 ⟨rfl, b16⟩
            have c16 := b15.trans (b16.mono b15.size)
            refine ⟨.inr (by simp -implicitDefEqProofs [go_sem] <;> exact c16), ?_⟩
            have hbo16 := hbo15.next b16
            have hcT := rCount_calls x2 V1.T w16 hbo16.sx hn2
            rw [hg2.well.len, ← hMT] at hcT
            simp -implicitDefEqProofs [go_sem, g5, g6, g7, g9, g10, g57, g58, g59]
            refine callE_of hcT ?_
            rintro v w17 ⟨rfl, b17⟩
            have c17 := c16.trans (b17.mono c16.size)
            refine ⟨.inr (by simp -implicitDefEqProofs [go_sem] <;> exact c17), ?_⟩
            have hbo17 := hbo16.next b17
            simp -implicitDefEqProofs [go_sem, g5, g6, g7, g9, g10, g57, g58, g59, hsub, kMH]
            refine onTake_of (fun w' => Below w17.heap.size w17 w') (.agg (rpC (shN m) x2 y2)) (Below.refl _ _) (fun w' hw => by simp -implicitDefEqProofs [go_sem, g9, (hbo17.ref.next hw).cell, rpC_0, rpC_1, rpC_2, rpC_3, rpC_4, rpC_5]; rfl) ?_
            have hall := poolAll_calls w17 hbo17.pd.pool hn2 hdat
            rw [← hLA] at hall
            simp -implicitDefEqProofs [go_sem, g5, g6, g7, g9, g10, g57, g58, g59]
            refine callE_of hall ?_
            rintro v w18 ⟨a18, c18, rfl, hv18, b18⟩
            refine ⟨.inr (by simp -implicitDefEqProofs [go_sem] <;> exact b18), ?_⟩
            have hbo18 := hbo17.next b18
            have hallR := rAll_calls (shN m) x2 y2 V1.T (bL V1) w18 hbo18.sx hbo18.sy hn2 hdat
            rw [← hLA] at hallR
            simp -implicitDefEqProofs [go_sem, g5, g6, g7, g9, g10, g57, g58, g59]
            refine callE_of hallR ?_
            rintro v w19 ⟨a19, c19, rfl, hv19, b19⟩
            have hbo19 := hbo18.next b19
            have c19' := b18.trans (b19.mono b18.size)
            refine ⟨.inr (by simp -implicitDefEqProofs [go_sem] <;> exact c19'), ?_⟩
            simp -implicitDefEqProofs [go_sem, g5, g6, g7, g9, g10, g57, g58, g59]
            refine callE_of (sameI_calls a18 a19 LA LA c18 c19 w19 (hv18.next b19) hv19) ?_
            rintro v w20 ⟨rfl, b20⟩
            have hbo20 := hbo19.next b20
            have c20' := c19'.trans (b20.mono c19'.size)
            refine ⟨.inr (by simp -implicitDefEqProofs [go_sem] <;> exact c20'), ?_⟩
            rw [decide_eq_true (rfl : LA = LA)]
            simp -implicitDefEqProofs [go_sem, g5, g6, g7, g9, g10, g57, g58, g59, k1]
            refine goE_round ⟨k + 1, V1, F, (some ⟨gn, 0, none⟩), (0 + 1), cn, (xs ++ [u]), x2, y2, by omega, by omega, ?_⟩ ?_
            · simp -implicitDefEqProofs [go_sem, g5, g6, g7, g9, g10, g57, g58, g59]
              exact ⟨hg2.mono (by omega), hbo20⟩
            · simp -implicitDefEqProofs [go_sem, intOf, g59, k1]; omega
          · simp -implicitDefEqProofs [go_sem, g5, g6, g7, g9, g10, g57, g58, g59, ↓hrp2, ↓hld19, ↓hsR]
            generalize World.setRow _ _ _ = w13 at *
            have hbo12 := hboR
            have hn2 : V1.T.length ≤ 64 := by rw [hg2.well.len]; omega
            have hnB : (bL V1).length ≤ 64 := by rw [bL_len]; exact hn2
            have hmany := many_eq hg2.well m (Nat.le_refl _)
            have mz1 := manyL_le V1.H m
            have mz2 := manyL_le V1.T m
            obtain ⟨MH, hMH⟩ : ∃ M, M = manyL V1.H m := ⟨_, rfl⟩
            obtain ⟨MT, hMT⟩ : ∃ M, M = manyL V1.T m := ⟨_, rfl⟩
            obtain ⟨MB, hMB⟩ : ∃ M, M = manyL (bL V1) m := ⟨_, rfl⟩
            rw [← hMH, ← hMT, ← hMB] at hmany
            rw [← hMH] at mz1
            rw [← hMT] at mz2
            have hsub : (MB : Int) - (MT : Int) = (MH : Int) := by omega
            have kMH := IntWalk.i64_in (MH : Int) (by omega)
            obtain ⟨LA, hLA⟩ : ∃ LA, LA = allK (shN m) V1.T V1.T.length := ⟨_, rfl⟩
            refine drawE_mix [.pure 0, .pure 1, .pure 2, .pure 3, .pure 4, .pure 6, .pure 9, .take 7, .take 10, .run 5 [7, 10], .run 8 [10], .run 11 [], .pure 12, .pure 13, .pure 14, .pure 15, .pure 16, .take 18, .run 17 [18], .run 19 [], .run 20 [], .pure 21, .pure 22] mixed (by decide +kernel) (by simp only [withOps, MStep.num, List.filterMap_cons, List.filterMap_nil, List.getElem?_cons_succ, List.getElem?_cons_zero, Option.map_some]; rfl) ?_
            have hbo14 := hbo12.next (Below.refl _ _).drew
            generalize World.drew w13 = w14 at *
            simp -implicitDefEqProofs [go_sem, g5, g6, g7, g9, g10, g57, g58, g59]
            refine onTake_of (fun w' => Below w14.heap.size w14 w') y2 (Below.refl _ _) (fun w' hw => by simp -implicitDefEqProofs [go_sem, g9, (hbo14.ref.next hw).cell, rpC_5]) ?_
            simp -implicitDefEqProofs [go_sem, g5, g6, g7, g9, g10, g57, g58, g59]
            refine onTake_of (fun w' => Below w14.heap.size w14 w') x2 (Below.refl _ _) (fun w' hw => by simp -implicitDefEqProofs [go_sem, g9, (hbo14.ref.next hw).cell, rpC_4]) ?_
            have hheld := poolHeld_calls w14 hbo14.pd.pool hn2
            rw [hg2.well.lenH, ← hMH] at hheld
            simp -implicitDefEqProofs [go_sem, g5, g6, g7, g9, g10, g57, g58, g59]
            refine callE_of hheld ?_
            rintro v w15 ⟨rfl, b15⟩
            refine ⟨.inr (by simp -implicitDefEqProofs [go_sem] <;> exact b15), ?_⟩
            have hbo15 := hbo14.next b15
            have hcB := rCount_calls y2 (bL V1) w15 hbo15.sy hnB
            rw [bL_len, hg2.well.len, ← hMB] at hcB
            simp -implicitDefEqProofs [go_sem, g5, g6, g7, g9, g10, g57, g58, g59]
            refine callE_of hcB ?_
            rintro v w16 ⟨rfl, b16⟩
            have c16 := b15.trans (b16.mono b15.size)
            refine ⟨.inr (by simp -implicitDefEqProofs [go_sem] <;> exact c16), ?_⟩
            have hbo16 := hbo15.next b16
            have hcT := rCount_calls x2 V1.T w16 hbo16.sx hn2
            rw [hg2.well.len, ← hMT] at hcT
            simp -implicitDefEqProofs [go_sem, g5, g6, g7, g9, g10, g57, g58, g59]
            refine callE_of hcT ?_
            rintro v w17 ⟨rfl, b17⟩
            have c17 := c16.trans (b17.mono c16.size)
            refine ⟨.inr (by simp -implicitDefEqProofs [go_sem] <;> exact c17), ?_⟩
            have hbo17 := hbo16.next b17
            simp -implicitDefEqProofs [go_sem, g5, g6, g7, g9, g10, g57, g58, g59, hsub, kMH]
            refine onTake_of (fun w' => Below w17.heap.size w17 w') (.agg (rpC (shN m) x2 y2)) (Below.refl _ _) (fun w' hw => by simp -implicitDefEqProofs [go_sem, g9, (hbo17.ref.next hw).cell, rpC_0, rpC_1, rpC_2, rpC_3, rpC_4, rpC_5]; rfl) ?_
            have hall := poolAll_calls w17 hbo17.pd.pool hn2 hdat
            rw [← hLA] at hall
            simp -implicitDefEqProofs [go_sem, g5, g6, g7, g9, g10, g57, g58, g59]
            refine callE_of hall ?_
            rintro v w18 ⟨a18, c18, rfl, hv18, b18⟩
            refine ⟨.inr (by simp -implicitDefEqProofs [go_sem] <;> exact b18), ?_⟩
            have hbo18 := hbo17.next b18
            have hallR := rAll_calls (shN m) x2 y2 V1.T (bL V1) w18 hbo18.sx hbo18.sy hn2 hdat
            rw [← hLA] at hallR
            simp -implicitDefEqProofs [go_sem, g5, g6, g7, g9, g10, g57, g58, g59]
            refine callE_of hallR ?_
            rintro v w19 ⟨a19, c19, rfl, hv19, b19⟩
            have hbo19 := hbo18.next b19
            have c19' := b18.trans (b19.mono b18.size)
            refine ⟨.inr (by simp -implicitDefEqProofs [go_sem] <;> exact c19'), ?_⟩
            simp -implicitDefEqProofs [go_sem, g5, g6, g7, g9, g10, g57, g58, g59]
            refine callE_of (sameI_calls a18 a19 LA LA c18 c19 w19 (hv18.next b19) hv19) ?_
            rintro v w20 ⟨rfl, b20⟩
            have hbo20 := hbo19.next b20
            have c20' := c19'.trans (b20.mono c19'.size)
            refine ⟨.inr (by simp -implicitDefEqProofs [go_sem] <;> exact c20'), ?_⟩
            rw [decide_eq_true (rfl : LA = LA)]
            simp -implicitDefEqProofs [go_sem, g5, g6, g7, g9, g10, g57, g58, g59, k1]
            refine goE_round ⟨k + 1, V1, F, a, 0, c, xs, x2, y2, by omega, by omega, ?_⟩ ?_
            · simp -implicitDefEqProofs [go_sem, g5, g6, g7, g9, g10, g57, g58, g59]
              exact ⟨hg2.mono (by omega), hbo20⟩
            · simp -implicitDefEqProofs [go_sem, intOf, g59, k1]; omega
        · have hd12 : (2 : Nat) = 1 ∨ (2 : Nat) = 2 := .inr rfl
          have hdw : IntKind.i64.wrap (1 + IntKind.i64.wrap ((IntKind.i64.wrap (uv 2#8)).tdiv 2)) = ((2 : Nat) : Int) := by decide +kernel
          have hn1 : 0 < n := by omega
          obtain ⟨r, j, i1, i2, i3, i4, i5⟩ := idx_of (at_ := A.at_) hn1 (by omega)
          obtain ⟨bt, ot, z, rfl, gx, hxm, hz, -⟩ := hbo.tl.get i5
          have s1 := IntWalk.i64_in r (by omega)
          have s2 := IntWalk.i64_in (r + (n : Int)) (by omega)
          have s3 := IntWalk.i64_in (j : Int) (by omega)
          have i5' : (j : Int) < n := by omega
          have ho : I64 (z : Int) := by unfold I64; omega
          simp -implicitDefEqProofs [go_sem, g5, g6, g7, g9, g10, g57, g58, g59, hB10.cell, A.c0, A.c1, hr, hn1, hn0, i1, i4, s1, s2, s3, gx, i5, i5', hdw]
          have hres := poolReserve_calls V 2 hd12 w10 hbo.pd (hT.next hbo.bel) hn hdat
          refine callE_of hres ?_
          obtain ⟨R0, hR0⟩ : ∃ R, R = reserveV (shN m) V 2 := ⟨_, rfl⟩
          have hg2 := hg.reserve (shN m) hd12
          have h00 := (well_reserve (s := shN m) hg.well hd12).2
          obtain ⟨u, hu1, hu2⟩ := res_small hg.well hm4 hd12
          rw [← hR0] at hg2 h00 hu1 ⊢
          rintro v w11 ⟨rfl, hPD11, t11⟩
          have hbo11 := hbo.turn (V' := R0.1) hPD11 t11
          have hldR := ldAll (P := Tryz.prog) hbo11.ref hstP rfl rpI rfl
          simp -implicitDefEqProofs [go_sem, g5, g6, g7, g9, g10, g57, g58, g59, ↓hldR]
          refine callE_of (rReserve_calls hg.well hm4 hd12 x y w11 hbo11.sx hbo11.sy) ?_
          rintro v w12 ⟨x2, y2, rfl, hx2, hy2, b12, fx, fy⟩
          rw [← hR0] at hx2 hy2 ⊢
          obtain ⟨V1, xx, ee⟩ := R0
          dsimp only at hg2 h00 hu1 hPD11 hbo11 hx2 hy2 ⊢
          subst hu1
          have hlT : 0 < V1.T.length := by rw [hg2.well.len]; omega
          have hlB : 0 < (bL V1).length := by rw [bL_len]; exact hlT
          have b12a : Below w11.heap.size w11 (w12.alloc (.cells (rpC (shN m) x2 y2) 35)) := b12.alloc b12.size _
          have bN : Below w12.heap.size w12 (w12.alloc (.cells (rpC (shN m) x2 y2) 35)) := (Below.refl _ _).alloc (Nat.le_refl _) _
          have hboR := hbo11.ref_step b12a (hx2.next bN) (hy2.next bN) fx fy hlT hlB
          have hrp2 : ∀ (w : World) (e : Env) (dst : Option Tmp) (x' y' : Operand) (ty' : TypeId) (pos : String) (af : Array Edge) (gd : Option (Nat × Bool)), ev e x' = .pointer (some ⟨w.heap.size, 0, none⟩) → ev e y' = .agg (rpC (shN m) x2 y2) →
            xOp Tryz.prog e ⟨dst, .store 35 x' y', ty', pos, af, gd⟩ (w.alloc (.cells #[.int .i64 0, .int .i64 0, .int .i64 0, .int .i64 0, .slice none 0 0, .slice none 0 0] 35)) = .ok .skip (w.alloc (.cells (rpC (shN m) x2 y2) 35)) :=
            stNew (P := Tryz.prog) rpI rfl (rpC_one (shN m) hx2 hy2)
          have hld19 := ldAll (P := Tryz.prog) (Blk.new w12 (rpC (shN m) x2 y2) 35) hstP rfl rpI rfl
          have hsR := stAll (P := Tryz.prog) (cs := rpC (shN m) x2 y2) (hbo11.ref.next b12a) rpI rfl (rpC_one (shN m) hx2 hy2)
          rcases h00 with rfl | ⟨rfl, -⟩
          · simp -implicitDefEqProofs [go_sem, g5, g6, g7, g9, g10, g57, g58, g59, ↓hrp2, ↓hld19, ↓hsR]
            generalize hwR : World.setRow _ _ _ = wR at *
            have hszR : wR.heap.size = w12.heap.size + 1 := by rw [← hwR]; simp
            obtain ⟨gn, cn, w13, hr13, hbo12⟩ := hboR.push (by omega) u hu2
            rw [hszR] at hr13
            simp -implicitDefEqProofs [go_sem, g5, g6, g7, g9, g10, g57, g58, g59, hr13]
            have hn2 : V1.T.length ≤ 64 := by rw [hg2.well.len]; omega
            have hnB : (bL V1).length ≤ 64 := by rw [bL_len]; exact hn2
            have hmany := many_eq hg2.well m (Nat.le_refl _)
            have mz1 := manyL_le V1.H m
            have mz2 := manyL_le V1.T m
            obtain ⟨MH, hMH⟩ : ∃ M, M = manyL V1.H m := ⟨_, rfl⟩
            obtain ⟨MT, hMT⟩ : ∃ M, M = manyL V1.T m := ⟨_, rfl⟩
            obtain ⟨MB, hMB⟩ : ∃ M, M = manyL (bL V1) m := ⟨_, rfl⟩
            rw [← hMH, ← hMT, ← hMB] at hmany
            rw [← hMH] at mz1
            rw [← hMT] at mz2
            have hsub : (MB : Int) - (MT : Int) = (MH : Int) := by omega
            have kMH := IntWalk.i64_in (MH : Int) (by omega)
            obtain ⟨LA, hLA⟩ : ∃ LA, LA = allK (shN m) V1.T V1.T.length := ⟨_, rfl⟩
            refine drawE_mix [.pure 0, .pure 1, .pure 2, .pure 3, .pure 4, .pure 6, .pure 9, .take 7, .take 10, .run 5 [7, 10], .run 8 [10], .run 11 [], .pure 12, .pure 13, .pure 14, .pure 15, .pure 16, .take 18, .run 17 [18], .run 19 [], .run 20 [], .pure 21, .pure 22] mixed (by decide +kernel) (by simp only [withOps, MStep.num, List.filterMap_cons, List.filterMap_nil, List.getElem?_cons_succ, List.getElem?_cons_zero, Option.map_some]; rfl) ?_
            have hbo14 := hbo12.next (Below.refl _ _).drew
            generalize World.drew w13 = w14 at *
            simp -implicitDefEqProofs [go_sem, g5, g6, g7, g9, g10, g57, g58, g59]
            refine onTake_of (fun w' => Below w14.heap.size w14 w') y2 (Below.refl _ _) (fun w' hw => by simp -implicitDefEqProofs [go_sem, g9, (hbo14.ref.next hw).cell, rpC_5]) ?_
            simp -implicitDefEqProofs [go_sem, g5, g6, g7, g9, g10, g57, g58, g59]
            refine onTake_of (fun w' => Below w14.heap.size w14 w') x2 (Below.refl _ _) (fun w' hw => by simp -implicitDefEqProofs [go_sem, g9, (hbo14.ref.next hw).cell, rpC_4]) ?_
            have hheld := poolHeld_calls w14 hbo14.pd.pool hn2
            rw [hg2.well.lenH, ← hMH] at hheld
            simp -implicitDefEqProofs [go_sem, g5, g6, g7, g9, g10, g57, g58, g59]
            refine callE_of hheld ?_
            rintro v w15 ⟨rfl, b15⟩
            refine ⟨.inr (by simp -implicitDefEqProofs [go_sem] <;> exact b15), ?_⟩
            have hbo15 := hbo14.next b15
            have hcB := rCount_calls y2 (bL V1) w15 hbo15.sy hnB
            rw [bL_len, hg2.well.len, ← hMB] at hcB
            simp -implicitDefEqProofs [go_sem, g5, g6, g7, g9, g10, g57, g58, g59]
            refine callE_of hcB ?_
            rintro v w16 ⟨rfl, b16⟩
            have c16 := b15.trans (b16.mono b15.size)
            refine ⟨.inr (by simp -implicitDefEqProofs [go_sem] <;> exact c16), ?_⟩
            have hbo16 := hbo15.next b16
            have hcT := rCount_calls x2 V1.T w16 hbo16.sx hn2
            rw [hg2.well.len, ← hMT] at hcT
            simp -implicitDefEqProofs [go_sem, g5, g6, g7, g9, g10, g57, g58, g59]
            refine callE_of hcT ?_
            rintro v w17 ⟨rfl, b17⟩
            have c17 := c16.trans (b17.mono c16.size)
            refine ⟨.inr (by simp -implicitDefEqProofs [go_sem] <;> exact c17), ?_⟩
            have hbo17 := hbo16.next b17
            simp -implicitDefEqProofs [go_sem, g5, g6, g7, g9, g10, g57, g58, g59, hsub, kMH]
            refine onTake_of (fun w' => Below w17.heap.size w17 w') (.agg (rpC (shN m) x2 y2)) (Below.refl _ _) (fun w' hw => by simp -implicitDefEqProofs [go_sem, g9, (hbo17.ref.next hw).cell, rpC_0, rpC_1, rpC_2, rpC_3, rpC_4, rpC_5]; rfl) ?_
            have hall := poolAll_calls w17 hbo17.pd.pool hn2 hdat
            rw [← hLA] at hall
            simp -implicitDefEqProofs [go_sem, g5, g6, g7, g9, g10, g57, g58, g59]
            refine callE_of hall ?_
            rintro v w18 ⟨a18, c18, rfl, hv18, b18⟩
            refine ⟨.inr (by simp -implicitDefEqProofs [go_sem] <;> exact b18), ?_⟩
            have hbo18 := hbo17.next b18
            have hallR := rAll_calls (shN m) x2 y2 V1.T (bL V1) w18 hbo18.sx hbo18.sy hn2 hdat
            rw [← hLA] at hallR
            simp -implicitDefEqProofs [go_sem, g5, g6, g7, g9, g10, g57, g58, g59]
            refine callE_of hallR ?_
            rintro v w19 ⟨a19, c19, rfl, hv19, b19⟩
            have hbo19 := hbo18.next b19
            have c19' := b18.trans (b19.mono b18.size)
            refine ⟨.inr (by simp -implicitDefEqProofs [go_sem] <;> exact c19'), ?_⟩
            simp -implicitDefEqProofs [go_sem, g5, g6, g7, g9, g10, g57, g58, g59]
            refine callE_of (sameI_calls a18 a19 LA LA c18 c19 w19 (hv18.next b19) hv19) ?_
            rintro v w20 ⟨rfl, b20⟩
            have hbo20 := hbo19.next b20
            have c20' := c19'.trans (b20.mono c19'.size)
            refine ⟨.inr (by simp -implicitDefEqProofs [go_sem] <;> exact c20'), ?_⟩
            rw [decide_eq_true (rfl : LA = LA)]
            simp -implicitDefEqProofs [go_sem, g5, g6, g7, g9, g10, g57, g58, g59, k1]
            refine goE_round ⟨k + 1, V1, F, (some ⟨gn, 0, none⟩), (n + 1), cn, (xs ++ [u]), x2, y2, by omega, by omega, ?_⟩ ?_
            · simp -implicitDefEqProofs [go_sem, g5, g6, g7, g9, g10, g57, g58, g59]
              exact ⟨hg2.mono (by omega), hbo20⟩
            · simp -implicitDefEqProofs [go_sem, intOf, g59, k1]; omega
          · simp -implicitDefEqProofs [go_sem, g5, g6, g7, g9, g10, g57, g58, g59, ↓hrp2, ↓hld19, ↓hsR]
            generalize World.setRow _ _ _ = w13 at *
            have hbo12 := hboR
            have hn2 : V1.T.length ≤ 64 := by rw [hg2.well.len]; omega
            have hnB : (bL V1).length ≤ 64 := by rw [bL_len]; exact hn2
            have hmany := many_eq hg2.well m (Nat.le_refl _)
            have mz1 := manyL_le V1.H m
            have mz2 := manyL_le V1.T m
            obtain ⟨MH, hMH⟩ : ∃ M, M = manyL V1.H m := ⟨_, rfl⟩
            obtain ⟨MT, hMT⟩ : ∃ M, M = manyL V1.T m := ⟨_, rfl⟩
            obtain ⟨MB, hMB⟩ : ∃ M, M = manyL (bL V1) m := ⟨_, rfl⟩
            rw [← hMH, ← hMT, ← hMB] at hmany
            rw [← hMH] at mz1
            rw [← hMT] at mz2
            have hsub : (MB : Int) - (MT : Int) = (MH : Int) := by omega
            have kMH := IntWalk.i64_in (MH : Int) (by omega)
            obtain ⟨LA, hLA⟩ : ∃ LA, LA = allK (shN m) V1.T V1.T.length := ⟨_, rfl⟩
            refine drawE_mix [.pure 0, .pure 1, .pure 2, .pure 3, .pure 4, .pure 6, .pure 9, .take 7, .take 10, .run 5 [7, 10], .run 8 [10], .run 11 [], .pure 12, .pure 13, .pure 14, .pure 15, .pure 16, .take 18, .run 17 [18], .run 19 [], .run 20 [], .pure 21, .pure 22] mixed (by decide +kernel) (by simp only [withOps, MStep.num, List.filterMap_cons, List.filterMap_nil, List.getElem?_cons_succ, List.getElem?_cons_zero, Option.map_some]; rfl) ?_
            have hbo14 := hbo12.next (Below.refl _ _).drew
            generalize World.drew w13 = w14 at *
            simp -implicitDefEqProofs [go_sem, g5, g6, g7, g9, g10, g57, g58, g59]
            refine onTake_of (fun w' => Below w14.heap.size w14 w') y2 (Below.refl _ _) (fun w' hw => by simp -implicitDefEqProofs [go_sem, g9, (hbo14.ref.next hw).cell, rpC_5]) ?_
            simp -implicitDefEqProofs [go_sem, g5, g6, g7, g9, g10, g57, g58, g59]
            refine onTake_of (fun w' => Below w14.heap.size w14 w') x2 (Below.refl _ _) (fun w' hw => by simp -implicitDefEqProofs [go_sem, g9, (hbo14.ref.next hw).cell, rpC_4]) ?_
            have hheld := poolHeld_calls w14 hbo14.pd.pool hn2
            rw [hg2.well.lenH, ← hMH] at hheld
            simp -implicitDefEqProofs [go_sem, g5, g6, g7, g9, g10, g57, g58, g59]
            refine callE_of hheld ?_
            rintro v w15 ⟨rfl, b15⟩
            refine ⟨.inr (by simp -implicitDefEqProofs [go_sem] <;> exact b15), ?_⟩
            have hbo15 := hbo14.next b15
            have hcB := rCount_calls y2 (bL V1) w15 hbo15.sy hnB
            rw [bL_len, hg2.well.len, ← hMB] at hcB
            simp -implicitDefEqProofs [go_sem, g5, g6, g7, g9, g10, g57, g58, g59]
            refine callE_of hcB ?_
            rintro v w16 ⟨rfl, b16⟩
            have c16 := b15.trans (b16.mono b15.size)
            refine ⟨.inr (by simp -implicitDefEqProofs [go_sem] <;> exact c16), ?_⟩
            have hbo16 := hbo15.next b16
            have hcT := rCount_calls x2 V1.T w16 hbo16.sx hn2
            rw [hg2.well.len, ← hMT] at hcT
            simp -implicitDefEqProofs [go_sem, g5, g6, g7, g9, g10, g57, g58, g59]
            refine callE_of hcT ?_
            rintro v w17 ⟨rfl, b17⟩
            have c17 := c16.trans (b17.mono c16.size)
            refine ⟨.inr (by simp -implicitDefEqProofs [go_sem] <;> exact c17), ?_⟩
            have hbo17 := hbo16.next b17
            simp -implicitDefEqProofs [go_sem, g5, g6, g7, g9, g10, g57, g58, g59, hsub, kMH]
            refine onTake_of (fun w' => Below w17.heap.size w17 w') (.agg (rpC (shN m) x2 y2)) (Below.refl _ _) (fun w' hw => by simp -implicitDefEqProofs [go_sem, g9, (hbo17.ref.next hw).cell, rpC_0, rpC_1, rpC_2, rpC_3, rpC_4, rpC_5]; rfl) ?_
            have hall := poolAll_calls w17 hbo17.pd.pool hn2 hdat
            rw [← hLA] at hall
            simp -implicitDefEqProofs [go_sem, g5, g6, g7, g9, g10, g57, g58, g59]
            refine callE_of hall ?_
            rintro v w18 ⟨a18, c18, rfl, hv18, b18⟩
            refine ⟨.inr (by simp -implicitDefEqProofs [go_sem] <;> exact b18), ?_⟩
            have hbo18 := hbo17.next b18
            have hallR := rAll_calls (shN m) x2 y2 V1.T (bL V1) w18 hbo18.sx hbo18.sy hn2 hdat
            rw [← hLA] at hallR
            simp -implicitDefEqProofs [go_sem, g5, g6, g7, g9, g10, g57, g58, g59]
            refine callE_of hallR ?_
            rintro v w19 ⟨a19, c19, rfl, hv19, b19⟩
            have hbo19 := hbo18.next b19
            have c19' := b18.trans (b19.mono b18.size)
            refine ⟨.inr (by simp -implicitDefEqProofs [go_sem] <;> exact c19'), ?_⟩
            simp -implicitDefEqProofs [go_sem, g5, g6, g7, g9, g10, g57, g58, g59]
            refine callE_of (sameI_calls a18 a19 LA LA c18 c19 w19 (hv18.next b19) hv19) ?_
            rintro v w20 ⟨rfl, b20⟩
            have hbo20 := hbo19.next b20
            have c20' := c19'.trans (b20.mono c19'.size)
            refine ⟨.inr (by simp -implicitDefEqProofs [go_sem] <;> exact c20'), ?_⟩
            rw [decide_eq_true (rfl : LA = LA)]
            simp -implicitDefEqProofs [go_sem, g5, g6, g7, g9, g10, g57, g58, g59, k1]
            refine goE_round ⟨k + 1, V1, F, (some ⟨bt, ot, none⟩), n, c, xs, x2, y2, by omega, by omega, ?_⟩ ?_
            · simp -implicitDefEqProofs [go_sem, g5, g6, g7, g9, g10, g57, g58, g59]
              exact ⟨hg2.mono (by omega), hbo20⟩
            · simp -implicitDefEqProofs [go_sem, intOf, g59, k1]; omega
      · by_cases hn0 : n = 0
        · subst hn0
          have ho := hoff
          simp -implicitDefEqProofs [go_sem, g5, g6, g7, g9, g10, g57, g58, g59, hB10.cell, A.c0, A.c1, hr]
          have hact := poolTake_calls V A.at_ w10 hbo.pd rfl hn (by omega) ho hdat
          refine callE_of hact ?_
          obtain ⟨R, hR⟩ : ∃ R, R = takeV (shN m) V A.at_ := ⟨_, rfl⟩
          have hg2 := hg.take hm4 (shN m) A.at_
          rw [← hR] at hg2 ⊢
          rintro v w11 ⟨rfl, F11, hPD11, t11⟩
          have hbo11 := hbo.turn (V' := R.1) hPD11 t11
          have hldR := ldAll (P := Tryz.prog) hbo11.ref hstP rfl rpI rfl
          simp -implicitDefEqProofs [go_sem, g5, g6, g7, g9, g10, g57, g58, g59, ↓hldR]
          refine callE_of (rTake_calls hg.well hm4 x y A.at_ w11 hbo11.sx hbo11.sy) ?_
          rintro v w12 ⟨x2, y2, rfl, hx2, hy2, b12, fx, fy⟩
          rw [← hR] at hx2 hy2 ⊢
          have hlT : 0 < R.1.T.length := by rw [hg2.well.len]; omega
          have hlB : 0 < (bL R.1).length := by rw [bL_len]; exact hlT
          have hbo12 := hbo11.ref_step b12 hx2 hy2 fx fy hlT hlB
          have hsR := stAll (P := Tryz.prog) (cs := rpC (shN m) x2 y2) (hbo11.ref.next b12) rpI rfl (rpC_one (shN m) hx2 hy2)
          simp -implicitDefEqProofs [go_sem, g5, g6, g7, g9, g10, g57, g58, g59, ↓hsR]
          generalize World.setRow w12 _ _ = w13 at *
          have hn2 : R.1.T.length ≤ 64 := by rw [hg2.well.len]; omega
          have hnB : (bL R.1).length ≤ 64 := by rw [bL_len]; exact hn2
          have hmany := many_eq hg2.well m (Nat.le_refl _)
          have mz1 := manyL_le R.1.H m
          have mz2 := manyL_le R.1.T m
          obtain ⟨MH, hMH⟩ : ∃ M, M = manyL R.1.H m := ⟨_, rfl⟩
          obtain ⟨MT, hMT⟩ : ∃ M, M = manyL R.1.T m := ⟨_, rfl⟩
          obtain ⟨MB, hMB⟩ : ∃ M, M = manyL (bL R.1) m := ⟨_, rfl⟩
          rw [← hMH, ← hMT, ← hMB] at hmany
          rw [← hMH] at mz1
          rw [← hMT] at mz2
          have hsub : (MB : Int) - (MT : Int) = (MH : Int) := by omega
          have kMH := IntWalk.i64_in (MH : Int) (by omega)
          obtain ⟨LA, hLA⟩ : ∃ LA, LA = allK (shN m) R.1.T R.1.T.length := ⟨_, rfl⟩
          refine drawE_mix [.pure 0, .pure 1, .pure 2, .pure 3, .pure 4, .pure 6, .pure 9, .take 7, .take 10, .run 5 [7, 10], .run 8 [10], .run 11 [], .pure 12, .pure 13, .pure 14, .pure 15, .pure 16, .take 18, .run 17 [18], .run 19 [], .run 20 [], .pure 21, .pure 22] mixed (by decide +kernel) (by simp only [withOps, MStep.num, List.filterMap_cons, List.filterMap_nil, List.getElem?_cons_succ, List.getElem?_cons_zero, Option.map_some]; rfl) ?_
          have hbo14 := hbo12.next (Below.refl _ _).drew
          generalize World.drew w13 = w14 at *
          simp -implicitDefEqProofs [go_sem, g5, g6, g7, g9, g10, g57, g58, g59]
          refine onTake_of (fun w' => Below w14.heap.size w14 w') y2 (Below.refl _ _) (fun w' hw => by simp -implicitDefEqProofs [go_sem, g9, (hbo14.ref.next hw).cell, rpC_5]) ?_
          simp -implicitDefEqProofs [go_sem, g5, g6, g7, g9, g10, g57, g58, g59]
          refine onTake_of (fun w' => Below w14.heap.size w14 w') x2 (Below.refl _ _) (fun w' hw => by simp -implicitDefEqProofs [go_sem, g9, (hbo14.ref.next hw).cell, rpC_4]) ?_
          have hheld := poolHeld_calls w14 hbo14.pd.pool hn2
          rw [hg2.well.lenH, ← hMH] at hheld
          simp -implicitDefEqProofs [go_sem, g5, g6, g7, g9, g10, g57, g58, g59]
          refine callE_of hheld ?_
          rintro v w15 ⟨rfl, b15⟩
          refine ⟨.inr (by simp -implicitDefEqProofs [go_sem] <;> exact b15), ?_⟩
          have hbo15 := hbo14.next b15
          have hcB := rCount_calls y2 (bL R.1) w15 hbo15.sy hnB
          rw [bL_len, hg2.well.len, ← hMB] at hcB
          simp -implicitDefEqProofs [go_sem, g5, g6, g7, g9, g10, g57, g58, g59]
          refine callE_of hcB ?_
          rintro v w16 ⟨rfl, b16⟩
          have c16 := b15.trans (b16.mono b15.size)
          refine ⟨.inr (by simp -implicitDefEqProofs [go_sem] <;> exact c16), ?_⟩
          have hbo16 := hbo15.next b16
          have hcT := rCount_calls x2 R.1.T w16 hbo16.sx hn2
          rw [hg2.well.len, ← hMT] at hcT
          simp -implicitDefEqProofs [go_sem, g5, g6, g7, g9, g10, g57, g58, g59]
          refine callE_of hcT ?_
          rintro v w17 ⟨rfl, b17⟩
          have c17 := c16.trans (b17.mono c16.size)
          refine ⟨.inr (by simp -implicitDefEqProofs [go_sem] <;> exact c17), ?_⟩
          have hbo17 := hbo16.next b17
          simp -implicitDefEqProofs [go_sem, g5, g6, g7, g9, g10, g57, g58, g59, hsub, kMH]
          refine onTake_of (fun w' => Below w17.heap.size w17 w') (.agg (rpC (shN m) x2 y2)) (Below.refl _ _) (fun w' hw => by simp -implicitDefEqProofs [go_sem, g9, (hbo17.ref.next hw).cell, rpC_0, rpC_1, rpC_2, rpC_3, rpC_4, rpC_5]; rfl) ?_
          have hall := poolAll_calls w17 hbo17.pd.pool hn2 hdat
          rw [← hLA] at hall
          simp -implicitDefEqProofs [go_sem, g5, g6, g7, g9, g10, g57, g58, g59]
          refine callE_of hall ?_
          rintro v w18 ⟨a18, c18, rfl, hv18, b18⟩
          refine ⟨.inr (by simp -implicitDefEqProofs [go_sem] <;> exact b18), ?_⟩
          have hbo18 := hbo17.next b18
          have hallR := rAll_calls (shN m) x2 y2 R.1.T (bL R.1) w18 hbo18.sx hbo18.sy hn2 hdat
          rw [← hLA] at hallR
          simp -implicitDefEqProofs [go_sem, g5, g6, g7, g9, g10, g57, g58, g59]
          refine callE_of hallR ?_
          rintro v w19 ⟨a19, c19, rfl, hv19, b19⟩
          have hbo19 := hbo18.next b19
          have c19' := b18.trans (b19.mono b18.size)
          refine ⟨.inr (by simp -implicitDefEqProofs [go_sem] <;> exact c19'), ?_⟩
          simp -implicitDefEqProofs [go_sem, g5, g6, g7, g9, g10, g57, g58, g59]
          refine callE_of (sameI_calls a18 a19 LA LA c18 c19 w19 (hv18.next b19) hv19) ?_
          rintro v w20 ⟨rfl, b20⟩
          have hbo20 := hbo19.next b20
          have c20' := c19'.trans (b20.mono c19'.size)
          refine ⟨.inr (by simp -implicitDefEqProofs [go_sem] <;> exact c20'), ?_⟩
          rw [decide_eq_true (rfl : LA = LA)]
          simp -implicitDefEqProofs [go_sem, g5, g6, g7, g9, g10, g57, g58, g59, k1]
          refine goE_round ⟨k + 1, R.1, F11, a, 0, c, xs, x2, y2, by omega, by omega, ?_⟩ ?_
          · simp -implicitDefEqProofs [go_sem, g5, g6, g7, g9, g10, g57, g58, g59]
            exact ⟨hg2.mono (by omega), hbo20⟩
          · simp -implicitDefEqProofs [go_sem, intOf, g59, k1]; omega
        · have hn1 : 0 < n := by omega
          obtain ⟨r, j, i1, i2, i3, i4, i5⟩ := idx_of (at_ := A.at_) hn1 (by omega)
          obtain ⟨bt, ot, z, rfl, gx, hxm, hz, -⟩ := hbo.tl.get i5
          have s1 := IntWalk.i64_in r (by omega)
          have s2 := IntWalk.i64_in (r + (n : Int)) (by omega)
          have s3 := IntWalk.i64_in (j : Int) (by omega)
          have i5' : (j : Int) < n := by omega
          have ho : I64 (z : Int) := by unfold I64; omega
          simp -implicitDefEqProofs [go_sem, g5, g6, g7, g9, g10, g57, g58, g59, hB10.cell, A.c0, A.c1, hr, hn1, hn0, i1, i4, s1, s2, s3, gx, i5, i5']
          have hact := poolTake_calls V (z : Int) w10 hbo.pd rfl hn (by omega) ho hdat
          refine callE_of hact ?_
          obtain ⟨R, hR⟩ : ∃ R, R = takeV (shN m) V (z : Int) := ⟨_, rfl⟩
          have hg2 := hg.take hm4 (shN m) (z : Int)
          rw [← hR] at hg2 ⊢
          rintro v w11 ⟨rfl, F11, hPD11, t11⟩
          have hbo11 := hbo.turn (V' := R.1) hPD11 t11
          have hldR := ldAll (P := Tryz.prog) hbo11.ref hstP rfl rpI rfl
          simp -implicitDefEqProofs [go_sem, g5, g6, g7, g9, g10, g57, g58, g59, ↓hldR]
          refine callE_of (rTake_calls hg.well hm4 x y (z : Int) w11 hbo11.sx hbo11.sy) ?_
          rintro v w12 ⟨x2, y2, rfl, hx2, hy2, b12, fx, fy⟩
          rw [← hR] at hx2 hy2 ⊢
          have hlT : 0 < R.1.T.length := by rw [hg2.well.len]; omega
          have hlB : 0 < (bL R.1).length := by rw [bL_len]; exact hlT
          have hbo12 := hbo11.ref_step b12 hx2 hy2 fx fy hlT hlB
          have hsR := stAll (P := Tryz.prog) (cs := rpC (shN m) x2 y2) (hbo11.ref.next b12) rpI rfl (rpC_one (shN m) hx2 hy2)
          simp -implicitDefEqProofs [go_sem, g5, g6, g7, g9, g10, g57, g58, g59, ↓hsR]
          generalize World.setRow w12 _ _ = w13 at *
          have hn2 : R.1.T.length ≤ 64 := by rw [hg2.well.len]; omega
          have hnB : (bL R.1).length ≤ 64 := by rw [bL_len]; exact hn2
          have hmany := many_eq hg2.well m (Nat.le_refl _)
          have mz1 := manyL_le R.1.H m
          have mz2 := manyL_le R.1.T m
          obtain ⟨MH, hMH⟩ : ∃ M, M = manyL R.1.H m := ⟨_, rfl⟩
          obtain ⟨MT, hMT⟩ : ∃ M, M = manyL R.1.T m := ⟨_, rfl⟩
          obtain ⟨MB, hMB⟩ : ∃ M, M = manyL (bL R.1) m := ⟨_, rfl⟩
          rw [← hMH, ← hMT, ← hMB] at hmany
          rw [← hMH] at mz1
          rw [← hMT] at mz2
          have hsub : (MB : Int) - (MT : Int) = (MH : Int) := by omega
          have kMH := IntWalk.i64_in (MH : Int) (by omega)
          obtain ⟨LA, hLA⟩ : ∃ LA, LA = allK (shN m) R.1.T R.1.T.length := ⟨_, rfl⟩
          refine drawE_mix [.pure 0, .pure 1, .pure 2, .pure 3, .pure 4, .pure 6, .pure 9, .take 7, .take 10, .run 5 [7, 10], .run 8 [10], .run 11 [], .pure 12, .pure 13, .pure 14, .pure 15, .pure 16, .take 18, .run 17 [18], .run 19 [], .run 20 [], .pure 21, .pure 22] mixed (by decide +kernel) (by simp only [withOps, MStep.num, List.filterMap_cons, List.filterMap_nil, List.getElem?_cons_succ, List.getElem?_cons_zero, Option.map_some]; rfl) ?_
          have hbo14 := hbo12.next (Below.refl _ _).drew
          generalize World.drew w13 = w14 at *
          simp -implicitDefEqProofs [go_sem, g5, g6, g7, g9, g10, g57, g58, g59]
          refine onTake_of (fun w' => Below w14.heap.size w14 w') y2 (Below.refl _ _) (fun w' hw => by simp -implicitDefEqProofs [go_sem, g9, (hbo14.ref.next hw).cell, rpC_5]) ?_
          simp -implicitDefEqProofs [go_sem, g5, g6, g7, g9, g10, g57, g58, g59]
          refine onTake_of (fun w' => Below w14.heap.size w14 w') x2 (Below.refl _ _) (fun w' hw => by simp -implicitDefEqProofs [go_sem, g9, (hbo14.ref.next hw).cell, rpC_4]) ?_
          have hheld := poolHeld_calls w14 hbo14.pd.pool hn2
          rw [hg2.well.lenH, ← hMH] at hheld
          simp -implicitDefEqProofs [go_sem, g5, g6, g7, g9, g10, g57, g58, g59]
          refine callE_of hheld ?_
          rintro v w15 ⟨rfl, b15⟩
          refine ⟨.inr (by simp -implicitDefEqProofs [go_sem] <;> exact b15), ?_⟩
          have hbo15 := hbo14.next b15
          have hcB := rCount_calls y2 (bL R.1) w15 hbo15.sy hnB
          rw [bL_len, hg2.well.len, ← hMB] at hcB
          simp -implicitDefEqProofs [go_sem, g5, g6, g7, g9, g10, g57, g58, g59]
          refine callE_of hcB ?_
          rintro v w16 ⟨rfl, b16⟩
          have c16 := b15.trans (b16.mono b15.size)
          refine ⟨.inr (by simp -implicitDefEqProofs [go_sem] <;> exact c16), ?_⟩
          have hbo16 := hbo15.next b16
          have hcT := rCount_calls x2 R.1.T w16 hbo16.sx hn2
          rw [hg2.well.len, ← hMT] at hcT
          simp -implicitDefEqProofs [go_sem, g5, g6, g7, g9, g10, g57, g58, g59]
          refine callE_of hcT ?_
          rintro v w17 ⟨rfl, b17⟩
          have c17 := c16.trans (b17.mono c16.size)
          refine ⟨.inr (by simp -implicitDefEqProofs [go_sem] <;> exact c17), ?_⟩
          have hbo17 := hbo16.next b17
          simp -implicitDefEqProofs [go_sem, g5, g6, g7, g9, g10, g57, g58, g59, hsub, kMH]
          refine onTake_of (fun w' => Below w17.heap.size w17 w') (.agg (rpC (shN m) x2 y2)) (Below.refl _ _) (fun w' hw => by simp -implicitDefEqProofs [go_sem, g9, (hbo17.ref.next hw).cell, rpC_0, rpC_1, rpC_2, rpC_3, rpC_4, rpC_5]; rfl) ?_
          have hall := poolAll_calls w17 hbo17.pd.pool hn2 hdat
          rw [← hLA] at hall
          simp -implicitDefEqProofs [go_sem, g5, g6, g7, g9, g10, g57, g58, g59]
          refine callE_of hall ?_
          rintro v w18 ⟨a18, c18, rfl, hv18, b18⟩
          refine ⟨.inr (by simp -implicitDefEqProofs [go_sem] <;> exact b18), ?_⟩
          have hbo18 := hbo17.next b18
          have hallR := rAll_calls (shN m) x2 y2 R.1.T (bL R.1) w18 hbo18.sx hbo18.sy hn2 hdat
          rw [← hLA] at hallR
          simp -implicitDefEqProofs [go_sem, g5, g6, g7, g9, g10, g57, g58, g59]
          refine callE_of hallR ?_
          rintro v w19 ⟨a19, c19, rfl, hv19, b19⟩
          have hbo19 := hbo18.next b19
          have c19' := b18.trans (b19.mono b18.size)
          refine ⟨.inr (by simp -implicitDefEqProofs [go_sem] <;> exact c19'), ?_⟩
          simp -implicitDefEqProofs [go_sem, g5, g6, g7, g9, g10, g57, g58, g59]
          refine callE_of (sameI_calls a18 a19 LA LA c18 c19 w19 (hv18.next b19) hv19) ?_
          rintro v w20 ⟨rfl, b20⟩
          have hbo20 := hbo19.next b20
          have c20' := c19'.trans (b20.mono c19'.size)
          refine ⟨.inr (by simp -implicitDefEqProofs [go_sem] <;> exact c20'), ?_⟩
          rw [decide_eq_true (rfl : LA = LA)]
          simp -implicitDefEqProofs [go_sem, g5, g6, g7, g9, g10, g57, g58, g59, k1]
          refine goE_round ⟨k + 1, R.1, F11, (some ⟨bt, ot, none⟩), n, c, xs, x2, y2, by omega, by omega, ?_⟩ ?_
          · simp -implicitDefEqProofs [go_sem, g5, g6, g7, g9, g10, g57, g58, g59]
            exact ⟨hg2.mono (by omega), hbo20⟩
          · simp -implicitDefEqProofs [go_sem, intOf, g59, k1]; omega
      · by_cases hn0 : n = 0
        · subst hn0
          have ho := hoff
          simp -implicitDefEqProofs [go_sem, g5, g6, g7, g9, g10, g57, g58, g59, hB10.cell, A.c0, A.c1, hr]
          have hact := poolTake_calls V A.at_ w10 hbo.pd rfl hn (by omega) ho hdat
          refine callE_of hact ?_
          obtain ⟨R, hR⟩ : ∃ R, R = takeV (shN m) V A.at_ := ⟨_, rfl⟩
          have hg2 := hg.take hm4 (shN m) A.at_
          rw [← hR] at hg2 ⊢
          rintro v w11 ⟨rfl, F11, hPD11, t11⟩
          have hbo11 := hbo.turn (V' := R.1) hPD11 t11
          have hldR := ldAll (P := Tryz.prog) hbo11.ref hstP rfl rpI rfl
          simp -implicitDefEqProofs [go_sem, g5, g6, g7, g9, g10, g57, g58, g59, ↓hldR]
          refine callE_of (rTake_calls hg.well hm4 x y A.at_ w11 hbo11.sx hbo11.sy) ?_
          rintro v w12 ⟨x2, y2, rfl, hx2, hy2, b12, fx, fy⟩
          rw [← hR] at hx2 hy2 ⊢
          have hlT : 0 < R.1.T.length := by rw [hg2.well.len]; omega
          have hlB : 0 < (bL R.1).length := by rw [bL_len]; exact hlT
          have hbo12 := hbo11.ref_step b12 hx2 hy2 fx fy hlT hlB
          have hsR := stAll (P := Tryz.prog) (cs := rpC (shN m) x2 y2) (hbo11.ref.next b12) rpI rfl (rpC_one (shN m) hx2 hy2)
          simp -implicitDefEqProofs [go_sem, g5, g6, g7, g9, g10, g57, g58, g59, ↓hsR]
          generalize World.setRow w12 _ _ = w13 at *
          have hn2 : R.1.T.length ≤ 64 := by rw [hg2.well.len]; omega
          have hnB : (bL R.1).length ≤ 64 := by rw [bL_len]; exact hn2
          have hmany := many_eq hg2.well m (Nat.le_refl _)
          have mz1 := manyL_le R.1.H m
          have mz2 := manyL_le R.1.T m
          obtain ⟨MH, hMH⟩ : ∃ M, M = manyL R.1.H m := ⟨_, rfl⟩
          obtain ⟨MT, hMT⟩ : ∃ M, M = manyL R.1.T m := ⟨_, rfl⟩
          obtain ⟨MB, hMB⟩ : ∃ M, M = manyL (bL R.1) m := ⟨_, rfl⟩
          rw [← hMH, ← hMT, ← hMB] at hmany
          rw [← hMH] at mz1
          rw [← hMT] at mz2
          have hsub : (MB : Int) - (MT : Int) = (MH : Int) := by omega
          have kMH := IntWalk.i64_in (MH : Int) (by omega)
          obtain ⟨LA, hLA⟩ : ∃ LA, LA = allK (shN m) R.1.T R.1.T.length := ⟨_, rfl⟩
          refine drawE_mix [.pure 0, .pure 1, .pure 2, .pure 3, .pure 4, .pure 6, .pure 9, .take 7, .take 10, .run 5 [7, 10], .run 8 [10], .run 11 [], .pure 12, .pure 13, .pure 14, .pure 15, .pure 16, .take 18, .run 17 [18], .run 19 [], .run 20 [], .pure 21, .pure 22] mixed (by decide +kernel) (by simp only [withOps, MStep.num, List.filterMap_cons, List.filterMap_nil, List.getElem?_cons_succ, List.getElem?_cons_zero, Option.map_some]; rfl) ?_
          have hbo14 := hbo12.next (Below.refl _ _).drew
          generalize World.drew w13 = w14 at *
          simp -implicitDefEqProofs [go_sem, g5, g6, g7, g9, g10, g57, g58, g59]
          refine onTake_of (fun w' => Below w14.heap.size w14 w') y2 (Below.refl _ _) (fun w' hw => by simp -implicitDefEqProofs [go_sem, g9, (hbo14.ref.next hw).cell, rpC_5]) ?_
          simp -implicitDefEqProofs [go_sem, g5, g6, g7, g9, g10, g57, g58, g59]
          refine onTake_of (fun w' => Below w14.heap.size w14 w') x2 (Below.refl _ _) (fun w' hw => by simp -implicitDefEqProofs [go_sem, g9, (hbo14.ref.next hw).cell, rpC_4]) ?_
          have hheld := poolHeld_calls w14 hbo14.pd.pool hn2
          rw [hg2.well.lenH, ← hMH] at hheld
          simp -implicitDefEqProofs [go_sem, g5, g6, g7, g9, g10, g57, g58, g59]
          refine callE_of hheld ?_
          rintro v w15 ⟨rfl, b15⟩
          refine ⟨.inr (by simp -implicitDefEqProofs [go_sem] <;> exact b15), ?_⟩
          have hbo15 := hbo14.next b15
          have hcB := rCount_calls y2 (bL R.1) w15 hbo15.sy hnB
          rw [bL_len, hg2.well.len, ← hMB] at hcB
          simp -implicitDefEqProofs [go_sem, g5, g6, g7, g9, g10, g57, g58, g59]
          refine callE_of hcB ?_
          rintro v w16 ⟨rfl, b16⟩
          have c16 := b15.trans (b16.mono b15.size)
          refine ⟨.inr (by simp -implicitDefEqProofs [go_sem] <;> exact c16), ?_⟩
          have hbo16 := hbo15.next b16
          have hcT := rCount_calls x2 R.1.T w16 hbo16.sx hn2
          rw [hg2.well.len, ← hMT] at hcT
          simp -implicitDefEqProofs [go_sem, g5, g6, g7, g9, g10, g57, g58, g59]
          refine callE_of hcT ?_
          rintro v w17 ⟨rfl, b17⟩
          have c17 := c16.trans (b17.mono c16.size)
          refine ⟨.inr (by simp -implicitDefEqProofs [go_sem] <;> exact c17), ?_⟩
          have hbo17 := hbo16.next b17
          simp -implicitDefEqProofs [go_sem, g5, g6, g7, g9, g10, g57, g58, g59, hsub, kMH]
          refine onTake_of (fun w' => Below w17.heap.size w17 w') (.agg (rpC (shN m) x2 y2)) (Below.refl _ _) (fun w' hw => by simp -implicitDefEqProofs [go_sem, g9, (hbo17.ref.next hw).cell, rpC_0, rpC_1, rpC_2, rpC_3, rpC_4, rpC_5]; rfl) ?_
          have hall := poolAll_calls w17 hbo17.pd.pool hn2 hdat
          rw [← hLA] at hall
          simp -implicitDefEqProofs [go_sem, g5, g6, g7, g9, g10, g57, g58, g59]
          refine callE_of hall ?_
          rintro v w18 ⟨a18, c18, rfl, hv18, b18⟩
          refine ⟨.inr (by simp -implicitDefEqProofs [go_sem] <;> exact b18), ?_⟩
          have hbo18 := hbo17.next b18
          have hallR := rAll_calls (shN m) x2 y2 R.1.T (bL R.1) w18 hbo18.sx hbo18.sy hn2 hdat
          rw [← hLA] at hallR
          simp -implicitDefEqProofs [go_sem, g5, g6, g7, g9, g10, g57, g58, g59]
          refine callE_of hallR ?_
          rintro v w19 ⟨a19, c19, rfl, hv19, b19⟩
          have hbo19 := hbo18.next b19
          have c19' := b18.trans (b19.mono b18.size)
          refine ⟨.inr (by simp -implicitDefEqProofs [go_sem] <;> exact c19'), ?_⟩
          simp -implicitDefEqProofs [go_sem, g5, g6, g7, g9, g10, g57, g58, g59]
          refine callE_of (sameI_calls a18 a19 LA LA c18 c19 w19 (hv18.next b19) hv19) ?_
          rintro v w20 ⟨rfl, b20⟩
          have hbo20 := hbo19.next b20
          have c20' := c19'.trans (b20.mono c19'.size)
          refine ⟨.inr (by simp -implicitDefEqProofs [go_sem] <;> exact c20'), ?_⟩
          rw [decide_eq_true (rfl : LA = LA)]
          simp -implicitDefEqProofs [go_sem, g5, g6, g7, g9, g10, g57, g58, g59, k1]
          refine goE_round ⟨k + 1, R.1, F11, a, 0, c, xs, x2, y2, by omega, by omega, ?_⟩ ?_
          · simp -implicitDefEqProofs [go_sem, g5, g6, g7, g9, g10, g57, g58, g59]
            exact ⟨hg2.mono (by omega), hbo20⟩
          · simp -implicitDefEqProofs [go_sem, intOf, g59, k1]; omega
        · have hn1 : 0 < n := by omega
          obtain ⟨r, j, i1, i2, i3, i4, i5⟩ := idx_of (at_ := A.at_) hn1 (by omega)
          obtain ⟨bt, ot, z, rfl, gx, hxm, hz, -⟩ := hbo.tl.get i5
          have s1 := IntWalk.i64_in r (by omega)
          have s2 := IntWalk.i64_in (r + (n : Int)) (by omega)
          have s3 := IntWalk.i64_in (j : Int) (by omega)
          have i5' : (j : Int) < n := by omega
          have ho : I64 (z : Int) := by unfold I64; omega
          simp -implicitDefEqProofs [go_sem, g5, g6, g7, g9, g10, g57, g58, g59, hB10.cell, A.c0, A.c1, hr, hn1, hn0, i1, i4, s1, s2, s3, gx, i5, i5']
          have hact := poolTake_calls V (z : Int) w10 hbo.pd rfl hn (by omega) ho hdat
          refine callE_of hact ?_
          obtain ⟨R, hR⟩ : ∃ R, R = takeV (shN m) V (z : Int) := ⟨_, rfl⟩
          have hg2 := hg.take hm4 (shN m) (z : Int)
          rw [← hR] at hg2 ⊢
          rintro v w11 ⟨rfl, F11, hPD11, t11⟩
          have hbo11 := hbo.turn (V' := R.1) hPD11 t11
          have hldR := ldAll (P := Tryz.prog) hbo11.ref hstP rfl rpI rfl
          simp -implicitDefEqProofs [go_sem, g5, g6, g7, g9, g10, g57, g58, g59, ↓hldR]
          refine callE_of (rTake_calls hg.well hm4 x y (z : Int) w11 hbo11.sx hbo11.sy) ?_
          rintro v w12 ⟨x2, y2, rfl, hx2, hy2, b12, fx, fy⟩
          rw [← hR] at hx2 hy2 ⊢
          have hlT : 0 < R.1.T.length := by rw [hg2.well.len]; omega
          have hlB : 0 < (bL R.1).length := by rw [bL_len]; exact hlT
          have hbo12 := hbo11.ref_step b12 hx2 hy2 fx fy hlT hlB
          have hsR := stAll (P := Tryz.prog) (cs := rpC (shN m) x2 y2) (hbo11.ref.next b12) rpI rfl (rpC_one (shN m) hx2 hy2)
          simp -implicitDefEqProofs [go_sem, g5, g6, g7, g9, g10, g57, g58, g59, ↓hsR]
          generalize World.setRow w12 _ _ = w13 at *
          have hn2 : R.1.T.length ≤ 64 := by rw [hg2.well.len]; omega
          have hnB : (bL R.1).length ≤ 64 := by rw [bL_len]; exact hn2
          have hmany := many_eq hg2.well m (Nat.le_refl _)
          have mz1 := manyL_le R.1.H m
          have mz2 := manyL_le R.1.T m
          obtain ⟨MH, hMH⟩ : ∃ M, M = manyL R.1.H m := ⟨_, rfl⟩
          obtain ⟨MT, hMT⟩ : ∃ M, M = manyL R.1.T m := ⟨_, rfl⟩
          obtain ⟨MB, hMB⟩ : ∃ M, M = manyL (bL R.1) m := ⟨_, rfl⟩
          rw [← hMH, ← hMT, ← hMB] at hmany
          rw [← hMH] at mz1
          rw [← hMT] at mz2
          have hsub : (MB : Int) - (MT : Int) = (MH : Int) := by omega
          have kMH := IntWalk.i64_in (MH : Int) (by omega)
          obtain ⟨LA, hLA⟩ : ∃ LA, LA = allK (shN m) R.1.T R.1.T.length := ⟨_, rfl⟩
          refine drawE_mix [.pure 0, .pure 1, .pure 2, .pure 3, .pure 4, .pure 6, .pure 9, .take 7, .take 10, .run 5 [7, 10], .run 8 [10], .run 11 [], .pure 12, .pure 13, .pure 14, .pure 15, .pure 16, .take 18, .run 17 [18], .run 19 [], .run 20 [], .pure 21, .pure 22] mixed (by decide +kernel) (by simp only [withOps, MStep.num, List.filterMap_cons, List.filterMap_nil, List.getElem?_cons_succ, List.getElem?_cons_zero, Option.map_some]; rfl) ?_
          have hbo14 := hbo12.next (Below.refl _ _).drew
          generalize World.drew w13 = w14 at *
          simp -implicitDefEqProofs [go_sem, g5, g6, g7, g9, g10, g57, g58, g59]
          refine onTake_of (fun w' => Below w14.heap.size w14 w') y2 (Below.refl _ _) (fun w' hw => by simp -implicitDefEqProofs [go_sem, g9, (hbo14.ref.next hw).cell, rpC_5]) ?_
          simp -implicitDefEqProofs [go_sem, g5, g6, g7, g9, g10, g57, g58, g59]
          refine onTake_of (fun w' => Below w14.heap.size w14 w') x2 (Below.refl _ _) (fun w' hw => by simp -implicitDefEqProofs [go_sem, g9, (hbo14.ref.next hw).cell, rpC_4]) ?_
          have hheld := poolHeld_calls w14 hbo14.pd.pool hn2
          rw [hg2.well.lenH, ← hMH] at hheld
          simp -implicitDefEqProofs [go_sem, g5, g6, g7, g9, g10, g57, g58, g59]
          refine callE_of hheld ?_
          rintro v w15 ⟨rfl, b15⟩
          refine ⟨.inr (by simp -implicitDefEqProofs [go_sem] <;> exact b15), ?_⟩
          have hbo15 := hbo14.next b15
          have hcB := rCount_calls y2 (bL R.1) w15 hbo15.sy hnB
          rw [bL_len, hg2.well.len, ← hMB] at hcB
          simp -implicitDefEqProofs [go_sem, g5, g6, g7, g9, g10, g57, g58, g59]
          refine callE_of hcB ?_
          rintro v w16 ⟨rfl, b16⟩
          have c16 := b15.trans (b16.mono b15.size)
          refine ⟨.inr (by simp -implicitDefEqProofs [go_sem] <;> exact c16), ?_⟩
          have hbo16 := hbo15.next b16
          have hcT := rCount_calls x2 R.1.T w16 hbo16.sx hn2
          rw [hg2.well.len, ← hMT] at hcT
          simp -implicitDefEqProofs [go_sem, g5, g6, g7, g9, g10, g57, g58, g59]
          refine callE_of hcT ?_
          rintro v w17 ⟨rfl, b17⟩
          have c17 := c16.trans (b17.mono c16.size)
          refine ⟨.inr (by simp -implicitDefEqProofs [go_sem] <;> exact c17), ?_⟩
          have hbo17 := hbo16.next b17
          simp -implicitDefEqProofs [go_sem, g5, g6, g7, g9, g10, g57, g58, g59, hsub, kMH]
          refine onTake_of (fun w' => Below w17.heap.size w17 w') (.agg (rpC (shN m) x2 y2)) (Below.refl _ _) (fun w' hw => by simp -implicitDefEqProofs [go_sem, g9, (hbo17.ref.next hw).cell, rpC_0, rpC_1, rpC_2, rpC_3, rpC_4, rpC_5]; rfl) ?_
          have hall := poolAll_calls w17 hbo17.pd.pool hn2 hdat
          rw [← hLA] at hall
          simp -implicitDefEqProofs [go_sem, g5, g6, g7, g9, g10, g57, g58, g59]
          refine callE_of hall ?_
          rintro v w18 ⟨a18, c18, rfl, hv18, b18⟩
          refine ⟨.inr (by simp -implicitDefEqProofs [go_sem] <;> exact b18), ?_⟩
          have hbo18 := hbo17.next b18
          have hallR := rAll_calls (shN m) x2 y2 R.1.T (bL R.1) w18 hbo18.sx hbo18.sy hn2 hdat
          rw [← hLA] at hallR
          simp -implicitDefEqProofs [go_sem, g5, g6, g7, g9, g10, g57, g58, g59]
          refine callE_of hallR ?_
          rintro v w19 ⟨a19, c19, rfl, hv19, b19⟩
          have hbo19 := hbo18.next b19
          have c19' := b18.trans (b19.mono b18.size)
          refine ⟨.inr (by simp -implicitDefEqProofs [go_sem] <;> exact c19'), ?_⟩
          simp -implicitDefEqProofs [go_sem, g5, g6, g7, g9, g10, g57, g58, g59]
          refine callE_of (sameI_calls a18 a19 LA LA c18 c19 w19 (hv18.next b19) hv19) ?_
          rintro v w20 ⟨rfl, b20⟩
          have hbo20 := hbo19.next b20
          have c20' := c19'.trans (b20.mono c19'.size)
          refine ⟨.inr (by simp -implicitDefEqProofs [go_sem] <;> exact c20'), ?_⟩
          rw [decide_eq_true (rfl : LA = LA)]
          simp -implicitDefEqProofs [go_sem, g5, g6, g7, g9, g10, g57, g58, g59, k1]
          refine goE_round ⟨k + 1, R.1, F11, (some ⟨bt, ot, none⟩), n, c, xs, x2, y2, by omega, by omega, ?_⟩ ?_
          · simp -implicitDefEqProofs [go_sem, g5, g6, g7, g9, g10, g57, g58, g59]
            exact ⟨hg2.mono (by omega), hbo20⟩
          · simp -implicitDefEqProofs [go_sem, intOf, g59, k1]; omega
      · by_cases hn0 : n = 0
        · subst hn0
          have ho := hoff
          simp -implicitDefEqProofs [go_sem, g5, g6, g7, g9, g10, g57, g58, g59, hB10.cell, A.c0, A.c1, hr]
          have hact := poolDrop_calls V A.at_ w10 hbo.pd rfl hn (by omega) ho hdat
          refine callE_of hact ?_
          obtain ⟨R, hR⟩ : ∃ R, R = dropV (shN m) V A.at_ := ⟨_, rfl⟩
          have hg2 := hg.drop hm4 (shN m) A.at_
          rw [← hR] at hg2 ⊢
          rintro v w11 ⟨rfl, F11, hPD11, t11⟩
          have hbo11 := hbo.turn (V' := R.1) hPD11 t11
          have hldR := ldAll (P := Tryz.prog) hbo11.ref hstP rfl rpI rfl
          simp -implicitDefEqProofs [go_sem, g5, g6, g7, g9, g10, g57, g58, g59, ↓hldR]
          refine callE_of (rDrop_calls hg.well hm4 x y A.at_ w11 hbo11.sx hbo11.sy) ?_
          rintro v w12 ⟨x2, y2, rfl, hx2, hy2, b12, fx, fy⟩
          rw [← hR] at hx2 hy2 ⊢
          have hlT : 0 < R.1.T.length := by rw [hg2.well.len]; omega
          have hlB : 0 < (bL R.1).length := by rw [bL_len]; exact hlT
          have hbo12 := hbo11.ref_step b12 hx2 hy2 fx fy hlT hlB
          have hsR := stAll (P := Tryz.prog) (cs := rpC (shN m) x2 y2) (hbo11.ref.next b12) rpI rfl (rpC_one (shN m) hx2 hy2)
          simp -implicitDefEqProofs [go_sem, g5, g6, g7, g9, g10, g57, g58, g59, ↓hsR]
          generalize World.setRow w12 _ _ = w13 at *
          have hn2 : R.1.T.length ≤ 64 := by rw [hg2.well.len]; omega
          have hnB : (bL R.1).length ≤ 64 := by rw [bL_len]; exact hn2
          have hmany := many_eq hg2.well m (Nat.le_refl _)
          have mz1 := manyL_le R.1.H m
          have mz2 := manyL_le R.1.T m
          obtain ⟨MH, hMH⟩ : ∃ M, M = manyL R.1.H m := ⟨_, rfl⟩
          obtain ⟨MT, hMT⟩ : ∃ M, M = manyL R.1.T m := ⟨_, rfl⟩
          obtain ⟨MB, hMB⟩ : ∃ M, M = manyL (bL R.1) m := ⟨_, rfl⟩
          rw [← hMH, ← hMT, ← hMB] at hmany
          rw [← hMH] at mz1
          rw [← hMT] at mz2
          have hsub : (MB : Int) - (MT : Int) = (MH : Int) := by omega
          have kMH := IntWalk.i64_in (MH : Int) (by omega)
          obtain ⟨LA, hLA⟩ : ∃ LA, LA = allK (shN m) R.1.T R.1.T.length := ⟨_, rfl⟩
          refine drawE_mix [.pure 0, .pure 1, .pure 2, .pure 3, .pure 4, .pure 6, .pure 9, .take 7, .take 10, .run 5 [7, 10], .run 8 [10], .run 11 [], .pure 12, .pure 13, .pure 14, .pure 15, .pure 16, .take 18, .run 17 [18], .run 19 [], .run 20 [], .pure 21, .pure 22] mixed (by decide +kernel) (by simp only [withOps, MStep.num, List.filterMap_cons, List.filterMap_nil, List.getElem?_cons_succ, List.getElem?_cons_zero, Option.map_some]; rfl) ?_
          have hbo14 := hbo12.next (Below.refl _ _).drew
          generalize World.drew w13 = w14 at *
          simp -implicitDefEqProofs [go_sem, g5, g6, g7, g9, g10, g57, g58, g59]
          refine onTake_of (fun w' => Below w14.heap.size w14 w') y2 (Below.refl _ _) (fun w' hw => by simp -implicitDefEqProofs [go_sem, g9, (hbo14.ref.next hw).cell, rpC_5]) ?_
          simp -implicitDefEqProofs [go_sem, g5, g6, g7, g9, g10, g57, g58, g59]
          refine onTake_of (fun w' => Below w14.heap.size w14 w') x2 (Below.refl _ _) (fun w' hw => by simp -implicitDefEqProofs [go_sem, g9, (hbo14.ref.next hw).cell, rpC_4]) ?_
          have hheld := poolHeld_calls w14 hbo14.pd.pool hn2
          rw [hg2.well.lenH, ← hMH] at hheld
          simp -implicitDefEqProofs [go_sem, g5, g6, g7, g9, g10, g57, g58, g59]
          refine callE_of hheld ?_
          rintro v w15 ⟨rfl, b15⟩
          refine ⟨.inr (by simp -implicitDefEqProofs [go_sem] <;> exact b15), ?_⟩
          have hbo15 := hbo14.next b15
          have hcB := rCount_calls y2 (bL R.1) w15 hbo15.sy hnB
          rw [bL_len, hg2.well.len, ← hMB] at hcB
          simp -implicitDefEqProofs [go_sem, g5, g6, g7, g9, g10, g57, g58, g59]
          refine callE_of hcB ?_
          rintro v w16 ⟨rfl, b16⟩
          have c16 := b15.trans (b16.mono b15.size)
          refine ⟨.inr (by simp -implicitDefEqProofs [go_sem] <;> exact c16), ?_⟩
          have hbo16 := hbo15.next b16
          have hcT := rCount_calls x2 R.1.T w16 hbo16.sx hn2
          rw [hg2.well.len, ← hMT] at hcT
          simp -implicitDefEqProofs [go_sem, g5, g6, g7, g9, g10, g57, g58, g59]
          refine callE_of hcT ?_
          rintro v w17 ⟨rfl, b17⟩
          have c17 := c16.trans (b17.mono c16.size)
          refine ⟨.inr (by simp -implicitDefEqProofs [go_sem] <;> exact c17), ?_⟩
          have hbo17 := hbo16.next b17
          simp -implicitDefEqProofs [go_sem, g5, g6, g7, g9, g10, g57, g58, g59, hsub, kMH]
          refine onTake_of (fun w' => Below w17.heap.size w17 w') (.agg (rpC (shN m) x2 y2)) (Below.refl _ _) (fun w' hw => by simp -implicitDefEqProofs [go_sem, g9, (hbo17.ref.next hw).cell, rpC_0, rpC_1, rpC_2, rpC_3, rpC_4, rpC_5]; rfl) ?_
          have hall := poolAll_calls w17 hbo17.pd.pool hn2 hdat
          rw [← hLA] at hall
          simp -implicitDefEqProofs [go_sem, g5, g6, g7, g9, g10, g57, g58, g59]
          refine callE_of hall ?_
          rintro v w18 ⟨a18, c18, rfl, hv18, b18⟩
          refine ⟨.inr (by simp -implicitDefEqProofs [go_sem] <;> exact b18), ?_⟩
          have hbo18 := hbo17.next b18
          have hallR := rAll_calls (shN m) x2 y2 R.1.T (bL R.1) w18 hbo18.sx hbo18.sy hn2 hdat
          rw [← hLA] at hallR
          simp -implicitDefEqProofs [go_sem, g5, g6, g7, g9, g10, g57, g58, g59]
          refine callE_of hallR ?_
          rintro v w19 ⟨a19, c19, rfl, hv19, b19⟩
          have hbo19 := hbo18.next b19
          have c19' := b18.trans (b19.mono b18.size)
          refine ⟨.inr (by simp -implicitDefEqProofs [go_sem] <;> exact c19'), ?_⟩
          simp -implicitDefEqProofs [go_sem, g5, g6, g7, g9, g10, g57, g58, g59]
          refine callE_of (sameI_calls a18 a19 LA LA c18 c19 w19 (hv18.next b19) hv19) ?_
          rintro v w20 ⟨rfl, b20⟩
          have hbo20 := hbo19.next b20
          have c20' := c19'.trans (b20.mono c19'.size)
          refine ⟨.inr (by simp -implicitDefEqProofs [go_sem] <;> exact c20'), ?_⟩
          rw [decide_eq_true (rfl : LA = LA)]
          simp -implicitDefEqProofs [go_sem, g5, g6, g7, g9, g10, g57, g58, g59, k1]
          refine goE_round ⟨k + 1, R.1, F11, a, 0, c, xs, x2, y2, by omega, by omega, ?_⟩ ?_
          · simp -implicitDefEqProofs [go_sem, g5, g6, g7, g9, g10, g57, g58, g59]
            exact ⟨hg2.mono (by omega), hbo20⟩
          · simp -implicitDefEqProofs [go_sem, intOf, g59, k1]; omega
        · have hn1 : 0 < n := by omega
          obtain ⟨r, j, i1, i2, i3, i4, i5⟩ := idx_of (at_ := A.at_) hn1 (by omega)
          obtain ⟨bt, ot, z, rfl, gx, hxm, hz, -⟩ := hbo.tl.get i5
          have s1 := IntWalk.i64_in r (by omega)
          have s2 := IntWalk.i64_in (r + (n : Int)) (by omega)
          have s3 := IntWalk.i64_in (j : Int) (by omega)
          have i5' : (j : Int) < n := by omega
          have ho : I64 (z : Int) := by unfold I64; omega
          simp -implicitDefEqProofs [go_sem, g5, g6, g7, g9, g10, g57, g58, g59, hB10.cell, A.c0, A.c1, hr, hn1, hn0, i1, i4, s1, s2, s3, gx, i5, i5']
          have hact := poolDrop_calls V (z : Int) w10 hbo.pd rfl hn (by omega) ho hdat
          refine callE_of hact ?_
          obtain ⟨R, hR⟩ : ∃ R, R = dropV (shN m) V (z : Int) := ⟨_, rfl⟩
          have hg2 := hg.drop hm4 (shN m) (z : Int)
          rw [← hR] at hg2 ⊢
          rintro v w11 ⟨rfl, F11, hPD11, t11⟩
          have hbo11 := hbo.turn (V' := R.1) hPD11 t11
          have hldR := ldAll (P := Tryz.prog) hbo11.ref hstP rfl rpI rfl
          simp -implicitDefEqProofs [go_sem, g5, g6, g7, g9, g10, g57, g58, g59, ↓hldR]
          refine callE_of (rDrop_calls hg.well hm4 x y (z : Int) w11 hbo11.sx hbo11.sy) ?_
          rintro v w12 ⟨x2, y2, rfl, hx2, hy2, b12, fx, fy⟩
          rw [← hR] at hx2 hy2 ⊢
          have hlT : 0 < R.1.T.length := by rw [hg2.well.len]; omega
          have hlB : 0 < (bL R.1).length := by rw [bL_len]; exact hlT
          have hbo12 := hbo11.ref_step b12 hx2 hy2 fx fy hlT hlB
          have hsR := stAll (P := Tryz.prog) (cs := rpC (shN m) x2 y2) (hbo11.ref.next b12) rpI rfl (rpC_one (shN m) hx2 hy2)
          simp -implicitDefEqProofs [go_sem, g5, g6, g7, g9, g10, g57, g58, g59, ↓hsR]
          generalize World.setRow w12 _ _ = w13 at *
          have hn2 : R.1.T.length ≤ 64 := by rw [hg2.well.len]; omega
          have hnB : (bL R.1).length ≤ 64 := by rw [bL_len]; exact hn2
          have hmany := many_eq hg2.well m (Nat.le_refl _)
          have mz1 := manyL_le R.1.H m
          have mz2 := manyL_le R.1.T m
          obtain ⟨MH, hMH⟩ : ∃ M, M = manyL R.1.H m := ⟨_, rfl⟩
          obtain ⟨MT, hMT⟩ : ∃ M, M = manyL R.1.T m := ⟨_, rfl⟩
          obtain ⟨MB, hMB⟩ : ∃ M, M = manyL (bL R.1) m := ⟨_, rfl⟩
          rw [← hMH, ← hMT, ← hMB] at hmany
          rw [← hMH] at mz1
          rw [← hMT] at mz2
          have hsub : (MB : Int) - (MT : Int) = (MH : Int) := by omega
          have kMH := IntWalk.i64_in (MH : Int) (by omega)
          obtain ⟨LA, hLA⟩ : ∃ LA, LA = allK (shN m) R.1.T R.1.T.length := ⟨_, rfl⟩
          refine drawE_mix [.pure 0, .pure 1, .pure 2, .pure 3, .pure 4, .pure 6, .pure 9, .take 7, .take 10, .run 5 [7, 10], .run 8 [10], .run 11 [], .pure 12, .pure 13, .pure 14, .pure 15, .pure 16, .take 18, .run 17 [18], .run 19 [], .run 20 [], .pure 21, .pure 22] mixed (by decide +kernel) (by simp only [withOps, MStep.num, List.filterMap_cons, List.filterMap_nil, List.getElem?_cons_succ, List.getElem?_cons_zero, Option.map_some]; rfl) ?_
          have hbo14 := hbo12.next (Below.refl _ _).drew
          generalize World.drew w13 = w14 at *
          simp -implicitDefEqProofs [go_sem, g5, g6, g7, g9, g10, g57, g58, g59]
          refine onTake_of (fun w' => Below w14.heap.size w14 w') y2 (Below.refl _ _) (fun w' hw => by simp -implicitDefEqProofs [go_sem, g9, (hbo14.ref.next hw).cell, rpC_5]) ?_
          simp -implicitDefEqProofs [go_sem, g5, g6, g7, g9, g10, g57, g58, g59]
          refine onTake_of (fun w' => Below w14.heap.size w14 w') x2 (Below.refl _ _) (fun w' hw => by simp -implicitDefEqProofs [go_sem, g9, (hbo14.ref.next hw).cell, rpC_4]) ?_
          have hheld := poolHeld_calls w14 hbo14.pd.pool hn2
          rw [hg2.well.lenH, ← hMH] at hheld
          simp -implicitDefEqProofs [go_sem, g5, g6, g7, g9, g10, g57, g58, g59]
          refine callE_of hheld ?_
          rintro v w15 ⟨rfl, b15⟩
          refine ⟨.inr (by simp -implicitDefEqProofs [go_sem] <;> exact b15), ?_⟩
          have hbo15 := hbo14.next b15
          have hcB := rCount_calls y2 (bL R.1) w15 hbo15.sy hnB
          rw [bL_len, hg2.well.len, ← hMB] at hcB
          simp -implicitDefEqProofs [go_sem, g5, g6, g7, g9, g10, g57, g58, g59]
          refine callE_of hcB ?_
          rintro v w16 ⟨rfl, b16⟩
          have c16 := b15.trans (b16.mono b15.size)
          refine ⟨.inr (by simp -implicitDefEqProofs [go_sem] <;> exact c16), ?_⟩
          have hbo16 := hbo15.next b16
          have hcT := rCount_calls x2 R.1.T w16 hbo16.sx hn2
          rw [hg2.well.len, ← hMT] at hcT
          simp -implicitDefEqProofs [go_sem, g5, g6, g7, g9, g10, g57, g58, g59]
          refine callE_of hcT ?_
          rintro v w17 ⟨rfl, b17⟩
          have c17 := c16.trans (b17.mono c16.size)
          refine ⟨.inr (by simp -implicitDefEqProofs [go_sem] <;> exact c17), ?_⟩
          have hbo17 := hbo16.next b17
          simp -implicitDefEqProofs [go_sem, g5, g6, g7, g9, g10, g57, g58, g59, hsub, kMH]
          refine onTake_of (fun w' => Below w17.heap.size w17 w') (.agg (rpC (shN m) x2 y2)) (Below.refl _ _) (fun w' hw => by simp -implicitDefEqProofs [go_sem, g9, (hbo17.ref.next hw).cell, rpC_0, rpC_1, rpC_2, rpC_3, rpC_4, rpC_5]; rfl) ?_
          have hall := poolAll_calls w17 hbo17.pd.pool hn2 hdat
          rw [← hLA] at hall
          simp -implicitDefEqProofs [go_sem, g5, g6, g7, g9, g10, g57, g58, g59]
          refine callE_of hall ?_
          rintro v w18 ⟨a18, c18, rfl, hv18, b18⟩
          refine ⟨.inr (by simp -implicitDefEqProofs [go_sem] <;> exact b18), ?_⟩
          have hbo18 := hbo17.next b18
          have hallR := rAll_calls (shN m) x2 y2 R.1.T (bL R.1) w18 hbo18.sx hbo18.sy hn2 hdat
          rw [← hLA] at hallR
          simp -implicitDefEqProofs [go_sem, g5, g6, g7, g9, g10, g57, g58, g59]
          refine callE_of hallR ?_
          rintro v w19 ⟨a19, c19, rfl, hv19, b19⟩
          have hbo19 := hbo18.next b19
          have c19' := b18.trans (b19.mono b18.size)
          refine ⟨.inr (by simp -implicitDefEqProofs [go_sem] <;> exact c19'), ?_⟩
          simp -implicitDefEqProofs [go_sem, g5, g6, g7, g9, g10, g57, g58, g59]
          refine callE_of (sameI_calls a18 a19 LA LA c18 c19 w19 (hv18.next b19) hv19) ?_
          rintro v w20 ⟨rfl, b20⟩
          have hbo20 := hbo19.next b20
          have c20' := c19'.trans (b20.mono c19'.size)
          refine ⟨.inr (by simp -implicitDefEqProofs [go_sem] <;> exact c20'), ?_⟩
          rw [decide_eq_true (rfl : LA = LA)]
          simp -implicitDefEqProofs [go_sem, g5, g6, g7, g9, g10, g57, g58, g59, k1]
          refine goE_round ⟨k + 1, R.1, F11, (some ⟨bt, ot, none⟩), n, c, xs, x2, y2, by omega, by omega, ?_⟩ ?_
          · simp -implicitDefEqProofs [go_sem, g5, g6, g7, g9, g10, g57, g58, g59]
            exact ⟨hg2.mono (by omega), hbo20⟩
          · simp -implicitDefEqProofs [go_sem, intOf, g59, k1]; omega
      · by_cases hn0 : n = 0
        · subst hn0
          have ho := hoff
          simp -implicitDefEqProofs [go_sem, g5, g6, g7, g9, g10, g57, g58, g59, hB10.cell, A.c0, A.c1, hr]
          have hact := poolDrop_calls V A.at_ w10 hbo.pd rfl hn (by omega) ho hdat
          refine callE_of hact ?_
          obtain ⟨R, hR⟩ : ∃ R, R = dropV (shN m) V A.at_ := ⟨_, rfl⟩
          have hg2 := hg.drop hm4 (shN m) A.at_
          rw [← hR] at hg2 ⊢
          rintro v w11 ⟨rfl, F11, hPD11, t11⟩
          have hbo11 := hbo.turn (V' := R.1) hPD11 t11
          have hldR := ldAll (P := Tryz.prog) hbo11.ref hstP rfl rpI rfl
          simp -implicitDefEqProofs [go_sem, g5, g6, g7, g9, g10, g57, g58, g59, ↓hldR]
          refine callE_of (rDrop_calls hg.well hm4 x y A.at_ w11 hbo11.sx hbo11.sy) ?_
          rintro v w12 ⟨x2, y2, rfl, hx2, hy2, b12, fx, fy⟩
          rw [← hR] at hx2 hy2 ⊢
          have hlT : 0 < R.1.T.length := by rw [hg2.well.len]; omega
          have hlB : 0 < (bL R.1).length := by rw [bL_len]; exact hlT
          have hbo12 := hbo11.ref_step b12 hx2 hy2 fx fy hlT hlB
          have hsR := stAll (P := Tryz.prog) (cs := rpC (shN m) x2 y2) (hbo11.ref.next b12) rpI rfl (rpC_one (shN m) hx2 hy2)
          simp -implicitDefEqProofs [go_sem, g5, g6, g7, g9, g10, g57, g58, g59, ↓hsR]
          generalize World.setRow w12 _ _ = w13 at *
          have hn2 : R.1.T.length ≤ 64 := by rw [hg2.well.len]; omega
          have hnB : (bL R.1).length ≤ 64 := by rw [bL_len]; exact hn2
          have hmany := many_eq hg2.well m (Nat.le_refl _)
          have mz1 := manyL_le R.1.H m
          have mz2 := manyL_le R.1.T m
          obtain ⟨MH, hMH⟩ : ∃ M, M = manyL R.1.H m := ⟨_, rfl⟩
          obtain ⟨MT, hMT⟩ : ∃ M, M = manyL R.1.T m := ⟨_, rfl⟩
          obtain ⟨MB, hMB⟩ : ∃ M, M = manyL (bL R.1) m := ⟨_, rfl⟩
          rw [← hMH, ← hMT, ← hMB] at hmany
          rw [← hMH] at mz1
          rw [← hMT] at mz2
          have hsub : (MB : Int) - (MT : Int) = (MH : Int) := by omega
          have kMH := IntWalk.i64_in (MH : Int) (by omega)
          obtain ⟨LA, hLA⟩ : ∃ LA, LA = allK (shN m) R.1.T R.1.T.length := ⟨_, rfl⟩
          refine drawE_mix [.pure 0, .pure 1, .pure 2, .pure 3, .pure 4, .pure 6, .pure 9, .take 7, .take 10, .run 5 [7, 10], .run 8 [10], .run 11 [], .pure 12, .pure 13, .pure 14, .pure 15, .pure 16, .take 18, .run 17 [18], .run 19 [], .run 20 [], .pure 21, .pure 22] mixed (by decide +kernel) (by simp only [withOps, MStep.num, List.filterMap_cons, List.filterMap_nil, List.getElem?_cons_succ, List.getElem?_cons_zero, Option.map_some]; rfl) ?_
          have hbo14 := hbo12.next (Below.refl _ _).drew
          generalize World.drew w13 = w14 at *
          simp -implicitDefEqProofs [go_sem, g5, g6, g7, g9, g10, g57, g58, g59]
          refine onTake_of (fun w' => Below w14.heap.size w14 w') y2 (Below.refl _ _) (fun w' hw => by simp -implicitDefEqProofs [go_sem, g9, (hbo14.ref.next hw).cell, rpC_5]) ?_
          simp -implicitDefEqProofs [go_sem, g5, g6, g7, g9, g10, g57, g58, g59]
          refine onTake_of (fun w' => Below w14.heap.size w14 w') x2 (Below.refl _ _) (fun w' hw => by simp -implicitDefEqProofs [go_sem, g9, (hbo14.ref.next hw).cell, rpC_4]) ?_
          have hheld := poolHeld_calls w14 hbo14.pd.pool hn2
          rw [hg2.well.lenH, ← hMH] at hheld
          simp -implicitDefEqProofs [go_sem, g5, g6, g7, g9, g10, g57, g58, g59]
          refine callE_of hheld ?_
          rintro v w15 ⟨rfl, b15⟩
          refine ⟨.inr (by simp -implicitDefEqProofs [go_sem] <;> exact b15), ?_⟩
          have hbo15 := hbo14.next b15
          have hcB := rCount_calls y2 (bL R.1) w15 hbo15.sy hnB
          rw [bL_len, hg2.well.len, ← hMB] at hcB
          simp -implicitDefEqProofs [go_sem, g5, g6, g7, g9, g10, g57, g58, g59]
          refine callE_of hcB ?_
          rintro v w16 ⟨rfl, b16⟩
          have c16 := b15.trans (b16.mono b15.size)
          refine ⟨.inr (by simp -implicitDefEqProofs [go_sem] <;> exact c16), ?_⟩
          have hbo16 := hbo15.next b16
          have hcT := rCount_calls x2 R.1.T w16 hbo16.sx hn2
          rw [hg2.well.len, ← hMT] at hcT
          simp -implicitDefEqProofs [go_sem, g5, g6, g7, g9, g10, g57, g58, g59]
          refine callE_of hcT ?_
          rintro v w17 ⟨rfl, b17⟩
          have c17 := c16.trans (b17.mono c16.size)
          refine ⟨.inr (by simp -implicitDefEqProofs [go_sem] <;> exact c17), ?_⟩
          have hbo17 := hbo16.next b17
          simp -implicitDefEqProofs [go_sem, g5, g6, g7, g9, g10, g57, g58, g59, hsub, kMH]
          refine onTake_of (fun w' => Below w17.heap.size w17 w') (.agg (rpC (shN m) x2 y2)) (Below.refl _ _) (fun w' hw => by simp -implicitDefEqProofs [go_sem, g9, (hbo17.ref.next hw).cell, rpC_0, rpC_1, rpC_2, rpC_3, rpC_4, rpC_5]; rfl) ?_
          have hall := poolAll_calls w17 hbo17.pd.pool hn2 hdat
          rw [← hLA] at hall
          simp -implicitDefEqProofs [go_sem, g5, g6, g7, g9, g10, g57, g58, g59]
          refine callE_of hall ?_
          rintro v w18 ⟨a18, c18, rfl, hv18, b18⟩
          refine ⟨.inr (by simp -implicitDefEqProofs [go_sem] <;> exact b18), ?_⟩
          have hbo18 := hbo17.next b18
          have hallR := rAll_calls (shN m) x2 y2 R.1.T (bL R.1) w18 hbo18.sx hbo18.sy hn2 hdat
          rw [← hLA] at hallR
          simp -implicitDefEqProofs [go_sem, g5, g6, g7, g9, g10, g57, g58, g59]
          refine callE_of hallR ?_
          rintro v w19 ⟨a19, c19, rfl, hv19, b19⟩
          have hbo19 := hbo18.next b19
          have c19' := b18.trans (b19.mono b18.size)
          refine ⟨.inr (by simp -implicitDefEqProofs [go_sem] <;> exact c19'), ?_⟩
          simp -implicitDefEqProofs [go_sem, g5, g6, g7, g9, g10, g57, g58, g59]
          refine callE_of (sameI_calls a18 a19 LA LA c18 c19 w19 (hv18.next b19) hv19) ?_
          rintro v w20 ⟨rfl, b20⟩
          have hbo20 := hbo19.next b20
          have c20' := c19'.trans (b20.mono c19'.size)
          refine ⟨.inr (by simp -implicitDefEqProofs [go_sem] <;> exact c20'), ?_⟩
          rw [decide_eq_true (rfl : LA = LA)]
          simp -implicitDefEqProofs [go_sem, g5, g6, g7, g9, g10, g57, g58, g59, k1]
          refine goE_round ⟨k + 1, R.1, F11, a, 0, c, xs, x2, y2, by omega, by omega, ?_⟩ ?_
          · simp -implicitDefEqProofs [go_sem, g5, g6, g7, g9, g10, g57, g58, g59]
            exact ⟨hg2.mono (by omega), hbo20⟩
          · simp -implicitDefEqProofs [go_sem, intOf, g59, k1]; omega
        · have hn1 : 0 < n := by omega
          obtain ⟨r, j, i1, i2, i3, i4, i5⟩ := idx_of (at_ := A.at_) hn1 (by omega)
          obtain ⟨bt, ot, z, rfl, gx, hxm, hz, -⟩ := hbo.tl.get i5
          have s1 := IntWalk.i64_in r (by omega)
          have s2 := IntWalk.i64_in (r + (n : Int)) (by omega)
          have s3 := IntWalk.i64_in (j : Int) (by omega)
          have i5' : (j : Int) < n := by omega
          have ho : I64 (z : Int) := by unfold I64; omega
          simp -implicitDefEqProofs [go_sem, g5, g6, g7, g9, g10, g57, g58, g59, hB10.cell, A.c0, A.c1, hr, hn1, hn0, i1, i4, s1, s2, s3, gx, i5, i5']
          have hact := poolDrop_calls V (z : Int) w10 hbo.pd rfl hn (by omega) ho hdat
          refine callE_of hact ?_
          obtain ⟨R, hR⟩ : ∃ R, R = dropV (shN m) V (z : Int) := ⟨_, rfl⟩
          have hg2 := hg.drop hm4 (shN m) (z : Int)
          rw [← hR] at hg2 ⊢
          rintro v w11 ⟨rfl, F11, hPD11, t11⟩
          have hbo11 := hbo.turn (V' := R.1) hPD11 t11
          have hldR := ldAll (P := Tryz.prog) hbo11.ref hstP rfl rpI rfl
          simp -implicitDefEqProofs [go_sem, g5, g6, g7, g9, g10, g57, g58, g59, ↓hldR]
          refine callE_of (rDrop_calls hg.well hm4 x y (z : Int) w11 hbo11.sx hbo11.sy) ?_
          rintro v w12 ⟨x2, y2, rfl, hx2, hy2, b12, fx, fy⟩
          rw [← hR] at hx2 hy2 ⊢
          have hlT : 0 < R.1.T.length := by rw [hg2.well.len]; omega
          have hlB : 0 < (bL R.1).length := by rw [bL_len]; exact hlT
          have hbo12 := hbo11.ref_step b12 hx2 hy2 fx fy hlT hlB
          have hsR := stAll (P := Tryz.prog) (cs := rpC (shN m) x2 y2) (hbo11.ref.next b12) rpI rfl (rpC_one (shN m) hx2 hy2)
          simp -implicitDefEqProofs [go_sem, g5, g6, g7, g9, g10, g57, g58, g59, ↓hsR]
          generalize World.setRow w12 _ _ = w13 at *
          have hn2 : R.1.T.length ≤ 64 := by rw [hg2.well.len]; omega
          have hnB : (bL R.1).length ≤ 64 := by rw [bL_len]; exact hn2
          have hmany := many_eq hg2.well m (Nat.le_refl _)
          have mz1 := manyL_le R.1.H m
          have mz2 := manyL_le R.1.T m
          obtain ⟨MH, hMH⟩ : ∃ M, M = manyL R.1.H m := ⟨_, rfl⟩
          obtain ⟨MT, hMT⟩ : ∃ M, M = manyL R.1.T m := ⟨_, rfl⟩
          obtain ⟨MB, hMB⟩ : ∃ M, M = manyL (bL R.1) m := ⟨_, rfl⟩
          rw [← hMH, ← hMT, ← hMB] at hmany
          rw [← hMH] at mz1
          rw [← hMT] at mz2
          have hsub : (MB : Int) - (MT : Int) = (MH : Int) := by omega
          have kMH := IntWalk.i64_in (MH : Int) (by omega)
          obtain ⟨LA, hLA⟩ : ∃ LA, LA = allK (shN m) R.1.T R.1.T.length := ⟨_, rfl⟩
          refine drawE_mix [.pure 0, .pure 1, .pure 2, .pure 3, .pure 4, .pure 6, .pure 9, .take 7, .take 10, .run 5 [7, 10], .run 8 [10], .run 11 [], .pure 12, .pure 13, .pure 14, .pure 15, .pure 16, .take 18, .run 17 [18], .run 19 [], .run 20 [], .pure 21, .pure 22] mixed (by decide +kernel) (by simp only [withOps, MStep.num, List.filterMap_cons, List.filterMap_nil, List.getElem?_cons_succ, List.getElem?_cons_zero, Option.map_some]; rfl) ?_
          have hbo14 := hbo12.next (Below.refl _ _).drew
          generalize World.drew w13 = w14 at *
          simp -implicitDefEqProofs [go_sem, g5, g6, g7, g9, g10, g57, g58, g59]
          refine onTake_of (fun w' => Below w14.heap.size w14 w') y2 (Below.refl _ _) (fun w' hw => by simp -implicitDefEqProofs [go_sem, g9, (hbo14.ref.next hw).cell, rpC_5]) ?_
          simp -implicitDefEqProofs [go_sem, g5, g6, g7, g9, g10, g57, g58, g59]
          refine onTake_of (fun w' => Below w14.heap.size w14 w') x2 (Below.refl _ _) (fun w' hw => by simp -implicitDefEqProofs [go_sem, g9, (hbo14.ref.next hw).cell, rpC_4]) ?_
          have hheld := poolHeld_calls w14 hbo14.pd.pool hn2
          rw [hg2.well.lenH, ← hMH] at hheld
          simp -implicitDefEqProofs [go_sem, g5, g6, g7, g9, g10, g57, g58, g59]
          refine callE_of hheld ?_
          rintro v w15 ⟨rfl, b15⟩
          refine ⟨.inr (by simp -implicitDefEqProofs [go_sem] <;> exact b15), ?_⟩
          have hbo15 := hbo14.next b15
          have hcB := rCount_calls y2 (bL R.1) w15 hbo15.sy hnB
          rw [bL_len, hg2.well.len, ← hMB] at hcB
          simp -implicitDefEqProofs [go_sem, g5, g6, g7, g9, g10, g57, g58, g59]
          refine callE_of hcB ?_
          rintro v w16 ⟨rfl, b16⟩
          have c16 := b15.trans (b16.mono b15.size)
          refine ⟨.inr (by simp -implicitDefEqProofs [go_sem] <;> exact c16), ?_⟩
          have hbo16 := hbo15.next b16
          have hcT := rCount_calls x2 R.1.T w16 hbo16.sx hn2
          rw [hg2.well.len, ← hMT] at hcT
          simp -implicitDefEqProofs [go_sem, g5, g6, g7, g9, g10, g57, g58, g59]
          refine callE_of hcT ?_
          rintro v w17 ⟨rfl, b17⟩
          have c17 := c16.trans (b17.mono c16.size)
          refine ⟨.inr (by simp -implicitDefEqProofs [go_sem] <;> exact c17), ?_⟩
          have hbo17 := hbo16.next b17
          simp -implicitDefEqProofs [go_sem, g5, g6, g7, g9, g10, g57, g58, g59, hsub, kMH]
          refine onTake_of (fun w' => Below w17.heap.size w17 w') (.agg (rpC (shN m) x2 y2)) (Below.refl _ _) (fun w' hw => by simp -implicitDefEqProofs [go_sem, g9, (hbo17.ref.next hw).cell, rpC_0, rpC_1, rpC_2, rpC_3, rpC_4, rpC_5]; rfl) ?_
          have hall := poolAll_calls w17 hbo17.pd.pool hn2 hdat
          rw [← hLA] at hall
          simp -implicitDefEqProofs [go_sem, g5, g6, g7, g9, g10, g57, g58, g59]
          refine callE_of hall ?_
          rintro v w18 ⟨a18, c18, rfl, hv18, b18⟩
          refine ⟨.inr (by simp -implicitDefEqProofs [go_sem] <;> exact b18), ?_⟩
          have hbo18 := hbo17.next b18
          have hallR := rAll_calls (shN m) x2 y2 R.1.T (bL R.1) w18 hbo18.sx hbo18.sy hn2 hdat
          rw [← hLA] at hallR
          simp -implicitDefEqProofs [go_sem, g5, g6, g7, g9, g10, g57, g58, g59]
          refine callE_of hallR ?_
          rintro v w19 ⟨a19, c19, rfl, hv19, b19⟩
          have hbo19 := hbo18.next b19
          have c19' := b18.trans (b19.mono b18.size)
          refine ⟨.inr (by simp -implicitDefEqProofs [go_sem] <;> exact c19'), ?_⟩
          simp -implicitDefEqProofs [go_sem, g5, g6, g7, g9, g10, g57, g58, g59]
          refine callE_of (sameI_calls a18 a19 LA LA c18 c19 w19 (hv18.next b19) hv19) ?_
          rintro v w20 ⟨rfl, b20⟩
          have hbo20 := hbo19.next b20
          have c20' := c19'.trans (b20.mono c19'.size)
          refine ⟨.inr (by simp -implicitDefEqProofs [go_sem] <;> exact c20'), ?_⟩
          rw [decide_eq_true (rfl : LA = LA)]
          simp -implicitDefEqProofs [go_sem, g5, g6, g7, g9, g10, g57, g58, g59, k1]
          refine goE_round ⟨k + 1, R.1, F11, (some ⟨bt, ot, none⟩), n, c, xs, x2, y2, by omega, by omega, ?_⟩ ?_
          · simp -implicitDefEqProofs [go_sem, g5, g6, g7, g9, g10, g57, g58, g59]
            exact ⟨hg2.mono (by omega), hbo20⟩
          · simp -implicitDefEqProofs [go_sem, intOf, g59, k1]; omega
      · by_cases hn0 : n = 0
        · subst hn0
          simp -implicitDefEqProofs [go_sem, g5, g6, g7, g9, g10, g57, g58, g59, hB10.cell, A.c0, A.c1, hr]
          have hact := poolTake_calls V A.at_ w10 hbo.pd rfl hn (by omega) hoff hdat
          refine callE_of hact ?_
          obtain ⟨R0, hR0⟩ : ∃ R, R = takeV (shN m) V A.at_ := ⟨_, rfl⟩
          have hg1 := hg.take hm4 (shN m) A.at_
          rw [← hR0] at hg1 ⊢
          rintro v w11 ⟨rfl, F10, hPD11, t11⟩
          have hbo11 := hbo.turn (V' := R0.1) hPD11 t11
          have hldR := ldAll (P := Tryz.prog) hbo11.ref hstP rfl rpI rfl
          simp -implicitDefEqProofs [go_sem, g5, g6, g7, g9, g10, g57, g58, g59, ↓hldR]
          refine callE_of (rTake_calls hg.well hm4 x y A.at_ w11 hbo11.sx hbo11.sy) ?_
          rintro v w12 ⟨x1, y1, rfl, hx1, hy1, b12, fx1, fy1⟩
          rw [← hR0] at hx1 hy1 ⊢
          have hlT1 : 0 < R0.1.T.length := by rw [hg1.well.len]; omega
          have hlB1 : 0 < (bL R0.1).length := by rw [bL_len]; exact hlT1
          have hboA := hbo11.ref_step b12 hx1 hy1 fx1 fy1 hlT1 hlB1
          have hsR := stAll (P := Tryz.prog) (cs := rpC (shN m) x1 y1) (hbo11.ref.next b12) rpI rfl (rpC_one (shN m) hx1 hy1)
          simp -implicitDefEqProofs [go_sem, g5, g6, g7, g9, g10, g57, g58, g59, ↓hsR]
          generalize World.setRow w12 _ _ = wA at *
          have hn1T : R0.1.T.length ≤ 64 := by rw [hg1.well.len]; omega
          have hst1 := hg1.steps
          have hact2 := poolDrop_calls R0.1 A.at_ wA hboA.pd rfl hn1T (by omega) hoff hdat
          refine callE_of hact2 ?_
          obtain ⟨R, hR⟩ : ∃ R, R = dropV (shN m) R0.1 A.at_ := ⟨_, rfl⟩
          have hg2 := hg1.drop hm4 (shN m) A.at_
          rw [← hR] at hg2 ⊢
          rintro v wB ⟨rfl, F11, hPDB, tB⟩
          have hboB := hboA.turn (V' := R.1) hPDB tB
          have hldB := ldAll (P := Tryz.prog) hboB.ref hstP rfl rpI rfl
          simp -implicitDefEqProofs [go_sem, g5, g6, g7, g9, g10, g57, g58, g59, ↓hldB]
          refine callE_of (rDrop_calls hg1.well hm4 x1 y1 A.at_ wB hboB.sx hboB.sy) ?_
          rintro v wC ⟨x2, y2, rfl, hx2, hy2, bC, fx, fy⟩
          rw [← hR] at hx2 hy2 ⊢
          have hlT : 0 < R.1.T.length := by rw [hg2.well.len]; omega
          have hlB : 0 < (bL R.1).length := by rw [bL_len]; exact hlT
          have hbo12 := hboB.ref_step bC hx2 hy2 fx fy hlT hlB
          have hsC := stAll (P := Tryz.prog) (cs := rpC (shN m) x2 y2) (hboB.ref.next bC) rpI rfl (rpC_one (shN m) hx2 hy2)
          simp -implicitDefEqProofs [go_sem, g5, g6, g7, g9, g10, g57, g58, g59, ↓hsC]
          generalize World.setRow wC _ _ = w13 at *
          have hn2 : R.1.T.length ≤ 64 := by rw [hg2.well.len]; omega
          have hnB : (bL R.1).length ≤ 64 := by rw [bL_len]; exact hn2
          have hmany := many_eq hg2.well m (Nat.le_refl _)
          have mz1 := manyL_le R.1.H m
          have mz2 := manyL_le R.1.T m
          obtain ⟨MH, hMH⟩ : ∃ M, M = manyL R.1.H m := ⟨_, rfl⟩
          obtain ⟨MT, hMT⟩ : ∃ M, M = manyL R.1.T m := ⟨_, rfl⟩
          obtain ⟨MB, hMB⟩ : ∃ M, M = manyL (bL R.1) m := ⟨_, rfl⟩
          rw [← hMH, ← hMT, ← hMB] at hmany
          rw [← hMH] at mz1
          rw [← hMT] at mz2
          have hsub : (MB : Int) - (MT : Int) = (MH : Int) := by omega
          have kMH := IntWalk.i64_in (MH : Int) (by omega)
          obtain ⟨LA, hLA⟩ : ∃ LA, LA = allK (shN m) R.1.T R.1.T.length := ⟨_, rfl⟩
          refine drawE_mix [.pure 0, .pure 1, .pure 2, .pure 3, .pure 4, .pure 6, .pure 9, .take 7, .take 10, .run 5 [7, 10], .run 8 [10], .run 11 [], .pure 12, .pure 13, .pure 14, .pure 15, .pure 16, .take 18, .run 17 [18], .run 19 [], .run 20 [], .pure 21, .pure 22] mixed (by decide +kernel) (by simp only [withOps, MStep.num, List.filterMap_cons, List.filterMap_nil, List.getElem?_cons_succ, List.getElem?_cons_zero, Option.map_some]; rfl) ?_
          have hbo14 := hbo12.next (Below.refl _ _).drew
          generalize World.drew w13 = w14 at *
          simp -implicitDefEqProofs [go_sem, g5, g6, g7, g9, g10, g57, g58, g59]
          refine onTake_of (fun w' => Below w14.heap.size w14 w') y2 (Below.refl _ _) (fun w' hw => by simp -implicitDefEqProofs [go_sem, g9, (hbo14.ref.next hw).cell, rpC_5]) ?_
          simp -implicitDefEqProofs [go_sem, g5, g6, g7, g9, g10, g57, g58, g59]
          refine onTake_of (fun w' => Below w14.heap.size w14 w') x2 (Below.refl _ _) (fun w' hw => by simp -implicitDefEqProofs [go_sem, g9, (hbo14.ref.next hw).cell, rpC_4]) ?_
          have hheld := poolHeld_calls w14 hbo14.pd.pool hn2
          rw [hg2.well.lenH, ← hMH] at hheld
          simp -implicitDefEqProofs [go_sem, g5, g6, g7, g9, g10, g57, g58, g59]
          refine callE_of hheld ?_
          rintro v w15 ⟨rfl, b15⟩
          refine ⟨.inr (by simp -implicitDefEqProofs [go_sem] <;> exact b15), ?_⟩
          have hbo15 := hbo14.next b15
          have hcB := rCount_calls y2 (bL R.1) w15 hbo15.sy hnB
          rw [bL_len, hg2.well.len, ← hMB] at hcB
          simp -implicitDefEqProofs [go_sem, g5, g6, g7, g9, g10, g57, g58, g59]
          refine callE_of hcB ?_
          rintro v w16 ⟨rfl, b16⟩
          have c16 := b15.trans (b16.mono b15.size)
          refine ⟨.inr (by simp -implicitDefEqProofs [go_sem] <;> exact c16), ?_⟩
          have hbo16 := hbo15.next b16
          have hcT := rCount_calls x2 R.1.T w16 hbo16.sx hn2
          rw [hg2.well.len, ← hMT] at hcT
          simp -implicitDefEqProofs [go_sem, g5, g6, g7, g9, g10, g57, g58, g59]
          refine callE_of hcT ?_
          rintro v w17 ⟨rfl, b17⟩
          have c17 := c16.trans (b17.mono c16.size)
          refine ⟨.inr (by simp -implicitDefEqProofs [go_sem] <;> exact c17), ?_⟩
          have hbo17 := hbo16.next b17
          simp -implicitDefEqProofs [go_sem, g5, g6, g7, g9, g10, g57, g58, g59, hsub, kMH]
          refine onTake_of (fun w' => Below w17.heap.size w17 w') (.agg (rpC (shN m) x2 y2)) (Below.refl _ _) (fun w' hw => by simp -implicitDefEqProofs [go_sem, g9, (hbo17.ref.next hw).cell, rpC_0, rpC_1, rpC_2, rpC_3, rpC_4, rpC_5]; rfl) ?_
          have hall := poolAll_calls w17 hbo17.pd.pool hn2 hdat
          rw [← hLA] at hall
          simp -implicitDefEqProofs [go_sem, g5, g6, g7, g9, g10, g57, g58, g59]
          refine callE_of hall ?_
          rintro v w18 ⟨a18, c18, rfl, hv18, b18⟩
          refine ⟨.inr (by simp -implicitDefEqProofs [go_sem] <;> exact b18), ?_⟩
          have hbo18 := hbo17.next b18
          have hallR := rAll_calls (shN m) x2 y2 R.1.T (bL R.1) w18 hbo18.sx hbo18.sy hn2 hdat
          rw [← hLA] at hallR
          simp -implicitDefEqProofs [go_sem, g5, g6, g7, g9, g10, g57, g58, g59]
          refine callE_of hallR ?_
          rintro v w19 ⟨a19, c19, rfl, hv19, b19⟩
          have hbo19 := hbo18.next b19
          have c19' := b18.trans (b19.mono b18.size)
          refine ⟨.inr (by simp -implicitDefEqProofs [go_sem] <;> exact c19'), ?_⟩
          simp -implicitDefEqProofs [go_sem, g5, g6, g7, g9, g10, g57, g58, g59]
          refine callE_of (sameI_calls a18 a19 LA LA c18 c19 w19 (hv18.next b19) hv19) ?_
          rintro v w20 ⟨rfl, b20⟩
          have hbo20 := hbo19.next b20
          have c20' := c19'.trans (b20.mono c19'.size)
          refine ⟨.inr (by simp -implicitDefEqProofs [go_sem] <;> exact c20'), ?_⟩
          rw [decide_eq_true (rfl : LA = LA)]
          simp -implicitDefEqProofs [go_sem, g5, g6, g7, g9, g10, g57, g58, g59, k1]
          refine goE_round ⟨k + 1, R.1, F11, a, 0, c, xs, x2, y2, by omega, by omega, ?_⟩ ?_
          · simp -implicitDefEqProofs [go_sem, g5, g6, g7, g9, g10, g57, g58, g59]
            exact ⟨hg2.mono (by omega), hbo20⟩
          · simp -implicitDefEqProofs [go_sem, intOf, g59, k1]; omega
        · have hn1 : 0 < n := by omega
          simp -implicitDefEqProofs [go_sem, g5, g6, g7, g9, g10, g57, g58, g59, hB10.cell, A.c0, A.c1, hr, hn1]
          have hact := poolTake_calls V A.at_ w10 hbo.pd rfl hn (by omega) hoff hdat
          refine callE_of hact ?_
          obtain ⟨R0, hR0⟩ : ∃ R, R = takeV (shN m) V A.at_ := ⟨_, rfl⟩
          have hg1 := hg.take hm4 (shN m) A.at_
          rw [← hR0] at hg1 ⊢
          rintro v w11 ⟨rfl, F10, hPD11, t11⟩
          have hbo11 := hbo.turn (V' := R0.1) hPD11 t11
          have hldR := ldAll (P := Tryz.prog) hbo11.ref hstP rfl rpI rfl
          simp -implicitDefEqProofs [go_sem, g5, g6, g7, g9, g10, g57, g58, g59, ↓hldR]
          refine callE_of (rTake_calls hg.well hm4 x y A.at_ w11 hbo11.sx hbo11.sy) ?_
          rintro v w12 ⟨x1, y1, rfl, hx1, hy1, b12, fx1, fy1⟩
          rw [← hR0] at hx1 hy1 ⊢
          have hlT1 : 0 < R0.1.T.length := by rw [hg1.well.len]; omega
          have hlB1 : 0 < (bL R0.1).length := by rw [bL_len]; exact hlT1
          have hboA := hbo11.ref_step b12 hx1 hy1 fx1 fy1 hlT1 hlB1
          have hsR := stAll (P := Tryz.prog) (cs := rpC (shN m) x1 y1) (hbo11.ref.next b12) rpI rfl (rpC_one (shN m) hx1 hy1)
          simp -implicitDefEqProofs [go_sem, g5, g6, g7, g9, g10, g57, g58, g59, ↓hsR]
          generalize World.setRow w12 _ _ = wA at *
          have hn1T : R0.1.T.length ≤ 64 := by rw [hg1.well.len]; omega
          have hst1 := hg1.steps
          have hact2 := poolDrop_calls R0.1 A.at_ wA hboA.pd rfl hn1T (by omega) hoff hdat
          refine callE_of hact2 ?_
          obtain ⟨R, hR⟩ : ∃ R, R = dropV (shN m) R0.1 A.at_ := ⟨_, rfl⟩
          have hg2 := hg1.drop hm4 (shN m) A.at_
          rw [← hR] at hg2 ⊢
          rintro v wB ⟨rfl, F11, hPDB, tB⟩
          have hboB := hboA.turn (V' := R.1) hPDB tB
          have hldB := ldAll (P := Tryz.prog) hboB.ref hstP rfl rpI rfl
          simp -implicitDefEqProofs [go_sem, g5, g6, g7, g9, g10, g57, g58, g59, ↓hldB]
          refine callE_of (rDrop_calls hg1.well hm4 x1 y1 A.at_ wB hboB.sx hboB.sy) ?_
          rintro v wC ⟨x2, y2, rfl, hx2, hy2, bC, fx, fy⟩
          rw [← hR] at hx2 hy2 ⊢
          have hlT : 0 < R.1.T.length := by rw [hg2.well.len]; omega
          have hlB : 0 < (bL R.1).length := by rw [bL_len]; exact hlT
          have hbo12 := hboB.ref_step bC hx2 hy2 fx fy hlT hlB
          have hsC := stAll (P := Tryz.prog) (cs := rpC (shN m) x2 y2) (hboB.ref.next bC) rpI rfl (rpC_one (shN m) hx2 hy2)
          simp -implicitDefEqProofs [go_sem, g5, g6, g7, g9, g10, g57, g58, g59, ↓hsC]
          generalize World.setRow wC _ _ = w13 at *
          have hn2 : R.1.T.length ≤ 64 := by rw [hg2.well.len]; omega
          have hnB : (bL R.1).length ≤ 64 := by rw [bL_len]; exact hn2
          have hmany := many_eq hg2.well m (Nat.le_refl _)
          have mz1 := manyL_le R.1.H m
          have mz2 := manyL_le R.1.T m
          obtain ⟨MH, hMH⟩ : ∃ M, M = manyL R.1.H m := ⟨_, rfl⟩
          obtain ⟨MT, hMT⟩ : ∃ M, M = manyL R.1.T m := ⟨_, rfl⟩
          obtain ⟨MB, hMB⟩ : ∃ M, M = manyL (bL R.1) m := ⟨_, rfl⟩
          rw [← hMH, ← hMT, ← hMB] at hmany
          rw [← hMH] at mz1
          rw [← hMT] at mz2
          have hsub : (MB : Int) - (MT : Int) = (MH : Int) := by omega
          have kMH := IntWalk.i64_in (MH : Int) (by omega)
          obtain ⟨LA, hLA⟩ : ∃ LA, LA = allK (shN m) R.1.T R.1.T.length := ⟨_, rfl⟩
          refine drawE_mix [.pure 0, .pure 1, .pure 2, .pure 3, .pure 4, .pure 6, .pure 9, .take 7, .take 10, .run 5 [7, 10], .run 8 [10], .run 11 [], .pure 12, .pure 13, .pure 14, .pure 15, .pure 16, .take 18, .run 17 [18], .run 19 [], .run 20 [], .pure 21, .pure 22] mixed (by decide +kernel) (by simp only [withOps, MStep.num, List.filterMap_cons, List.filterMap_nil, List.getElem?_cons_succ, List.getElem?_cons_zero, Option.map_some]; rfl) ?_
          have hbo14 := hbo12.next (Below.refl _ _).drew
          generalize World.drew w13 = w14 at *
          simp -implicitDefEqProofs [go_sem, g5, g6, g7, g9, g10, g57, g58, g59]
          refine onTake_of (fun w' => Below w14.heap.size w14 w') y2 (Below.refl _ _) (fun w' hw => by simp -implicitDefEqProofs [go_sem, g9, (hbo14.ref.next hw).cell, rpC_5]) ?_
          simp -implicitDefEqProofs [go_sem, g5, g6, g7, g9, g10, g57, g58, g59]
          refine onTake_of (fun w' => Below w14.heap.size w14 w') x2 (Below.refl _ _) (fun w' hw => by simp -implicitDefEqProofs [go_sem, g9, (hbo14.ref.next hw).cell, rpC_4]) ?_
          have hheld := poolHeld_calls w14 hbo14.pd.pool hn2
          rw [hg2.well.lenH, ← hMH] at hheld
          simp -implicitDefEqProofs [go_sem, g5, g6, g7, g9, g10, g57, g58, g59]
          refine callE_of hheld ?_
          rintro v w15 ⟨rfl, b15⟩
          refine ⟨.inr (by simp -implicitDefEqProofs [go_sem] <;> exact b15), ?_⟩
          have hbo15 := hbo14.next b15
          have hcB := rCount_calls y2 (bL R.1) w15 hbo15.sy hnB
          rw [bL_len, hg2.well.len, ← hMB] at hcB
          simp -implicitDefEqProofs [go_sem, g5, g6, g7, g9, g10, g57, g58, g59]
          refine callE_of hcB ?_
          rintro v w16 ⟨rfl, b16⟩
          have c16 := b15.trans (b16.mono b15.size)
          refine ⟨.inr (by simp -implicitDefEqProofs [go_sem] <;> exact c16), ?_⟩
          have hbo16 := hbo15.next b16
          have hcT := rCount_calls x2 R.1.T w16 hbo16.sx hn2
          rw [hg2.well.len, ← hMT] at hcT
          simp -implicitDefEqProofs [go_sem, g5, g6, g7, g9, g10, g57, g58, g59]
          refine callE_of hcT ?_
          rintro v w17 ⟨rfl, b17⟩
          have c17 := c16.trans (b17.mono c16.size)
          refine ⟨.inr (by simp -implicitDefEqProofs [go_sem] <;> exact c17), ?_⟩
          have hbo17 := hbo16.next b17
          simp -implicitDefEqProofs [go_sem, g5, g6, g7, g9, g10, g57, g58, g59, hsub, kMH]
          refine onTake_of (fun w' => Below w17.heap.size w17 w') (.agg (rpC (shN m) x2 y2)) (Below.refl _ _) (fun w' hw => by simp -implicitDefEqProofs [go_sem, g9, (hbo17.ref.next hw).cell, rpC_0, rpC_1, rpC_2, rpC_3, rpC_4, rpC_5]; rfl) ?_
          have hall := poolAll_calls w17 hbo17.pd.pool hn2 hdat
          rw [← hLA] at hall
          simp -implicitDefEqProofs [go_sem, g5, g6, g7, g9, g10, g57, g58, g59]
          refine callE_of hall ?_
          rintro v w18 ⟨a18, c18, rfl, hv18, b18⟩
          refine ⟨.inr (by simp -implicitDefEqProofs [go_sem] <;> exact b18), ?_⟩
          have hbo18 := hbo17.next b18
          have hallR := rAll_calls (shN m) x2 y2 R.1.T (bL R.1) w18 hbo18.sx hbo18.sy hn2 hdat
          rw [← hLA] at hallR
          simp -implicitDefEqProofs [go_sem, g5, g6, g7, g9, g10, g57, g58, g59]
          refine callE_of hallR ?_
          rintro v w19 ⟨a19, c19, rfl, hv19, b19⟩
          have hbo19 := hbo18.next b19
          have c19' := b18.trans (b19.mono b18.size)
          refine ⟨.inr (by simp -implicitDefEqProofs [go_sem] <;> exact c19'), ?_⟩
          simp -implicitDefEqProofs [go_sem, g5, g6, g7, g9, g10, g57, g58, g59]
          refine callE_of (sameI_calls a18 a19 LA LA c18 c19 w19 (hv18.next b19) hv19) ?_
          rintro v w20 ⟨rfl, b20⟩
          have hbo20 := hbo19.next b20
          have c20' := c19'.trans (b20.mono c19'.size)
          refine ⟨.inr (by simp -implicitDefEqProofs [go_sem] <;> exact c20'), ?_⟩
          rw [decide_eq_true (rfl : LA = LA)]
          simp -implicitDefEqProofs [go_sem, g5, g6, g7, g9, g10, g57, g58, g59, k1]
          refine goE_round ⟨k + 1, R.1, F11, a, n, c, xs, x2, y2, by omega, by omega, ?_⟩ ?_
          · simp -implicitDefEqProofs [go_sem, g5, g6, g7, g9, g10, g57, g58, g59]
            exact ⟨hg2.mono (by omega), hbo20⟩
          · simp -implicitDefEqProofs [go_sem, intOf, g59, k1]; omega
    · have hk' : k = l1.length := by omega
      obtain ⟨ax, cx, hxe, hxin⟩ := hbo.sx
      subst hxe
      have hcx := hbo.ref.cell 4
      rw [rpC_4] at hcx
      simp -implicitDefEqProofs [go_sem, g5, g6, g7, g9, g10, g57, g58, g59, hk', hcx]
      have hTm := hg.well.len
      refine wpE_loop (fun e2 w' => ∃ i : Nat, i ≤ V.T.length ∧ e2 5 = .pointer (some ⟨p, 0, none⟩) ∧ e2 7 = .pointer (some ⟨gs, 0, none⟩) ∧ e2 9 = .pointer (some ⟨gr, 0, none⟩) ∧ e2 195 = .slice ax V.T.length cx ∧ e2 196 = .int .i64 (V.T.length : Int) ∧ e2 197 = .int .i64 (i : Int) ∧
        Both w0 w' m b p tb tc hb hc V F gr gs B a n c xs (.slice ax V.T.length cx) y V.T (bL V)) (fun e2 _ => V.T.length - (intOf (e2 197)).toNat) ?_ ?_
      · refine ⟨0, by omega, ?_⟩
        simp -implicitDefEqProofs [go_sem, g5, g6, g7, g9, g10]
        exact hbo
      · clear hbo hxin hcx
        rintro e2 w10 ⟨i, hi, q5, q7, q9, q195, q196, q197, hbo⟩
        by_cases hil : i < V.T.length
        · have hil' : (i : Int) < V.T.length := by omega
          have r1 := IntWalk.i64_in ((i : Int) + 1) (by omega)
          have r2 := IntWalk.i64_in (8 * (i : Int)) (by omega)
          have r3 := IntWalk.i64_in (128 + 8 * (i : Int)) (by omega)
          obtain ⟨ax', cx', hxe, hxin⟩ := hbo.sx
          simp only [Value.slice.injEq] at hxe
          obtain ⟨rfl, -, rfl⟩ := hxe
          obtain ⟨bz, oz, rfl, gz⟩ := hxin.at_.cell hil
          have hui : V.T[i] = V.T.getD i 0#64 := by simp [List.getD, hil]
          obtain ⟨t, ht⟩ : ∃ t, t = V.T.getD i 0#64 := ⟨_, rfl⟩
          rw [hui, ← ht] at gz
          have hload := loadB (128 + 8 * (i : Int)) w10 hbo.pd.dev (by unfold I64; omega)
          rw [load_tab hg hm4 (by omega), ← ht] at hload
          have hs2 := hbo.sh.cell 2
          rw [shapeC_2] at hs2
          simp -implicitDefEqProofs [go_sem, q5, q7, q9, q195, q196, q197, hil, hil', gz, hs2, shN, r2, r3]
          refine callE_of hload ?_
          rintro v w11 ⟨rfl, rfl⟩
          simp -implicitDefEqProofs [go_sem, q5, q7, q9, q195, q196, q197, r1]
          refine goE_round ⟨i + 1, by omega, ?_⟩ ?_
          · simp -implicitDefEqProofs [go_sem, q5, q7, q9, q195, q196]
            exact hbo
          · simp -implicitDefEqProofs [go_sem, intOf, q197, r1]; omega
        · have hi' : i = V.T.length := by omega
          simp -implicitDefEqProofs [go_sem, q5, q7, q9, q195, q196, q197, hi']
          refine callE_of (crashB none 0 [] w10 hbo.pd.dev (by exact ⟨.inl rfl, by decide, by decide, fun _ => rfl⟩) (fun h => absurd rfl h) (by omega)) ?_
          rintro v w11 ⟨rfl, F11, hD11, t11⟩
          have hPD11 := hbo.pd.turn hD11 t11
          have T11 := turn_pd (b := b) (tb := tb) (hb := hb) t11
          have hbo11 := hbo.turn (V' := ⟨V.T, V.H, V.D.crash []⟩) hPD11 T11
          have hgC := good_crash0 hg hm4 [] hD11.ok
          simp -implicitDefEqProofs [go_sem, q5, q7, q9]
          refine callE_of (openWell_calls hm4 hgC w11 hD11 (hF.next hbo11.bel)) ?_
          rintro v w12 ⟨q, ta, tac, ha, hac, rfl, hQ, b12, hgq⟩
          have hbo12 := hbo11.next b12
          simp -implicitDefEqProofs [go_sem, q5, q7, q9]
          refine drawE_mix [.pure 0, .pure 1, .pure 2, .pure 3, .pure 4, .pure 5, .pure 6, .pure 7, .take 9, .run 8 [9], .run 10 [], .run 11 [], .pure 12, .pure 13, .pure 14, .run 15 [], .pure 16, .pure 17, .pure 18] mixed (by decide +kernel) (by simp only [withOps, MStep.num, List.filterMap_cons, List.filterMap_nil, List.getElem?_cons_succ, List.getElem?_cons_zero, Option.map_some]; rfl) ?_
          have hbo14 := hbo12.next (Below.refl _ _).drew
          have hQ14 := hQ.next (Below.refl _ _).drew
          generalize World.drew w12 = w14 at *
          obtain ⟨LA, hLA⟩ : ∃ LA, LA = allK (shN m) V.T V.T.length := ⟨_, rfl⟩
          simp -implicitDefEqProofs [go_sem, q5, q7, q9]
          refine onTake_of (fun w' => Below w14.heap.size w14 w') (.agg (rpC (shN m) (.slice ax V.T.length cx) y)) (Below.refl _ _) (fun w' hw => by simp -implicitDefEqProofs [go_sem, q9, (hbo14.ref.next hw).cell, rpC_0, rpC_1, rpC_2, rpC_3, rpC_4, rpC_5]; rfl) ?_
          have hall := poolAll_calls w14 hQ14 hn hdat
          rw [← hLA] at hall
          simp -implicitDefEqProofs [go_sem, q5, q7, q9]
          refine callE_of hall ?_
          rintro v w18 ⟨a18, c18, rfl, hv18, b18⟩
          refine ⟨.inr (by simp -implicitDefEqProofs [go_sem] <;> exact b18), ?_⟩
          have hbo18 := hbo14.next b18
          have hQ18 := hQ14.next b18
          have hallR := rAll_calls (shN m) (.slice ax V.T.length cx) y V.T (bL V) w18 hbo18.sx hbo18.sy hn hdat
          rw [← hLA] at hallR
          simp -implicitDefEqProofs [go_sem, q5, q7, q9]
          refine callE_of hallR ?_
          rintro v w19 ⟨a19, c19, rfl, hv19, b19⟩
          have hbo19 := hbo18.next b19
          have hQ19 := hQ18.next b19
          have c19' := b18.trans (b19.mono b18.size)
          refine ⟨.inr (by simp -implicitDefEqProofs [go_sem] <;> exact c19'), ?_⟩
          simp -implicitDefEqProofs [go_sem, q5, q7, q9]
          refine callE_of (sameI_calls a18 a19 LA LA c18 c19 w19 (hv18.next b19) hv19) ?_
          rintro v w20 ⟨rfl, b20⟩
          have hbo20 := hbo19.next b20
          have hQ20 := hQ19.next b20
          have c20' := c19'.trans (b20.mono c19'.size)
          refine ⟨.inr (by simp -implicitDefEqProofs [go_sem] <;> exact c20'), ?_⟩
          rw [decide_eq_true (rfl : LA = LA)]
          have hheld : Ret Tryz.prog 15 #[.pointer (some ⟨q, 0, none⟩)] w20 fun v w' => v = .int .i64 0 ∧ Below w20.heap.size w20 w' := by
            refine (poolHeld_calls w20 hQ20 hn).mono ?_
            rintro v w' ⟨rfl, h⟩
            refine ⟨?_, h⟩
            rw [many_zero]; rfl
          simp -implicitDefEqProofs [go_sem, q5, q7, q9]
          refine callE_of hheld ?_
          rintro v w21 ⟨rfl, b21⟩
          have c21' := c20'.trans (b21.mono c20'.size)
          refine ⟨.inr (by simp -implicitDefEqProofs [go_sem] <;> exact c21'), ?_⟩
          simp -implicitDefEqProofs [go_sem, q5, q7, q9]
          refine body_tmp 4 rfl ?_
          simp -implicitDefEqProofs [go_sem]
          exact hbo20.bel.trans (b21.mono hbo20.bel.size)
end Go.Proofs.YtcpackbljaabnaaGreatDoor
