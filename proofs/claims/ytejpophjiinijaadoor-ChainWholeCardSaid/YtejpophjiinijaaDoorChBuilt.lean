/- built: the walk. -/
import Derived.Test.YtejpophjiinijaaDoorLnkA
import Derived.Test.YtejpophjiinijaaDoorChP
namespace Go.Proofs.YtejpophjiinijaaDoor
set_option linter.unusedVariables false
set_option linter.unusedSimpArgs false
set_option maxRecDepth 100000
open Go Go.RowKit

/-- One link ahead of others. -/
theorem prep_lk {t e : TypeId} (ht : Tryd.prog.underlying t = some (.slice e)) (hI : LkInfo e) {w : World} {a : Option Addr} {len c : Nat} {l : List LinkV} (base : Nat) (hown : w.ownsRow base e 5 (.slice a len c) len (flat l)) (hl : len ≤ 1000000) (hbase : base ≤ w.heap.size) (k : LinkV) :
    ∃ g c2 w2, (appendB #[t, t] t #[.slice (some ⟨w.heap.size, 0, none⟩) 1 1, .slice a len c]).run Tryd.prog (w.alloc (.cells k.cs e)) = .ok (.slice (some ⟨g, 0, none⟩) (len + 1) c2) w2 ∧
      w2.ownsRow base e 5 (.slice (some ⟨g, 0, none⟩) (len + 1) c2) (len + 1) (flat (k :: l)) ∧ Below w.heap.size w w2 ∧ w.heap.size ≤ g ∧ g < w2.heap.size := by
  have ha : (w.alloc (.cells k.cs e)).heap.size = w.heap.size + 1 := by simp
  obtain ⟨ti, tz, hti, htz, hts, htb, htc⟩ := hI.get
  have hlit := World.ownsRow_lit (base := w.heap.size) (e := e) (size := 5) w k.cs 1 (Nat.le_refl _) (by decide) (by rw [k.cs_size])
  have hlit0 := World.ownsRow_lit (base := base) (e := e) (size := 5) w k.cs 1 hbase (by decide) (by rw [k.cs_size])
  have hlen := hown.1
  have hown1 := hown.alloc (.cells k.cs e)
  have b1 : Below w.heap.size w (w.alloc (.cells k.cs e)) := (Below.refl _ _).alloc (Nat.le_refl _) _
  rcases hown.2 with ⟨hv, h0⟩ | ⟨g0, cap2, cur, hv, hg0, hblk, hcap, hmx, hsz, htake⟩
  · simp only [Value.slice.injEq] at hv
    obtain ⟨rfl, _, rfl⟩ := hv
    subst h0
    have hnil : flat l = [] := List.eq_nil_of_length_eq_zero (by omega)
    refine ⟨w.heap.size, 1, w.alloc (.cells k.cs e), ?_, ?_, b1, Nat.le_refl _, by omega⟩
    · exact run_append_owned_none _ base t t e ti 5 ht hti _ _ _ hlit0
    · rw [flat_cons, hnil, List.append_nil]; exact hlit0
  · simp only [Value.slice.injEq] at hv
    obtain ⟨rfl, _, rfl⟩ := hv
    by_cases hz : len = 0
    · subst hz
      have hnil : flat l = [] := List.eq_nil_of_length_eq_zero (by omega)
      obtain ⟨v', w', hr, ho, hg, hv2⟩ := run_append_own (P := Tryd.prog) (w.alloc (.cells k.cs e)) base t t e ti tz 5 48 ht hti htz hts htb htc (by decide) _ _ _ hlit0 ⟨g0, 0, none⟩ 0 c [] rfl (fun j u hu => by simp at hu) (by simp) (by decide) (by omega) (by omega)
      rcases ho.2 with ⟨_, h0⟩ | ⟨g, cap', cur', rfl, hbg, hgb, _⟩
      · omega
      · have b2 : Below w.heap.size w w' := b1.grown hg (by omega) (fun j hj => by simp [Value.ownBlock] at hj; omega)
        refine ⟨g, cap', w', hr, ?_, b2, ?_, Blk.lt hgb⟩
        · rw [flat_cons, hnil]; exact ho
        · obtain ⟨v2, w2', hr2, ho2, _⟩ := run_append_own (P := Tryd.prog) (w.alloc (.cells k.cs e)) w.heap.size t t e ti tz 5 48 ht hti htz hts htb htc (by decide) _ _ _ hlit ⟨g0, 0, none⟩ 0 c [] rfl (fun j u hu => by simp at hu) (by simp) (by decide) (by omega) (by omega)
          rw [hr] at hr2
          simp only [Result.ok.injEq] at hr2
          obtain ⟨rfl, rfl⟩ := hr2
          rcases ho2.2 with ⟨h, _⟩ | ⟨g2, _, _, h, hb2, _⟩
          · cases h
          · simp only [Value.slice.injEq, Option.some.injEq, Addr.mk.injEq] at h
            omega
    · have holds : ∀ j u, (flat l)[j]? = some u → (w.alloc (.cells k.cs e)).cell? ((⟨g0, 0, none⟩ : Addr).add j) = some u := hown1.cells (g := g0) rfl
      obtain ⟨g, c2, w2, hr2, hown2, hgr, hwhere⟩ := run_append_where (P := Tryd.prog) (w := w.alloc (.cells k.cs e)) base (t := t) (ty := t) ht hti htz hts htb htc (by decide) hlit0 ⟨g0, 0, none⟩ (m := len) (c := c) (news := flat l) hlen holds flat_one_cell (by omega) (by omega) (by omega) (by omega)
      have b2 : Below w.heap.size w w2 := b1.grown hgr (by omega) (fun j hj => by simp [Value.ownBlock] at hj; omega)
      rw [Nat.add_comm 1 len] at hr2 hown2
      have hlt : g < w2.heap.size := (owns_new5 hown2 _ rfl).2
      refine ⟨g, c2, w2, hr2, by rw [flat_cons]; exact hown2, b2, ?_, hlt⟩
      rcases hwhere with h | h
      · simp [Value.ownBlock] at h; omega
      · omega
theorem beginL {m : Nat} {L : Int} (hm : m = 12) (hL : L = ((188 + m : Nat) : Int)) (w : World) (h : Fours w) : Ret Tryd.prog 31 #[.int .i64 L] w fun v w' => ∃ p b tb tc hb hc F, v = .tuple #[.pointer (some ⟨p, 0, none⟩), .pointer (some ⟨b, 0, none⟩)] ∧
      PD w' b p (shN m) (zL m) (zL m) tb tc hb hc F (begD m) ∧ Below w.heap.size w w' ∧ (∀ k, PdK b tb hb F k → w.heap.size ≤ k) := by
  have := begin_calls m hm w h
  rw [← hL] at this; exact this
theorem ownsRow_modA {w w' : World} {F : Nat → Prop} {base size n cap : Nat} {e : TypeId} {a : Option Addr} {xs : List Value} (h : w.ownsRow base e size (.slice a n cap) n xs) (hm : Mod F w w') (hF : ∀ y, a = some y → ¬ F y.block) : w'.ownsRow base e size (.slice a n cap) n xs := by
  refine ⟨h.1, ?_⟩
  rcases h.2 with h1 | ⟨g, cap2, cur, hv, hg, hblk, rest⟩
  · exact .inl h1
  · refine .inr ⟨g, cap2, cur, hv, hg, ?_, rest⟩
    simp only [Value.slice.injEq] at hv
    have hblk : Blk w g cur e := hblk
    exact hblk.mod hm (hF ⟨g, 0, none⟩ hv.1)
theorem results_tmp4 {fn : Func} {t u v x : Tmp} (h : fn.results = #[.tmp t, .tmp u, .tmp v, .tmp x]) (tmps : Array Value) (P : Program) (w : World) : (results fn tmps).run P w = .ok (.tuple #[tmps.getD t undef, tmps.getD u undef, tmps.getD v undef, tmps.getD x undef]) w := by
  simp only [results, h]
  simp [Sem.run_bind, Result.andThen]
theorem body_tmp4 {P : Program} {fn : Func} {R : Value → World → Prop} {e : Env} {w : World} (u v x y : Tmp) {t : Tag (bodyR P fn R, Exit.ret)} (h : fn.results = #[.tmp u, .tmp v, .tmp x, .tmp y]) (hR : R (.tuple #[e u, e v, e x, e y]) w) : goE (bodyR P fn R) .ret t e w := by
  intro tmps ht
  exact ⟨_, results_tmp4 h tmps P w, by rw [ht, ht, ht, ht]; exact hR⟩
theorem tab128 (m : Nat) : (shN m).table = 128 := rfl
/-- What is built, in memory. -/
def BuiltP (m : Nat) (w0 : World) (S : BS) (v : Value) (w' : World) : Prop :=
  ∃ p b tb tc hb hc F am cm, v = .tuple #[.pointer (some ⟨p, 0, none⟩), .pointer (some ⟨b, 0, none⟩), .int .u64 (uv S.first), .slice am S.M.length cm] ∧ PD w' b p (shN m) S.V.T S.V.H tb tc hb hc F S.V.D ∧
    (∀ k, PdK b tb hb F k → w0.heap.size ≤ k) ∧ LksIn w' am S.M cm ∧ (∀ y, am = some y → w0.heap.size ≤ y.block ∧ y.block < w'.heap.size ∧ ¬ PdK b tb hb F y.block) ∧ Below w0.heap.size w0 w'
section
set_option linter.unusedSimpArgs false
set_option maxHeartbeats 8000000
theorem built_calls {m : Nat} (hm : m = 12) (a : Option Addr) (l : List LinkV) (cap : Nat) (w0 : World) (hF : Fours w0) (hT : Tabs w0) (h : RcsIn w0 a l cap) (hl : l.length ≤ 40) :
    Ret Tryd.prog 18 #[.slice a l.length cap] w0 (BuiltP m w0 (bldS m l l.length)) := by
  have bel0 := Below.refl w0.heap.size w0
  obtain ⟨L, hL⟩ : ∃ L : Int, L = 200 := ⟨_, rfl⟩
  have hLm : L = ((188 + m : Nat) : Int) := by omega
  refine ret_of (args := [_]) _ Tryd.func18 rfl Tryd.ntmps18 (by simp) ?_
  simp -implicitDefEqProofs [go_sem]
  rw [← hL]
  refine callE_of (beginL hm hLm w0 hF) ?_
  rintro v w1 ⟨p, b, tb, tc, hb, hc, F, rfl, hP1, bel1, hge1⟩
  simp -implicitDefEqProofs [go_sem]
  refine wpE_loop (fun e' w' => ∃ (k : Nat) (F' : Nat → Prop) (am : Option Addr) (cm : Nat), k ≤ l.length ∧ e' 6 = .pointer (some ⟨p, 0, none⟩) ∧ e' 7 = .pointer (some ⟨b, 0, none⟩) ∧ e' 8 = .int .u64 (uv (bldS m l k).first) ∧ e' 9 = .slice am (bldS m l k).M.length cm ∧
    e' 24 = .slice a l.length cap ∧ e' 25 = .int .i64 l.length ∧ e' 26 = .int .i64 k ∧ PD w' b p (shN m) (bldS m l k).V.T (bldS m l k).V.H tb tc hb hc F' (bldS m l k).V.D ∧ (∀ j, PdK b tb hb F' j → w0.heap.size ≤ j) ∧
    w'.ownsRow w0.heap.size 28 5 (.slice am (bldS m l k).M.length cm) (bldS m l k).M.length (flat (bldS m l k).M) ∧ (∀ y, am = some y → ¬ PdK b tb hb F' y.block) ∧ Below w0.heap.size w0 w') (fun e' _ => l.length - (intOf (e' 26)).toNat) ?_ ?_
  · refine ⟨0, F, none, 0, by omega, ?_⟩
    simp -implicitDefEqProofs [go_sem, bldS]
    exact ⟨rfl, hP1, hge1, World.ownsRow_nil _ _ _ _, bel1⟩
  · rintro e' w2 ⟨k, F2, am, cm, hk, g6, g7, g8, g9, g24, g25, g26, hP2, hge2, hown, hsep, bel2⟩
    by_cases hlt : k < l.length
    · have hlt' : (k : Int) < l.length := by omega
      have hB := blt hm l hl k hk
      have herr := blt_err hm hB (by omega) (l.getD k default)
      have hkd : l.getD k default = l[k] := by simp [List.getD, hlt]
      rw [hkd] at herr
      have hnext : bldS m l (k + 1) = stepB m k (bldS m l k) l[k] := by rw [← hkd]; rfl
      obtain ⟨S, hS⟩ : ∃ S, S = bldS m l k := ⟨_, rfl⟩
      rw [← hS] at g8 g9 hP2 hown hB herr hnext
      obtain ⟨n, hn, hC⟩ := hB.ch
      have hwk := IntWalk.i64_in ((k : Int) + 1) (by omega)
      have hw2k := IntWalk.i64_in (2 * (k : Int)) (by omega)
      have hw2k1 := IntWalk.i64_in (2 * (k : Int) + 1) (by omega)
      obtain ⟨st, hst0⟩ : ∃ st, st = BitVec.ofNat 64 (2 * k + 1) := ⟨_, rfl⟩
      have hstc : BitVec.ofInt 64 (2 * (k : Int) + 1) = st := by
        rw [hst0, show (2 * (k : Int) + 1) = ((2 * k + 1 : Nat) : Int) by omega]; exact BitVec.ofInt_natCast _ _
      obtain ⟨r, hr⟩ : ∃ r, r = mkR k S.first l[k] := ⟨_, rfl⟩
      have hrc : r.rc = #[.int .u64 (uv st), .int .u64 (uv S.first), .bool l[k].gone, .string (if l[k].gone then ⟨#[]⟩ else l[k].text)] := by rw [hr, hst0]; rfl
      rw [← hr] at herr
      obtain ⟨ba, oa, rfl, hcell⟩ := (h.next bel2).get hlt
      have hld := ldCells (P := Tryd.prog) (w := w2) (g := ba) (o := oa + k * 4) (cs := l[k].rc) Tryd.underlying26 rfl recI_ref rfl hcell
      have hst := stNew (P := Tryd.prog) (t := 26) (cs := l[k].rc) (C0 := #[.int .u64 0, .int .u64 0, .bool false, .string ⟨#[]⟩]) recI_ref rfl (l[k].rc_one)
      have hstN := fun C => stNew (P := Tryd.prog) (t := 26) (cs := l[k].rc) (C0 := C) recI_ref
      simp only [LinkV.rc] at hld hst
      cases hg : l[k].gone
      all_goals
        rw [hg] at hrc hld hst
        simp -implicitDefEqProofs [go_sem, g6, g7, g8, g9, g24, g25, g26, hlt, hlt', ↓hld, ↓hst, hw2k, hw2k1, hstc]
        simp only [if_true, if_false, Bool.false_eq_true] at hrc
        rw [← hrc]
        generalize hw3 : World.alloc w2 _ = w3 at *
        obtain ⟨hB3, b3, sz3⟩ := new_facts hw3
        have bel3 := bel2.trans (b3.mono bel2.size)
        have hP3 := hP2.next b3
        replace hown := ownsRow_next hown b3
        have nF : ¬ PdK b tb hb F2 w2.heap.size := fun hf => by have := hP2.lt _ hf; omega
        obtain ⟨nr, hnr, hnr2⟩ := res_small (hC.soft.well hB.up) hm (c := 1) (.inl rfl)
        have hst' := hB.steps
        refine callE_of (Dq.add_calls S.V r w3 hP3 (hT.next bel3) (tab128 m) (by rw [hC.soft.small.len]; omega) (by omega) (dat_ok m) (by rw [hnr]; unfold I64; omega)) ?_
        rintro v w4 ⟨rfl, F4, hP4, t4⟩
        have hown4 := ownsRow_modA hown t4.mod hsep
        have hB4 := hB3.mod t4.mod nF
        have bel4 := bel3.trans (t4.mod.below bel3.size (fun j hj => hge2 j hj))
        have hge4 : ∀ j, PdK b tb hb F4 j → w0.heap.size ≤ j := t4.ge bel3.size hge2
        have hsep4 : ∀ y, am = some y → ¬ PdK b tb hb F4 y.block := fun y hy => not_new (hsep y hy) (owns_new5 hown y hy).2 t4
        have ldR := ldAll (P := Tryd.prog) hB4 Tryd.underlying26 rfl recI_ref (n := 4) r.rc_size
        unfold stepB at hnext
        rw [← hr] at hnext
        obtain ⟨A, hA⟩ : ∃ A, A = addV (shN m) S.V r := ⟨_, rfl⟩
        rw [← hA] at hP4 herr hnext ⊢
        have hMl : S.M.length ≤ 1000 := by have := hC.len; omega
        by_cases he : A.2.2 = 0
        · rw [if_pos he] at hnext
          obtain ⟨K, hK⟩ : ∃ K : LinkV, K = { r with off := A.2.1.toInt } := ⟨_, rfl⟩
          rw [← hK] at hnext
          have hwo := wrap_uv A.2.1
          obtain ⟨g, c2, w5, hr5, hown5, b5, hg5, hg5'⟩ := prep_lk (t := 22) (e := 28) Tryd.underlying22 lkI_ref w0.heap.size hown4 (by omega) bel4.size K
          have hKc : K.cs = #[.int .i64 A.2.1.toInt, .int .u64 (uv st), .int .u64 (uv S.first), .bool l[k].gone, .string (if l[k].gone then ⟨#[]⟩ else l[k].text)] := by rw [hK, hr, hst0]; rfl
          rw [hg] at hKc
          simp only [if_true, if_false, Bool.false_eq_true] at hKc
          rw [hKc] at hr5
          rw [hrc] at ldR
          simp -implicitDefEqProofs [go_sem, g6, g7, g8, g9, g24, g25, g26, he, ↓ldR, hwo, hr5, hwk]
          have bel5 := bel4.trans (b5.mono bel4.size)
          refine goE_round ⟨k + 1, F4, some ⟨g, 0, none⟩, c2, by omega, ?_⟩ ?_
          · rw [hnext]
            simp -implicitDefEqProofs [go_sem, g6, g7, g24, g25]
            refine ⟨hP4.next b5, hge4, hown5, ?_, bel5⟩
            intro hf
            have := hP4.lt _ hf
            omega
          · simp -implicitDefEqProofs [go_sem, intOf, g26, hwk]; omega
        · rw [if_neg he] at hnext
          have hri : r.right = false := by rcases herr with h | h; exact absurd h he; exact h
          have he' : (A.2.2 != 0) = true := bne_iff_ne.2 he
          simp -implicitDefEqProofs [go_sem, g6, g7, g8, g9, g24, g25, g26, he', ↓ldR]
          refine callE_of (refRight_calls r.stamp r.nxt r.gone r.text w4) ?_
          rintro v w5 ⟨rfl, b5⟩
          have hri' : rightB r.stamp r.gone r.text = false := hri
          simp -implicitDefEqProofs [go_sem, hri', g26, hwk]
          refine goE_round ⟨k + 1, F4, am, cm, by omega, ?_⟩ ?_
          · rw [hnext]
            simp -implicitDefEqProofs [go_sem, g6, g7, g8, g9, g24, g25]
            exact ⟨hP4.next b5, hge4, ownsRow_next hown4 b5, hsep4, bel4.trans (b5.mono bel4.size)⟩
          · simp -implicitDefEqProofs [go_sem, intOf, g26, hwk]; omega
    · have hk' : k = l.length := by omega
      subst hk'
      have hn' : ¬ (l.length : Int) < l.length := by omega
      simp -implicitDefEqProofs [go_sem, g6, g7, g8, g9, g24, g25, g26, hn']
      refine body_tmp4 2 3 4 5 rfl ?_
      exact ⟨p, b, tb, tc, hb, hc, F2, am, cm, (by simp -implicitDefEqProofs [go_sem]), hP2, hge2, owns_lks rfl hown, fun y hy => ⟨(owns_new5 hown y hy).1, (owns_new5 hown y hy).2, hsep y hy⟩, bel2⟩
end
end Go.Proofs.YtejpophjiinijaaDoor
