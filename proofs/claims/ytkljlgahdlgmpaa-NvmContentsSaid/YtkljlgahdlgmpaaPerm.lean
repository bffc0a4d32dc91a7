/- Regions that draw their order: reads first, in whatever listed order of numbers; then the rest, in one. The last ones of the rest, if they wait for all reads, may turn what was read. -/
import Derived.Test.YtkljlgahdlgmpaaHeld
namespace Go.Proofs.Ytkljlgahdlgmpaa
open Go

/-! ### Who waits for an operation, through others -/
def upStep (md : Region.Mode) (ops : Array Oper) (M : List Nat) (j : Nat) : List Nat := if M.any (fun k => Region.waitsFor md ops j k) then j :: M else M
def upB (md : Region.Mode) (ops : Array Oper) (i : Nat) : List Nat := (List.range ops.size).foldl (upStep md ops) [i]
/-- What has come up, came behind what it waits for. -/
def ClosedL (md : Region.Mode) (ops : Array Oper) (listed : Array Bool) : Prop := ∀ j oj, ops[j]? = some oj → listed.getD j false = true → ∀ e ∈ oj.after, Region.binds md e = true → listed.getD e.on false = true

section
variable {P : Program} {ops : Array Oper} {Q : Exit → Act → World → Prop} {md : Region.Mode} {D : Nat → World → Prop}
theorem ClosedL.none : ClosedL md ops (Array.replicate ops.size false) := fun j oj _ h => by rw [getD_replicate_false] at h; cases h
theorem ClosedL.set {i : Nat} {listed : Array Bool} (h : ClosedL md ops listed) (hi : i ∈ Region.ready md ops listed) : ClosedL md ops (listed.setIfInBounds i true) := by
  intro j oj hj hl e he hb
  by_cases hij : i = j
  · subst hij
    obtain ⟨_, oi, hoi, hall⟩ := mem_ready.1 hi
    obtain rfl : oj = oi := Option.some.inj (hj.symm.trans hoi)
    exact getD_set_true (hall e he hb)
  · rw [getD_set_ne false hij] at hl
    exact getD_set_true (h j oj hj hl e he hb)
theorem up_unlisted {listed : Array Bool} (h : ClosedL md ops listed) {i : Nat} (hi : listed.getD i false = false) : ∀ j ∈ upB md ops i, listed.getD j false = false ∧ (j = i ∨ j ∉ Region.ready md ops listed) := by
  unfold upB
  have hstep : ∀ (l : List Nat) (M : List Nat), (∀ j ∈ M, listed.getD j false = false ∧ (j = i ∨ j ∉ Region.ready md ops listed)) → ∀ j ∈ l.foldl (upStep md ops) M, listed.getD j false = false ∧ (j = i ∨ j ∉ Region.ready md ops listed) := by
    intro l
    induction l with
    | nil => intro M hM; exact hM
    | cons x l ih =>
      intro M hM
      refine ih _ (fun j hj => ?_)
      unfold upStep at hj
      split at hj
      · rename_i hw
        rcases List.mem_cons.1 hj with rfl | hj
        · obtain ⟨k, hk, hwk⟩ := List.any_eq_true.1 hw
          obtain ⟨oj, hoj, e, he, hb, hon⟩ := Region.waitsFor_spec hwk
          have hk0 := (hM k hk).1
          constructor
          · cases hl : listed.getD j false with
            | false => rfl
            | true => have := h j oj hoj hl e he hb; rw [hon, hk0] at this; cases this
          · right
            intro hr
            obtain ⟨_, o', ho', hall⟩ := mem_ready.1 hr
            obtain rfl : oj = o' := Option.some.inj (hoj.symm.trans ho')
            have := hall e he hb
            rw [hon, hk0] at this; cases this
        · exact hM j hj
      · exact hM j hj
  exact hstep _ [i] (fun j hj => by rw [List.mem_singleton.1 hj]; exact ⟨hi, .inl rfl⟩)

/-- Whatever order is picked; behind operation i the world is as D i asks. -/
def wpAnyT (P : Program) (md : Region.Mode) (ops : Array Oper) (Q : Exit → Act → World → Prop) (D : Nat → World → Prop) : Nat → Array Bool → Act → World → Prop
  | 0, listed, a, w => Region.ready md ops listed = [] ∧ Q .normal a w
  | fuel + 1, listed, a, w =>
    (Region.ready md ops listed = [] → Q .normal a w) ∧
    ∀ i ∈ Region.ready md ops listed, wpOp P ops Q i (fun a' w' => D i w' ∧ wpAnyT P md ops Q D fuel (listed.setIfInBounds i true) a' w') a w
theorem wpAny_of_T : ∀ (fuel : Nat) (listed : Array Bool) (a : Act) (w : World), wpAnyT P md ops Q D fuel listed a w → wpAny P md ops Q fuel listed a w
  | 0, _, _, _, h => h
  | fuel + 1, _, _, _, h => ⟨h.1, fun i hi => wpOp_mono (fun a' w' h' => wpAny_of_T fuel _ a' w' h'.2) (h.2 i hi)⟩

theorem wpAnyT_first {i : Nat} {oi : Oper} {v : Value} {S : World → Prop} (hi : ops[i]? = some oi) (hsel : ∀ (j : Nat) (o : Oper) cs b, ops[j]? = some o → o.op ≠ .select cs b)
    (hQ : ∀ c a w, Q (.panic c) (a.put oi.dst v) w → Q (.panic c) a w) (hD : ∀ w, S w → D i w) (hup : ∀ j, j ∉ upB md ops i → ∀ w, D j w → S w) :
    ∀ (fuel : Nat) (listed : Array Bool) (a : Act) (w : World), ClosedL md ops listed →
      (∀ j oj, ops[j]? = some oj → j ≠ i → listed.getD j true = false → (∀ e ∈ oj.after, Region.binds md e = true → e.on ≠ i) → oi.apart ops oj = true) →
      i ∈ Region.ready md ops listed → YieldsIf P ops S oi v a → S w →
      wpAnyT P md ops Q D fuel (listed.setIfInBounds i true) (a.put oi.dst v) w → wpAnyT P md ops Q D (fuel + 1) listed a w := by
  intro fuel
  induction fuel with
  | zero =>
    intro listed a w _ _ hr hy hS H
    refine ⟨fun h => (by rw [h] at hr; cases hr), fun j hj => ?_⟩
    by_cases hji : j = i
    · subst hji; exact hy.wpOp hi hS ⟨hD w hS, H⟩
    · have := ready_mono hj hji
      rw [H.1] at this; cases this
  | succ fuel ih =>
    intro listed a w hcl hfree hr hy hS H
    refine ⟨fun h => (by rw [h] at hr; cases hr), fun j hj => ?_⟩
    by_cases hji : j = i
    · subst hji; exact hy.wpOp hi hS ⟨hD w hS, H⟩
    · have h1 := H.2 j (ready_mono hj hji)
      obtain ⟨hjun, oj, hoj, hall⟩ := mem_ready.1 hj
      have hi0 : listed.getD i false = false := getD_both (mem_ready.1 hr).1
      have hnotup : j ∉ upB md ops i := fun hu => by
        rcases (up_unlisted hcl hi0 j hu).2 with h | h
        · exact hji h
        · exact h hj
      have hnot : ∀ e ∈ oj.after, Region.binds md e = true → e.on ≠ i := fun e he hb heq => by
        have h2 := hall e he hb
        rw [heq, hi0] at h2; cases h2
      have h2 := wpOp_putIf hoj (hfree j oj hoj hji hjun hnot) (fun cs b => hsel i oi cs b hi) (fun cs b => hsel j oj cs b hoj) hQ hy h1
      refine wpOp_mono (fun a' w' h3 => ⟨h3.2.1, ih (listed.setIfInBounds j true) a' w' (hcl.set hj) (fun k ok hk hki hun hno => hfree k ok hk hki ?_ hno) (ready_mono hr (Ne.symm hji)) h3.1 (hup j hnotup w' h3.2.1) ?_⟩) h2
      · by_cases hjk : j = k
        · subst hjk; exact hjun
        · rw [getD_set_ne true hjk] at hun; exact hun
      · rw [Array.setIfInBounds_comm _ _ hji]; exact h3.2.2
theorem wpAnyT_all {rs : List Nat} {fuel : Nat} {listed : Array Bool} {a : Act} {w : World} (hr : Region.ready md ops listed = rs) (hne : rs ≠ [])
    (h : ∀ i ∈ rs, wpOp P ops Q i (fun a' w' => D i w' ∧ wpAnyT P md ops Q D fuel (listed.setIfInBounds i true) a' w') a w) : wpAnyT P md ops Q D (fuel + 1) listed a w :=
  ⟨fun h0 => absurd (hr ▸ h0) hne, hr ▸ h⟩
end

def seqJ (md : Region.Mode) (ops : Array Oper) : List Nat → Array Bool → Bool
  | [], listed => (Region.ready md ops listed).isEmpty
  | j :: js, listed => decide (Region.ready md ops listed = [j]) && seqJ md ops js (listed.setIfInBounds j true)
def permB (md : Region.Mode) (ops : Array Oper) (js jb : List Nat) : List Nat → Array Bool → Bool
  | [], listed => seqJ md ops (js ++ jb) listed
  | i :: is, listed => (Region.ready md ops listed).contains i && Region.free md ops listed i && (jb.all fun t => (upB md ops i).contains t) && permB md ops js jb is (listed.setIfInBounds i true)
/-- What is asked behind an operation. -/
def askT (jb : List Nat) (C : World → Prop) (i : Nat) (w : World) : Prop := i ∈ jb ∨ C w

theorem restAnyT {P : Program} {n : Nat} {ops : Array Oper} {C : World → Prop} {jb : List Nat} {md : Region.Mode} {Q : Exit → Env → World → Prop} : ∀ (l : List Oper) (js : List Nat) (listed : Array Bool) (e : Env) (a : Act) (w : World), (∀ j ∈ js, j ∈ jb) → js.map (fun j => ops[j]?) = l.map some →
    seqJ md ops js listed = true → Fits n e a → opsR P n ops (Q .normal) l e w → wpAnyT P md ops (noP (lift n Q)) (askT jb C) l.length listed a w
  | [], js, listed, e, a, w, _, hl, hB, hf, h => by
    obtain rfl : js = [] := by simpa using hl
    exact ⟨by simpa [seqJ] using hB, e, hf, h⟩
  | o :: l, [], _, _, _, _, _, hl, _, _, _ => by simp at hl
  | o :: l, j :: js, listed, e, a, w, hj, hl, hB, hf, h => by
    simp only [List.map_cons, List.cons.injEq] at hl
    obtain ⟨h0, hl⟩ := hl
    simp only [seqJ, Bool.and_eq_true, decide_eq_true_eq] at hB
    refine wpAnyT_all hB.1 (by simp) fun i hi => ?_
    have hik : i = j := by simpa using hi
    subst hik
    have hD : ∀ w, askT jb C i w := fun w => .inl (hj i List.mem_cons_self)
    have ih := fun e' a' w' => restAnyT (C := C) (md := md) (Q := Q) (P := P) (n := n) l js (listed.setIfInBounds i true) e' a' w' (fun k hk => hj k (List.mem_cons_of_mem _ hk)) hl hB.2
    obtain ⟨hd, h⟩ := h
    unfold wpOp
    simp only [h0]
    rw [wantE_eq hf]
    split
    · rename_i hw
      rw [if_pos hw] at h
      refine .inl ?_
      unfold Oper.wp
      rw [hf.eval]
      generalize (execOp (ev e) o).run P w = r at h
      cases r with
      | halt x w' => exact h.elim
      | ok x w' =>
        cases x with
        | value v => exact ⟨hD _, ih _ _ _ (hf.put _ v hd) h⟩
        | skip => exact ⟨hD _, ih _ _ _ (hf.put _ undef hd) h⟩
        | enter f args =>
          refine Calls.mono h ?_
          rintro x w2 ⟨v, rfl, hv⟩
          exact ⟨hD _, ih _ _ _ (hf.put _ v hd) hv⟩
        | _ => exact h.elim
    · rename_i hw
      rw [if_neg hw] at h
      exact ⟨hD _, ih _ _ _ (hf.put _ undef hd) h⟩

theorem restAnyP {P : Program} {n : Nat} {ops : Array Oper} {C : World → Prop} {jb : List Nat} {md : Region.Mode} {Q : Exit → Env → World → Prop} {lb : List Oper} (hlb : jb.map (fun j => ops[j]?) = lb.map some) : ∀ (l : List Oper) (js : List Nat) (listed : Array Bool) (e : Env) (a : Act) (w : World), js.map (fun j => ops[j]?) = l.map some →
    seqJ md ops (js ++ jb) listed = true → Fits n e a → restR P n ops C (opsR P n ops (Q .normal) lb) l e w → wpAnyT P md ops (noP (lift n Q)) (askT jb C) (l.length + lb.length) listed a w
  | [], js, listed, e, a, w, hl, hB, hf, h => by
    obtain rfl : js = [] := by simpa using hl
    simp only [List.length_nil, Nat.zero_add]
    exact restAnyT lb jb listed e a w (fun j hj => hj) hlb (by simpa using hB) hf h
  | o :: l, [], _, _, _, _, hl, _, _, _ => by simp at hl
  | o :: l, j :: js, listed, e, a, w, hl, hB, hf, h => by
    simp only [List.map_cons, List.cons.injEq] at hl
    obtain ⟨h0, hl⟩ := hl
    simp only [List.cons_append, seqJ, Bool.and_eq_true, decide_eq_true_eq] at hB
    rw [List.length_cons, show l.length + 1 + lb.length = l.length + lb.length + 1 by omega]
    refine wpAnyT_all hB.1 (by simp) fun i hi => ?_
    have hik : i = j := by simpa using hi
    subst hik
    have ih := fun e' a' w' => restAnyP (md := md) (C := C) (Q := Q) (P := P) (n := n) hlb l js (listed.setIfInBounds i true) e' a' w' hl hB.2
    obtain ⟨hd, h⟩ := h
    unfold wpOp
    simp only [h0]
    rw [wantE_eq hf]
    split
    · rename_i hw
      rw [if_pos hw] at h
      refine .inl ?_
      unfold Oper.wp
      rw [hf.eval]
      generalize (execOp (ev e) o).run P w = r at h
      cases r with
      | halt x w' => exact h.elim
      | ok x w' =>
        cases x with
        | value v => exact ⟨.inr h.1, ih _ _ _ (hf.put _ v hd) h.2⟩
        | skip => exact ⟨.inr h.1, ih _ _ _ (hf.put _ undef hd) h.2⟩
        | enter f args =>
          refine Calls.mono h ?_
          rintro x w2 ⟨v, rfl, hv⟩
          exact ⟨.inr hv.1, ih _ _ _ (hf.put _ v hd) hv.2⟩
        | _ => exact h.elim
    · rename_i hw
      rw [if_neg hw] at h
      exact ⟨.inr h.1, ih _ _ _ (hf.put _ undef hd) h.2⟩

theorem heldAnyP {P : Program} {n g : Nat} {ops : Array Oper} {C : World → Prop} {N : Env → Prop} {md : Region.Mode} {Q : Exit → Act → World → Prop} {js jb : List Nat} (hsel : Region.noSelect ops = true) (w : World) (hC : C w)
    (hK : ∀ listed e a, seqJ md ops (js ++ jb) listed = true → Fits n e a → N e → wpAnyT P md ops (noP Q) (askT jb C) g listed a w) : ∀ (l : List Oper) (is : List Nat) (listed : Array Bool) (e : Env) (a : Act), ClosedL md ops listed → is.map (fun j => ops[j]?) = l.map some →
    permB md ops js jb is listed = true → Fits n e a → heldR P n ops C N l e → wpAnyT P md ops (noP Q) (askT jb C) (l.length + g) listed a w
  | [], is, listed, e, a, _, hl, hB, hf, h => by
    obtain rfl : is = [] := by simpa using hl
    simpa using hK listed e a (by simpa [permB] using hB) hf h
  | o :: l, [], _, _, _, _, hl, _, _, _ => by simp at hl
  | o :: l, i :: is, listed, e, a, hcl, hl, hB, hf, h => by
    simp only [List.map_cons, List.cons.injEq] at hl
    obtain ⟨h0, hl⟩ := hl
    simp only [permB, Bool.and_eq_true] at hB
    obtain ⟨⟨⟨hr, hfr⟩, hj⟩, hB'⟩ := hB
    have hr' : i ∈ Region.ready md ops listed := by simpa using hr
    have ih := fun e' a' => heldAnyP (md := md) (g := g) hsel w hC hK l is (listed.setIfInBounds i true) e' a' (hcl.set hr') hl hB'
    obtain ⟨hd, h⟩ := h
    rw [List.length_cons, show l.length + 1 + g = l.length + g + 1 by omega]
    have first := fun v (hy : YieldsIf P ops C o v a) hH => wpAnyT_first (P := P) (Q := noP Q) (D := askT jb C) (S := C) (v := v) h0 (Region.noSelect_spec hsel) (fun _ _ _ h => h) (fun w h => .inr h)
      (fun j hju w hDj => by
        rcases hDj with h | h
        · have := List.all_eq_true.1 hj j h
          exact absurd (by simpa using this) hju
        · exact h) (l.length + g) listed a w hcl (Region.free_spec h0 hfr) hr' hy hC hH
    by_cases hw : wantE ops e o.guard = true
    · rw [if_pos hw] at h
      obtain ⟨v, h1, h2⟩ := h
      refine first v (.inl ⟨by rw [wantE_eq hf]; exact hw, fun w hw => ?_⟩) (ih _ _ (hf.put _ v hd) h2)
      rw [hf.eval]; exact h1 w hw
    · rw [if_neg hw] at h
      exact first undef (.inr ⟨by rw [wantE_eq hf]; simpa using hw, rfl⟩) (ih _ _ (hf.put _ undef hd) h)

theorem filterMap_map (l : List Oper) : ∀ (is : List Nat), (is.all fun j => decide (j < l.length)) = true → is.map (fun j => l.toArray[j]?) = (is.filterMap (fun j => l[j]?)).map some
  | [], _ => rfl
  | i :: is, h => by
    simp only [List.all_cons, Bool.and_eq_true, decide_eq_true_eq] at h
    have h1 : l[i]? = some l[i] := by simp [h.1]
    rw [List.map_cons, filterMap_map l is h.2, List.filterMap_cons, h1, List.getElem?_toArray, h1]; rfl
/-- Numbers is: reads, in every world of the class alike; js: the rest, which leaves the class; jb: the last ones. -/
theorem drawE_perm {P : Program} {n id : Nat} {l l1 l2 l3 : List Oper} {Q : Exit → Env → World → Prop} {t : Tag (P, n, Code.region id l.toArray true, Q)} {e : Env} {w : World} (is js jb : List Nat) (C : World → Prop) (hm : P.follows .mixedOrders = true)
    (hB : (Region.noSelect l.toArray && permB .any l.toArray js jb is (Array.replicate l.toArray.size false)) = true)
    (hv : ((is.all fun j => decide (j < l.length)) && (js.all fun j => decide (j < l.length)) && (jb.all fun j => decide (j < l.length)) && decide (is.length + js.length + jb.length = l.length)) = true)
    (h1 : is.filterMap (fun j => l[j]?) = l1) (h2 : js.filterMap (fun j => l[j]?) = l2) (h3 : jb.filterMap (fun j => l[j]?) = l3) (hC : C w.drew)
    (h : Some1 C → heldE P n l.toArray C (fun e' => restE P n l.toArray C (opsR P n l.toArray (Q .normal) l3) l2 ⟨⟩ e' w.drew) l1 ⟨⟩ e) : wpE P n (.region id l.toArray true) Q t e w := by
  simp only [wpE, wpR]
  intro a hf
  rw [Bool.and_eq_true] at hB
  simp only [Bool.and_eq_true, decide_eq_true_eq] at hv
  have m1 := filterMap_map l is hv.1.1.1
  have m2 := filterMap_map l js hv.1.1.2
  have m3 := filterMap_map l jb hv.1.2
  rw [h1] at m1
  rw [h2] at m2
  rw [h3] at m3
  have hlen : l1.length + (l2.length + l3.length) = l.length := by
    have e1 := congrArg List.length m1
    have e2 := congrArg List.length m2
    have e3 := congrArg List.length m3
    simp only [List.length_map] at e1 e2 e3
    omega
  have H := heldAnyP (P := P) (n := n) (Q := lift n Q) (md := .any) (g := l2.length + l3.length) (js := js) (jb := jb) hB.1 w.drew hC (fun listed e a hB hf h => restAnyP m3 l2 js listed e a w.drew m2 hB hf h) l1 is _ e a ClosedL.none m1 hB.2 hf (h ⟨_, hC⟩)
  rw [show l1.length + (l2.length + l3.length) = l.toArray.size by simpa using hlen] at H
  refine Code.wp_mono ?_ (wp_region_any hm (wpAny_of_T _ _ _ _ H))
  intro x a w h
  cases x <;> first | exact h | exact h.elim
/-- The last ones, as the engine has them. -/
theorem restE_last (P : Program) (n : Nat) (ops : Array Oper) (C : World → Prop) (l3 : List Oper) (x : Exit) (Q : Exit → Env → World → Prop) (e : Env) (w : World) (t : Tag (P, n, ops, C, opsR P n ops (Q x) l3, ([] : List Oper))) : restE P n ops C (opsR P n ops (Q x) l3) [] t e w = opsE P n ops (Q x) l3 ⟨⟩ e w := nr rfl
attribute [go_sem] restE_last
end Go.Proofs.Ytkljlgahdlgmpaa
