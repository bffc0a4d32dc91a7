/- Regions that draw their order: one order walked serves all, where each operation that may come up out of turn yields the same in every world of a class, and the others keep that class. -/
import Derived.Test.YtkljlgahdlgmpaaPerm
namespace Go.Proofs.Ytkljlgahdlgmpaa
open Go

section
variable {P : Program} {ops : Array Oper} {Q : Exit → Act → World → Prop} {md : Region.Mode}
/-- Whatever order is picked; operation i takes a world to one as D i asks. -/
def wpAnyD (P : Program) (md : Region.Mode) (ops : Array Oper) (Q : Exit → Act → World → Prop) (D : Nat → World → World → Prop) : Nat → Array Bool → Act → World → Prop
  | 0, listed, a, w => Region.ready md ops listed = [] ∧ Q .normal a w
  | fuel + 1, listed, a, w =>
    (Region.ready md ops listed = [] → Q .normal a w) ∧
    ∀ i ∈ Region.ready md ops listed, wpOp P ops Q i (fun a' w' => D i w w' ∧ wpAnyD P md ops Q D fuel (listed.setIfInBounds i true) a' w') a w
theorem wpAny_of_D {D : Nat → World → World → Prop} : ∀ (fuel : Nat) (listed : Array Bool) (a : Act) (w : World), wpAnyD P md ops Q D fuel listed a w → wpAny P md ops Q fuel listed a w
  | 0, _, _, _, h => h
  | fuel + 1, _, _, _, h => ⟨h.1, fun i hi => wpOp_mono (fun a' w' h' => wpAny_of_D fuel _ a' w' h'.2) (h.2 i hi)⟩
theorem wpAnyD_first {D D' : Nat → World → World → Prop} {i : Nat} {oi : Oper} {v : Value} {S : World → Prop} (hi : ops[i]? = some oi) (hsel : ∀ (j : Nat) (o : Oper) cs b, ops[j]? = some o → o.op ≠ .select cs b)
    (hQ : ∀ c a w, Q (.panic c) (a.put oi.dst v) w → Q (.panic c) a w) (hD : ∀ w, D i w w) (hup : ∀ j, j ∉ upB md ops i → ∀ w w', S w → D' j w w' → S w') (hDD : ∀ j w w', D' j w w' → D j w w') :
    ∀ (fuel : Nat) (listed : Array Bool) (a : Act) (w : World), ClosedL md ops listed →
      (∀ j oj, ops[j]? = some oj → j ≠ i → listed.getD j true = false → (∀ e ∈ oj.after, Region.binds md e = true → e.on ≠ i) → oi.apart ops oj = true) →
      i ∈ Region.ready md ops listed → YieldsIf P ops S oi v a → S w →
      wpAnyD P md ops Q D' fuel (listed.setIfInBounds i true) (a.put oi.dst v) w → wpAnyD P md ops Q D (fuel + 1) listed a w := by
  have mono : ∀ (fuel : Nat) (listed : Array Bool) (a : Act) (w : World), wpAnyD P md ops Q D' fuel listed a w → wpAnyD P md ops Q D fuel listed a w := by
    intro fuel
    induction fuel with
    | zero => exact fun _ _ _ h => h
    | succ fuel ih => exact fun _ _ _ h => ⟨h.1, fun j hj => wpOp_mono (fun a' w' h' => ⟨hDD j _ _ h'.1, ih _ _ _ h'.2⟩) (h.2 j hj)⟩
  intro fuel
  induction fuel with
  | zero =>
    intro listed a w _ _ hr hy hS H
    refine ⟨fun h => (by rw [h] at hr; cases hr), fun j hj => ?_⟩
    by_cases hji : j = i
    · subst hji; exact hy.wpOp hi hS ⟨hD w, H⟩
    · have := ready_mono hj hji
      rw [H.1] at this; cases this
  | succ fuel ih =>
    intro listed a w hcl hfree hr hy hS H
    refine ⟨fun h => (by rw [h] at hr; cases hr), fun j hj => ?_⟩
    by_cases hji : j = i
    · subst hji; exact hy.wpOp hi hS ⟨hD w, mono _ _ _ _ H⟩
    · have h1 := H.2 j (ready_mono hj hji)
      obtain ⟨hjun, oj, hoj, hall⟩ := mem_ready.1 hj
      have hi0 : listed.getD i false = false := getD_both (mem_ready.1 hr).1
      have hnotup : j ∉ upB md ops i := fun hu => by
        rcases (up_unlisted hcl hi0 j hu).2 with h | h
        · exact hji h
        · exact h hj
      have hnot : ∀ e ∈ oj.after, Region.binds md e = true → e.on ≠ i := fun e he hb heq => by
        have h2 := hall e he hb
        rw [heq, hi0] at h2; cases h2
      have h2 := wpOp_putIf hoj (hfree j oj hoj hji hjun hnot) (fun cs b => hsel i oi cs b hi) (fun cs b => hsel j oj cs b hoj) hQ hy h1
      refine wpOp_mono (fun a' w' h3 => ⟨hDD j _ _ h3.2.1, ih (listed.setIfInBounds j true) a' w' (hcl.set hj) (fun k ok hk hki hun hno => hfree k ok hk hki ?_ hno) (ready_mono hr (Ne.symm hji)) h3.1 (hup j hnotup w w' hS h3.2.1) ?_⟩) h2
      · by_cases hjk : j = k
        · subst hjk; exact hjun
        · rw [getD_set_ne true hjk] at hun; exact hun
      · rw [Array.setIfInBounds_comm _ _ hji]; exact h3.2.2
end

/-- A step of the order that is walked: pure: it yields the same in every world; take: in every world of a class; run: nobody else may come up. -/
inductive MStep
  | pure (i : Nat)
  | take (i : Nat)
  | run (i : Nat) (need : List Nat)
def mixC (md : Region.Mode) (ops : Array Oper) (fin : List Nat → Array Bool → Bool) : List MStep → List Nat → Array Bool → Bool
  | [], tk, listed => fin tk listed
  | .pure i :: st, tk, listed => (Region.ready md ops listed).contains i && Region.free md ops listed i && mixC md ops fin st tk (listed.setIfInBounds i true)
  | .take i :: st, tk, listed => (Region.ready md ops listed).contains i && Region.free md ops listed i && mixC md ops fin st (i :: tk) (listed.setIfInBounds i true)
  | .run j need :: st, tk, listed => decide (Region.ready md ops listed = [j]) && (tk.all fun i => (upB md ops i).contains j || need.contains i) && mixC md ops fin st tk (listed.setIfInBounds j true)

def endB (md : Region.Mode) (ops : Array Oper) (_ : List Nat) (listed : Array Bool) : Bool := (Region.ready md ops listed).isEmpty
def mixB (md : Region.Mode) (ops : Array Oper) : List MStep → List Nat → Array Bool → Bool := mixC md ops (endB md ops)
/-- Either of two may come up. -/
def altB (md : Region.Mode) (ops : Array Oper) (i : Nat) (ni : List Nat) (s1 : List MStep) (j : Nat) (nj : List Nat) (s2 : List MStep) (tk : List Nat) (listed : Array Bool) : Bool :=
  decide (Region.ready md ops listed = [i, j]) && (tk.all fun k => (upB md ops k).contains i || ni.contains k) && (tk.all fun k => (upB md ops k).contains j || nj.contains k) &&
    mixB md ops s1 tk (listed.setIfInBounds i true) && mixB md ops s2 tk (listed.setIfInBounds j true)

/-- The classes that are to be kept. -/
def askR : List (Nat × (World → Prop)) → List Nat → World → Prop
  | [], _, _ => True
  | (i, S) :: Ds, need, w => (i ∈ need → S w) ∧ askR Ds need w
def askD (md : Region.Mode) (ops : Array Oper) (Ds : List (Nat × (World → Prop))) (j : Nat) (w w' : World) : Prop := w' = w ∨ ∀ p ∈ Ds, j ∈ upB md ops p.1 ∨ p.2 w'
theorem askD_of {md : Region.Mode} {ops : Array Oper} {j : Nat} {need : List Nat} {w w' : World} : ∀ (Ds : List (Nat × (World → Prop))), ((Ds.map (·.1)).all fun i => (upB md ops i).contains j || need.contains i) = true → (w' = w ∨ askR Ds need w') → askD md ops Ds j w w'
  | Ds, h, h2 => by
    rcases h2 with h2 | h2
    · exact .inl h2
    right
    induction Ds with
    | nil => intro p hp; cases hp
    | cons q Ds ih =>
      intro p hp
      simp only [List.map_cons, List.all_cons, Bool.and_eq_true, Bool.or_eq_true] at h
      obtain ⟨k1, k2⟩ := h2
      rcases List.mem_cons.1 hp with rfl | hp
      · rcases h.1 with h | h
        · left; simpa using h
        · right; exact k1 (by simpa using h)
      · exact ih h.2 k2 p hp

/-- A pure operation; one that reads. -/
def onPure (K : Value → Prop) (_ : Tag K) (r : World → Result Next) : Prop := ∃ v, (∀ w, r w = .ok (.value v) w) ∧ K v
def onTake (w : World) (K : (World → Prop) → Value → Prop) (_ : Tag (w, K)) (r : World → Result Next) : Prop := ∃ S v, S w ∧ (∀ w, S w → r w = .ok (.value v) w) ∧ K S v
theorem onPure_of {K : Value → Prop} {t : Tag K} {r : World → Result Next} (v : Value) (h : ∀ w, r w = .ok (.value v) w) (hK : K v) : onPure K t r := ⟨v, h, hK⟩
theorem onTake_of {w : World} {K : (World → Prop) → Value → Prop} {t : Tag (w, K)} {r : World → Result Next} (S : World → Prop) (v : Value) (hS : S w) (h : ∀ w, S w → r w = .ok (.value v) w) (hK : K S v) : onTake w K t r := ⟨S, v, hS, h, hK⟩
def aWorld : World := ⟨#[], fun _ _ => 0, 0, default, #[]⟩
theorem onPure_value (v : Value) (K : Value → Prop) (t : Tag K) : onPure K t (fun w => .ok (.value v) w) = K v := by
  apply propext
  constructor
  · rintro ⟨u, h1, h2⟩; have h3 := h1 aWorld; simp at h3; rw [h3]; exact h2
  · intro h; exact ⟨v, fun _ => rfl, h⟩
theorem onPure_value' (v : Value) (K : Value → Prop) (t : Tag K) : onPure K t (.ok (.value v)) = K v := onPure_value v K t
theorem onPure_congr {K : Value → Prop} {t : Tag K} {r r' : World → Result Next} (h : ∀ w, r w = r' w) : onPure K t r = onPure K t r' := by
  rw [show r = r' from funext h]

def mixR (P : Program) (n : Nat) (ops : Array Oper) (N : List (Nat × (World → Prop)) → Env → World → Prop) : List (MStep × Oper) → List (Nat × (World → Prop)) → Env → World → Prop
  | [], Ds, e, w => N Ds e w
  | (.pure _, o) :: st, Ds, e, w => okDst n o.dst = true ∧
      (if wantE ops e o.guard = true then onPure (fun v => mixR P n ops N st Ds (putE e o.dst v) w) ⟨⟩ (fun w => (execOp (ev e) o).run P w)
       else mixR P n ops N st Ds (putE e o.dst undef) w)
  | (.take i, o) :: st, Ds, e, w => okDst n o.dst = true ∧
      (if wantE ops e o.guard = true then onTake w (fun S v => mixR P n ops N st ((i, S) :: Ds) (putE e o.dst v) w) ⟨⟩ (fun w => (execOp (ev e) o).run P w)
       else mixR P n ops N st ((i, fun _ => True) :: Ds) (putE e o.dst undef) w)
  | (.run _ need, o) :: st, Ds, e, w => okDst n o.dst = true ∧
      (if wantE ops e o.guard = true then onRes P (fun v w' => (w' = w ∨ askR Ds need w') ∧ mixR P n ops N st Ds (putE e o.dst v) w') ⟨⟩ ((execOp (ev e) o).run P w)
       else mixR P n ops N st Ds (putE e o.dst undef) w)
def mixE (P : Program) (n : Nat) (ops : Array Oper) (N : List (Nat × (World → Prop)) → Env → World → Prop) (st : List (MStep × Oper)) (Ds : List (Nat × (World → Prop))) (_ : Tag (P, n, ops, N, st)) (e : Env) (w : World) : Prop := mixR P n ops N st Ds e w

/-- What comes behind: the code; or one of two orders. -/
def endN (K : Env → World → Prop) (_ : List (Nat × (World → Prop))) : Env → World → Prop := K
def altN (P : Program) (n : Nat) (ops : Array Oper) (K : Env → World → Prop) (s1 s2 : List (MStep × Oper)) (Ds : List (Nat × (World → Prop))) (e : Env) (w : World) : Prop :=
  mixE P n ops (endN K) s1 Ds ⟨⟩ e w ∧ mixE P n ops (endN K) s2 Ds ⟨⟩ e w
section
variable (P : Program) (n : Nat) (ops : Array Oper) (N : List (Nat × (World → Prop)) → Env → World → Prop) (Ds : List (Nat × (World → Prop))) (e : Env) (w : World) (st : List (MStep × Oper))
theorem mixE_nil (x : Exit) (Q : Exit → Env → World → Prop) (t : Tag (P, n, ops, endN (Q x), ([] : List (MStep × Oper)))) : mixE P n ops (endN (Q x)) [] Ds t e w = goE Q x ⟨⟩ e w := nr rfl
theorem mixE_alt (K : Env → World → Prop) (s1 s2 : List (MStep × Oper)) (t : Tag (P, n, ops, altN P n ops K s1 s2, ([] : List (MStep × Oper)))) : mixE P n ops (altN P n ops K s1 s2) [] Ds t e w = (mixE P n ops (endN K) s1 Ds ⟨⟩ e w ∧ mixE P n ops (endN K) s2 Ds ⟨⟩ e w) := nr rfl
theorem mixE_pure (i d : Nat) (op : Op) (ty : TypeId) (pos : String) (af : Array Edge) (t : Tag (P, n, ops, N, ((.pure i, ⟨some d, op, ty, pos, af, none⟩) :: st : List (MStep × Oper)))) (hd : d < n) :
    mixE P n ops N ((.pure i, ⟨some d, op, ty, pos, af, none⟩) :: st) Ds t e w = onPure (fun v => mixE P n ops N st Ds ⟨⟩ (upd e d v) w) ⟨⟩ (fun w => xOp P e ⟨some d, op, ty, pos, af, none⟩ w) := by
  simp only [mixE, mixR, okDst, wantE, hd, decide_true, true_and, if_true, putE, xOp]
theorem mixE_take (i d : Nat) (op : Op) (ty : TypeId) (pos : String) (af : Array Edge) (t : Tag (P, n, ops, N, ((.take i, ⟨some d, op, ty, pos, af, none⟩) :: st : List (MStep × Oper)))) (hd : d < n) :
    mixE P n ops N ((.take i, ⟨some d, op, ty, pos, af, none⟩) :: st) Ds t e w = onTake w (fun S v => mixE P n ops N st ((i, S) :: Ds) ⟨⟩ (upd e d v) w) ⟨⟩ (fun w => xOp P e ⟨some d, op, ty, pos, af, none⟩ w) := by
  simp only [mixE, mixR, okDst, wantE, hd, decide_true, true_and, if_true, putE, xOp]
theorem mixE_run (i d : Nat) (need : List Nat) (op : Op) (ty : TypeId) (pos : String) (af : Array Edge) (t : Tag (P, n, ops, N, ((.run i need, ⟨some d, op, ty, pos, af, none⟩) :: st : List (MStep × Oper)))) (hd : d < n) :
    mixE P n ops N ((.run i need, ⟨some d, op, ty, pos, af, none⟩) :: st) Ds t e w = onRes P (fun v w' => (w' = w ∨ askR Ds need w') ∧ mixE P n ops N st Ds ⟨⟩ (upd e d v) w') ⟨⟩ (xOp P e ⟨some d, op, ty, pos, af, none⟩ w) := by
  simp only [mixE, mixR, okDst, wantE, hd, decide_true, true_and, if_true, putE, xOp]
theorem mixE_run' (i : Nat) (need : List Nat) (op : Op) (ty : TypeId) (pos : String) (af : Array Edge) (t : Tag (P, n, ops, N, ((.run i need, ⟨none, op, ty, pos, af, none⟩) :: st : List (MStep × Oper)))) :
    mixE P n ops N ((.run i need, ⟨none, op, ty, pos, af, none⟩) :: st) Ds t e w = onRes P (fun _ w' => (w' = w ∨ askR Ds need w') ∧ mixE P n ops N st Ds ⟨⟩ e w') ⟨⟩ (xOp P e ⟨none, op, ty, pos, af, none⟩ w) := by
  simp only [mixE, mixR, okDst, wantE, true_and, if_true, putE, xOp]
theorem mixE_pure2 (l0 : List Oper) (i : Nat) (d : Option Tmp) (op : Op) (ty : TypeId) (pos : String) (af : Array Edge) (j : Nat) (want : Bool) (t : Tag (P, n, l0.toArray, N, ((.pure i, ⟨d, op, ty, pos, af, some (j, want)⟩) :: st : List (MStep × Oper)))) (hd : okDst n d = true) :
    mixE P n l0.toArray N ((.pure i, ⟨d, op, ty, pos, af, some (j, want)⟩) :: st) Ds t e w =
      guardE (onPure (fun v => mixE P n l0.toArray N st Ds ⟨⟩ (putE e d v) w) ⟨⟩ (fun w => xOp P e ⟨d, op, ty, pos, af, some (j, want)⟩ w))
        (mixE P n l0.toArray N st Ds ⟨⟩ (putE e d undef) w) ⟨⟩ (wantL l0 e j want) := by
  simp only [mixE, mixR, hd, true_and, guardE, wantE_list, xOp]
theorem mixE_take2 (l0 : List Oper) (i : Nat) (d : Option Tmp) (op : Op) (ty : TypeId) (pos : String) (af : Array Edge) (j : Nat) (want : Bool) (t : Tag (P, n, l0.toArray, N, ((.take i, ⟨d, op, ty, pos, af, some (j, want)⟩) :: st : List (MStep × Oper)))) (hd : okDst n d = true) :
    mixE P n l0.toArray N ((.take i, ⟨d, op, ty, pos, af, some (j, want)⟩) :: st) Ds t e w =
      guardE (onTake w (fun S v => mixE P n l0.toArray N st ((i, S) :: Ds) ⟨⟩ (putE e d v) w) ⟨⟩ (fun w => xOp P e ⟨d, op, ty, pos, af, some (j, want)⟩ w))
        (mixE P n l0.toArray N st ((i, fun _ => True) :: Ds) ⟨⟩ (putE e d undef) w) ⟨⟩ (wantL l0 e j want) := by
  simp only [mixE, mixR, hd, true_and, guardE, wantE_list, xOp]
theorem mixE_run2 (l0 : List Oper) (i : Nat) (need : List Nat) (d : Option Tmp) (op : Op) (ty : TypeId) (pos : String) (af : Array Edge) (j : Nat) (want : Bool) (t : Tag (P, n, l0.toArray, N, ((.run i need, ⟨d, op, ty, pos, af, some (j, want)⟩) :: st : List (MStep × Oper)))) (hd : okDst n d = true) :
    mixE P n l0.toArray N ((.run i need, ⟨d, op, ty, pos, af, some (j, want)⟩) :: st) Ds t e w =
      guardE (onRes P (fun v w' => (w' = w ∨ askR Ds need w') ∧ mixE P n l0.toArray N st Ds ⟨⟩ (putE e d v) w') ⟨⟩ (xOp P e ⟨d, op, ty, pos, af, some (j, want)⟩ w))
        (mixE P n l0.toArray N st Ds ⟨⟩ (putE e d undef) w) ⟨⟩ (wantL l0 e j want) := by
  simp only [mixE, mixR, hd, true_and, guardE, wantE_list, xOp]
end
def MStep.num : MStep → Nat
  | .pure i | .take i | .run i _ => i
theorem yif_pure {P : Program} {n : Nat} {ops : Array Oper} {S : World → Prop} {o : Oper} {v : Value} {e : Env} {a : Act} (hf : Fits n e a) (hw : wantE ops e o.guard = true) (h : ∀ w, S w → (execOp (ev e) o).run P w = .ok (.value v) w) : YieldsIf P ops S o v a :=
  .inl ⟨by rw [wantE_eq hf]; exact hw, fun w hS => by rw [hf.eval]; exact h w hS⟩
theorem yif_off {P : Program} {n : Nat} {ops : Array Oper} {S : World → Prop} {o : Oper} {e : Env} {a : Act} (hf : Fits n e a) (hw : ¬ wantE ops e o.guard = true) : YieldsIf P ops S o undef a :=
  .inr ⟨by rw [wantE_eq hf]; simpa using hw, rfl⟩

theorem mixAnyK {P : Program} {n g : Nat} {ops : Array Oper} {md : Region.Mode} {Q : Exit → Act → World → Prop} {fin : List Nat → Array Bool → Bool} {N : List (Nat × (World → Prop)) → Env → World → Prop} (hsel : Region.noSelect ops = true)
    (hK : ∀ Ds listed e a w, ClosedL md ops listed → fin (Ds.map (·.1)) listed = true → Fits n e a → N Ds e w → wpAnyD P md ops (noP Q) (askD md ops Ds) g listed a w) : ∀ (st : List (MStep × Oper)) (Ds : List (Nat × (World → Prop))) (listed : Array Bool) (e : Env) (a : Act) (w : World), ClosedL md ops listed →
    (∀ s ∈ st, ops[s.1.num]? = some s.2) → mixC md ops fin (st.map (·.1)) (Ds.map (·.1)) listed = true → Fits n e a → mixR P n ops N st Ds e w → wpAnyD P md ops (noP Q) (askD md ops Ds) (st.length + g) listed a w
  | [], Ds, listed, e, a, w, hcl, _, hB, hf, h => by rw [List.length_nil, Nat.zero_add]; exact hK Ds listed e a w hcl hB hf h
  | (.pure i, o) :: st, Ds, listed, e, a, w, hcl, hst, hB, hf, h => by
    have h0 : ops[i]? = some o := hst _ List.mem_cons_self
    simp only [List.map_cons, mixC, Bool.and_eq_true] at hB
    obtain ⟨⟨hr, hfr⟩, hB'⟩ := hB
    have hr' : i ∈ Region.ready md ops listed := by simpa using hr
    have ih := fun e' a' => mixAnyK (P := P) (n := n) (Q := Q) hsel hK st Ds (listed.setIfInBounds i true) e' a' w (hcl.set hr') (fun s hs => hst s (List.mem_cons_of_mem _ hs)) hB'
    obtain ⟨hd, h⟩ := h
    rw [List.length_cons, show st.length + 1 + g = st.length + g + 1 by omega]
    have first := fun v (hy : YieldsIf P ops (fun _ => True) o v a) hH => wpAnyD_first (P := P) (Q := noP Q) (D := askD md ops Ds) (D' := askD md ops Ds) (S := fun _ => True) (v := v) h0 (Region.noSelect_spec hsel) (fun _ _ _ h => h) (fun w => .inl rfl) (fun _ _ _ _ _ _ => trivial) (fun _ _ _ h => h)
      (st.length + g) listed a w hcl (Region.free_spec h0 hfr) hr' hy trivial hH
    by_cases hw : wantE ops e o.guard = true
    · rw [if_pos hw] at h
      obtain ⟨v, h1, h2⟩ := h
      exact first v (yif_pure hf hw (fun w _ => h1 w)) (ih _ _ (hf.put _ v hd) h2)
    · rw [if_neg hw] at h
      exact first undef (yif_off hf hw) (ih _ _ (hf.put _ undef hd) h)
  | (.take i, o) :: st, Ds, listed, e, a, w, hcl, hst, hB, hf, h => by
    have h0 : ops[i]? = some o := hst _ List.mem_cons_self
    simp only [List.map_cons, mixC, Bool.and_eq_true] at hB
    obtain ⟨⟨hr, hfr⟩, hB'⟩ := hB
    have hr' : i ∈ Region.ready md ops listed := by simpa using hr
    have ih := fun S e' a' => mixAnyK (P := P) (n := n) (Q := Q) hsel hK st ((i, S) :: Ds) (listed.setIfInBounds i true) e' a' w (hcl.set hr') (fun s hs => hst s (List.mem_cons_of_mem _ hs)) hB'
    obtain ⟨hd, h⟩ := h
    rw [List.length_cons, show st.length + 1 + g = st.length + g + 1 by omega]
    have first := fun S v (hS : S w) (hy : YieldsIf P ops S o v a) hH => wpAnyD_first (P := P) (Q := noP Q) (D := askD md ops Ds) (D' := askD md ops ((i, S) :: Ds)) (S := S) (v := v) h0 (Region.noSelect_spec hsel) (fun _ _ _ h => h) (fun w => .inl rfl)
      (fun j hju w w' hSw hD => by
        rcases hD with rfl | hD
        · exact hSw
        · rcases hD (i, S) List.mem_cons_self with h | h
          · exact absurd h hju
          · exact h)
      (fun j w w' hD => by
        rcases hD with hD | hD
        · exact .inl hD
        · exact .inr fun p hp => hD p (List.mem_cons_of_mem _ hp))
      (st.length + g) listed a w hcl (Region.free_spec h0 hfr) hr' hy hS hH
    by_cases hw : wantE ops e o.guard = true
    · rw [if_pos hw] at h
      obtain ⟨S, v, hS, h1, h2⟩ := h
      exact first S v hS (yif_pure hf hw h1) (ih S _ _ (hf.put _ v hd) h2)
    · rw [if_neg hw] at h
      exact first (fun _ => True) undef trivial (yif_off hf hw) (ih _ _ _ (hf.put _ undef hd) h)
  | (.run j need, o) :: st, Ds, listed, e, a, w, hcl, hst, hB, hf, h => by
    have h0 : ops[j]? = some o := hst _ List.mem_cons_self
    simp only [List.map_cons, mixC, Bool.and_eq_true, decide_eq_true_eq] at hB
    obtain ⟨⟨hr, hneed⟩, hB'⟩ := hB
    have hr' : j ∈ Region.ready md ops listed := by rw [hr]; simp
    rw [List.length_cons, show st.length + 1 + g = st.length + g + 1 by omega]
    refine ⟨fun h => by (rw [h] at hr; cases hr), fun i hi => ?_⟩
    have hik : i = j := by rw [hr] at hi; simpa using hi
    subst hik
    have ih := fun e' a' w' => mixAnyK (P := P) (n := n) (Q := Q) hsel hK st Ds (listed.setIfInBounds i true) e' a' w' (hcl.set hr') (fun s hs => hst s (List.mem_cons_of_mem _ hs)) hB'
    obtain ⟨hd, h⟩ := h
    unfold wpOp
    simp only [h0]
    rw [wantE_eq hf]
    split
    · rename_i hw
      rw [if_pos hw] at h
      refine .inl ?_
      unfold Oper.wp
      rw [hf.eval]
      generalize (execOp (ev e) o).run P w = r at h
      cases r with
      | halt x w' => exact h.elim
      | ok x w' =>
        cases x with
        | value v => exact ⟨askD_of Ds hneed h.1, ih _ _ _ (hf.put _ v hd) h.2⟩
        | skip => exact ⟨askD_of Ds hneed h.1, ih _ _ _ (hf.put _ undef hd) h.2⟩
        | enter f args =>
          refine Calls.mono h ?_
          rintro x w2 ⟨v, rfl, hv⟩
          exact ⟨askD_of Ds hneed hv.1, ih _ _ _ (hf.put _ v hd) hv.2⟩
        | _ => exact h.elim
    · rename_i hw
      rw [if_neg hw] at h
      exact ⟨.inl rfl, ih _ _ _ (hf.put _ undef hd) h⟩

theorem mixAny {P : Program} {n : Nat} {ops : Array Oper} {md : Region.Mode} {Q : Exit → Env → World → Prop} (hsel : Region.noSelect ops = true) (st : List (MStep × Oper)) (Ds : List (Nat × (World → Prop))) (listed : Array Bool) (e : Env) (a : Act) (w : World) (hcl : ClosedL md ops listed)
    (hst : ∀ s ∈ st, ops[s.1.num]? = some s.2) (hB : mixB md ops (st.map (·.1)) (Ds.map (·.1)) listed = true) (hf : Fits n e a) (h : mixR P n ops (endN (Q .normal)) st Ds e w) : wpAnyD P md ops (noP (lift n Q)) (askD md ops Ds) st.length listed a w :=
  mixAnyK (P := P) (n := n) (md := md) (Q := lift n Q) (g := 0) (N := endN (Q .normal)) (fin := endB md ops) hsel (fun Ds listed e a w _ hB hf h => (show _ ∧ _ from ⟨by simpa [endB] using hB, e, hf, h⟩)) st Ds listed e a w hcl hst hB hf h
/-- One that is carried out, whoever else may come up. -/
theorem run_step {P : Program} {n g : Nat} {ops : Array Oper} {md : Region.Mode} {Q : Exit → Act → World → Prop} {N : List (Nat × (World → Prop)) → Env → World → Prop} {j : Nat} {need : List Nat} {o : Oper} {st : List (MStep × Oper)} {Ds : List (Nat × (World → Prop))} {listed : Array Bool} {e : Env} {a : Act} {w : World} (h0 : ops[j]? = some o)
    (hneed : ((Ds.map (·.1)).all fun i => (upB md ops i).contains j || need.contains i) = true) (hf : Fits n e a) (h : mixR P n ops N ((.run j need, o) :: st) Ds e w)
    (ih : ∀ e' a' w', Fits n e' a' → mixR P n ops N st Ds e' w' → wpAnyD P md ops (noP Q) (askD md ops Ds) g (listed.setIfInBounds j true) a' w') :
    wpOp P ops (noP Q) j (fun a' w' => askD md ops Ds j w w' ∧ wpAnyD P md ops (noP Q) (askD md ops Ds) g (listed.setIfInBounds j true) a' w') a w := by
  obtain ⟨hd, h⟩ := h
  unfold wpOp
  simp only [h0]
  rw [wantE_eq hf]
  split
  · rename_i hw
    rw [if_pos hw] at h
    refine .inl ?_
    unfold Oper.wp
    rw [hf.eval]
    generalize (execOp (ev e) o).run P w = r at h
    cases r with
    | halt x w' => exact h.elim
    | ok x w' =>
      cases x with
      | value v => exact ⟨askD_of Ds hneed h.1, ih _ _ _ (hf.put _ v hd) h.2⟩
      | skip => exact ⟨askD_of Ds hneed h.1, ih _ _ _ (hf.put _ undef hd) h.2⟩
      | enter f args =>
        refine Calls.mono h ?_
        rintro x w2 ⟨v, rfl, hv⟩
        exact ⟨askD_of Ds hneed hv.1, ih _ _ _ (hf.put _ v hd) hv.2⟩
      | _ => exact h.elim
  · rename_i hw
    rw [if_neg hw] at h
    exact ⟨.inl rfl, ih _ _ _ (hf.put _ undef hd) h⟩

/-- The order with its operations. -/
def withOps (l : List Oper) (st : List MStep) : List (MStep × Oper) := st.filterMap fun s => (l[s.num]?).map fun o => (s, o)
theorem withOps_num (l : List Oper) (st : List MStep) : ∀ s ∈ withOps l st, l.toArray[s.1.num]? = some s.2 := by
  intro s hs
  unfold withOps at hs
  obtain ⟨x, _, hx⟩ := List.mem_filterMap.1 hs
  obtain ⟨o, ho, rfl⟩ := Option.map_eq_some_iff.1 hx
  simpa using ho
theorem withOps_map (l : List Oper) : ∀ (st : List MStep), (st.all fun s => decide (s.num < l.length)) = true → (withOps l st).map (·.1) = st
  | [], _ => rfl
  | s :: st, h => by
    simp only [List.all_cons, Bool.and_eq_true, decide_eq_true_eq] at h
    have h1 : l[s.num]? = some l[s.num] := by simp [h.1]
    have ih := withOps_map l st h.2
    unfold withOps at ih ⊢
    rw [List.filterMap_cons, h1]
    simp only [Option.map_some, List.map_cons, ih]
theorem drawE_mix {P : Program} {n id : Nat} {l : List Oper} {Q : Exit → Env → World → Prop} {t : Tag (P, n, Code.region id l.toArray true, Q)} {e : Env} {w : World} (st : List MStep) {s2 : List (MStep × Oper)} (hm : P.follows .mixedOrders = true)
    (hB : (Region.noSelect l.toArray && (st.all fun s => decide (s.num < l.length)) && decide (st.length = l.length) && mixB .any l.toArray st [] (Array.replicate l.toArray.size false)) = true)
    (h2 : withOps l st = s2) (h : mixE P n l.toArray (endN (Q .normal)) s2 [] ⟨⟩ e w.drew) : wpE P n (.region id l.toArray true) Q t e w := by
  subst h2
  simp only [wpE, wpR]
  intro a hf
  simp only [Bool.and_eq_true, decide_eq_true_eq] at hB
  obtain ⟨⟨⟨hsel, hv⟩, hlen⟩, hmB⟩ := hB
  have hmap := withOps_map l st hv
  have hl2 : (withOps l st).length = l.toArray.size := by rw [← List.length_map (f := (·.1)), hmap, hlen]; simp
  have H := mixAny (P := P) (n := n) (md := .any) (Q := Q) hsel (withOps l st) [] (Array.replicate l.toArray.size false) e a w.drew ClosedL.none (withOps_num l st) (by rw [hmap]; exact hmB) hf h
  rw [hl2] at H
  refine Code.wp_mono ?_ (wp_region_any hm (wpAny_of_D _ _ _ _ H))
  intro x a w h
  cases x <;> first | exact h | exact h.elim

/-- A plan up to where either of two may come up. -/
theorem drawE_alt {P : Program} {n id : Nat} {l : List Oper} {Q : Exit → Env → World → Prop} {t : Tag (P, n, Code.region id l.toArray true, Q)} {e : Env} {w : World} (st : List MStep) (i : Nat) (ni : List Nat) (s1 : List MStep) (j : Nat) (nj : List Nat) (s2 : List MStep) {so t1 t2 : List (MStep × Oper)} (hm : P.follows .mixedOrders = true)
    (hB : (Region.noSelect l.toArray && (st.all fun s => decide (s.num < l.length)) && ((.run i ni :: s1).all fun s => decide (s.num < l.length)) && ((.run j nj :: s2).all fun s => decide (s.num < l.length)) && decide (st.length + (s1.length + 1) = l.length) && decide (s1.length = s2.length) &&
      mixC .any l.toArray (altB .any l.toArray i ni s1 j nj s2) st [] (Array.replicate l.toArray.size false)) = true)
    (h2 : withOps l st = so) (h3 : withOps l (.run i ni :: s1) = t1) (h4 : withOps l (.run j nj :: s2) = t2) (h : mixE P n l.toArray (altN P n l.toArray (Q .normal) t1 t2) so [] ⟨⟩ e w.drew) : wpE P n (.region id l.toArray true) Q t e w := by
  subst h2
  simp only [wpE, wpR]
  intro a hf
  simp only [Bool.and_eq_true, decide_eq_true_eq] at hB
  obtain ⟨⟨⟨⟨⟨⟨hsel, hv⟩, hv1⟩, hv2⟩, hlen⟩, hl12⟩, hmB⟩ := hB
  have hmap := withOps_map l st hv
  have hmap1 := withOps_map l _ hv1
  have hmap2 := withOps_map l _ hv2
  have hn1 := withOps_num l (.run i ni :: s1)
  have hn2 := withOps_num l (.run j nj :: s2)
  rw [h3] at hmap1 hn1
  rw [h4] at hmap2 hn2
  have branch : ∀ (i : Nat) (ni : List Nat) (s1 : List MStep) (t1 : List (MStep × Oper)), t1.map (·.1) = .run i ni :: s1 → (∀ s ∈ t1, l.toArray[s.1.num]? = some s.2) → ∀ Ds listed e a w, i ∈ Region.ready .any l.toArray listed → ClosedL .any l.toArray listed →
      ((Ds.map (·.1)).all fun k => (upB .any l.toArray k).contains i || ni.contains k) = true → mixB .any l.toArray s1 (Ds.map (·.1)) (listed.setIfInBounds i true) = true → Fits n e a → mixR P n l.toArray (endN (Q .normal)) t1 Ds e w →
      wpOp P l.toArray (noP (lift n Q)) i (fun a' w' => askD .any l.toArray Ds i w w' ∧ wpAnyD P .any l.toArray (noP (lift n Q)) (askD .any l.toArray Ds) s1.length (listed.setIfInBounds i true) a' w') a w := by
    intro i ni s1 t1 hmap hn Ds listed e a w hr hcl hneed hB hf h
    cases t1 with
    | nil => cases hmap
    | cons x t1 =>
      obtain ⟨x1, o⟩ := x
      simp only [List.map_cons, List.cons.injEq] at hmap
      obtain ⟨rfl, rfl⟩ := hmap
      have h0 : l.toArray[i]? = some o := hn _ List.mem_cons_self
      refine run_step h0 hneed hf h (fun e' a' w' hf' h' => ?_)
      rw [List.length_map]
      exact mixAny hsel t1 Ds _ e' a' w' (hcl.set hr) (fun s hs => hn s (List.mem_cons_of_mem _ hs)) hB hf' h'
  have H := mixAnyK (P := P) (n := n) (g := s1.length + 1) (md := .any) (Q := lift n Q) (fin := altB .any l.toArray i ni s1 j nj s2) (N := altN P n l.toArray (Q .normal) t1 t2) hsel (fun Ds listed e a w hcl hB hf h => by
    simp only [altB, Bool.and_eq_true, decide_eq_true_eq] at hB
    obtain ⟨⟨⟨⟨hr, hn1'⟩, hn2'⟩, hb1⟩, hb2⟩ := hB
    refine ⟨fun h => by (rw [h] at hr; cases hr), fun k hk => ?_⟩
    rw [hr] at hk
    rcases List.mem_cons.1 hk with rfl | hk
    · exact branch k ni s1 t1 hmap1 hn1 Ds listed e a w (by rw [hr]; simp) hcl hn1' hb1 hf h.1
    · rw [List.mem_singleton] at hk
      subst hk
      rw [hl12]
      exact branch k nj s2 t2 hmap2 hn2 Ds listed e a w (by rw [hr]; simp) hcl hn2' hb2 hf h.2) (withOps l st) [] (Array.replicate l.toArray.size false) e a w.drew ClosedL.none (withOps_num l st) (by rw [hmap]; exact hmB) hf h
  have hl2 : (withOps l st).length + (s1.length + 1) = l.toArray.size := by rw [← List.length_map (f := (·.1)), hmap, hlen]; simp
  rw [hl2] at H
  refine Code.wp_mono ?_ (wp_region_any hm (wpAny_of_D _ _ _ _ H))
  intro x a w h
  cases x <;> first | exact h | exact h.elim
attribute [go_sem] mixE_alt
attribute [congr] onPure_congr
attribute [go_sem] onPure_value onPure_value' mixE_nil mixE_pure mixE_take mixE_run mixE_run' mixE_pure2 mixE_take2 mixE_run2 askR
end Go.Proofs.Ytkljlgahdlgmpaa
