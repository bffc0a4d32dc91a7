/- DqA: texts in one: Dq, Dq2. -/
import Derived.Test.YtejpophjiinijaaDoorDraws
import Derived.Defers
import Derived.Test.YtejpophjiinijaaDoorBase
/-! ### Dq -/
namespace Go.Proofs.YtejpophjiinijaaDoor.Dq
set_option linter.unusedVariables false
set_option linter.unusedSimpArgs false
set_option maxRecDepth 100000
open Go
/-- The deferred calls of the frame. -/
class Dfs where
  ds : List Deferred
end Go.Proofs.YtejpophjiinijaaDoor.Dq
namespace Go.Proofs.YtejpophjiinijaaDoor.Dq
set_option linter.unusedVariables false
set_option linter.unusedSimpArgs false
set_option maxRecDepth 100000
variable [Dfs]
open Go

/-! ### The frame as a function -/
structure Fits (n : Nat) (e : Env) (a : Act) : Prop where
  size : a.tmps.size = n
  get : ∀ k, a.tmps.getD k undef = e k
  defers : a.defers = Dfs.ds

theorem Fits.eval {n : Nat} {e : Env} {a : Act} (h : Fits n e a) : a.eval = ev e := by
  funext x
  cases x with
  | tmp t => exact h.get t
  | const v => rfl
  | global g => rfl
  | func f => rfl

theorem Fits.put {n : Nat} {e : Env} {a : Act} (h : Fits n e a) (d : Option Tmp) (v : Value) (hd : okDst n d = true) : Fits n (putE e d v) (a.put d v) := by
  cases d with
  | none => exact h
  | some d =>
    have hd' : d < a.tmps.size := by rw [h.size]; simpa [okDst] using hd
    exact ⟨by simp [Act.put, h.size], fun k => by
      show (a.tmps.setIfInBounds d v).getD k undef = upd e d v k
      rw [getD_set _ _ _ _ hd', h.get]; rfl, h.defers⟩

/-! ### A call -/
/-! ### One operation -/
section
variable (P : Program) (K : Value → World → Prop) (t : Tag (P, K)) (w : World)
end

theorem wantE_eq {n : Nat} {e : Env} {a : Act} (h : Fits n e a) (ops : Array Oper) (o : Oper) : Region.wanted o (yielded ops a.tmps) = wantE ops e o.guard := by
  unfold Region.wanted
  cases hg : o.guard with
  | none => rfl
  | some p =>
    obtain ⟨j, want⟩ := p
    show (yielded ops a.tmps j == some want) = _
    unfold wantE
    congr 1
    unfold yielded
    cases hd : (ops[j]?).bind (·.dst) with
    | none => rfl
    | some d =>
      show (match a.tmps[d]? with | some (.bool b) => some b | _ => none) = _
      have hk := h.get d
      rw [Array.getD_eq_getD_getElem?] at hk
      show _ = (match e d with | .bool b => some b | _ => none)
      rw [← hk]
      cases ht : a.tmps[d]? with
      | none => rfl
      | some v => cases v <;> rfl

/-- What is known of a frame, said of the guide's. -/
def lift (n : Nat) (Q : Exit → Env → World → Prop) : Exit → Act → World → Prop := fun x a w => ∃ e, Fits n e a ∧ Q x e w

theorem opsR_sound {P : Program} {n : Nat} {ops : Array Oper} {Q : Exit → Env → World → Prop} : ∀ (l : List Oper) (e : Env) (w : World) (a : Act), Fits n e a →
    opsR P n ops (Q .normal) l e w → wpList P ops (lift n Q) l a w := by
  intro l
  induction l with
  | nil => intro e w a hf h; exact ⟨e, hf, h⟩
  | cons o rest ih =>
    intro e w a hf h
    obtain ⟨hd, h⟩ := h
    unfold wpList
    rw [wantE_eq hf]
    split
    · rename_i hw
      rw [if_pos hw] at h
      refine .inl ?_
      unfold Oper.wp
      rw [hf.eval]
      generalize (execOp (ev e) o).run P w = r at h
      cases r with
      | halt x w' => exact h.elim
      | ok x w' =>
        cases x with
        | value v => exact ih _ _ _ (hf.put _ v hd) h
        | skip => exact ih _ _ _ (hf.put _ undef hd) h
        | enter f args =>
          refine Calls.mono h ?_
          rintro x w2 ⟨v, rfl, hv⟩
          exact ih _ _ _ (hf.put _ v hd) hv
        | _ => exact h.elim
    · rename_i hw
      rw [if_neg hw] at h
      exact ih _ _ _ (hf.put _ undef hd) h

/-! ### Code -/
def wpR (P : Program) (n : Nat) : Code → (Exit → Env → World → Prop) → Env → World → Prop
  | .skip, Q, e, w => Q .normal e w
  | .region _ ops false, Q, e, w => opsR P n ops (Q .normal) ops.toList e w
  | .seq x y, Q, e, w => wpR P n x (seqR (wpR P n y Q) Q) e w
  | .cond c x y, Q, e, w => condE (wpR P n x Q e w) (wpR P n y Q e w) ⟨⟩ (ev e c)
  | .block id x, Q, e, w => wpR P n x (blockR id Q) e w
  | .exit id, Q, e, w => Q (.exit id) e w
  | .ret, Q, e, w => Q .ret e w
  | c, Q, e, w => ∀ a, Fits n e a → Code.wp P c (lift n Q) a w
def wpE (P : Program) (n : Nat) (c : Code) (Q : Exit → Env → World → Prop) (_ : Tag (P, n, c, Q)) (e : Env) (w : World) : Prop := wpR P n c Q e w
section
variable (P : Program) (n : Nat) (Q : Exit → Env → World → Prop) (K : Env → World → Prop) (e : Env) (w : World)
theorem wpE_skip (t : Tag (P, n, Code.skip, Q)) : wpE P n .skip Q t e w = goE Q .normal ⟨⟩ e w := by simp only [wpE, wpR, goE]
theorem wpE_region (id : Nat) (l : List Oper) (t : Tag (P, n, Code.region id l.toArray false, Q)) : wpE P n (.region id l.toArray false) Q t e w = opsE P n l.toArray (Q .normal) l ⟨⟩ e w := by simp only [wpE, wpR, opsE]
theorem wpE_seq (x y : Code) (t : Tag (P, n, Code.seq x y, Q)) : wpE P n (.seq x y) Q t e w = wpE P n x (seqR (wpR P n y Q) Q) ⟨⟩ e w := by simp only [wpE, wpR]
theorem wpE_cond (c : Operand) (x y : Code) (t : Tag (P, n, Code.cond c x y, Q)) : wpE P n (.cond c x y) Q t e w = condE (wpE P n x Q ⟨⟩ e w) (wpE P n y Q ⟨⟩ e w) ⟨⟩ (ev e c) := by simp only [wpE, wpR]
theorem wpE_block (id : Nat) (x : Code) (t : Tag (P, n, Code.block id x, Q)) : wpE P n (.block id x) Q t e w = wpE P n x (blockR id Q) ⟨⟩ e w := by simp only [wpE, wpR]
theorem wpE_exit (id : Nat) (t : Tag (P, n, Code.exit id, Q)) : wpE P n (.exit id) Q t e w = goE Q (.exit id) ⟨⟩ e w := by simp only [wpE, wpR, goE]
theorem wpE_ret (t : Tag (P, n, Code.ret, Q)) : wpE P n .ret Q t e w = goE Q .ret ⟨⟩ e w := by simp only [wpE, wpR, goE]

theorem goE_seq (y : Code) (t : Tag (seqR (wpR P n y Q) Q, Exit.normal)) : goE (seqR (wpR P n y Q) Q) .normal t e w = wpE P n y Q ⟨⟩ e w := nr rfl
end

theorem wpR_sound {P : Program} {n : Nat} : ∀ (c : Code) (Q : Exit → Env → World → Prop) (e : Env) (w : World) (a : Act), Fits n e a → wpR P n c Q e w → Code.wp P c (lift n Q) a w := by
  intro c
  induction c with
  | skip => intro Q e w a hf h; simp only [wpR] at h; exact wp_skip ⟨e, hf, h⟩
  | region id ops draw =>
    intro Q e w a hf h
    cases draw with
    | true => simp only [wpR] at h; exact h a hf
    | false =>
      obtain ⟨l⟩ := ops
      simp only [wpR] at h
      exact wp_region_lit (opsR_sound l e w a hf h)
  | seq x y ihx ihy =>
    intro Q e w a hf h
    simp only [wpR] at h
    refine wp_seq (Code.wp_mono ?_ (ihx _ e w a hf h))
    rintro z a' w' ⟨e', hf', hq⟩
    cases z with
    | normal => exact ihy Q e' w' a' hf' hq
    | _ => exact ⟨e', hf', hq⟩
  | cond c x y ihx ihy =>
    intro Q e w a hf h
    simp only [wpR] at h
    cases hv : ev e c with
    | bool b =>
      rw [hv] at h
      have hc : a.eval c = .bool b := by rw [hf.eval]; exact hv
      cases b with
      | true => exact wp_cond hc (ihx Q e w a hf h)
      | false => exact wp_cond hc (ihy Q e w a hf h)
    | _ => rw [hv] at h; exact h.elim
  | block id x ih =>
    intro Q e w a hf h
    simp only [wpR] at h
    refine wp_block (Code.wp_mono ?_ (ih _ e w a hf h))
    rintro z a' w' ⟨e', hf', hq⟩
    cases z with
    | exit i =>
      show if i = id then _ else _
      have hq' : if i = id then Q .normal e' w' else Q (.exit i) e' w' := hq
      by_cases hi : i = id
      · rw [if_pos hi] at hq' ⊢; exact ⟨e', hf', hq'⟩
      · rw [if_neg hi] at hq' ⊢; exact ⟨e', hf', hq'⟩
    | _ => exact ⟨e', hf', hq⟩
  | exit id => intro Q e w a hf h; simp only [wpR] at h; exact wp_exit ⟨e, hf, h⟩
  | ret => intro Q e w a hf h; simp only [wpR] at h; exact wp_ret ⟨e, hf, h⟩
  | _ => intro Q e w a hf h; simp only [wpR] at h; exact h a hf

/-! ### A loop -/
section
variable (I : Env → World → Prop) (μ : Env → World → Nat) (m : Nat) (Q : Exit → Env → World → Prop) (e : Env) (w : World)
end

theorem wpE_loop {P : Program} {n : Nat} {c : Code} {Q : Exit → Env → World → Prop} {t : Tag (P, n, Code.loop c, Q)} {e : Env} {w : World} (I : Env → World → Prop) (μ : Env → World → Nat) (h0 : I e w)
    (round : ∀ e w, I e w → wpE P n c (roundR I μ (μ e w) Q) ⟨⟩ e w) : wpE P n (.loop c) Q t e w := by
  simp only [wpE, wpR]
  intro a hf
  refine wp_loop (fun a w => ∃ e, Fits n e a ∧ I e w) (fun a w => μ (fun k => a.tmps.getD k undef) w) ⟨e, hf, h0⟩ ?_
  rintro a w ⟨e, hf, hI⟩
  have he : (fun k => a.tmps.getD k undef) = e := funext hf.get
  refine Code.wp_mono ?_ (wpR_sound _ _ e w a hf (round e w hI))
  rintro z a' w' ⟨e', hf', hq⟩
  have he' : (fun k => a'.tmps.getD k undef) = e' := funext hf'.get
  cases z with
  | normal => exact ⟨⟨e', hf', hq.1⟩, by show μ _ _ < μ _ _; rw [he, he']; exact hq.2⟩
  | _ => exact ⟨e', hf', hq⟩

/-- A loop of few rounds, one behind the other. -/
def roundsR (P : Program) (n : Nat) (c : Code) (Q : Exit → Env → World → Prop) : Nat → Env → World → Prop
  | 0, _, _ => False
  | k + 1, e, w => wpR P n c (seqR (roundsR P n c Q k) Q) e w
def roundsE (P : Program) (n : Nat) (c : Code) (Q : Exit → Env → World → Prop) (k : Nat) (_ : Tag (P, n, c, Q)) (e : Env) (w : World) : Prop := roundsR P n c Q k e w
theorem roundsE_succ (P : Program) (n : Nat) (c : Code) (Q : Exit → Env → World → Prop) (k : Nat) (t : Tag (P, n, c, Q)) (e : Env) (w : World) : roundsE P n c Q (k + 1) t e w = wpE P n c (seqR (roundsR P n c Q k) Q) ⟨⟩ e w := nr rfl
theorem goE_rounds (P : Program) (n : Nat) (c : Code) (Q : Exit → Env → World → Prop) (k : Nat) (e : Env) (w : World) (t : Tag (seqR (roundsR P n c Q k) Q, Exit.normal)) : goE (seqR (roundsR P n c Q k) Q) .normal t e w = roundsE P n c Q k ⟨⟩ e w := nr rfl
theorem wpE_rounds {P : Program} {n : Nat} {c : Code} {Q : Exit → Env → World → Prop} {t : Tag (P, n, Code.loop c, Q)} {e : Env} {w : World} (k : Nat) (h : roundsE P n c Q k ⟨⟩ e w) : wpE P n (.loop c) Q t e w := by
  simp only [wpE, wpR]
  intro a hf
  refine wp_loop_rounds k ?_
  unfold roundsE at h
  induction k generalizing e w a with
  | zero => exact h.elim
  | succ k ih =>
    rw [rounds_succ]
    refine Code.wp_mono ?_ (wpR_sound c _ e w a hf h)
    rintro z a' w' ⟨e', hf', hq⟩
    cases z with
    | normal => exact ih hq a' hf'
    | _ => exact ⟨e', hf', hq⟩

/-! ### A function -/
section
variable {P : Program} {fn : Func} {R : Value → World → Prop} {e : Env} {w : World}
end

/-! ### Calls, by looking -/
section
variable (e : Env) (dst : Option Tmp) (xs : Array Operand) (ats : Array TypeId) (ty : TypeId) (pos : String) (after : Array Edge) (guard : Option (Nat × Bool))
end

attribute [go_sem] roundsE_succ goE_rounds goE_seq
attribute [go_sem] wpE_skip wpE_region wpE_seq wpE_cond wpE_block wpE_exit wpE_ret
end Go.Proofs.YtejpophjiinijaaDoor.Dq

namespace Go.Proofs.YtejpophjiinijaaDoor.Dq
set_option linter.unusedVariables false
set_option linter.unusedSimpArgs false
set_option maxRecDepth 100000
variable [Dfs]
open Go

/-! ### Operations that leave the world as it is -/
section
variable (P : Program) (n : Nat) (ops : Array Oper) (w : World) (N : Env → Prop) (e : Env)
end

theorem stillR_sound {P : Program} {n : Nat} {ops : Array Oper} {w : World} {N : Env → Prop} {N' : Act → Prop} (hN : ∀ e a, Fits n e a → N e → N' a) : ∀ (l : List Oper) (e : Env) (a : Act), Fits n e a →
    stillR P n ops w N l e → wpStill P ops w N' l a := by
  intro l
  induction l with
  | nil => intro e a hf h; exact hN e a hf h
  | cons o rest ih =>
    intro e a hf h
    obtain ⟨hd, h⟩ := h
    unfold wpStill
    rw [wantE_eq hf]
    split
    · rename_i hw
      rw [if_pos hw] at h
      unfold Oper.still
      rw [hf.eval]
      generalize (execOp (ev e) o).run P w = r at h
      cases r with
      | halt x w' => exact h.elim
      | ok x w' =>
        cases x with
        | value v => exact ⟨h.1, ih _ _ (hf.put _ v hd) h.2⟩
        | skip => exact ⟨h.1, ih _ _ (hf.put _ undef hd) h.2⟩
        | enter f args =>
          obtain ⟨h1, v, h2, h3⟩ := h
          refine ⟨h1, v, Calls.mono h2 ?_, ih _ _ (hf.put _ v hd) h3⟩
          rintro x w2 ⟨u, rfl, rfl, rfl⟩
          exact ⟨rfl, rfl⟩
        | _ => exact h.elim
    · rename_i hw
      rw [if_neg hw] at h
      exact ih _ _ (hf.put _ undef hd) h

/-- Every operation leaves the world as it is. -/
theorem drawE_still {P : Program} {n id : Nat} {l : List Oper} {Q : Exit → Env → World → Prop} {t : Tag (P, n, Code.region id l.toArray true, Q)} {e : Env} {w : World} (hm : P.follows .mixedOrders = true) (hB : Region.lexB .any l.toArray = true)
    (h : stillE P n l.toArray w.drew (fun e' => goE Q .normal ⟨⟩ e' w.drew) l ⟨⟩ e) : wpE P n (.region id l.toArray true) Q t e w := by
  simp only [wpE, wpR]
  intro a hf
  exact wp_region_still_lit hm hB (stillR_sound (fun e a hf hq => ⟨e, hf, hq⟩) l e a hf h)

/-- The first k ones leave the world as it is; the others come behind them, in one order. -/
theorem drawE_tail {P : Program} {n id : Nat} {l l1 l2 : List Oper} {Q : Exit → Env → World → Prop} {t : Tag (P, n, Code.region id l.toArray true, Q)} {e : Env} {w : World} (k : Nat) (hm : P.follows .mixedOrders = true) (hB : Region.lexTailB .any l.toArray k = true)
    (h1 : l.take k = l1) (h2 : l.drop k = l2)
    (h : stillE P n l.toArray w.drew (fun e' => opsE P n l.toArray (Q .normal) l2 ⟨⟩ e' w.drew) l1 ⟨⟩ e) : wpE P n (.region id l.toArray true) Q t e w := by
  subst h1; subst h2
  simp only [wpE, wpR]
  intro a hf
  exact wp_region_still_tail k hm hB (stillR_sound (fun e a hf hq => opsR_sound _ e _ a hf hq) _ e a hf h)

/-! ### Operations that leave the world in a class -/
section
variable (P : Program) (n : Nat) (ops : Array Oper) (C : World → Prop) (N : Env → Prop) (e : Env)
end

theorem quietR_sound {P : Program} {n : Nat} {ops : Array Oper} {C : World → Prop} {N : Env → Prop} {N' : Act → Prop} (hN : ∀ e a, Fits n e a → N e → N' a) : ∀ (l : List Oper) (e : Env) (a : Act), Fits n e a →
    quietR P n ops C N l e → wpQuiet P ops C N' l a := by
  intro l
  induction l with
  | nil => intro e a hf h; exact hN e a hf h
  | cons o rest ih =>
    intro e a hf h
    obtain ⟨hd, h⟩ := h
    unfold wpQuiet
    rw [wantE_eq hf]
    split
    · rename_i hw
      rw [if_pos hw] at h
      obtain ⟨v, h1, h2⟩ := h
      refine ⟨v, fun w hC => ?_, ih _ _ (hf.put _ v hd) h2⟩
      have h3 : quietRes P C w v ((execOp (ev e) o).run P w) := h1 w hC
      unfold Oper.quietAt
      rw [hf.eval]
      generalize (execOp (ev e) o).run P w = r at h3
      cases r with
      | halt x w' => exact h3.elim
      | ok x w' =>
        cases x with
        | value v => exact h3
        | skip => exact h3
        | enter f args =>
          refine ⟨h3.1, Calls.mono h3.2 ?_⟩
          rintro x w2 ⟨u, rfl, rfl, hc⟩
          exact ⟨rfl, hc⟩
        | _ => exact h3.elim
    · rename_i hw
      rw [if_neg hw] at h
      exact ih _ _ (hf.put _ undef hd) h

theorem drawE_quiet {P : Program} {n id : Nat} {l : List Oper} {Q : Exit → Env → World → Prop} {t : Tag (P, n, Code.region id l.toArray true, Q)} {e : Env} {w : World} (C : World → Prop) (hm : P.follows .mixedOrders = true) (hB : Region.lexB .any l.toArray = true) (hC : C w.drew)
    (h : Some1 C → quietE P n l.toArray C (fun e' => ∀ w', C w' → goE Q .normal ⟨⟩ e' w') l ⟨⟩ e) : wpE P n (.region id l.toArray true) Q t e w := by
  simp only [wpE, wpR]
  intro a hf
  exact wp_region_quiet hm hB hC (quietR_sound (fun e a hf hq w' hw' => ⟨e, hf, hq w' hw'⟩) l e a hf (h ⟨_, hC⟩))

end Go.Proofs.YtejpophjiinijaaDoor.Dq

/-! ### Held -/
namespace Go.Proofs.YtejpophjiinijaaDoor.Dq
set_option linter.unusedVariables false
set_option linter.unusedSimpArgs false
set_option maxRecDepth 100000
variable [Dfs]
open Go

section
variable (P : Program) (n : Nat) (ops : Array Oper) (C : World → Prop) (N : Env → Prop) (N2 : Env → World → Prop) (e : Env) (w : World)
end

theorem restAny {P : Program} {n : Nat} {ops : Array Oper} {C : World → Prop} {md : Region.Mode} {Q : Exit → Env → World → Prop} : ∀ (l : List Oper) (k : Nat) (listed : Array Bool) (e : Env) (a : Act) (w : World), (∀ j, l[j]? = ops[k + j]?) →
    Region.seqB md ops l.length k listed = true → Fits n e a → restR P n ops C (Q .normal) l e w → wpAnyH P md ops (noP (lift n Q)) C l.length listed a w
  | [], _, _, e, _, _, _, hB, hf, h => ⟨by simpa [Region.seqB] using hB, e, hf, h⟩
  | o :: l, k, listed, e, a, w, hl, hB, hf, h => by
    have h0 : ops[k]? = some o := by simpa using (hl 0).symm
    simp only [List.length_cons, Region.seqB, Bool.and_eq_true, decide_eq_true_eq] at hB
    refine wpAnyH_all hB.1 (by simp) fun i hi => ?_
    have hik : i = k := by simpa using hi
    subst hik
    have ih := fun e' a' w' => restAny (md := md) (C := C) (Q := Q) (P := P) (n := n) l (i + 1) (listed.setIfInBounds i true) e' a' w' (fun j => by have := hl (j + 1); simpa [Nat.add_assoc, Nat.add_comm 1 j] using this) hB.2
    obtain ⟨hd, h⟩ := h
    unfold wpOp
    simp only [h0]
    rw [wantE_eq hf]
    split
    · rename_i hw
      rw [if_pos hw] at h
      refine .inl ?_
      unfold Oper.wp
      rw [hf.eval]
      generalize (execOp (ev e) o).run P w = r at h
      cases r with
      | halt x w' => exact h.elim
      | ok x w' =>
        cases x with
        | value v => exact ⟨h.1, ih _ _ _ (hf.put _ v hd) h.2⟩
        | skip => exact ⟨h.1, ih _ _ _ (hf.put _ undef hd) h.2⟩
        | enter f args =>
          refine Calls.mono h ?_
          rintro x w2 ⟨v, rfl, hv⟩
          exact ⟨hv.1, ih _ _ _ (hf.put _ v hd) hv.2⟩
        | _ => exact h.elim
    · rename_i hw
      rw [if_neg hw] at h
      exact ⟨h.1, ih _ _ _ (hf.put _ undef hd) h.2⟩

theorem heldAny {P : Program} {n g : Nat} {ops : Array Oper} {C : World → Prop} {N : Env → Prop} {md : Region.Mode} {Q : Exit → Act → World → Prop} (hsel : Region.noSelect ops = true) (w : World) (hC : C w)
    (K : Nat → Prop) (hK : ∀ k listed e a, K k → Region.seqB md ops g k listed = true → Fits n e a → N e → wpAnyH P md ops (noP Q) C g listed a w) : ∀ (l : List Oper) (k : Nat) (listed : Array Bool) (e : Env) (a : Act), K (k + l.length) → (∀ j, j < l.length → l[j]? = ops[k + j]?) →
    Region.lexHead md ops g l.length k listed = true → Fits n e a → heldR P n ops C N l e → wpAnyH P md ops (noP Q) C (l.length + g) listed a w
  | [], k, listed, e, a, hk, _, hB, hf, h => by
    simpa using hK k listed e a (by simpa using hk) (by simpa [Region.lexHead] using hB) hf h
  | o :: l, k, listed, e, a, hk, hl, hB, hf, h => by
    have h0 : ops[k]? = some o := by simpa using (hl 0 (by simp)).symm
    simp only [List.length_cons, Region.lexHead, Bool.and_eq_true] at hB
    obtain ⟨⟨hr, hfr⟩, hB'⟩ := hB
    have ih := fun e' a' => heldAny (md := md) (g := g) hsel w hC K hK l (k + 1) (listed.setIfInBounds k true) e' a' (by simpa [Nat.add_assoc, Nat.add_comm 1] using hk) (fun j hj => by have := hl (j + 1) (by simp; omega); simpa [Nat.add_assoc, Nat.add_comm 1 j] using this) hB'
    obtain ⟨hd, h⟩ := h
    rw [List.length_cons, show l.length + 1 + g = l.length + g + 1 by omega]
    by_cases hw : wantE ops e o.guard = true
    · rw [if_pos hw] at h
      obtain ⟨v, h1, h2⟩ := h
      refine wpAnyH_take h0 hsel hfr hr (fun _ _ _ h => h) (.inl ⟨by rw [wantE_eq hf]; exact hw, fun w hw => ?_⟩) hC (ih _ _ (hf.put _ v hd) h2)
      rw [hf.eval]; exact h1 w hw
    · rw [if_neg hw] at h
      exact wpAnyH_take h0 hsel hfr hr (fun _ _ _ h => h) (.inr ⟨by rw [wantE_eq hf]; simpa using hw, rfl⟩) hC (ih _ _ (hf.put _ undef hd) h)

/-- The first k ones read, in every world of the class alike; the others come behind them, in one order, and leave the class alone. -/
theorem drawE_held {P : Program} {n id : Nat} {l l1 l2 : List Oper} {Q : Exit → Env → World → Prop} {t : Tag (P, n, Code.region id l.toArray true, Q)} {e : Env} {w : World} (k : Nat) (C : World → Prop) (hm : P.follows .mixedOrders = true) (hB : Region.heldB l.toArray k = true)
    (h1 : l.take k = l1) (h2 : l.drop k = l2) (hC : C w.drew)
    (h : Some1 C → heldE P n l.toArray C (fun e' => restE P n l.toArray C (Q .normal) l2 ⟨⟩ e' w.drew) l1 ⟨⟩ e) : wpE P n (.region id l.toArray true) Q t e w := by
  subst h1; subst h2
  simp only [wpE, wpR]
  intro a hf
  simp only [Region.heldB, Bool.and_eq_true, decide_eq_true_eq] at hB
  obtain ⟨⟨hsel, hn⟩, hlex⟩ := hB
  have hn' : k ≤ l.length := by simpa using hn
  have htl : (l.take k).length = k := by simp; omega
  have hdl : (l.drop k).length = l.toArray.size - k := by simp
  have H := heldAny (P := P) (n := n) (Q := lift n Q) (md := .any) (g := l.toArray.size - k) hsel w.drew hC (fun j => j = k) (fun j listed e a hj hB hf h => by
    subst hj
    have := restAny (md := .any) (l.drop j) j listed e a w.drew (fun i => by simp [List.getElem?_drop]) (by rw [hdl]; exact hB) hf h
    rw [hdl] at this
    exact this) (l.take k) 0 _ e a (by simpa using htl) (fun j hj => by
      have hj' : j < k := by rw [htl] at hj; exact hj
      simp [hj']) (by rw [htl]; exact hlex) hf (h ⟨_, hC⟩)
  rw [htl, show k + (l.toArray.size - k) = l.toArray.size by simp; omega] at H
  refine Code.wp_mono ?_ (wp_region_held hm H)
  intro x a w h
  cases x <;> first | exact h | exact h.elim

end Go.Proofs.YtejpophjiinijaaDoor.Dq

/-! ### Perm -/
namespace Go.Proofs.YtejpophjiinijaaDoor.Dq
set_option linter.unusedVariables false
set_option linter.unusedSimpArgs false
set_option maxRecDepth 100000
variable [Dfs]
open Go

/-! ### Who waits for an operation, through others -/
section
variable {P : Program} {ops : Array Oper} {Q : Exit → Act → World → Prop} {md : Region.Mode} {D : Nat → World → Prop}
end

theorem restAnyT {P : Program} {n : Nat} {ops : Array Oper} {C : World → Prop} {jb : List Nat} {md : Region.Mode} {Q : Exit → Env → World → Prop} : ∀ (l : List Oper) (js : List Nat) (listed : Array Bool) (e : Env) (a : Act) (w : World), (∀ j ∈ js, j ∈ jb) → js.map (fun j => ops[j]?) = l.map some →
    seqJ md ops js listed = true → Fits n e a → opsR P n ops (Q .normal) l e w → wpAnyT P md ops (noP (lift n Q)) (askT jb C) l.length listed a w
  | [], js, listed, e, a, w, _, hl, hB, hf, h => by
    obtain rfl : js = [] := by simpa using hl
    exact ⟨by simpa [seqJ] using hB, e, hf, h⟩
  | o :: l, [], _, _, _, _, _, hl, _, _, _ => by simp at hl
  | o :: l, j :: js, listed, e, a, w, hj, hl, hB, hf, h => by
    simp only [List.map_cons, List.cons.injEq] at hl
    obtain ⟨h0, hl⟩ := hl
    simp only [seqJ, Bool.and_eq_true, decide_eq_true_eq] at hB
    refine wpAnyT_all hB.1 (by simp) fun i hi => ?_
    have hik : i = j := by simpa using hi
    subst hik
    have hD : ∀ w, askT jb C i w := fun w => .inl (hj i List.mem_cons_self)
    have ih := fun e' a' w' => restAnyT (C := C) (md := md) (Q := Q) (P := P) (n := n) l js (listed.setIfInBounds i true) e' a' w' (fun k hk => hj k (List.mem_cons_of_mem _ hk)) hl hB.2
    obtain ⟨hd, h⟩ := h
    unfold wpOp
    simp only [h0]
    rw [wantE_eq hf]
    split
    · rename_i hw
      rw [if_pos hw] at h
      refine .inl ?_
      unfold Oper.wp
      rw [hf.eval]
      generalize (execOp (ev e) o).run P w = r at h
      cases r with
      | halt x w' => exact h.elim
      | ok x w' =>
        cases x with
        | value v => exact ⟨hD _, ih _ _ _ (hf.put _ v hd) h⟩
        | skip => exact ⟨hD _, ih _ _ _ (hf.put _ undef hd) h⟩
        | enter f args =>
          refine Calls.mono h ?_
          rintro x w2 ⟨v, rfl, hv⟩
          exact ⟨hD _, ih _ _ _ (hf.put _ v hd) hv⟩
        | _ => exact h.elim
    · rename_i hw
      rw [if_neg hw] at h
      exact ⟨hD _, ih _ _ _ (hf.put _ undef hd) h⟩

theorem restAnyP {P : Program} {n : Nat} {ops : Array Oper} {C : World → Prop} {jb : List Nat} {md : Region.Mode} {Q : Exit → Env → World → Prop} {lb : List Oper} (hlb : jb.map (fun j => ops[j]?) = lb.map some) : ∀ (l : List Oper) (js : List Nat) (listed : Array Bool) (e : Env) (a : Act) (w : World), js.map (fun j => ops[j]?) = l.map some →
    seqJ md ops (js ++ jb) listed = true → Fits n e a → restR P n ops C (opsR P n ops (Q .normal) lb) l e w → wpAnyT P md ops (noP (lift n Q)) (askT jb C) (l.length + lb.length) listed a w
  | [], js, listed, e, a, w, hl, hB, hf, h => by
    obtain rfl : js = [] := by simpa using hl
    simp only [List.length_nil, Nat.zero_add]
    exact restAnyT lb jb listed e a w (fun j hj => hj) hlb (by simpa using hB) hf h
  | o :: l, [], _, _, _, _, hl, _, _, _ => by simp at hl
  | o :: l, j :: js, listed, e, a, w, hl, hB, hf, h => by
    simp only [List.map_cons, List.cons.injEq] at hl
    obtain ⟨h0, hl⟩ := hl
    simp only [List.cons_append, seqJ, Bool.and_eq_true, decide_eq_true_eq] at hB
    rw [List.length_cons, show l.length + 1 + lb.length = l.length + lb.length + 1 by omega]
    refine wpAnyT_all hB.1 (by simp) fun i hi => ?_
    have hik : i = j := by simpa using hi
    subst hik
    have ih := fun e' a' w' => restAnyP (md := md) (C := C) (Q := Q) (P := P) (n := n) hlb l js (listed.setIfInBounds i true) e' a' w' hl hB.2
    obtain ⟨hd, h⟩ := h
    unfold wpOp
    simp only [h0]
    rw [wantE_eq hf]
    split
    · rename_i hw
      rw [if_pos hw] at h
      refine .inl ?_
      unfold Oper.wp
      rw [hf.eval]
      generalize (execOp (ev e) o).run P w = r at h
      cases r with
      | halt x w' => exact h.elim
      | ok x w' =>
        cases x with
        | value v => exact ⟨.inr h.1, ih _ _ _ (hf.put _ v hd) h.2⟩
        | skip => exact ⟨.inr h.1, ih _ _ _ (hf.put _ undef hd) h.2⟩
        | enter f args =>
          refine Calls.mono h ?_
          rintro x w2 ⟨v, rfl, hv⟩
          exact ⟨.inr hv.1, ih _ _ _ (hf.put _ v hd) hv.2⟩
        | _ => exact h.elim
    · rename_i hw
      rw [if_neg hw] at h
      exact ⟨.inr h.1, ih _ _ _ (hf.put _ undef hd) h.2⟩

theorem heldAnyP {P : Program} {n g : Nat} {ops : Array Oper} {C : World → Prop} {N : Env → Prop} {md : Region.Mode} {Q : Exit → Act → World → Prop} {js jb : List Nat} (hsel : Region.noSelect ops = true) (w : World) (hC : C w)
    (hK : ∀ listed e a, seqJ md ops (js ++ jb) listed = true → Fits n e a → N e → wpAnyT P md ops (noP Q) (askT jb C) g listed a w) : ∀ (l : List Oper) (is : List Nat) (listed : Array Bool) (e : Env) (a : Act), ClosedL md ops listed → is.map (fun j => ops[j]?) = l.map some →
    permB md ops js jb is listed = true → Fits n e a → heldR P n ops C N l e → wpAnyT P md ops (noP Q) (askT jb C) (l.length + g) listed a w
  | [], is, listed, e, a, _, hl, hB, hf, h => by
    obtain rfl : is = [] := by simpa using hl
    simpa using hK listed e a (by simpa [permB] using hB) hf h
  | o :: l, [], _, _, _, _, hl, _, _, _ => by simp at hl
  | o :: l, i :: is, listed, e, a, hcl, hl, hB, hf, h => by
    simp only [List.map_cons, List.cons.injEq] at hl
    obtain ⟨h0, hl⟩ := hl
    simp only [permB, Bool.and_eq_true] at hB
    obtain ⟨⟨⟨hr, hfr⟩, hj⟩, hB'⟩ := hB
    have hr' : i ∈ Region.ready md ops listed := by simpa using hr
    have ih := fun e' a' => heldAnyP (md := md) (g := g) hsel w hC hK l is (listed.setIfInBounds i true) e' a' (hcl.set hr') hl hB'
    obtain ⟨hd, h⟩ := h
    rw [List.length_cons, show l.length + 1 + g = l.length + g + 1 by omega]
    have first := fun v (hy : YieldsIf P ops C o v a) hH => wpAnyT_first (P := P) (Q := noP Q) (D := askT jb C) (S := C) (v := v) h0 (Region.noSelect_spec hsel) (fun _ _ _ h => h) (fun w h => .inr h)
      (fun j hju w hDj => by
        rcases hDj with h | h
        · have := List.all_eq_true.1 hj j h
          exact absurd (by simpa using this) hju
        · exact h) (l.length + g) listed a w hcl (Region.free_spec h0 hfr) hr' hy hC hH
    by_cases hw : wantE ops e o.guard = true
    · rw [if_pos hw] at h
      obtain ⟨v, h1, h2⟩ := h
      refine first v (.inl ⟨by rw [wantE_eq hf]; exact hw, fun w hw => ?_⟩) (ih _ _ (hf.put _ v hd) h2)
      rw [hf.eval]; exact h1 w hw
    · rw [if_neg hw] at h
      exact first undef (.inr ⟨by rw [wantE_eq hf]; simpa using hw, rfl⟩) (ih _ _ (hf.put _ undef hd) h)

/-- Numbers is: reads, in every world of the class alike; js: the rest, which leaves the class; jb: the last ones. -/
theorem drawE_perm {P : Program} {n id : Nat} {l l1 l2 l3 : List Oper} {Q : Exit → Env → World → Prop} {t : Tag (P, n, Code.region id l.toArray true, Q)} {e : Env} {w : World} (is js jb : List Nat) (C : World → Prop) (hm : P.follows .mixedOrders = true)
    (hB : (Region.noSelect l.toArray && permB .any l.toArray js jb is (Array.replicate l.toArray.size false)) = true)
    (hv : ((is.all fun j => decide (j < l.length)) && (js.all fun j => decide (j < l.length)) && (jb.all fun j => decide (j < l.length)) && decide (is.length + js.length + jb.length = l.length)) = true)
    (h1 : is.filterMap (fun j => l[j]?) = l1) (h2 : js.filterMap (fun j => l[j]?) = l2) (h3 : jb.filterMap (fun j => l[j]?) = l3) (hC : C w.drew)
    (h : Some1 C → heldE P n l.toArray C (fun e' => restE P n l.toArray C (opsR P n l.toArray (Q .normal) l3) l2 ⟨⟩ e' w.drew) l1 ⟨⟩ e) : wpE P n (.region id l.toArray true) Q t e w := by
  simp only [wpE, wpR]
  intro a hf
  rw [Bool.and_eq_true] at hB
  simp only [Bool.and_eq_true, decide_eq_true_eq] at hv
  have m1 := filterMap_map l is hv.1.1.1
  have m2 := filterMap_map l js hv.1.1.2
  have m3 := filterMap_map l jb hv.1.2
  rw [h1] at m1
  rw [h2] at m2
  rw [h3] at m3
  have hlen : l1.length + (l2.length + l3.length) = l.length := by
    have e1 := congrArg List.length m1
    have e2 := congrArg List.length m2
    have e3 := congrArg List.length m3
    simp only [List.length_map] at e1 e2 e3
    omega
  have H := heldAnyP (P := P) (n := n) (Q := lift n Q) (md := .any) (g := l2.length + l3.length) (js := js) (jb := jb) hB.1 w.drew hC (fun listed e a hB hf h => restAnyP m3 l2 js listed e a w.drew m2 hB hf h) l1 is _ e a ClosedL.none m1 hB.2 hf (h ⟨_, hC⟩)
  rw [show l1.length + (l2.length + l3.length) = l.toArray.size by simpa using hlen] at H
  refine Code.wp_mono ?_ (wp_region_any hm (wpAny_of_T _ _ _ _ H))
  intro x a w h
  cases x <;> first | exact h | exact h.elim
end Go.Proofs.YtejpophjiinijaaDoor.Dq

/-! ### Mix -/
namespace Go.Proofs.YtejpophjiinijaaDoor.Dq
set_option linter.unusedVariables false
set_option linter.unusedSimpArgs false
set_option maxRecDepth 100000
variable [Dfs]
open Go

section
variable {P : Program} {ops : Array Oper} {Q : Exit → Act → World → Prop} {md : Region.Mode}
end

section
variable (P : Program) (n : Nat) (ops : Array Oper) (N : List (Nat × (World → Prop)) → Env → World → Prop) (Ds : List (Nat × (World → Prop))) (e : Env) (w : World) (st : List (MStep × Oper))
end
theorem yif_pure {P : Program} {n : Nat} {ops : Array Oper} {S : World → Prop} {o : Oper} {v : Value} {e : Env} {a : Act} (hf : Fits n e a) (hw : wantE ops e o.guard = true) (h : ∀ w, S w → (execOp (ev e) o).run P w = .ok (.value v) w) : YieldsIf P ops S o v a :=
  .inl ⟨by rw [wantE_eq hf]; exact hw, fun w hS => by rw [hf.eval]; exact h w hS⟩
theorem yif_off {P : Program} {n : Nat} {ops : Array Oper} {S : World → Prop} {o : Oper} {e : Env} {a : Act} (hf : Fits n e a) (hw : ¬ wantE ops e o.guard = true) : YieldsIf P ops S o undef a :=
  .inr ⟨by rw [wantE_eq hf]; simpa using hw, rfl⟩

theorem mixAnyK {P : Program} {n g : Nat} {ops : Array Oper} {md : Region.Mode} {Q : Exit → Act → World → Prop} {fin : List Nat → Array Bool → Bool} {N : List (Nat × (World → Prop)) → Env → World → Prop} (hsel : Region.noSelect ops = true)
    (hK : ∀ Ds listed e a w, ClosedL md ops listed → fin (Ds.map (·.1)) listed = true → Fits n e a → N Ds e w → wpAnyD P md ops (noP Q) (askD md ops Ds) g listed a w) : ∀ (st : List (MStep × Oper)) (Ds : List (Nat × (World → Prop))) (listed : Array Bool) (e : Env) (a : Act) (w : World), ClosedL md ops listed →
    (∀ s ∈ st, ops[s.1.num]? = some s.2) → mixC md ops fin (st.map (·.1)) (Ds.map (·.1)) listed = true → Fits n e a → mixR P n ops N st Ds e w → wpAnyD P md ops (noP Q) (askD md ops Ds) (st.length + g) listed a w
  | [], Ds, listed, e, a, w, hcl, _, hB, hf, h => by rw [List.length_nil, Nat.zero_add]; exact hK Ds listed e a w hcl hB hf h
  | (.pure i, o) :: st, Ds, listed, e, a, w, hcl, hst, hB, hf, h => by
    have h0 : ops[i]? = some o := hst _ List.mem_cons_self
    simp only [List.map_cons, mixC, Bool.and_eq_true] at hB
    obtain ⟨⟨hr, hfr⟩, hB'⟩ := hB
    have hr' : i ∈ Region.ready md ops listed := by simpa using hr
    have ih := fun e' a' => mixAnyK (P := P) (n := n) (Q := Q) hsel hK st Ds (listed.setIfInBounds i true) e' a' w (hcl.set hr') (fun s hs => hst s (List.mem_cons_of_mem _ hs)) hB'
    obtain ⟨hd, h⟩ := h
    rw [List.length_cons, show st.length + 1 + g = st.length + g + 1 by omega]
    have first := fun v (hy : YieldsIf P ops (fun _ => True) o v a) hH => wpAnyD_first (P := P) (Q := noP Q) (D := askD md ops Ds) (D' := askD md ops Ds) (S := fun _ => True) (v := v) h0 (Region.noSelect_spec hsel) (fun _ _ _ h => h) (fun w => .inl rfl) (fun _ _ _ _ _ _ => trivial) (fun _ _ _ h => h)
      (st.length + g) listed a w hcl (Region.free_spec h0 hfr) hr' hy trivial hH
    by_cases hw : wantE ops e o.guard = true
    · rw [if_pos hw] at h
      obtain ⟨v, h1, h2⟩ := h
      exact first v (yif_pure hf hw (fun w _ => h1 w)) (ih _ _ (hf.put _ v hd) h2)
    · rw [if_neg hw] at h
      exact first undef (yif_off hf hw) (ih _ _ (hf.put _ undef hd) h)
  | (.take i, o) :: st, Ds, listed, e, a, w, hcl, hst, hB, hf, h => by
    have h0 : ops[i]? = some o := hst _ List.mem_cons_self
    simp only [List.map_cons, mixC, Bool.and_eq_true] at hB
    obtain ⟨⟨hr, hfr⟩, hB'⟩ := hB
    have hr' : i ∈ Region.ready md ops listed := by simpa using hr
    have ih := fun S e' a' => mixAnyK (P := P) (n := n) (Q := Q) hsel hK st ((i, S) :: Ds) (listed.setIfInBounds i true) e' a' w (hcl.set hr') (fun s hs => hst s (List.mem_cons_of_mem _ hs)) hB'
    obtain ⟨hd, h⟩ := h
    rw [List.length_cons, show st.length + 1 + g = st.length + g + 1 by omega]
    have first := fun S v (hS : S w) (hy : YieldsIf P ops S o v a) hH => wpAnyD_first (P := P) (Q := noP Q) (D := askD md ops Ds) (D' := askD md ops ((i, S) :: Ds)) (S := S) (v := v) h0 (Region.noSelect_spec hsel) (fun _ _ _ h => h) (fun w => .inl rfl)
      (fun j hju w w' hSw hD => by
        rcases hD with rfl | hD
        · exact hSw
        · rcases hD (i, S) List.mem_cons_self with h | h
          · exact absurd h hju
          · exact h)
      (fun j w w' hD => by
        rcases hD with hD | hD
        · exact .inl hD
        · exact .inr fun p hp => hD p (List.mem_cons_of_mem _ hp))
      (st.length + g) listed a w hcl (Region.free_spec h0 hfr) hr' hy hS hH
    by_cases hw : wantE ops e o.guard = true
    · rw [if_pos hw] at h
      obtain ⟨S, v, hS, h1, h2⟩ := h
      exact first S v hS (yif_pure hf hw h1) (ih S _ _ (hf.put _ v hd) h2)
    · rw [if_neg hw] at h
      exact first (fun _ => True) undef trivial (yif_off hf hw) (ih _ _ _ (hf.put _ undef hd) h)
  | (.run j need, o) :: st, Ds, listed, e, a, w, hcl, hst, hB, hf, h => by
    have h0 : ops[j]? = some o := hst _ List.mem_cons_self
    simp only [List.map_cons, mixC, Bool.and_eq_true, decide_eq_true_eq] at hB
    obtain ⟨⟨hr, hneed⟩, hB'⟩ := hB
    have hr' : j ∈ Region.ready md ops listed := by rw [hr]; simp
    rw [List.length_cons, show st.length + 1 + g = st.length + g + 1 by omega]
    refine ⟨fun h => by (rw [h] at hr; cases hr), fun i hi => ?_⟩
    have hik : i = j := by rw [hr] at hi; simpa using hi
    subst hik
    have ih := fun e' a' w' => mixAnyK (P := P) (n := n) (Q := Q) hsel hK st Ds (listed.setIfInBounds i true) e' a' w' (hcl.set hr') (fun s hs => hst s (List.mem_cons_of_mem _ hs)) hB'
    obtain ⟨hd, h⟩ := h
    unfold wpOp
    simp only [h0]
    rw [wantE_eq hf]
    split
    · rename_i hw
      rw [if_pos hw] at h
      refine .inl ?_
      unfold Oper.wp
      rw [hf.eval]
      generalize (execOp (ev e) o).run P w = r at h
      cases r with
      | halt x w' => exact h.elim
      | ok x w' =>
        cases x with
        | value v => exact ⟨askD_of Ds hneed h.1, ih _ _ _ (hf.put _ v hd) h.2⟩
        | skip => exact ⟨askD_of Ds hneed h.1, ih _ _ _ (hf.put _ undef hd) h.2⟩
        | enter f args =>
          refine Calls.mono h ?_
          rintro x w2 ⟨v, rfl, hv⟩
          exact ⟨askD_of Ds hneed hv.1, ih _ _ _ (hf.put _ v hd) hv.2⟩
        | _ => exact h.elim
    · rename_i hw
      rw [if_neg hw] at h
      exact ⟨.inl rfl, ih _ _ _ (hf.put _ undef hd) h⟩

theorem mixAny {P : Program} {n : Nat} {ops : Array Oper} {md : Region.Mode} {Q : Exit → Env → World → Prop} (hsel : Region.noSelect ops = true) (st : List (MStep × Oper)) (Ds : List (Nat × (World → Prop))) (listed : Array Bool) (e : Env) (a : Act) (w : World) (hcl : ClosedL md ops listed)
    (hst : ∀ s ∈ st, ops[s.1.num]? = some s.2) (hB : mixB md ops (st.map (·.1)) (Ds.map (·.1)) listed = true) (hf : Fits n e a) (h : mixR P n ops (endN (Q .normal)) st Ds e w) : wpAnyD P md ops (noP (lift n Q)) (askD md ops Ds) st.length listed a w :=
  mixAnyK (P := P) (n := n) (md := md) (Q := lift n Q) (g := 0) (N := endN (Q .normal)) (fin := endB md ops) hsel (fun Ds listed e a w _ hB hf h => (show _ ∧ _ from ⟨by simpa [endB] using hB, e, hf, h⟩)) st Ds listed e a w hcl hst hB hf h
/-- One that is carried out, whoever else may come up. -/
theorem run_step {P : Program} {n g : Nat} {ops : Array Oper} {md : Region.Mode} {Q : Exit → Act → World → Prop} {N : List (Nat × (World → Prop)) → Env → World → Prop} {j : Nat} {need : List Nat} {o : Oper} {st : List (MStep × Oper)} {Ds : List (Nat × (World → Prop))} {listed : Array Bool} {e : Env} {a : Act} {w : World} (h0 : ops[j]? = some o)
    (hneed : ((Ds.map (·.1)).all fun i => (upB md ops i).contains j || need.contains i) = true) (hf : Fits n e a) (h : mixR P n ops N ((.run j need, o) :: st) Ds e w)
    (ih : ∀ e' a' w', Fits n e' a' → mixR P n ops N st Ds e' w' → wpAnyD P md ops (noP Q) (askD md ops Ds) g (listed.setIfInBounds j true) a' w') :
    wpOp P ops (noP Q) j (fun a' w' => askD md ops Ds j w w' ∧ wpAnyD P md ops (noP Q) (askD md ops Ds) g (listed.setIfInBounds j true) a' w') a w := by
  obtain ⟨hd, h⟩ := h
  unfold wpOp
  simp only [h0]
  rw [wantE_eq hf]
  split
  · rename_i hw
    rw [if_pos hw] at h
    refine .inl ?_
    unfold Oper.wp
    rw [hf.eval]
    generalize (execOp (ev e) o).run P w = r at h
    cases r with
    | halt x w' => exact h.elim
    | ok x w' =>
      cases x with
      | value v => exact ⟨askD_of Ds hneed h.1, ih _ _ _ (hf.put _ v hd) h.2⟩
      | skip => exact ⟨askD_of Ds hneed h.1, ih _ _ _ (hf.put _ undef hd) h.2⟩
      | enter f args =>
        refine Calls.mono h ?_
        rintro x w2 ⟨v, rfl, hv⟩
        exact ⟨askD_of Ds hneed hv.1, ih _ _ _ (hf.put _ v hd) hv.2⟩
      | _ => exact h.elim
  · rename_i hw
    rw [if_neg hw] at h
    exact ⟨.inl rfl, ih _ _ _ (hf.put _ undef hd) h⟩

theorem drawE_mix {P : Program} {n id : Nat} {l : List Oper} {Q : Exit → Env → World → Prop} {t : Tag (P, n, Code.region id l.toArray true, Q)} {e : Env} {w : World} (st : List MStep) {s2 : List (MStep × Oper)} (hm : P.follows .mixedOrders = true)
    (hB : (Region.noSelect l.toArray && (st.all fun s => decide (s.num < l.length)) && decide (st.length = l.length) && mixB .any l.toArray st [] (Array.replicate l.toArray.size false)) = true)
    (h2 : withOps l st = s2) (h : mixE P n l.toArray (endN (Q .normal)) s2 [] ⟨⟩ e w.drew) : wpE P n (.region id l.toArray true) Q t e w := by
  subst h2
  simp only [wpE, wpR]
  intro a hf
  simp only [Bool.and_eq_true, decide_eq_true_eq] at hB
  obtain ⟨⟨⟨hsel, hv⟩, hlen⟩, hmB⟩ := hB
  have hmap := withOps_map l st hv
  have hl2 : (withOps l st).length = l.toArray.size := by rw [← List.length_map (f := (·.1)), hmap, hlen]; simp
  have H := mixAny (P := P) (n := n) (md := .any) (Q := Q) hsel (withOps l st) [] (Array.replicate l.toArray.size false) e a w.drew ClosedL.none (withOps_num l st) (by rw [hmap]; exact hmB) hf h
  rw [hl2] at H
  refine Code.wp_mono ?_ (wp_region_any hm (wpAny_of_D _ _ _ _ H))
  intro x a w h
  cases x <;> first | exact h | exact h.elim

/-- A plan up to where either of two may come up. -/
theorem drawE_alt {P : Program} {n id : Nat} {l : List Oper} {Q : Exit → Env → World → Prop} {t : Tag (P, n, Code.region id l.toArray true, Q)} {e : Env} {w : World} (st : List MStep) (i : Nat) (ni : List Nat) (s1 : List MStep) (j : Nat) (nj : List Nat) (s2 : List MStep) {so t1 t2 : List (MStep × Oper)} (hm : P.follows .mixedOrders = true)
    (hB : (Region.noSelect l.toArray && (st.all fun s => decide (s.num < l.length)) && ((.run i ni :: s1).all fun s => decide (s.num < l.length)) && ((.run j nj :: s2).all fun s => decide (s.num < l.length)) && decide (st.length + (s1.length + 1) = l.length) && decide (s1.length = s2.length) &&
      mixC .any l.toArray (altB .any l.toArray i ni s1 j nj s2) st [] (Array.replicate l.toArray.size false)) = true)
    (h2 : withOps l st = so) (h3 : withOps l (.run i ni :: s1) = t1) (h4 : withOps l (.run j nj :: s2) = t2) (h : mixE P n l.toArray (altN P n l.toArray (Q .normal) t1 t2) so [] ⟨⟩ e w.drew) : wpE P n (.region id l.toArray true) Q t e w := by
  subst h2
  simp only [wpE, wpR]
  intro a hf
  simp only [Bool.and_eq_true, decide_eq_true_eq] at hB
  obtain ⟨⟨⟨⟨⟨⟨hsel, hv⟩, hv1⟩, hv2⟩, hlen⟩, hl12⟩, hmB⟩ := hB
  have hmap := withOps_map l st hv
  have hmap1 := withOps_map l _ hv1
  have hmap2 := withOps_map l _ hv2
  have hn1 := withOps_num l (.run i ni :: s1)
  have hn2 := withOps_num l (.run j nj :: s2)
  rw [h3] at hmap1 hn1
  rw [h4] at hmap2 hn2
  have branch : ∀ (i : Nat) (ni : List Nat) (s1 : List MStep) (t1 : List (MStep × Oper)), t1.map (·.1) = .run i ni :: s1 → (∀ s ∈ t1, l.toArray[s.1.num]? = some s.2) → ∀ Ds listed e a w, i ∈ Region.ready .any l.toArray listed → ClosedL .any l.toArray listed →
      ((Ds.map (·.1)).all fun k => (upB .any l.toArray k).contains i || ni.contains k) = true → mixB .any l.toArray s1 (Ds.map (·.1)) (listed.setIfInBounds i true) = true → Fits n e a → mixR P n l.toArray (endN (Q .normal)) t1 Ds e w →
      wpOp P l.toArray (noP (lift n Q)) i (fun a' w' => askD .any l.toArray Ds i w w' ∧ wpAnyD P .any l.toArray (noP (lift n Q)) (askD .any l.toArray Ds) s1.length (listed.setIfInBounds i true) a' w') a w := by
    intro i ni s1 t1 hmap hn Ds listed e a w hr hcl hneed hB hf h
    cases t1 with
    | nil => cases hmap
    | cons x t1 =>
      obtain ⟨x1, o⟩ := x
      simp only [List.map_cons, List.cons.injEq] at hmap
      obtain ⟨rfl, rfl⟩ := hmap
      have h0 : l.toArray[i]? = some o := hn _ List.mem_cons_self
      refine run_step h0 hneed hf h (fun e' a' w' hf' h' => ?_)
      rw [List.length_map]
      exact mixAny hsel t1 Ds _ e' a' w' (hcl.set hr) (fun s hs => hn s (List.mem_cons_of_mem _ hs)) hB hf' h'
  have H := mixAnyK (P := P) (n := n) (g := s1.length + 1) (md := .any) (Q := lift n Q) (fin := altB .any l.toArray i ni s1 j nj s2) (N := altN P n l.toArray (Q .normal) t1 t2) hsel (fun Ds listed e a w hcl hB hf h => by
    simp only [altB, Bool.and_eq_true, decide_eq_true_eq] at hB
    obtain ⟨⟨⟨⟨hr, hn1'⟩, hn2'⟩, hb1⟩, hb2⟩ := hB
    refine ⟨fun h => by (rw [h] at hr; cases hr), fun k hk => ?_⟩
    rw [hr] at hk
    rcases List.mem_cons.1 hk with rfl | hk
    · exact branch k ni s1 t1 hmap1 hn1 Ds listed e a w (by rw [hr]; simp) hcl hn1' hb1 hf h.1
    · rw [List.mem_singleton] at hk
      subst hk
      rw [hl12]
      exact branch k nj s2 t2 hmap2 hn2 Ds listed e a w (by rw [hr]; simp) hcl hn2' hb2 hf h.2) (withOps l st) [] (Array.replicate l.toArray.size false) e a w.drew ClosedL.none (withOps_num l st) (by rw [hmap]; exact hmB) hf h
  have hl2 : (withOps l st).length + (s1.length + 1) = l.toArray.size := by rw [← List.length_map (f := (·.1)), hmap, hlen]; simp
  rw [hl2] at H
  refine Code.wp_mono ?_ (wp_region_any hm (wpAny_of_D _ _ _ _ H))
  intro x a w h
  cases x <;> first | exact h | exact h.elim
end Go.Proofs.YtejpophjiinijaaDoor.Dq

/-! ### Dq2 -/
namespace Go.Proofs.YtejpophjiinijaaDoor.Dq
set_option linter.unusedVariables false
set_option linter.unusedSimpArgs false
set_option maxRecDepth 100000
open Go Go.RowKit

abbrev D0 : Dfs := ⟨[]⟩
abbrev D1 (d : Deferred) : Dfs := ⟨[d]⟩
/-- What a call's end is said by a value. -/
def endR (R : Value → World → Prop) : Ending → World → Prop := fun x w => ∃ v, x = .returned v ∧ R v w
/-- Code that is still to come. -/
def wpX [Dfs] (P : Program) (QD : Exit → Act → World → Prop) (n : Nat) (c : Code) (e : Env) (w : World) : Prop := ∀ a, Fits n e a → c.wp P QD a w
/-- What is left by, at the door. -/
def outR [Dfs] (P : Program) (fn : Func) (R : Value → World → Prop) : Exit → Env → World → Prop
  | .ret, e, w => ∀ tmps : Array Value, (∀ k, tmps.getD k undef = e k) → Leaves P fn tmps (endR R) Dfs.ds .returning w
  | _, _, _ => False
theorem rawSeq [Dfs] {P : Program} {fn : Func} {R : Value → World → Prop} {n : Nat} {x y : Code} {e : Env} {w : World} (h : wpE P n x (seqR (fun e w => wpX P (bodyPostD P fn (endR R)) n y e w) (outR P fn R)) ⟨⟩ e w) :
    wpX P (bodyPostD P fn (endR R)) n (.seq x y) e w := by
  intro a hf
  refine wp_seq (Code.wp_mono ?_ (wpR_sound x _ e w a hf h))
  rintro z a' w' ⟨e', hf', hq⟩
  cases z with
  | normal => exact hq a' hf'
  | ret =>
    show Leaves P fn a'.tmps (endR R) a'.defers .returning w'
    rw [hf'.defers]
    exact hq a'.tmps hf'.get
  | _ => exact hq.elim
theorem rawAll [Dfs] {P : Program} {fn : Func} {R : Value → World → Prop} {n : Nat} {x : Code} {e : Env} {w : World} (h : wpE P n x (outR P fn R) ⟨⟩ e w) : wpX P (bodyPostD P fn (endR R)) n x e w := by
  intro a hf
  refine Code.wp_mono ?_ (wpR_sound x _ e w a hf h)
  rintro z a' w' ⟨e', hf', hq⟩
  cases z with
  | ret =>
    show Leaves P fn a'.tmps (endR R) a'.defers .returning w'
    rw [hf'.defers]
    exact hq a'.tmps hf'.get
  | _ => exact hq.elim
theorem goE_raw {K : Env → World → Prop} {Q : Exit → Env → World → Prop} {t : Tag (seqR K Q, Exit.normal)} {e : Env} {w : World} (h : K e w) : goE (seqR K Q) .normal t e w := h
/-- The region that makes the closure, and defers it. -/
theorem rawDefer {P : Program} {fn : Func} {R : Value → World → Prop} {n id d1 : Nat} {G : FuncId} {first : Array Operand} {cap : Array Operand} {capv : Array Value} {ty1 ty2 : TypeId} {pos1 pos2 : String} {af1 af2 : Array Edge} {y : Code} {e : Env} {w : World} (hd : d1 < n)
    (h : @wpX (D1 ⟨.fn (.func G) capv, #[]⟩) P (bodyPostD P fn (endR R)) n y (upd e d1 (.func (.func G) #[] capv)) w) (hfirst : first = #[]) (hcap : cap.map (ev e) = capv) :
    @wpX D0 P (bodyPostD P fn (endR R)) n (.seq (.region id [⟨some d1, .makeFunc (.func G) first cap, ty1, pos1, af1, none⟩, ⟨none, .defer ⟨.value (.tmp d1), #[], #[]⟩, ty2, pos2, af2, none⟩].toArray false) y) e w := by
  subst hfirst
  subst hcap
  intro a hf
  refine wp_seq (wp_region_lit ?_)
  have hev : a.eval = ev e := @Fits.eval D0 n e a hf
  refine wpList_plain rfl fun K hK => ?_
  have h1 : (execOp a.eval ⟨some d1, .makeFunc (.func G) #[] cap, ty1, pos1, af1, none⟩).run P w = .ok (.value (.func (.func G) #[] (cap.map (ev e)))) w := by
    rw [hev]; simp [go_sem]
  unfold Oper.wp
  rw [h1, Oper.upon_value]
  have hf1 := @Fits.put D0 n e a hf (some d1) (.func (.func G) #[] (cap.map (ev e))) (by simpa [okDst] using hd)
  refine hK _ _ (wpList_plain rfl fun K2 hK2 => ?_)
  have hev1 := @Fits.eval D0 _ _ _ hf1
  have h2 : (execOp (a.put (some d1) (.func (.func G) #[] (cap.map (ev e)))).eval ⟨none, .defer ⟨.value (.tmp d1), #[], #[]⟩, ty2, pos2, af2, none⟩).run P w = .ok (.defer ⟨.fn (.func G) (cap.map (ev e)), #[]⟩) w := by
    rw [hev1]
    simp [go_sem, execOp, resolve, Deferred.ofValue]
  unfold Oper.wp
  rw [h2, Oper.upon_defer]
  refine hK2 _ _ ?_
  refine wpList_nil ?_
  refine h _ (@Fits.mk (D1 _) _ _ _ (show (a.put (some d1) (.func (.func G) #[] (cap.map (ev e)))).tmps.size = n from @Fits.size D0 _ _ _ hf1) (fun k => show (a.put (some d1) (.func (.func G) #[] (cap.map (ev e)))).tmps.getD k undef = _ from @Fits.get D0 _ _ _ hf1 k) ?_)
  have hd0 : a.defers = [] := @Fits.defers D0 _ _ _ hf
  show _ :: a.defers = _
  rw [hd0]; rfl
theorem defD_of {P : Program} {f : FuncId} {fn : Func} {c : Code} {args : List Value} {w : World} {R : Value → World → Prop} (n : Nat)
    (hf : P.funcs[f]? = some fn) (hb : fn.body = some c) (hn : fn.ntmps = n) (hl : args.length ≤ n)
    (h : @wpX D0 P (bodyPostD P fn (endR R)) n c (argsE args 0 (fun _ => undef)) w) : Ret P f args.toArray w R := by
  refine calls_of_wp_defers hf hb (h _ (@Fits.mk D0 _ _ _ ?_ ?_ rfl))
  · simp [hn]; omega
  · intro k
    rw [argsE_at]
    simp only [Nat.zero_le, true_and, Nat.zero_add, Nat.sub_zero]
    rw [Array.getD_eq_getD_getElem?, Array.getElem?_append]
    split
    · rename_i h1
      simp at h1
      rw [if_pos h1]; simp
    · rename_i h1
      simp at h1
      rw [if_neg (by omega)]
      rw [Array.getElem?_replicate]
      split <;> rfl
end Go.Proofs.YtejpophjiinijaaDoor.Dq
namespace Go.Proofs.YtejpophjiinijaaDoor
set_option linter.unusedVariables false
set_option linter.unusedSimpArgs false
set_option maxRecDepth 100000
open Go Go.RowKit
/-- A function that is called at the door. -/
def RetD (P : Program) (f : FuncId) (args : Array Value) (w : World) (R : Value → World → Prop) : Prop := CallsD P f args .returning w fun x u' w' => u' = .returning ∧ ∃ v, x = .returned v ∧ R v w'
theorem retD_of {P : Program} {f : FuncId} {fn : Func} {c : Code} {args : List Value} {w : World} {R : Value → World → Prop} (n : Nat)
    (hf : P.funcs[f]? = some fn) (hb : fn.body = some c) (hn : fn.ntmps = n) (hl : args.length ≤ n)
    (h : wpE P n c (bodyR P fn R) ⟨⟩ (argsE args 0 (fun _ => undef)) w) : RetD P f args.toArray w R := by
  refine callsD_of_wp hf hb (Code.wp_mono ?_ (wpR_sound c _ _ w _ ⟨?_, ?_, rfl⟩ h))
  · rintro z a w' ⟨e', hf', hq⟩
    cases z with
    | normal =>
      obtain ⟨v, hr, hR⟩ := hq a.tmps hf'.get
      exact ⟨hf'.defers, v, hr, v, rfl, hR⟩
    | ret =>
      obtain ⟨v, hr, hR⟩ := hq a.tmps hf'.get
      exact ⟨hf'.defers, v, hr, v, rfl, hR⟩
    | _ => exact hq.elim
  · simp [hn]; omega
  · intro k
    rw [argsE_at]
    simp only [Nat.zero_le, true_and, Nat.zero_add, Nat.sub_zero]
    rw [Array.getD_eq_getD_getElem?, Array.getElem?_append]
    split
    · rename_i h1
      simp at h1
      rw [if_pos h1]; simp
    · rename_i h1
      simp at h1
      rw [if_neg (by omega)]
      rw [Array.getElem?_replicate]
      split <;> rfl
end Go.Proofs.YtejpophjiinijaaDoor
namespace Go.Proofs.YtejpophjiinijaaDoor.Dq
set_option linter.unusedVariables false
set_option linter.unusedSimpArgs false
set_option maxRecDepth 100000
open Go Go.RowKit
/-- At the door: nothing was deferred. -/
theorem out0 {P : Program} {fn : Func} {R : Value → World → Prop} {e : Env} {w : World} {t : Tag (@outR D0 P fn R, Exit.ret)} (v : Value) (hr : ∀ tmps : Array Value, (∀ k, tmps.getD k undef = e k) → (results fn tmps).run P w = .ok v w) (hR : R v w) : goE (@outR D0 P fn R) .ret t e w :=
  fun tmps ht => ⟨v, hr tmps ht, v, rfl, hR⟩
/-- At the door: one call, then the results. -/
theorem out1 {P : Program} {fn : Func} {R : Value → World → Prop} {G : FuncId} {cap args : Array Value} {e : Env} {w : World} {t : Tag (@outR (D1 ⟨.fn (.func G) cap, #[]⟩) P fn R, Exit.ret)} {RG : Value → World → Prop} (hi : (invoke (.fn (.func G) cap) #[]).run P w = .ok (.enter G args) w) (hG : RetD P G args w RG)
    (h : ∀ v w', RG v w' → ∃ u, (∀ tmps : Array Value, (∀ k, tmps.getD k undef = e k) → (results fn tmps).run P w' = .ok u w') ∧ R u w') : goE (@outR (D1 ⟨.fn (.func G) cap, #[]⟩) P fn R) .ret t e w := by
  intro tmps ht
  refine leaves_cons (by intro h; cases h) hi (CallsD.mono hG ?_)
  rintro x u' w' ⟨rfl, v, rfl, hv⟩
  obtain ⟨u, hu, hR⟩ := h v w' hv
  exact ⟨u, hu tmps ht, u, rfl, hR⟩
theorem results_tmp_cell {fn : Func} {u p : Tmp} {ty : TypeId} (h : fn.results = #[.tmp u, .cell p ty]) (tmps : Array Value) (P : Program) (w : World) :
    (results fn tmps).run P w = ((asAddr (tmps.getD p undef)).run P w).andThen fun a w₁ => ((loadVar ty a).run P w₁).andThen fun v w₂ => .ok (.tuple #[tmps.getD u undef, v]) w₂ := by
  simp only [results, h]
  simp [Sem.run_bind, Result.andThen]
end Go.Proofs.YtejpophjiinijaaDoor.Dq
