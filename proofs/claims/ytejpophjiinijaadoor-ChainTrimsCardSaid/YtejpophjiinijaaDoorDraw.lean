/- Regions that draw their order, for the engine: the guide's theorems (one walk of the lexical order serves every order), said of frames as functions. -/
import Derived.Test.YtejpophjiinijaaDoorEng
import Derived.Still
import Derived.StillTail
import Derived.Deep.Quiet
namespace Go.Proofs.YtejpophjiinijaaDoor
set_option linter.unusedVariables false
set_option linter.unusedSimpArgs false
set_option maxRecDepth 100000
open Go

/-! ### Operations that leave the world as it is -/
def onStill (P : Program) (w : World) (K : Value → Prop) (_ : Tag (P, w, K)) (r : Result Next) : Prop :=
  match r with
  | .ok (.value v) w' => w' = w ∧ K v
  | .ok .skip w' => w' = w ∧ K undef
  | .ok (.enter f args) w' => w' = w ∧ ∃ v, Ret P f args w (fun u w'' => u = v ∧ w'' = w) ∧ K v
  | _ => False
theorem onStill_value (P : Program) (w : World) (v : Value) (K : Value → Prop) (t : Tag (P, w, K)) : onStill P w K t (.ok (.value v) w) = K v := by simp [onStill]
theorem onStill_skip (P : Program) (w : World) (K : Value → Prop) (t : Tag (P, w, K)) : onStill P w K t (.ok .skip w) = K undef := by simp [onStill]
theorem onStill_call {P : Program} {w : World} {f : FuncId} {args : Array Value} {K : Value → Prop} {t : Tag (P, w, K)} (v : Value) (h : Ret P f args w (fun u w'' => u = v ∧ w'' = w)) (hK : K v) : onStill P w K t (.ok (.enter f args) w) := ⟨rfl, v, h, hK⟩

def stillR (P : Program) (n : Nat) (ops : Array Oper) (w : World) (N : Env → Prop) : List Oper → Env → Prop
  | [], e => N e
  | o :: rest, e => okDst n o.dst = true ∧
      (if wantE ops e o.guard = true then onStill P w (fun v => stillR P n ops w N rest (putE e o.dst v)) ⟨⟩ ((execOp (ev e) o).run P w)
       else stillR P n ops w N rest (putE e o.dst undef))
def stillE (P : Program) (n : Nat) (ops : Array Oper) (w : World) (N : Env → Prop) (l : List Oper) (_ : Tag (P, n, ops, w, N, l)) (e : Env) : Prop := stillR P n ops w N l e
/-- What comes behind, closed to simp. -/
def endE (N : Env → Prop) (_ : Tag N) (e : Env) : Prop := N e

section
variable (P : Program) (n : Nat) (ops : Array Oper) (w : World) (N : Env → Prop) (e : Env)
theorem stillE_nil (t : Tag (P, n, ops, w, N, ([] : List Oper))) : stillE P n ops w N [] t e = endE N ⟨⟩ e := nr rfl
theorem stillE_one (d : Nat) (op : Op) (ty : TypeId) (pos : String) (af : Array Edge) (rest : List Oper) (t : Tag (P, n, ops, w, N, (⟨some d, op, ty, pos, af, none⟩ :: rest : List Oper))) (hd : d < n) :
    stillE P n ops w N (⟨some d, op, ty, pos, af, none⟩ :: rest) t e = onStill P w (fun v => stillE P n ops w N rest ⟨⟩ (upd e d v)) ⟨⟩ (xOp P e ⟨some d, op, ty, pos, af, none⟩ w) := by
  simp only [stillE, stillR, okDst, wantE, hd, decide_true, true_and, if_true, putE, xOp]
theorem stillE_two (l0 : List Oper) (d : Option Tmp) (op : Op) (ty : TypeId) (pos : String) (af : Array Edge) (j : Nat) (want : Bool) (rest : List Oper) (t : Tag (P, n, l0.toArray, w, N, (⟨d, op, ty, pos, af, some (j, want)⟩ :: rest : List Oper))) (hd : okDst n d = true) :
    stillE P n l0.toArray w N (⟨d, op, ty, pos, af, some (j, want)⟩ :: rest) t e =
      guardE (onStill P w (fun v => stillE P n l0.toArray w N rest ⟨⟩ (putE e d v)) ⟨⟩ (xOp P e ⟨d, op, ty, pos, af, some (j, want)⟩ w))
        (stillE P n l0.toArray w N rest ⟨⟩ (putE e d undef)) ⟨⟩ (wantL l0 e j want) := by
  simp only [stillE, stillR, hd, true_and, guardE, wantE_list, xOp]
end

theorem stillR_sound {P : Program} {n : Nat} {ops : Array Oper} {w : World} {N : Env → Prop} {N' : Act → Prop} (hN : ∀ e a, Fits n e a → N e → N' a) : ∀ (l : List Oper) (e : Env) (a : Act), Fits n e a →
    stillR P n ops w N l e → wpStill P ops w N' l a := by
  intro l
  induction l with
  | nil => intro e a hf h; exact hN e a hf h
  | cons o rest ih =>
    intro e a hf h
    obtain ⟨hd, h⟩ := h
    unfold wpStill
    rw [wantE_eq hf]
    split
    · rename_i hw
      rw [if_pos hw] at h
      unfold Oper.still
      rw [hf.eval]
      generalize (execOp (ev e) o).run P w = r at h
      cases r with
      | halt x w' => exact h.elim
      | ok x w' =>
        cases x with
        | value v => exact ⟨h.1, ih _ _ (hf.put _ v hd) h.2⟩
        | skip => exact ⟨h.1, ih _ _ (hf.put _ undef hd) h.2⟩
        | enter f args =>
          obtain ⟨h1, v, h2, h3⟩ := h
          refine ⟨h1, v, Calls.mono h2 ?_, ih _ _ (hf.put _ v hd) h3⟩
          rintro x w2 ⟨u, rfl, rfl, rfl⟩
          exact ⟨rfl, rfl⟩
        | _ => exact h.elim
    · rename_i hw
      rw [if_neg hw] at h
      exact ih _ _ (hf.put _ undef hd) h

/-- Every operation leaves the world as it is. -/
theorem drawE_still {P : Program} {n id : Nat} {l : List Oper} {Q : Exit → Env → World → Prop} {t : Tag (P, n, Code.region id l.toArray true, Q)} {e : Env} {w : World} (hm : P.follows .mixedOrders = true) (hB : Region.lexB .any l.toArray = true)
    (h : stillE P n l.toArray w.drew (fun e' => goE Q .normal ⟨⟩ e' w.drew) l ⟨⟩ e) : wpE P n (.region id l.toArray true) Q t e w := by
  simp only [wpE, wpR]
  intro a hf
  exact wp_region_still_lit hm hB (stillR_sound (fun e a hf hq => ⟨e, hf, hq⟩) l e a hf h)

/-- The first k ones leave the world as it is; the others come behind them, in one order. -/
theorem drawE_tail {P : Program} {n id : Nat} {l l1 l2 : List Oper} {Q : Exit → Env → World → Prop} {t : Tag (P, n, Code.region id l.toArray true, Q)} {e : Env} {w : World} (k : Nat) (hm : P.follows .mixedOrders = true) (hB : Region.lexTailB .any l.toArray k = true)
    (h1 : l.take k = l1) (h2 : l.drop k = l2)
    (h : stillE P n l.toArray w.drew (fun e' => opsE P n l.toArray (Q .normal) l2 ⟨⟩ e' w.drew) l1 ⟨⟩ e) : wpE P n (.region id l.toArray true) Q t e w := by
  subst h1; subst h2
  simp only [wpE, wpR]
  intro a hf
  exact wp_region_still_tail k hm hB (stillR_sound (fun e a hf hq => opsR_sound _ e _ a hf hq) _ e a hf h)

/-! ### Operations that leave the world in a class -/
def quietRes (P : Program) (C : World → Prop) (w : World) (v : Value) : Result Next → Prop
  | .ok (.value u) w' => w' = w ∧ u = v
  | .ok .skip w' => w' = w ∧ v = undef
  | .ok (.enter f args) w' => w' = w ∧ Ret P f args w (fun u w'' => u = v ∧ C w'')
  | _ => False
def onQuiet (P : Program) (C : World → Prop) (K : Value → Prop) (_ : Tag (P, C, K)) (r : World → Result Next) : Prop :=
  ∃ v, (∀ w, C w → quietRes P C w v (r w)) ∧ K v
/-- There is a world in the class. -/
def Some1 (C : World → Prop) : Prop := ∃ w, C w
theorem onQuiet_value {P : Program} {C : World → Prop} (h : Some1 C) (v : Value) (K : Value → Prop) (t : Tag (P, C, K)) : onQuiet P C K t (fun w => .ok (.value v) w) = K v := by
  obtain ⟨w, hw⟩ := h
  apply propext
  constructor
  · rintro ⟨u, h1, h2⟩; have := (h1 w hw).2; subst this; exact h2
  · intro h; exact ⟨v, fun _ _ => ⟨rfl, rfl⟩, h⟩
theorem onQuiet_value' {P : Program} {C : World → Prop} (h : Some1 C) (v : Value) (K : Value → Prop) (t : Tag (P, C, K)) : onQuiet P C K t (.ok (.value v)) = K v := onQuiet_value h v K t
theorem onQuiet_call {P : Program} {C : World → Prop} {f : FuncId} {args : Array Value} {K : Value → Prop} {t : Tag (P, C, K)} (v : Value) (h : ∀ w, C w → Ret P f args w (fun u w'' => u = v ∧ C w'')) (hK : K v) : onQuiet P C K t (fun w => .ok (.enter f args) w) :=
  ⟨v, fun w hw => ⟨rfl, h w hw⟩, hK⟩
theorem onQuiet_call' {P : Program} {C : World → Prop} {f : FuncId} {args : Array Value} {K : Value → Prop} {t : Tag (P, C, K)} (v : Value) (h : ∀ w, C w → Ret P f args w (fun u w'' => u = v ∧ C w'')) (hK : K v) : onQuiet P C K t (.ok (.enter f args)) :=
  onQuiet_call v h hK
theorem onQuiet_of {P : Program} {C : World → Prop} {K : Value → Prop} {t : Tag (P, C, K)} {r : World → Result Next} (v : Value) (h : ∀ w, C w → r w = .ok (.value v) w) (hK : K v) : onQuiet P C K t r := ⟨v, fun w hw => by rw [h w hw]; exact ⟨rfl, rfl⟩, hK⟩
theorem onQuiet_of_call {P : Program} {C : World → Prop} {K : Value → Prop} {t : Tag (P, C, K)} {r : World → Result Next} {f : FuncId} {args : Array Value} (v : Value) (hr : ∀ w, C w → r w = .ok (.enter f args) w) (h : ∀ w, C w → Ret P f args w (fun u w'' => u = v ∧ C w'')) (hK : K v) : onQuiet P C K t r := ⟨v, fun w hw => by rw [hr w hw]; exact ⟨rfl, h w hw⟩, hK⟩
theorem onQuiet_congr {P : Program} {C : World → Prop} {K : Value → Prop} {t : Tag (P, C, K)} {r r' : World → Result Next} (h : ∀ w, C w → r w = r' w) : onQuiet P C K t r = onQuiet P C K t r' := by
  apply propext
  constructor
  · rintro ⟨v, h1, h2⟩; exact ⟨v, fun w hw => by rw [← h w hw]; exact h1 w hw, h2⟩
  · rintro ⟨v, h1, h2⟩; exact ⟨v, fun w hw => by rw [h w hw]; exact h1 w hw, h2⟩

def quietR (P : Program) (n : Nat) (ops : Array Oper) (C : World → Prop) (N : Env → Prop) : List Oper → Env → Prop
  | [], e => N e
  | o :: rest, e => okDst n o.dst = true ∧
      (if wantE ops e o.guard = true then onQuiet P C (fun v => quietR P n ops C N rest (putE e o.dst v)) ⟨⟩ (fun w => (execOp (ev e) o).run P w)
       else quietR P n ops C N rest (putE e o.dst undef))
def quietE (P : Program) (n : Nat) (ops : Array Oper) (C : World → Prop) (N : Env → Prop) (l : List Oper) (_ : Tag (P, n, ops, C, N, l)) (e : Env) : Prop := quietR P n ops C N l e
section
variable (P : Program) (n : Nat) (ops : Array Oper) (C : World → Prop) (N : Env → Prop) (e : Env)
theorem quietE_nil (t : Tag (P, n, ops, C, N, ([] : List Oper))) : quietE P n ops C N [] t e = endE N ⟨⟩ e := nr rfl
theorem quietE_one (d : Nat) (op : Op) (ty : TypeId) (pos : String) (af : Array Edge) (rest : List Oper) (t : Tag (P, n, ops, C, N, (⟨some d, op, ty, pos, af, none⟩ :: rest : List Oper))) (hd : d < n) :
    quietE P n ops C N (⟨some d, op, ty, pos, af, none⟩ :: rest) t e = onQuiet P C (fun v => quietE P n ops C N rest ⟨⟩ (upd e d v)) ⟨⟩ (fun w => xOp P e ⟨some d, op, ty, pos, af, none⟩ w) := by
  simp only [quietE, quietR, okDst, wantE, hd, decide_true, true_and, if_true, putE, xOp]
theorem quietE_two (l0 : List Oper) (d : Option Tmp) (op : Op) (ty : TypeId) (pos : String) (af : Array Edge) (j : Nat) (want : Bool) (rest : List Oper) (t : Tag (P, n, l0.toArray, C, N, (⟨d, op, ty, pos, af, some (j, want)⟩ :: rest : List Oper))) (hd : okDst n d = true) :
    quietE P n l0.toArray C N (⟨d, op, ty, pos, af, some (j, want)⟩ :: rest) t e =
      guardE (onQuiet P C (fun v => quietE P n l0.toArray C N rest ⟨⟩ (putE e d v)) ⟨⟩ (fun w => xOp P e ⟨d, op, ty, pos, af, some (j, want)⟩ w))
        (quietE P n l0.toArray C N rest ⟨⟩ (putE e d undef)) ⟨⟩ (wantL l0 e j want) := by
  simp only [quietE, quietR, hd, true_and, guardE, wantE_list, xOp]
end

theorem quietR_sound {P : Program} {n : Nat} {ops : Array Oper} {C : World → Prop} {N : Env → Prop} {N' : Act → Prop} (hN : ∀ e a, Fits n e a → N e → N' a) : ∀ (l : List Oper) (e : Env) (a : Act), Fits n e a →
    quietR P n ops C N l e → wpQuiet P ops C N' l a := by
  intro l
  induction l with
  | nil => intro e a hf h; exact hN e a hf h
  | cons o rest ih =>
    intro e a hf h
    obtain ⟨hd, h⟩ := h
    unfold wpQuiet
    rw [wantE_eq hf]
    split
    · rename_i hw
      rw [if_pos hw] at h
      obtain ⟨v, h1, h2⟩ := h
      refine ⟨v, fun w hC => ?_, ih _ _ (hf.put _ v hd) h2⟩
      have h3 : quietRes P C w v ((execOp (ev e) o).run P w) := h1 w hC
      unfold Oper.quietAt
      rw [hf.eval]
      generalize (execOp (ev e) o).run P w = r at h3
      cases r with
      | halt x w' => exact h3.elim
      | ok x w' =>
        cases x with
        | value v => exact h3
        | skip => exact h3
        | enter f args =>
          refine ⟨h3.1, Calls.mono h3.2 ?_⟩
          rintro x w2 ⟨u, rfl, rfl, hc⟩
          exact ⟨rfl, hc⟩
        | _ => exact h3.elim
    · rename_i hw
      rw [if_neg hw] at h
      exact ih _ _ (hf.put _ undef hd) h

theorem drawE_quiet {P : Program} {n id : Nat} {l : List Oper} {Q : Exit → Env → World → Prop} {t : Tag (P, n, Code.region id l.toArray true, Q)} {e : Env} {w : World} (C : World → Prop) (hm : P.follows .mixedOrders = true) (hB : Region.lexB .any l.toArray = true) (hC : C w.drew)
    (h : Some1 C → quietE P n l.toArray C (fun e' => ∀ w', C w' → goE Q .normal ⟨⟩ e' w') l ⟨⟩ e) : wpE P n (.region id l.toArray true) Q t e w := by
  simp only [wpE, wpR]
  intro a hf
  exact wp_region_quiet hm hB hC (quietR_sound (fun e a hf hq w' hw' => ⟨e, hf, hq w' hw'⟩) l e a hf (h ⟨_, hC⟩))

attribute [congr] onQuiet_congr
attribute [go_sem] onStill_value onStill_skip stillE_nil stillE_one stillE_two onQuiet_value onQuiet_value' quietE_nil quietE_one quietE_two
end Go.Proofs.YtejpophjiinijaaDoor
