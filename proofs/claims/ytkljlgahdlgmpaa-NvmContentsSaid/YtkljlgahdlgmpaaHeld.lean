/- Regions that draw their order, with an allocation that waits for nobody: reads first (they yield the same in every world of a class), then the rest in its order. -/
import Derived.Test.YtkljlgahdlgmpaaDraw
import Derived.OrdersHeld
namespace Go.Proofs.Ytkljlgahdlgmpaa
open Go

def onHeld (C : World → Prop) (K : Value → Prop) (_ : Tag (C, K)) (r : World → Result Next) : Prop := ∃ v, (∀ w, C w → r w = .ok (.value v) w) ∧ K v
theorem onHeld_value {C : World → Prop} (h : Some1 C) (v : Value) (K : Value → Prop) (t : Tag (C, K)) : onHeld C K t (fun w => .ok (.value v) w) = K v := by
  obtain ⟨w, hw⟩ := h
  apply propext
  constructor
  · rintro ⟨u, h1, h2⟩; have h3 := h1 w hw; simp at h3; rw [h3]; exact h2
  · intro h; exact ⟨v, fun _ _ => rfl, h⟩
theorem onHeld_value' {C : World → Prop} (h : Some1 C) (v : Value) (K : Value → Prop) (t : Tag (C, K)) : onHeld C K t (.ok (.value v)) = K v := onHeld_value h v K t
theorem onHeld_of {C : World → Prop} {K : Value → Prop} {t : Tag (C, K)} {r : World → Result Next} (v : Value) (h : ∀ w, C w → r w = .ok (.value v) w) (hK : K v) : onHeld C K t r := ⟨v, h, hK⟩
theorem onHeld_congr {C : World → Prop} {K : Value → Prop} {t : Tag (C, K)} {r r' : World → Result Next} (h : ∀ w, C w → r w = r' w) : onHeld C K t r = onHeld C K t r' := by
  apply propext
  constructor
  · rintro ⟨v, h1, h2⟩; exact ⟨v, fun w hw => by rw [← h w hw]; exact h1 w hw, h2⟩
  · rintro ⟨v, h1, h2⟩; exact ⟨v, fun w hw => by rw [h w hw]; exact h1 w hw, h2⟩

def heldR (P : Program) (n : Nat) (ops : Array Oper) (C : World → Prop) (N : Env → Prop) : List Oper → Env → Prop
  | [], e => N e
  | o :: rest, e => okDst n o.dst = true ∧
      (if wantE ops e o.guard = true then onHeld C (fun v => heldR P n ops C N rest (putE e o.dst v)) ⟨⟩ (fun w => (execOp (ev e) o).run P w)
       else heldR P n ops C N rest (putE e o.dst undef))
def heldE (P : Program) (n : Nat) (ops : Array Oper) (C : World → Prop) (N : Env → Prop) (l : List Oper) (_ : Tag (P, n, ops, C, N, l)) (e : Env) : Prop := heldR P n ops C N l e
def restR (P : Program) (n : Nat) (ops : Array Oper) (C : World → Prop) (N : Env → World → Prop) : List Oper → Env → World → Prop
  | [], e, w => N e w
  | o :: rest, e, w => okDst n o.dst = true ∧
      (if wantE ops e o.guard = true then onRes P (fun v w' => C w' ∧ restR P n ops C N rest (putE e o.dst v) w') ⟨⟩ ((execOp (ev e) o).run P w)
       else C w ∧ restR P n ops C N rest (putE e o.dst undef) w)
def restE (P : Program) (n : Nat) (ops : Array Oper) (C : World → Prop) (N : Env → World → Prop) (l : List Oper) (_ : Tag (P, n, ops, C, N, l)) (e : Env) (w : World) : Prop := restR P n ops C N l e w
section
variable (P : Program) (n : Nat) (ops : Array Oper) (C : World → Prop) (N : Env → Prop) (N2 : Env → World → Prop) (e : Env) (w : World)
theorem heldE_nil (t : Tag (P, n, ops, C, N, ([] : List Oper))) : heldE P n ops C N [] t e = endE N ⟨⟩ e := nr rfl
theorem heldE_one (d : Nat) (op : Op) (ty : TypeId) (pos : String) (af : Array Edge) (rest : List Oper) (t : Tag (P, n, ops, C, N, (⟨some d, op, ty, pos, af, none⟩ :: rest : List Oper))) (hd : d < n) :
    heldE P n ops C N (⟨some d, op, ty, pos, af, none⟩ :: rest) t e = onHeld C (fun v => heldE P n ops C N rest ⟨⟩ (upd e d v)) ⟨⟩ (fun w => xOp P e ⟨some d, op, ty, pos, af, none⟩ w) := by
  simp only [heldE, heldR, okDst, wantE, hd, decide_true, true_and, if_true, putE, xOp]
theorem restE_one (d : Nat) (op : Op) (ty : TypeId) (pos : String) (af : Array Edge) (rest : List Oper) (t : Tag (P, n, ops, C, N2, (⟨some d, op, ty, pos, af, none⟩ :: rest : List Oper))) (hd : d < n) :
    restE P n ops C N2 (⟨some d, op, ty, pos, af, none⟩ :: rest) t e w = onRes P (fun v w' => C w' ∧ restE P n ops C N2 rest ⟨⟩ (upd e d v) w') ⟨⟩ (xOp P e ⟨some d, op, ty, pos, af, none⟩ w) := by
  simp only [restE, restR, okDst, wantE, hd, decide_true, true_and, if_true, putE, xOp]
theorem restE_none (op : Op) (ty : TypeId) (pos : String) (af : Array Edge) (rest : List Oper) (t : Tag (P, n, ops, C, N2, (⟨none, op, ty, pos, af, none⟩ :: rest : List Oper))) :
    restE P n ops C N2 (⟨none, op, ty, pos, af, none⟩ :: rest) t e w = onRes P (fun _ w' => C w' ∧ restE P n ops C N2 rest ⟨⟩ e w') ⟨⟩ (xOp P e ⟨none, op, ty, pos, af, none⟩ w) := by
  simp only [restE, restR, okDst, wantE, true_and, if_true, putE, xOp]
theorem heldE_two (l0 : List Oper) (d : Option Tmp) (op : Op) (ty : TypeId) (pos : String) (af : Array Edge) (j : Nat) (want : Bool) (rest : List Oper) (t : Tag (P, n, l0.toArray, C, N, (⟨d, op, ty, pos, af, some (j, want)⟩ :: rest : List Oper))) (hd : okDst n d = true) :
    heldE P n l0.toArray C N (⟨d, op, ty, pos, af, some (j, want)⟩ :: rest) t e =
      guardE (onHeld C (fun v => heldE P n l0.toArray C N rest ⟨⟩ (putE e d v)) ⟨⟩ (fun w => xOp P e ⟨d, op, ty, pos, af, some (j, want)⟩ w))
        (heldE P n l0.toArray C N rest ⟨⟩ (putE e d undef)) ⟨⟩ (wantL l0 e j want) := by
  simp only [heldE, heldR, hd, true_and, guardE, wantE_list, xOp]
theorem restE_two (l0 : List Oper) (d : Option Tmp) (op : Op) (ty : TypeId) (pos : String) (af : Array Edge) (j : Nat) (want : Bool) (rest : List Oper) (t : Tag (P, n, l0.toArray, C, N2, (⟨d, op, ty, pos, af, some (j, want)⟩ :: rest : List Oper))) (hd : okDst n d = true) :
    restE P n l0.toArray C N2 (⟨d, op, ty, pos, af, some (j, want)⟩ :: rest) t e w =
      guardE (onRes P (fun v w' => C w' ∧ restE P n l0.toArray C N2 rest ⟨⟩ (putE e d v) w') ⟨⟩ (xOp P e ⟨d, op, ty, pos, af, some (j, want)⟩ w))
        (C w ∧ restE P n l0.toArray C N2 rest ⟨⟩ (putE e d undef) w) ⟨⟩ (wantL l0 e j want) := by
  simp only [restE, restR, hd, true_and, guardE, wantE_list, xOp]
theorem restE_nil (x : Exit) (Q : Exit → Env → World → Prop) (t : Tag (P, n, ops, C, Q x, ([] : List Oper))) : restE P n ops C (Q x) [] t e w = goE Q x ⟨⟩ e w := nr rfl
end

def noP (Q : Exit → Act → World → Prop) : Exit → Act → World → Prop
  | .panic _, _, _ => False
  | x, a, w => Q x a w

theorem restAny {P : Program} {n : Nat} {ops : Array Oper} {C : World → Prop} {md : Region.Mode} {Q : Exit → Env → World → Prop} : ∀ (l : List Oper) (k : Nat) (listed : Array Bool) (e : Env) (a : Act) (w : World), (∀ j, l[j]? = ops[k + j]?) →
    Region.seqB md ops l.length k listed = true → Fits n e a → restR P n ops C (Q .normal) l e w → wpAnyH P md ops (noP (lift n Q)) C l.length listed a w
  | [], _, _, e, _, _, _, hB, hf, h => ⟨by simpa [Region.seqB] using hB, e, hf, h⟩
  | o :: l, k, listed, e, a, w, hl, hB, hf, h => by
    have h0 : ops[k]? = some o := by simpa using (hl 0).symm
    simp only [List.length_cons, Region.seqB, Bool.and_eq_true, decide_eq_true_eq] at hB
    refine wpAnyH_all hB.1 (by simp) fun i hi => ?_
    have hik : i = k := by simpa using hi
    subst hik
    have ih := fun e' a' w' => restAny (md := md) (C := C) (Q := Q) (P := P) (n := n) l (i + 1) (listed.setIfInBounds i true) e' a' w' (fun j => by have := hl (j + 1); simpa [Nat.add_assoc, Nat.add_comm 1 j] using this) hB.2
    obtain ⟨hd, h⟩ := h
    unfold wpOp
    simp only [h0]
    rw [wantE_eq hf]
    split
    · rename_i hw
      rw [if_pos hw] at h
      refine .inl ?_
      unfold Oper.wp
      rw [hf.eval]
      generalize (execOp (ev e) o).run P w = r at h
      cases r with
      | halt x w' => exact h.elim
      | ok x w' =>
        cases x with
        | value v => exact ⟨h.1, ih _ _ _ (hf.put _ v hd) h.2⟩
        | skip => exact ⟨h.1, ih _ _ _ (hf.put _ undef hd) h.2⟩
        | enter f args =>
          refine Calls.mono h ?_
          rintro x w2 ⟨v, rfl, hv⟩
          exact ⟨hv.1, ih _ _ _ (hf.put _ v hd) hv.2⟩
        | _ => exact h.elim
    · rename_i hw
      rw [if_neg hw] at h
      exact ⟨h.1, ih _ _ _ (hf.put _ undef hd) h.2⟩

theorem heldAny {P : Program} {n g : Nat} {ops : Array Oper} {C : World → Prop} {N : Env → Prop} {md : Region.Mode} {Q : Exit → Act → World → Prop} (hsel : Region.noSelect ops = true) (w : World) (hC : C w)
    (K : Nat → Prop) (hK : ∀ k listed e a, K k → Region.seqB md ops g k listed = true → Fits n e a → N e → wpAnyH P md ops (noP Q) C g listed a w) : ∀ (l : List Oper) (k : Nat) (listed : Array Bool) (e : Env) (a : Act), K (k + l.length) → (∀ j, j < l.length → l[j]? = ops[k + j]?) →
    Region.lexHead md ops g l.length k listed = true → Fits n e a → heldR P n ops C N l e → wpAnyH P md ops (noP Q) C (l.length + g) listed a w
  | [], k, listed, e, a, hk, _, hB, hf, h => by
    simpa using hK k listed e a (by simpa using hk) (by simpa [Region.lexHead] using hB) hf h
  | o :: l, k, listed, e, a, hk, hl, hB, hf, h => by
    have h0 : ops[k]? = some o := by simpa using (hl 0 (by simp)).symm
    simp only [List.length_cons, Region.lexHead, Bool.and_eq_true] at hB
    obtain ⟨⟨hr, hfr⟩, hB'⟩ := hB
    have ih := fun e' a' => heldAny (md := md) (g := g) hsel w hC K hK l (k + 1) (listed.setIfInBounds k true) e' a' (by simpa [Nat.add_assoc, Nat.add_comm 1] using hk) (fun j hj => by have := hl (j + 1) (by simp; omega); simpa [Nat.add_assoc, Nat.add_comm 1 j] using this) hB'
    obtain ⟨hd, h⟩ := h
    rw [List.length_cons, show l.length + 1 + g = l.length + g + 1 by omega]
    by_cases hw : wantE ops e o.guard = true
    · rw [if_pos hw] at h
      obtain ⟨v, h1, h2⟩ := h
      refine wpAnyH_take h0 hsel hfr hr (fun _ _ _ h => h) (.inl ⟨by rw [wantE_eq hf]; exact hw, fun w hw => ?_⟩) hC (ih _ _ (hf.put _ v hd) h2)
      rw [hf.eval]; exact h1 w hw
    · rw [if_neg hw] at h
      exact wpAnyH_take h0 hsel hfr hr (fun _ _ _ h => h) (.inr ⟨by rw [wantE_eq hf]; simpa using hw, rfl⟩) hC (ih _ _ (hf.put _ undef hd) h)

def Region.heldB (ops : Array Oper) (k : Nat) : Bool := Region.noSelect ops && decide (k ≤ ops.size) && Region.lexHead .any ops (ops.size - k) k 0 (Array.replicate ops.size false)

/-- The first k ones read, in every world of the class alike; the others come behind them, in one order, and leave the class alone. -/
theorem drawE_held {P : Program} {n id : Nat} {l l1 l2 : List Oper} {Q : Exit → Env → World → Prop} {t : Tag (P, n, Code.region id l.toArray true, Q)} {e : Env} {w : World} (k : Nat) (C : World → Prop) (hm : P.follows .mixedOrders = true) (hB : Region.heldB l.toArray k = true)
    (h1 : l.take k = l1) (h2 : l.drop k = l2) (hC : C w.drew)
    (h : Some1 C → heldE P n l.toArray C (fun e' => restE P n l.toArray C (Q .normal) l2 ⟨⟩ e' w.drew) l1 ⟨⟩ e) : wpE P n (.region id l.toArray true) Q t e w := by
  subst h1; subst h2
  simp only [wpE, wpR]
  intro a hf
  simp only [Region.heldB, Bool.and_eq_true, decide_eq_true_eq] at hB
  obtain ⟨⟨hsel, hn⟩, hlex⟩ := hB
  have hn' : k ≤ l.length := by simpa using hn
  have htl : (l.take k).length = k := by simp; omega
  have hdl : (l.drop k).length = l.toArray.size - k := by simp
  have H := heldAny (P := P) (n := n) (Q := lift n Q) (md := .any) (g := l.toArray.size - k) hsel w.drew hC (fun j => j = k) (fun j listed e a hj hB hf h => by
    subst hj
    have := restAny (md := .any) (l.drop j) j listed e a w.drew (fun i => by simp [List.getElem?_drop]) (by rw [hdl]; exact hB) hf h
    rw [hdl] at this
    exact this) (l.take k) 0 _ e a (by simpa using htl) (fun j hj => by
      have hj' : j < k := by rw [htl] at hj; exact hj
      simp [hj']) (by rw [htl]; exact hlex) hf (h ⟨_, hC⟩)
  rw [htl, show k + (l.toArray.size - k) = l.toArray.size by simp; omega] at H
  refine Code.wp_mono ?_ (wp_region_held hm H)
  intro x a w h
  cases x <;> first | exact h | exact h.elim

attribute [congr] onHeld_congr
attribute [go_sem] onHeld_value onHeld_value' heldE_nil heldE_one heldE_two restE_two restE_one restE_none restE_nil
end Go.Proofs.Ytkljlgahdlgmpaa
