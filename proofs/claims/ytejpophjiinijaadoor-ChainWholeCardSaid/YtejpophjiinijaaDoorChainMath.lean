/- Lists of versions (plain): what a stamp sees, and how many are needed. -/
import Derived.Test.YtejpophjiinijaaDoorUv
namespace Go.Proofs.YtejpophjiinijaaDoor
set_option linter.unusedVariables false
set_option linter.unusedSimpArgs false
set_option maxRecDepth 100000
open Go

/-- A version, and where it stands. -/
structure LinkV where
  off : Int
  stamp : BitVec 64
  nxt : BitVec 64
  gone : Bool
  text : ByteArray
deriving Inhabited, DecidableEq
/-- Do stamps fall? -/
def FallL : List LinkV → Prop
  | [] => True
  | [_] => True
  | a :: b :: l => b.stamp.toNat < a.stamp.toNat ∧ FallL (b :: l)
def seeP (l : List LinkV) (at_ : BitVec 64) : ByteArray × Bool :=
  match l.find? (fun k => decide (k.stamp.toNat ≤ at_.toNat)) with
  | none => (ByteArray.empty, false)
  | some k => if k.gone then (ByteArray.empty, false) else (k.text, true)
/-- The program's count: how many, and whether one that is not above was met. -/
def stepN (low : BitVec 64) (a : Nat × Bool) (k : LinkV) : Nat × Bool :=
  if low.toNat < k.stamp.toNat then (a.1 + 1, a.2) else if a.2 then a else (if k.gone then a.1 else a.1 + 1, true)
def needA (low : BitVec 64) (l : List LinkV) : Nat × Bool := l.foldl (stepN low) (0, false)
/-- The document's. -/
def needP (low : BitVec 64) : List LinkV → Nat
  | [] => 0
  | k :: l => if low.toNat < k.stamp.toNat then needP low l + 1 else if k.gone then 0 else 1
theorem fall_tail {a : LinkV} {l : List LinkV} (h : FallL (a :: l)) : FallL l := by
  cases l with
  | nil => exact trivial
  | cons b l => exact h.2
theorem fall_below {a : LinkV} : ∀ {l : List LinkV}, FallL (a :: l) → ∀ k ∈ l, k.stamp.toNat < a.stamp.toNat
  | [], _, _, hk => by cases hk
  | b :: l, h, k, hk => by
    rcases List.mem_cons.1 hk with rfl | hk
    · exact h.1
    · exact Nat.lt_trans (fall_below h.2 k hk) h.1
theorem fold_met (low : BitVec 64) : ∀ (l : List LinkV) (n : Nat), (∀ k ∈ l, k.stamp.toNat ≤ low.toNat) → l.foldl (stepN low) (n, true) = (n, true)
  | [], _, _ => rfl
  | a :: l, n, h => by
    rw [List.foldl_cons]
    have ha := h a List.mem_cons_self
    have e : stepN low (n, true) a = (n, true) := by
      unfold stepN; rw [if_neg (by omega), if_pos rfl]
    rw [e]
    exact fold_met low l n (fun k hk => h k (List.mem_cons_of_mem _ hk))
theorem fold_need (low : BitVec 64) : ∀ (l : List LinkV) (n : Nat), FallL l → (l.foldl (stepN low) (n, false)).1 = n + needP low l
  | [], _, _ => rfl
  | a :: l, n, h => by
    rw [List.foldl_cons]
    unfold needP
    by_cases hs : low.toNat < a.stamp.toNat
    · have e : stepN low (n, false) a = (n + 1, false) := by unfold stepN; rw [if_pos hs]
      rw [e, if_pos hs, fold_need low l (n + 1) (fall_tail h)]
      omega
    · have hb : ∀ k ∈ l, k.stamp.toNat ≤ low.toNat := fun k hk => by have := fall_below h k hk; omega
      rw [if_neg hs]
      have e : stepN low (n, false) a = (if a.gone then n else n + 1, true) := by unfold stepN; rw [if_neg hs, if_neg (fun h => by cases h)]
      rw [e, fold_met low l _ hb]
      cases a.gone <;> rfl
theorem need_eq (low : BitVec 64) {l : List LinkV} (h : FallL l) : (needA low l).1 = needP low l := by
  unfold needA; rw [fold_need low l 0 h]; omega
theorem need_le (low : BitVec 64) : ∀ l : List LinkV, needP low l ≤ l.length
  | [] => Nat.le_refl _
  | k :: l => by
    have := need_le low l
    unfold needP
    split
    · show _ + 1 ≤ l.length + 1; omega
    · split <;> simp
theorem need_mono {low high : BitVec 64} (h : low.toNat ≤ high.toNat) : ∀ l : List LinkV, needP high l ≤ needP low l
  | [] => Nat.le_refl _
  | k :: l => by
    have := need_mono h l
    unfold needP
    by_cases h1 : high.toNat < k.stamp.toNat
    · rw [if_pos h1, if_pos (by omega)]; omega
    · rw [if_neg h1]
      by_cases h2 : low.toNat < k.stamp.toNat
      · rw [if_pos h2]; split <;> omega
      · rw [if_neg h2]; exact Nat.le_refl _
/-- Of stamps below all, all are needed. -/
theorem need_all {low : BitVec 64} : ∀ {l : List LinkV}, (∀ k ∈ l, low.toNat < k.stamp.toNat) → needP low l = l.length
  | [], _ => rfl
  | k :: l, h => by
    unfold needP
    rw [if_pos (h k List.mem_cons_self), need_all (fun z hz => h z (List.mem_cons_of_mem _ hz))]; rfl
/-- The last stamp is the least. -/
theorem fall_last : ∀ {l : List LinkV} (hne : l ≠ []), FallL l → ∀ k ∈ l, (l.getLast hne).stamp.toNat ≤ k.stamp.toNat
  | [a], _, _, k, hk => by
    rw [List.mem_singleton.1 hk]; exact Nat.le_refl _
  | a :: b :: l, _, h, k, hk => by
    have ih := fall_last (l := b :: l) (by simp) h.2
    rw [List.getLast_cons (by simp)]
    rcases List.mem_cons.1 hk with rfl | hk
    · exact Nat.le_of_lt (Nat.lt_of_le_of_lt (ih b List.mem_cons_self) h.1)
    · exact ih k hk
theorem need_last {l : List LinkV} (hne : l ≠ []) (h : FallL l) (h0 : (l.getLast hne).stamp ≠ 0#64) : needP 0#64 l = l.length :=
  need_all fun k hk => by
    have h1 := fall_last hne h k hk
    have h2 : (l.getLast hne).stamp.toNat ≠ 0 := fun e => h0 (BitVec.eq_of_toNat_eq (by rw [e]; rfl))
    show (0#64).toNat < _
    rw [show (0#64 : BitVec 64).toNat = 0 from rfl]; omega
/-- A version more. -/
theorem see_more {r : LinkV} {l : List LinkV} (at_ : BitVec 64) : seeP (r :: l) at_ = if at_.toNat < r.stamp.toNat then seeP l at_ else if r.gone then (ByteArray.empty, false) else (r.text, true) := by
  unfold seeP
  rw [List.find?_cons]
  by_cases h : at_.toNat < r.stamp.toNat
  · rw [if_pos h, decide_eq_false (by omega : ¬ r.stamp.toNat ≤ at_.toNat)]
  · rw [if_neg h, decide_eq_true (by omega : r.stamp.toNat ≤ at_.toNat)]
end Go.Proofs.YtejpophjiinijaaDoor
