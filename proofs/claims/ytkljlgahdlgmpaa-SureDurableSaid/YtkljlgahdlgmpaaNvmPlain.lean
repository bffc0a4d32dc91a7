/- Plain laws of devices. -/
import Derived.Test.YtkljlgahdlgmpaaNvmActs
namespace Go.Proofs.Ytkljlgahdlgmpaa
open Go

namespace NM
open Go.Proofs.Ytkljlgahdlgmpaa.WM (getM putM putM_length putM_getD hasB get_put byteOf byteOf_wd wd)

/-- It is up, and never goes down. -/
structure Dv.Up (D : Dv) : Prop where
  down : D.down = false
  left : D.left = -1
theorem dev0_up (n : Nat) : (dev0 n).Up := ⟨rfl, rfl⟩
theorem Dv.Up.done {D : Dv} (h : D.Up) : D.done.Up := by
  have h1 := h.left
  have h2 := h.down
  constructor
  · simp only [Dv.done]; rw [if_neg (by omega)]; exact h2
  · simp only [Dv.done]; rw [if_neg (by omega)]; exact h1
theorem Dv.Up.store {D : Dv} (h : D.Up) (off : Int) (n : BitVec 64) : (D.store off n).1.Up := by
  unfold Dv.store; split
  · simp only; split
    · exact h.done
    · exact Dv.Up.done (D := D.setLn _ _) ⟨h.down, h.left⟩
  · exact h
theorem Dv.Up.flush {D : Dv} (h : D.Up) (off : Int) : (D.flush off).1.Up := by
  unfold Dv.flush; split
  · exact Dv.Up.done (D := D.setLn _ _) ⟨h.down, h.left⟩
  · exact h
theorem Dv.Up.fence {D : Dv} (h : D.Up) : D.fence.1.Up := by
  unfold Dv.fence; split
  · exact Dv.Up.done (D := { D with ls := D.ls.map Ln.fence }) ⟨h.down, h.left⟩
  · exact h
theorem Dv.Up.crash {D : Dv} (hp : 0 < D.ls.length) (ps : List (BitVec 8)) : (D.crash ps).Up := by
  unfold Dv.crash; rw [if_neg (by omega)]; exact ⟨rfl, rfl⟩
theorem done_ls (D : Dv) : D.done.ls = D.ls := rfl
theorem store_len (D : Dv) (off : Int) (n : BitVec 64) : (D.store off n).1.ls.length = D.ls.length := by
  unfold Dv.store; split
  · simp only; split <;> simp [Dv.done, Dv.setLn]
  · rfl
theorem flush_len (D : Dv) (off : Int) : (D.flush off).1.ls.length = D.ls.length := by unfold Dv.flush; split <;> simp [Dv.done, Dv.setLn]
theorem fence_len (D : Dv) : D.fence.1.ls.length = D.ls.length := by unfold Dv.fence; split <;> simp [Dv.done]
theorem crash_len (D : Dv) (ps : List (BitVec 8)) : (D.crash ps).ls.length = D.ls.length := by unfold Dv.crash; split <;> simp [crashL_length]
theorem stop_len (D : Dv) (z : Int) : (D.stop z).ls.length = D.ls.length := by unfold Dv.stop; split <;> rfl

theorem ask_up {D : Dv} (h : D.Up) (hp : 0 < D.ls.length) (off each : Int) : D.ask off each = if off < 0 ∨ (D.size : Int) ≤ off ∨ off.tmod each ≠ 0 then 4 else 0 := by
  unfold Dv.ask; rw [if_neg (by omega), h.down]; rfl

/-! ### Bytes -/
theorem flat_getD : ∀ (ls : List Ln), (∀ l ∈ ls, l.now.length = 64) → ∀ q r, q < ls.length → r < 64 → ((ls.map Ln.now).flatten).getD (64 * q + r) 0#8 = (ls.getD q line0).now.getD r 0#8
  | [], _, q, r, hq, _ => by simp at hq
  | x :: ls, h, 0, r, _, hr => by
    have hx := h x List.mem_cons_self
    simp only [List.map_cons, List.flatten_cons, List.getD_eq_getElem?_getD]
    rw [List.getElem?_append_left (by omega)]
    simp
  | x :: ls, h, q + 1, r, hq, hr => by
    have hx := h x List.mem_cons_self
    have ih := flat_getD ls (fun l hl => h l (List.mem_cons_of_mem _ hl)) q r (by simpa using hq) hr
    simp only [List.map_cons, List.flatten_cons, List.getD_eq_getElem?_getD] at ih ⊢
    rw [List.getElem?_append_right (by omega), show 64 * (q + 1) + r - x.now.length = 64 * q + r by omega, ih]
    simp
theorem flat_len : ∀ (ls : List Ln), (∀ l ∈ ls, l.now.length = 64) → ((ls.map Ln.now).flatten).length = 64 * ls.length
  | [], _ => rfl
  | x :: ls, h => by
    have hx := h x List.mem_cons_self
    have ih := flat_len ls (fun l hl => h l (List.mem_cons_of_mem _ hl))
    simp only [List.map_cons, List.flatten_cons, List.length_append, List.length_cons]
    omega
theorem image_getD {D : Dv} (h : D.Ok) {q r : Nat} (hq : q < D.ls.length) (hr : r < 64) : D.image.getD (64 * q + r) 0#8 = (D.ln q).now.getD r 0#8 := flat_getD D.ls (fun l hl => (h.line l hl).len) q r hq hr
theorem image_len {D : Dv} (h : D.Ok) : D.image.length = D.size := flat_len D.ls (fun l hl => (h.line l hl).len)
theorem image_at {D : Dv} (h : D.Ok) {k : Nat} (hk : k < D.size) : D.image.getD k 0#8 = (D.ln (k / 64)).now.getD (k % 64) 0#8 := by
  unfold Dv.size at hk
  have := image_getD h (q := k / 64) (r := k % 64) (by omega) (Nat.mod_lt _ (by omega))
  rwa [Nat.div_add_mod] at this
theorem list_ext_getD {a b : List (BitVec 8)} (hl : a.length = b.length) (h : ∀ i, i < a.length → a.getD i 0#8 = b.getD i 0#8) : a = b := by
  apply List.ext_getElem hl
  intro i h1 h2
  have := h i h1
  simpa [List.getD, h1, h2] using this
theorem put_same (l : List (BitVec 8)) (p : Nat) (hp : p + 8 ≤ l.length) : putM l p (getM l p) = l := by
  apply list_ext_getD (by rw [putM_length])
  intro i hi
  rw [putM_getD l p _ i hp]
  split
  · rename_i h
    unfold getM
    rw [byteOf_wd _ _ (by omega)]
    congr 1; omega
  · rfl
/-- The bytes behind a store that is done. -/
theorem store_now {D : Dv} (h : D.Ok) {o : Nat} (n : BitVec 64) (ha : D.ask (o : Int) 8 = 0) (ho : o % 8 = 0) (hs : o < D.size) (i : Nat) :
    ((D.store o n).1.ln i).now = if i = o / 64 then putM (D.ln i).now (o % 64) n else (D.ln i).now := by
  have hq : o / 64 < D.ls.length := by unfold Dv.size at hs; omega
  unfold Dv.store
  rw [if_pos ha, Int.toNat_natCast]
  have hlen := (Dv.Ok0.ln h.to0 (o / 64)).len
  by_cases hw : D.word o = n
  · simp only [hw, if_true]
    show ((D.done).ln i).now = _
    have : D.done.ln i = D.ln i := rfl
    rw [this]
    split
    · rename_i hi
      subst hi
      rw [← hw]
      unfold Dv.word
      rw [put_same _ _ (by omega)]
    · rfl
  · simp only [hw, if_false]
    show (((D.setLn (o / 64) _).done).ln i).now = _
    have : ∀ E : Dv, E.done.ln i = E.ln i := fun _ => rfl
    rw [this, Dv.setLn_ln D _ _ hq]
    split
    · rename_i hi; subst hi; rfl
    · rfl
theorem store_fail {D : Dv} (off : Int) (n : BitVec 64) (ha : ¬ D.ask off 8 = 0) : D.store off n = (D, D.ask off 8) := by unfold Dv.store; rw [if_neg ha]
theorem store_err {D : Dv} (off : Int) (n : BitVec 64) : (D.store off n).2 = D.ask off 8 := by
  unfold Dv.store; split
  · rename_i h; simp only; exact h.symm
  · rfl
/-- A byte that a store changes is one of its word's. -/
theorem store_image {D : Dv} (h : D.Ok) (hp : 0 < D.ls.length) (off : Int) (n : BitVec 64) {k : Nat} (hk : k < D.size) (hne : (D.store off n).1.image.getD k 0#8 ≠ D.image.getD k 0#8) :
    D.ask off 8 = 0 ∧ off ≤ k ∧ (k : Int) < off + 8 := by
  by_cases ha : D.ask off 8 = 0
  · obtain ⟨o, rfl, ho8, hos⟩ := ask8 hp ha
    refine ⟨ha, ?_⟩
    have hk' : k < (D.store o n).1.size := by unfold Dv.size; rw [store_len]; exact hk
    rw [image_at (h.store _ _) hk', image_at h hk, store_now h n ha ho8 hos] at hne
    by_cases hi : k / 64 = o / 64
    · rw [if_pos hi] at hne
      have hlen := (Dv.Ok0.ln h.to0 (k / 64)).len
      rw [putM_getD _ _ _ _ (by omega)] at hne
      split at hne
      · omega
      · exact absurd rfl hne
    · rw [if_neg hi] at hne; exact absurd rfl hne
  · rw [store_fail off n ha] at hne; exact absurd rfl hne
theorem done_ask {D : Dv} (h : D.Up) (hp : 0 < D.ls.length) (off each : Int) (E : Dv) (hE : E.Up) (hl : E.ls.length = D.ls.length) : E.ask off each = D.ask off each := by
  rw [ask_up h hp, ask_up hE (by omega)]; unfold Dv.size; rw [hl]
/-- What was stored is loaded. -/
theorem load_store {D : Dv} (h : D.Ok) (hu : D.Up) (hp : 0 < D.ls.length) (off : Int) (n : BitVec 64) : (D.store off n).1.load off = if D.ask off 8 = 0 then (n, 0) else (0#64, D.ask off 8) := by
  have hE := done_ask hu hp off 8 (D.store off n).1 (hu.store off n) (store_len D off n)
  unfold Dv.load
  rw [hE]
  by_cases ha : D.ask off 8 = 0
  · rw [if_pos ha, if_pos ha]
    obtain ⟨o, rfl, ho8, hos⟩ := ask8 hp ha
    have hlen := (Dv.Ok0.ln h.to0 (o / 64)).len
    unfold Dv.word
    rw [Int.toNat_natCast, store_now h n ha ho8 hos, if_pos rfl]
    obtain ⟨q, hq⟩ : ∃ q, o % 64 = 8 * q := ⟨o % 64 / 8, by omega⟩
    rw [hq, get_put _ q q n (by omega), if_pos rfl]
  · rw [if_neg ha, if_neg ha]
end NM

/-! ### Acts -/
theorem doesA_len (D : NM.Dv) (a : ActV) : (doesA D a).ls.length = D.ls.length := by
  unfold doesA NM.Dv.does
  split
  · exact NM.flush_len _ _
  · split
    · exact NM.fence_len _
    · split
      · rfl
      · exact NM.store_len _ _ _
theorem doesA_up {D : NM.Dv} (h : D.Up) (a : ActV) : (doesA D a).Up := by
  unfold doesA NM.Dv.does
  split
  · exact h.flush _
  · split
    · exact h.fence
    · split
      · exact h
      · exact h.store _ _
def doesL (D : NM.Dv) (l : List ActV) : NM.Dv := l.foldl doesA D
theorem doesL_nil (D : NM.Dv) : doesL D [] = D := rfl
theorem doesL_snoc (D : NM.Dv) (l : List ActV) (a : ActV) : doesL D (l ++ [a]) = doesA (doesL D l) a := by simp [doesL]
theorem doesL_take (D : NM.Dv) (l : List ActV) (k : Nat) (hk : k < l.length) : doesL D (l.take (k + 1)) = doesA (doesL D (l.take k)) l[k] := by rw [List.take_succ_eq_append_getElem hk, doesL_snoc]
theorem doesL_len (D : NM.Dv) (l : List ActV) : (doesL D l).ls.length = D.ls.length := by
  induction l generalizing D with
  | nil => rfl
  | cons a l ih => show (doesL (doesA D a) l).ls.length = _; rw [ih, doesA_len]
theorem doesL_up {D : NM.Dv} (h : D.Up) (l : List ActV) : (doesL D l).Up := by
  induction l generalizing D with
  | nil => exact h
  | cons a l ih => exact ih (doesA_up h a)
theorem doesL_ok {D : NM.Dv} (h : D.Ok) (l : List ActV) : (doesL D l).Ok := by
  induction l generalizing D with
  | nil => exact h
  | cons a l ih => exact ih (doesA_ok h a)
theorem doesL_steps (D : NM.Dv) (l : List ActV) : (doesL D l).steps ≤ D.steps + l.length := by
  induction l generalizing D with
  | nil => exact Nat.le_refl _
  | cons a l ih =>
    have h1 := ih (doesA D a)
    have h2 := doesA_steps D a
    show (doesL (doesA D a) l).steps ≤ _
    simp only [List.length_cons]; omega
end Go.Proofs.Ytkljlgahdlgmpaa
