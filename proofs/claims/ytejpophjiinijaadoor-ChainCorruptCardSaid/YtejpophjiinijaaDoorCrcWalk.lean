/- The sum of crc: its walk. -/
import Derived.Test.YtejpophjiinijaaDoorProg
import Derived.Test.YtejpophjiinijaaDoorEng
import Derived.Test.YtejpophjiinijaaDoorCalls
import Derived.Test.YtejpophjiinijaaDoorUv
import Derived.Test.YtejpophjiinijaaDoorCrcMath
import Derived.Lib.SlBytesConst
namespace Go.Proofs.YtejpophjiinijaaDoor
set_option linter.unusedVariables false
set_option linter.unusedSimpArgs false
set_option maxRecDepth 100000
open Go Go.RowKit

/-- The table, as a world has it. -/
def Fours (w : World) : Prop := ∀ x : BitVec 32, w.cell? ⟨1, idx (x &&& 15#32), none⟩ = some (.int .u32 (uv (Crc.four (x &&& 15#32))))

/-- Bytes of a slice. -/
def BytesAt (w : World) (a : Option Addr) (l : List (BitVec 8)) : Prop :=
  l = [] ∨ ∃ b off, a = some ⟨b, off, none⟩ ∧ ∀ i (h : i < l.length), w.cell? ⟨b, off + i, none⟩ = some (.int .u8 (uv l[i]))

def foursTab : List Int := [0, 274646895, 549293790, 820201905, 1098587580, 1361435347, 1640403810, 1905808397, 2197175160, 2460548119, 2722870694, 2987750089, 3280807620, 3553878443, 3811616794, 4084100981]
theorem fours_tab : ∀ j, j < 16 → foursTab.getD j 0 = uv (Crc.four (BitVec.ofNat 32 j)) := by decide +kernel
theorem fours_of {w : World} (h : ∀ j, j < 16 → w.cell? ⟨1, j, none⟩ = some (.int .u32 (foursTab.getD j 0))) : Fours w := by
  intro x
  have hlt : (x &&& 15#32).toNat < 16 := by rw [BitVec.toNat_and]; exact Nat.lt_of_le_of_lt Nat.and_le_right (by decide)
  have h1 := h _ hlt
  rw [fours_tab _ hlt, BitVec.ofNat_toNat, BitVec.setWidth_eq] at h1
  exact h1

theorem and15_lt (x : BitVec 32) : uv (x &&& 15#32) < 16 := by
  have h : (x &&& 15#32).toNat ≤ 15 := by rw [BitVec.toNat_and]; exact Nat.and_le_right
  unfold uv; omega
theorem uv_zero (n : Nat) : uv (0#n) = 0 := by simp [uv]

set_option linter.unusedSimpArgs false in
theorem next_calls (s : BitVec 32) (a : Option Addr) (l : List (BitVec 8)) (len cap : Nat) (w : World) (hn : l.length = len) (hl : len ≤ 9223372036854775807) (hF : Fours w) (hb : BytesAt w a l) :
    Ret Tryd.prog 107 #[.int .u32 (uv s), .slice a len cap] w fun v w' => v = .int .u32 (uv (Crc.next s l)) ∧ w' = w := by
  subst hn
  refine ret_of (args := [_, _]) _ Tryd.func107 rfl Tryd.ntmps107 (by simp) ?_
  simp -implicitDefEqProofs [go_sem]
  refine wpE_loop (fun e' w' => w' = w ∧ ∃ k : Nat, k ≤ l.length ∧ e' 10 = .slice a l.length cap ∧ e' 11 = .int .i64 l.length ∧ e' 12 = .int .i64 k ∧
    e' 5 = .int .u32 (uv (Crc.bytes (~~~s) (l.take k)))) (fun e' _ => l.length - (intOf (e' 12)).toNat) ?_ ?_
  · refine ⟨rfl, 0, by omega, ?_⟩
    simp -implicitDefEqProofs [go_sem, Crc.bytes]
  · rintro e' w' ⟨rfl, k, hk, h10, h11, h12, h5⟩
    by_cases hlt : k < l.length
    · obtain rfl | ⟨b, off, rfl, hc⟩ := hb
      · simp at hlt
      have hc := hc k hlt
      unfold Fours at hF
      have hw := IntWalk.i64_in ((k : Int) + 1) (by omega)
      simp -implicitDefEqProofs [go_sem, h10, h11, h12, h5, hlt, hc, hF, and15_lt, hw]
      refine goE_round ⟨rfl, k + 1, by omega, ?_⟩ ?_
      · have e1 := Crc.bytes_take (~~~s) l k hlt
        simp -implicitDefEqProofs [go_sem, h10, h11, e1]
        rfl
      · simp -implicitDefEqProofs [go_sem, intOf, h12]; omega
    · have hk' : k = l.length := by omega
      subst hk'
      simp -implicitDefEqProofs [go_sem, h11, h12, h5, hlt]
      refine body_tmp 4 rfl ?_
      simp -implicitDefEqProofs [go_sem]
      rfl

theorem Fours.below {w w' : World} (h : Fours w) (hb : Below w.heap.size w w') : Fours w' := fun x =>
  (hb.cell (p := ⟨_, _, none⟩) (World.block_lt_of_cell? w _ (h x))).trans (h x)
theorem BytesAt.below {w w' : World} {a : Option Addr} {l : List (BitVec 8)} (h : BytesAt w a l) (hb : Below w.heap.size w w') : BytesAt w' a l := by
  rcases h with h | ⟨b, off, rfl, hc⟩
  · exact .inl h
  · exact .inr ⟨b, off, rfl, fun i hi => (hb.cell (p := ⟨_, _, none⟩) (World.block_lt_of_cell? w _ (hc i hi))).trans (hc i hi)⟩

theorem BytesAt.take {w : World} {a : Option Addr} {l : List (BitVec 8)} (h : BytesAt w a l) (n : Nat) : BytesAt w a (l.take n) := by
  rcases h with h | ⟨b, off, rfl, hc⟩
  · subst h; exact .inl (by simp)
  · refine .inr ⟨b, off, rfl, fun i hi => ?_⟩
    rw [hc i (by simp at hi; omega)]
    simp

theorem sum_calls (a : Option Addr) (l : List (BitVec 8)) (len cap : Nat) (w : World) (hn : l.length = len) (hl : len ≤ 9223372036854775807) (hF : Fours w) (hb : BytesAt w a l) :
    Ret Tryd.prog 101 #[.slice a len cap] w fun v w' => v = .int .u32 (uv (Crc.next 0#32 l)) ∧ w' = w := by
  subst hn
  refine ret_of (args := [_]) _ Tryd.func101 rfl Tryd.ntmps101 (by simp) ?_
  simp -implicitDefEqProofs [go_sem]
  have h := next_calls 0#32 a l _ cap w rfl hl hF hb
  rw [uv_zero] at h
  refine callE_of h ?_
  rintro v w' ⟨rfl, rfl⟩
  simp -implicitDefEqProofs [go_sem]
  refine body_tmp 2 rfl ?_
  simp -implicitDefEqProofs [go_sem]

theorem cell?_new (w : World) (C : Array Value) (e : TypeId) (fr : Nat × Nat) (i : Nat) : (w.alloc (.cells C e fr)).cell? ⟨w.heap.size, i, none⟩ = C[i]? := by
  show (match (w.heap.push (.cells C e fr))[w.heap.size]? with | some (.cells c _ _) => if (none : Option Nat).isSome then none else c[i]? | _ => none) = _
  rw [Array.getElem?_push_size]
  rfl
theorem bytesAt_new (w : World) (C : Array Value) (e : TypeId) (fr : Nat × Nat) (l : List (BitVec 8)) (h : C = (l.map fun x => Value.int .u8 (uv x)).toArray) :
    BytesAt (w.alloc (.cells C e fr)) (some ⟨w.heap.size, 0, none⟩) l :=
  .inr ⟨_, _, rfl, fun i hi => by rw [cell?_new, h]; simp [hi]⟩

def digits : List (BitVec 8) := [49#8, 50#8, 51#8, 52#8, 53#8, 54#8, 55#8, 56#8, 57#8]
theorem digits_sum : Crc.next 0#32 digits = 3808858755#32 := by decide +kernel

end Go.Proofs.YtejpophjiinijaaDoor
