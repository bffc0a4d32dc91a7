/- One more byte, or word, behind a slice of the call's own. -/
import Derived.Test.YtejpophjiinijaaDoorBase
import Derived.Test.YtejpophjiinijaaDoorCore
import Derived.Test.YtejpophjiinijaaDoorWordMem
import Derived.Test.YtejpophjiinijaaDoorDevN
namespace Go.Proofs.YtejpophjiinijaaDoor
set_option linter.unusedVariables false
set_option linter.unusedSimpArgs false
set_option maxRecDepth 100000
open Go Go.RowKit
theorem push_u8 {w0 w : World} {a : Option Addr} {len c : Nat} {l : List (BitVec 8)} (base : Nat) (hown : w.ownsRow base 5 1 (.slice a len c) len (cellsK .u8 l)) (hl : len ≤ 1000000) (hbase : base ≤ w.heap.size) (hb : Below base w0 w) (i : BitVec 8) :
    ∃ a2 c2 w2, (appendB #[64, 64] 64 #[.slice a len c, .slice (some ⟨w.heap.size, 0, none⟩) 1 1]).run Tryd.prog (w.alloc (.cells #[.int .u8 (uv i)] 5)) = .ok (.slice a2 (len + 1) c2) w2 ∧
      w2.ownsRow base 5 1 (.slice a2 (len + 1) c2) (len + 1) (cellsK .u8 (l ++ [i])) ∧ Below base w0 w2 ∧ base ≤ w2.heap.size := by
  have ha : (w.alloc (.cells #[.int .u8 (uv i)] 5)).heap.size = w.heap.size + 1 := by simp
  obtain ⟨a2, c2, w2, hr2, hown2, hgr⟩ := run_append1 (P := Tryd.prog) base (t := 64) (bytes := 1) (z := .int .u8 0) 64 Tryd.underlying64 info_u8 rfl (hown.alloc (.cells #[.int .u8 (uv i)] 5)) (a2 := some ⟨w.heap.size, 0, none⟩) (c2 := 1) (m := 1) (news := [.int .u8 (uv i)]) rfl
    (.inr ⟨_, rfl, fun j u hu => by rw [Addr.add_lit, Nat.zero_add, (Blk.new _ _ _).cell]; simpa using hu⟩) (by simp) (by simp [Value.oneCell']) (by omega) (by omega) (by omega)
  have hb2 := (hb.alloc hbase (.cells #[.int .u8 (uv i)] 5)).grown hgr (by omega) (fun j hj => (hown.lt j hj).1)
  refine ⟨a2, c2, w2, hr2, by rw [cellsK_append]; exact hown2, hb2, ?_⟩
  have := hgr.size
  omega
theorem push_u64 {w0 w : World} {a : Option Addr} {len c : Nat} {l : List (BitVec 64)} (base : Nat) (hown : w.ownsRow base 23 1 (.slice a len c) len (cellsK .u64 l)) (hl : len ≤ 1000000) (hbase : base ≤ w.heap.size) (hb : Below base w0 w) (i : BitVec 64) :
    ∃ a2 c2 w2, (appendB #[58, 58] 58 #[.slice a len c, .slice (some ⟨w.heap.size, 0, none⟩) 1 1]).run Tryd.prog (w.alloc (.cells #[.int .u64 (uv i)] 23)) = .ok (.slice a2 (len + 1) c2) w2 ∧
      w2.ownsRow base 23 1 (.slice a2 (len + 1) c2) (len + 1) (cellsK .u64 (l ++ [i])) ∧ Below base w0 w2 ∧ base ≤ w2.heap.size := by
  have ha : (w.alloc (.cells #[.int .u64 (uv i)] 23)).heap.size = w.heap.size + 1 := by simp
  obtain ⟨a2, c2, w2, hr2, hown2, hgr⟩ := run_append1 (P := Tryd.prog) base (t := 58) (bytes := 8) (z := .int .u64 0) 58 Tryd.underlying58 info_u64 rfl (hown.alloc (.cells #[.int .u64 (uv i)] 23)) (a2 := some ⟨w.heap.size, 0, none⟩) (c2 := 1) (m := 1) (news := [.int .u64 (uv i)]) rfl
    (.inr ⟨_, rfl, fun j u hu => by rw [Addr.add_lit, Nat.zero_add, (Blk.new _ _ _).cell]; simpa using hu⟩) (by simp) (by simp [Value.oneCell']) (by omega) (by omega) (by omega)
  have hb2 := (hb.alloc hbase (.cells #[.int .u64 (uv i)] 23)).grown hgr (by omega) (fun j hj => (hown.lt j hj).1)
  refine ⟨a2, c2, w2, hr2, by rw [cellsK_append]; exact hown2, hb2, ?_⟩
  have := hgr.size
  omega
end Go.Proofs.YtejpophjiinijaaDoor
