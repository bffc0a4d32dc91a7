/- Appending to a slice of one's own: where the new one lies. -/
import Derived.Test.YtkljlgahdlgmpaaEng
import Derived.Test.YtkljlgahdlgmpaaVal
import Derived.Test.YtkljlgahdlgmpaaMem
namespace Go.Proofs.Ytkljlgahdlgmpaa
open Go Go.RowKit

theorem run_append_where {P : Program} {w : World} (base : Nat) {t ty e : TypeId} {i : TypeInfo} {z : Value} {size bytes : Nat} (ht : P.underlying t = some (.slice e)) (hi : P.info? e = some i) (hz : i.zero = some z)
    (hsize : i.size = size) (hby : i.bytes = bytes) (hzs : z.cells.size = size) (hsz : 0 < size)
    {ao : Option Addr} {n cap0 : Nat} {xs : List Value} (hown : w.ownsRow base e size (.slice ao n cap0) n xs)
    (a : Addr) {m c : Nat} {news : List Value} (hl : news.length = m * size) (hnews : ∀ j u, news[j]? = some u → w.cell? (a.add j) = some u) (h1 : ∀ u ∈ news, u.oneCell' = true)
    (hm : 0 < m) (hbytes : (n + m) * bytes ≤ 140737488355328) (h63 : n + m ≤ 140737488355328) (hbase : base ≤ w.heap.size) :
    ∃ g cap' w', (appendB #[t, t] ty #[.slice ao n cap0, .slice (some a) m c]).run P w = .ok (.slice (some ⟨g, 0, none⟩) (n + m) cap') w' ∧
      w'.ownsRow base e size (.slice (some ⟨g, 0, none⟩) (n + m) cap') (n + m) (xs ++ news) ∧ w.grownBy w' (Value.ownBlock (.slice ao n cap0)) ∧ (Value.ownBlock (.slice ao n cap0) = some g ∨ g = w.heap.size) := by
  unfold appendB
  obtain ⟨v', w', hr, ho, hg, hv⟩ := run_append_own w base t ty e i z size bytes ht hi hz hsize hby hzs hsz _ _ _ hown a m c news hl hnews h1 (by unfold maxLen; omega) hbytes hbase
  obtain ⟨g, cap', cur', rfl, hbg, hrest⟩ : ∃ g cap' cur', v' = .slice (some ⟨g, 0, none⟩) (n + m) cap' ∧ base ≤ g ∧ w'.heap[g]? = some (.cells cur' e (0, 0)) := by
    rcases ho.2 with ⟨h, h0⟩ | ⟨g, cap', cur, h, hb, hh, _⟩
    · omega
    · exact ⟨g, cap', cur, h, hb, hh⟩
  refine ⟨g, cap', w', hr, ho, hg, ?_⟩
  rcases hown.2 with ⟨h, h0⟩ | ⟨g0, cap, cur, h, hb0, hg0, hnc, hcm, hcs, htake⟩
  · simp only [Value.slice.injEq] at h
    obtain ⟨rfl, _, rfl⟩ := h
    subst h0
    have h2 := run_append_nil (P := P) w t ty e i z ht hi hz a m c news (by rw [hsize]; exact hl) hnews hm (by omega) (by rw [hby]; rw [Nat.zero_add] at hbytes; omega)
    rw [hr] at h2
    simp only [Result.ok.injEq, Value.slice.injEq, Option.some.injEq, Addr.mk.injEq] at h2
    exact .inr h2.1.1.1
  · simp only [Value.slice.injEq] at h
    obtain ⟨rfl, _, rfl⟩ := h
    by_cases hroom : n + m ≤ cap0
    · have hfit : n * i.size + news.length ≤ cur.size := by rw [hl, hcs, hsize, ← Nat.add_mul]; exact Nat.mul_le_mul_right _ hroom
      have h2 := run_append_room (P := P) w t ty e i ht hi g0 n cap0 cur hg0 a m c news (by rw [hsize]; exact hl) hnews h1 hroom hfit
      rw [hr] at h2
      simp only [Result.ok.injEq, Value.slice.injEq, Option.some.injEq, Addr.mk.injEq] at h2
      left
      show some g0 = some g
      rw [h2.1.1.1]
    · have holds : ∀ j u, xs[j]? = some u → w.cell? ((⟨g0, 0, none⟩ : Addr).add j) = some u := hown.cells (g := g0) rfl
      have h2 := run_append_grow (P := P) w t ty e i z ht hi hz ⟨g0, 0, none⟩ n cap0 xs (by rw [hsize]; exact hown.1) holds a m c news (by rw [hsize]; exact hl) hnews (by omega) (by omega) (growslice_fits (by omega) (by rw [hby]; exact hbytes))
      rw [hr] at h2
      simp only [Result.ok.injEq, Value.slice.injEq, Option.some.injEq, Addr.mk.injEq] at h2
      exact .inr h2.1.1.1
end Go.Proofs.Ytkljlgahdlgmpaa
