/- Memory that the call itself makes: appending to a slice of its own. -/
import Derived.Test.YtkljlgahdlgmpaaEng
import Derived.Test.YtkljlgahdlgmpaaVal
import Derived.Laws.OwnMore
namespace Go.Proofs.Ytkljlgahdlgmpaa
open Go Go.RowKit

section
variable {P : Program} {w : World}

/-- Where the cells of a source lie: nowhere, if there are none; else behind its address. -/
def SrcAt (w : World) (a : Option Addr) (news : List Value) : Prop :=
  (a = none ∧ news = []) ∨ ∃ x, a = some x ∧ ∀ j u, news[j]? = some u → w.cell? (x.add j) = some u

/-- 'append(s, x...)', s nil or of the call's own, elements of one cell. -/
theorem run_append1 (base : Nat) {t e : TypeId} {z : Value} {bytes : Nat} (ty : TypeId) (ht : P.underlying t = some (.slice e)) (hinfo : (P.info? e).map (fun i => (i.zero, i.size, i.bytes)) = some (some z, 1, bytes)) (hz : z.cells = #[z])
    {a : Option Addr} {len cap : Nat} {xs : List Value} (hown : w.ownsRow base e 1 (.slice a len cap) len xs)
    {a2 : Option Addr} {m c2 : Nat} {news : List Value} (hl : news.length = m) (hsrc : SrcAt w a2 news) (hc2 : a2 = none → c2 = 0) (h1 : ∀ u ∈ news, u.oneCell' = true)
    (h63 : len + m ≤ 9223372036854775807) (hbytes : (len + m) * bytes ≤ 140737488355328) (hbase : base ≤ w.heap.size) :
    ∃ a' cap' w', (appendB #[t, t] ty #[.slice a len cap, .slice a2 m c2]).run P w = .ok (.slice a' (len + m) cap') w' ∧
      w'.ownsRow base e 1 (.slice a' (len + m) cap') (len + m) (xs ++ news) ∧ w.grownBy w' (Value.ownBlock (.slice a len cap)) := by
  unfold appendB
  obtain ⟨i, hi, hzz⟩ := Option.map_eq_some_iff.1 hinfo
  simp only [Prod.mk.injEq] at hzz
  obtain ⟨hz0, hs, hb⟩ := hzz
  rcases hsrc with ⟨rfl, rfl⟩ | ⟨x, rfl, hx⟩
  · have hm : m = 0 := by simpa using hl.symm
    subst hm
    rw [hc2 rfl]
    refine ⟨a, cap, w, ?_, by simpa using hown, ⟨rfl, rfl, rfl, Nat.le_refl _, fun _ _ _ => rfl⟩⟩
    exact run_append_owned_none w base t ty e i 1 ht hi _ _ _ hown
  · obtain ⟨v', w', hr, ho, hg, _⟩ := run_append_own w base t ty e i z 1 bytes ht hi hz0 hs hb (by rw [hz]; rfl) (by decide) _ _ _ hown x m c2 news (by omega) hx h1 (by unfold maxLen; omega) hbytes hbase
    rcases ho.2 with ⟨rfl, h0⟩ | ⟨g, cap', cur, rfl, h⟩
    · refine ⟨none, 0, w', ?_, ?_, hg⟩
      · rw [h0] ; exact hr
      · rw [h0] at ho ⊢; exact ho
    · exact ⟨_, cap', w', hr, ho, hg⟩
end
end Go.Proofs.Ytkljlgahdlgmpaa
