/- Bytes as text. -/
import Derived.Test.YtejpophjiinijaaDoorBase
import Derived.Laws.IdiomStrings
import Derived.Laws.BytesArg
namespace Go.Proofs.YtejpophjiinijaaDoor
set_option linter.unusedVariables false
set_option linter.unusedSimpArgs false
set_option maxRecDepth 100000
open Go Go.RowKit

def strB (l : List (BitVec 8)) : ByteArray := ⟨(l.map UInt8.ofBitVec).toArray⟩
theorem strB_inj {a b : List (BitVec 8)} : strB a = strB b ↔ a = b := by
  constructor
  · intro h
    have h1 : (strB a).data.toList = (strB b).data.toList := by rw [h]
    have h2 : a.map UInt8.ofBitVec = b.map UInt8.ofBitVec := by simpa [strB] using h1
    have h3 := congrArg (List.map UInt8.toBitVec) h2
    rw [List.map_map, List.map_map] at h3
    have e : (UInt8.toBitVec ∘ UInt8.ofBitVec) = id := by funext x; rfl
    simpa [e] using h3
  · intro h; rw [h]
theorem strB_list (a b : List (BitVec 8)) : ((strB a).toList == (strB b).toList) = decide (a = b) := by
  rw [Bool.eq_iff_iff, beq_iff_eq, decide_eq_true_iff, ByteArray.toList_eq, ByteArray.toList_eq, ← strB_inj]
  constructor
  · intro h
    apply ByteArray.ext
    exact Array.ext' h
  · intro h; rw [h]
attribute [go_sem] strB_list
theorem conv_str {w : World} {a : Option Addr} {l : List (BitVec 8)} {n : Nat} (h : SlAt .u8 w a l) (hn : n = l.length) (c : Nat) (hnil : a = none → n = 0) : (convert 64 9 (.slice a n c)).run Tryd.prog w = .ok (.string (strB l)) w := by
  subst hn
  cases a with
  | none =>
    have : l = [] := List.eq_nil_of_length_eq_zero (hnil rfl)
    subst this
    show (convert 64 9 (.slice none 0 c)).run Tryd.prog w = _
    rw [run_convert_bytes_string w 64 9 5 none 0 c Tryd.underlying64 Tryd.underlying5 Tryd.underlying9]
    rfl
  | some x =>
    have := run_convert_bytes_back (P := Tryd.prog) w 64 9 5 x c (l.map UInt8.ofBitVec) Tryd.underlying64 Tryd.underlying5 Tryd.underlying9 (fun j hj => by
      have hj' : j < l.length := by simpa using hj
      rcases h with h | ⟨b, o, ha, hc⟩
      · subst h; cases hj'
      · obtain rfl : x = _ := Option.some.inj ha
        rw [Addr.add_lit, hc j hj']
        simp [uv_def])
    rw [List.length_map] at this
    exact this
/-- A piece of a slice. -/
theorem SlAt.piece {n : Nat} {k : IntKind} {w : World} {a : Option Addr} {l : List (BitVec n)} (h : SlAt k w a l) (s m : Nat) : SlAt k w (Option.map (fun x => x.add s) a) ((l.drop s).take m) := by
  rcases h with h | ⟨b, o, rfl, hc⟩
  · subst h; exact .inl (by simp)
  · refine .inr ⟨b, o + s, ?_, fun i hi => ?_⟩
    · show some ((⟨b, o, none⟩ : Addr).add s) = _; rw [Addr.add_lit]
    · have hi' : s + i < l.length := by simp at hi; omega
      have := hc (s + i) hi'
      rw [show o + s + i = o + (s + i) by omega, this]; simp
end Go.Proofs.YtejpophjiinijaaDoor
