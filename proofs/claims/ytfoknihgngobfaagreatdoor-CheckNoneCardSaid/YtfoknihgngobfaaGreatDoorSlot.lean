import Derived.Test.YtfoknihgngobfaaGreatDoorLayout2
namespace Go.Proofs
open Go Go.RowKit

/-- Set a word that is another one. -/
def VS.set (s : VS) (n v : Int) : Int × VS := if s.has n then (if s.get n = v then (0, s) else s.put n v) else (8, s)

theorem VS.has_iff (s : VS) (n : Int) : s.has n = true ↔ 0 ≤ n ∧ n < s.I.length := by simp [VS.has]
theorem VS.has_no (s : VS) (n : Int) (h : ¬ s.has n = true) : n < 0 ∨ (s.I.length : Int) ≤ n := by rw [VS.has_iff] at h; omega

end Go.Proofs
