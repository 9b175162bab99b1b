import Derived.Test.YtfoknihgngobfaaGreatDoorBitmap
namespace Go.Proofs
open Go Go.RowKit

theorem mof_ok {s : VS} {g : Geo} (hm : g.may = true) (hw : ¬ (s.I.length : Int) < g.words) : s.mof (g.at6 0) g.I = 0 ∧ s.mof (g.at7 0) g.B = 0 ∧ (0 ≤ g.at6 0 ∧ g.at6 0 ≤ 10000) ∧ (0 ≤ g.at7 0 ∧ g.at7 0 ≤ 10000) ∧ 1 ≤ g.I ∧ g.I ≤ 64 ∧ 1 ≤ g.B ∧ g.B ≤ 512 := by
  have h := (Geo.may_iff g).1 hm
  have e6 : g.at6 0 = g.maps := by unfold Geo.at6; rw [if_pos ⟨hm, by omega, by omega⟩]; omega
  have e7 : g.at7 0 = g.maps + 8 := by unfold Geo.at7; rw [if_pos ⟨hm, by omega, by omega⟩]; omega
  have hwd : g.words = 264 + 208 * g.W + 16 + 16 * g.I + 8 * g.B := by unfold Geo.words; rw [if_pos hm]
  rw [hwd] at hw
  rw [e6, e7]
  unfold VS.mof Geo.maps
  refine ⟨?_, ?_, by omega, by omega, by omega, by omega, by omega, by omega⟩
  · rw [if_neg (by omega), if_neg (by omega)]
  · rw [if_neg (by omega), if_neg (by omega)]
end Go.Proofs
