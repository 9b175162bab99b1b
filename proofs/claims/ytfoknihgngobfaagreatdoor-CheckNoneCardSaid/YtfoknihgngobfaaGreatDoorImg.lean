import Derived.Test.YtfoknihgngobfaaGreatDoorLookF
import Derived.Test.YtfoknihgngobfaaGreatDoorFmt
namespace Go.Proofs
open Go Go.RowKit

abbrev g1 : Geo := ⟨1, 9, 30⟩
attribute [local irreducible] imgL imgF
section
variable {m l : Int}
theorem img_get (n : Int) (h0 : 0 ≤ n) (h1 : n < 872) : VS.get ⟨imgL m l, []⟩ n = imgF m l n.toNat := by
  unfold VS.get
  rw [if_pos ((VS.has_iff _ _).2 ⟨h0, by show n < ((imgL m l).length : Int); rw [imgL_len]; omega⟩)]
  show ((imgL m l)[n.toNat]?).getD 0 = _
  rw [imgL_at m l _ (by omega)]
  rfl
theorem imgF_zero {i : Nat} (h : 4 ≤ i) (h1 : i ≠ 472) (h2 : i ≠ 480) (h3 : i ≠ 504) (h4 : i ≠ 505) : imgF m l i = 0 := by
  unfold imgF
  rw [if_neg h4, if_neg h3, if_neg h2, if_neg h1, if_neg (by omega), if_neg (by omega), if_neg (by omega), if_neg (by omega)]
theorem img_zero (n : Int) (h0 : 4 ≤ n) (h1 : n < 872) (h2 : n ≠ 472) (h3 : n ≠ 480) (h4 : n ≠ 504) (h5 : n ≠ 505) : VS.get ⟨imgL m l, []⟩ n = 0 := by
  rw [img_get n (by omega) h1]
  exact imgF_zero (by omega) (by omega) (by omega) (by omega) (by omega)
theorem img_472 : VS.get ⟨imgL m l, []⟩ 472 = m := by rw [img_get _ (by omega) (by omega)]; unfold imgF; rfl
theorem img_480 : VS.get ⟨imgL m l, []⟩ 480 = 1 := by rw [img_get _ (by omega) (by omega)]; unfold imgF; rfl
theorem img_504 : VS.get ⟨imgL m l, []⟩ 504 = 2 := by rw [img_get _ (by omega) (by omega)]; unfold imgF; rfl
theorem img_505 : VS.get ⟨imgL m l, []⟩ 505 = l := by rw [img_get _ (by omega) (by omega)]; unfold imgF; rfl
theorem g1_6 : g1.at6 0 = 472 := by decide
theorem g1_7 : g1.at7 0 = 480 := by decide
theorem g1_8 (k : Int) (h0 : 0 ≤ k) (h1 : k < 9) : g1.at8 k = 488 + 16 * k := by
  unfold Geo.at8
  rw [if_pos ⟨by decide, h0, h1⟩]
  show (264 + 208 * 1 + 16 + 16 * k : Int) = _
  omega
theorem img_find (k : Int) (h0 : 1 ≤ k) (h1 : k < 9) : VS.ifind ⟨imgL m l, []⟩ g1 k = (488 + 16 * k, 0) := by
  unfold VS.ifind
  rw [g1_8 k (by omega) h1, if_neg (by omega), if_neg (by show ¬ ((imgL m l).length : Int) < g1.words; rw [imgL_len]; decide)]
theorem img_node1 (hl : l = 1 ∨ l = 2) : VS.iget ⟨imgL m l, []⟩ g1 1 = (⟨2, l, 0, 0, 0, 0, 0, 0, 0, 0⟩, 0) := by
  have hn : VS.node ⟨imgL m l, []⟩ (488 + 16 * 1) = ⟨2, l, 0, 0, 0, 0, 0, 0, 0, 0⟩ := by
    show VS.node ⟨imgL m l, []⟩ 504 = _
    unfold VS.node
    rw [img_504, show (504 + 1 : Int) = 505 from rfl, img_505]
    rw [img_zero (504 + 2) (by omega) (by omega) (by omega) (by omega) (by omega) (by omega), img_zero (504 + 3) (by omega) (by omega) (by omega) (by omega) (by omega) (by omega), img_zero (504 + 4) (by omega) (by omega) (by omega) (by omega) (by omega) (by omega),
      img_zero (504 + 5) (by omega) (by omega) (by omega) (by omega) (by omega) (by omega), img_zero (504 + 6) (by omega) (by omega) (by omega) (by omega) (by omega) (by omega), img_zero (504 + 7) (by omega) (by omega) (by omega) (by omega) (by omega) (by omega),
      img_zero (504 + 8) (by omega) (by omega) (by omega) (by omega) (by omega) (by omega), img_zero (504 + 9) (by omega) (by omega) (by omega) (by omega) (by omega) (by omega)]
  unfold VS.iget
  rw [img_find 1 (by omega) (by omega)]
  simp only [if_true]
  rw [hn, if_pos (by rcases hl with rfl | rfl <;> decide)]
theorem img_rest (k : Nat) (h0 : 2 ≤ k) (h1 : (k : Int) < 9) : (VS.iget ⟨imgL m l, []⟩ g1 k).2 ≠ 0 := by
  have hn : (VS.node ⟨imgL m l, []⟩ (488 + 16 * (k : Int))).right g1 = false := by
    have hz : VS.get ⟨imgL m l, []⟩ (488 + 16 * (k : Int)) = 0 := img_zero _ (by omega) (by omega) (by omega) (by omega) (by omega) (by omega)
    refine decide_eq_false (fun h => ?_)
    have h6 := h.2.2.2.2.2.2
    unfold VS.node at h6
    simp only [hz] at h6
    omega
  unfold VS.iget
  rw [img_find k (by omega) h1]
  simp only [if_true]
  rw [hn]
  simp
theorem img_bat (hl : l = 1 ∨ l = 2) (k : Nat) (hk : k < 12) : VS.bat ⟨imgL m l, []⟩ g1 1 k = (0, 0) := by
  unfold VS.bat
  rw [img_node1 hl, if_neg (by omega)]
  simp only [ne_eq, not_true_eq_false, if_false]
  unfold VS.word
  rw [g1_8 1 (by omega) (by omega)]
  by_cases h : (k : Int) < 4
  · rw [if_pos h]
    simp only [Bool.true_eq_false, if_false]
    rw [img_zero _ (by omega) (by omega) (by omega) (by omega) (by omega) (by omega)]
    rfl
  · rw [if_neg h]
    have hc : VS.chain ⟨imgL m l, []⟩ g1 1 = 0 := by
      unfold VS.chain
      rw [g1_8 1 (by omega) (by omega), img_zero _ (by omega) (by omega) (by omega) (by omega) (by omega) (by omega)]
      decide
    rw [hc]
    rfl
theorem img_bit6 (k : Nat) (hk : k < 9) : VS.bit ⟨imgL m l, []⟩ (g1.at6 0) g1.I k = m.toNat.testBit k := by
  unfold VS.bit mhas
  rw [g1_6, decide_eq_true (by omega), decide_eq_true (show (k : Int) < 9 by omega), show (472 : Int) + (k : Int) / 64 = 472 by omega, img_472, show (k : Int) % 64 = k by omega]
  rfl
theorem img_bit7 (k : Nat) (hk : k < 30) : VS.bit ⟨imgL m l, []⟩ (g1.at7 0) g1.B k = (1 : Nat).testBit k := by
  unfold VS.bit mhas
  rw [g1_7, decide_eq_true (by omega), decide_eq_true (show (k : Int) < 30 by omega), show (480 : Int) + (k : Int) / 64 = 480 by omega, img_480, show (k : Int) % 64 = k by omega]
  rfl
theorem imgF_ok (hm : u64ok m) (hl : u64ok l) (i : Nat) : u64ok (imgF m l i) := by
  unfold imgF
  repeat' split
  all_goals first | assumption | (constructor <;> (unfold magic; omega)) | (constructor <;> omega)
theorem img_ok (hm : m = 3 ∨ m = 7) (hl : l = 1 ∨ l = 2) : Img (imgL m l) g1 l where
  ok := fun x hx => by
    unfold imgL at hx
    obtain ⟨i, -, rfl⟩ := List.mem_map.1 hx
    exact imgF_ok (by rcases hm with rfl | rfl <;> exact ⟨by omega, by omega⟩) (by rcases hl with rfl | rfl <;> exact ⟨by omega, by omega⟩) i
  len := by rw [imgL_len]; omega
  len2 := by rw [imgL_len]; omega
  geo := by
    rw [ofG_some (by rw [imgL_len]; omega) (imgL_at m l 0 (by omega)) (imgL_at m l 1 (by omega)) (imgL_at m l 2 (by omega)) (imgL_at m l 3 (by omega)), imgL_len, show imgF m l 0 = magic by unfold imgF; rfl, show imgF m l 1 = 1 by unfold imgF; rfl, show imgF m l 2 = 9 by unfold imgF; rfl, show imgF m l 3 = 30 by unfold imgF; rfl]
    rw [if_pos (by decide), if_pos (by decide)]
  zero := fun n h0 h1 => img_zero n (by omega) (by omega) (by omega) (by omega) (by omega) (by omega)
  b60 := by
    refine (img_bit6 0 (by omega)).trans ?_
    rcases hm with rfl | rfl <;> decide
  b70 := (img_bit7 0 (by omega)).trans (by decide)
  node := img_node1 hl
  rest := fun k h0 h1 => img_rest k h0 h1
  bat := img_bat hl
  blk := fun k h0 h1 => by
    have h1 : k < 30 := by have : (k : Int) < 30 := h1; omega
    rw [img_bit7 k h1]
    have : ∀ k, k < 30 → 1 ≤ k → (1 : Nat).testBit k = false := by decide
    exact this k h1 h0
  one := by
    refine (img_bit6 1 (by omega)).trans ?_
    rcases hm with rfl | rfl <;> decide
  kind := by rw [g1_8 1 (by omega) (by omega)]; exact img_504
theorem img_full (hm : m = 3 ∨ m = 7) (F : LKS) (hg : F.g = g1) (hr : F.right 1 = true) : Full ⟨imgL m l, []⟩ F (g1.at6 0) g1.I 1 where
  bit := by
    refine (img_bit6 1 (by omega)).trans ?_
    rcases hm with rfl | rfl <;> decide
  kind := by rw [hg, show ((1 : Nat) : Int) = 1 from rfl, g1_8 1 (by omega) (by omega)]; rw [show (488 + 16 * 1 : Int) = 504 from rfl, img_504]; omega
  right := hr
theorem img_taken (F : LKS) (hg : F.g = g1) (hr : F.right 1 = true) (k : Nat) (h1 : 1 ≤ k) (hk : (k : Int) < g1.I) : Bare ⟨imgL 3 l, []⟩ F (g1.at6 0) g1.I k ∨ Full ⟨imgL 3 l, []⟩ F (g1.at6 0) g1.I k := by
  have hk : k < 9 := by have : (k : Int) < 9 := hk; omega
  by_cases e : k = 1
  · subst e; exact .inr (img_full (.inl rfl) F hg hr)
  · refine .inl ⟨?_, fun i i0 i1 => ?_⟩
    · rw [img_bit6 k hk]
      have : ∀ k, k < 9 → 2 ≤ k → (3 : Int).toNat.testBit k = false := by decide
      exact this k hk (by omega)
    · rw [hg, g1_8 k (by omega) (by omega)]
      exact img_zero _ (by omega) (by omega) (by omega) (by omega) (by omega) (by omega)
theorem img_odd (F : LKS) (hg : F.g = g1) : Odd ⟨imgL 7 l, []⟩ F (g1.at6 0) g1.I 2 where
  bit := (img_bit6 2 (by omega)).trans (by decide)
  kind := by
    rw [hg, show ((2 : Nat) : Int) = 2 from rfl, g1_8 2 (by omega) (by omega)]
    exact img_zero _ (by omega) (by omega) (by omega) (by omega) (by omega) (by omega)
end
end Go.Proofs
