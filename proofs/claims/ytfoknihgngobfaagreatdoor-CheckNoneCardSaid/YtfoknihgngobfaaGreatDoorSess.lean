import Derived.Test.YtfoknihgngobfaaGreatDoorChkA
namespace Go.Proofs
open Go Go.RowKit

section
variable {Γ : Nat → Option Obj} {L : Nat → Prop} {w : World} {p : Addr} {s : VS}
set_option maxRecDepth 100000 in
set_option maxHeartbeats 1000000 in
theorem sess_ok (hG : Γ 0 = some leastObj) (hV : VW Γ L w p s) (i : Int) (hi : 0 ≤ i ∧ i < 4) (hl : 264 ≤ s.I.length) :
    Calls Tryz.prog 68 #[.pointer (some p), .int .i64 i] w (SRet (.tuple #[.int .i64 (8 + 64 * i), .int .i64 0]) w) := by
  obtain ⟨i0, i1⟩ := hi
  have hs := sessionAt_any i w (hV.glob hG)
  rw [show sessAt i = 8 + 64 * i by simp [sessAt, i0, i1]] at hs
  go_enter Tryz.func68, Tryz.ntmps68
  go_wp2_with (first
    | (go_at_call 81; refine hs.mono ?_; rintro e w1 ⟨rfl, hb1⟩)
    | (go_at_call 61; refine (len_any (hV.below hb1)).mono ?_; rintro e w' ⟨rfl, rfl⟩))
  go_ret2
  exact SRet.mk rfl (by (repeat (first | exact Below.refl _ _ | apply Below.al | apply Below.dr | apply Below.drn | refine Below.tr ?_ (by assumption))))

set_option maxRecDepth 100000 in
set_option maxHeartbeats 1000000 in
theorem sfind_ok (hG : Γ 0 = some leastObj) (hV : VW Γ L w p s) (i k : Int) (hi : 0 ≤ i ∧ i < 4) (hk : 0 ≤ k ∧ k < 4) (hl : 264 ≤ s.I.length) :
    Calls Tryz.prog 70 #[.pointer (some p), .int .i64 i, .int .i64 k] w (SRet (.tuple #[.int .i64 (16 + 64 * i + 12 * k), .int .i64 0]) w) := by
  have hs := fun {L : Nat → Prop} {w : World} (h : VW Γ L w p s) => sess_ok hG h i hi hl
  have ha := slotAt_any i k w (hV.glob hG)
  rw [show slotAt i k = 16 + 64 * i + 12 * k by unfold slotAt; rw [if_pos ⟨hi, hk⟩]; omega] at ha
  obtain ⟨i0, i1⟩ := hi
  obtain ⟨k0, k1⟩ := hk
  go_enter Tryz.func70, Tryz.ntmps70
  go_wp2_with (first
    | (go_at_call 83; refine ha.mono ?_; rintro e w1 ⟨rfl, hb1⟩)
    | (go_at_call 68; refine (hs (hV.below hb1)).mono ?_; rintro e w2 ⟨rfl, hb2⟩))
  go_ret2
  exact SRet.mk rfl (by (repeat (first | exact Below.refl _ _ | apply Below.al | apply Below.dr | apply Below.drn | refine Below.tr ?_ (by assumption))))

set_option maxRecDepth 100000 in
set_option maxHeartbeats 1000000 in
theorem sget_zero (hG : Γ 0 = some leastObj) (hV : VW Γ L w p s) (i : Int) (hi : 0 ≤ i ∧ i < 4) (hl : 264 ≤ s.I.length) (hz : ∀ n, 8 ≤ n → n < 264 → s.get n = 0) :
    Calls Tryz.prog 44 #[.pointer (some p), .int .i64 i] w (SRet (.tuple #[.agg #[.bool false, .int .u64 0, .int .u64 0], .int .i64 0]) w) := by
  have hs := fun {L : Nat → Prop} {w : World} (h : VW Γ L w p s) => sess_ok hG h i hi hl
  obtain ⟨i0, i1⟩ := hi
  have g0 : s.get (8 + 64 * i) = 0 := hz _ (by omega) (by omega)
  have g1 : s.get (8 + 64 * i + 1) = 0 := hz _ (by omega) (by omega)
  have g2 : s.get (8 + 64 * i + 2) = 0 := hz _ (by omega) (by omega)
  have HZ := Lib.hid hz
  clear hz
  go_enter Tryz.func44, Tryz.ntmps44
  go_wp2_with fail
  refine (hs (hV.alloc _)).mono ?_
  rintro e w1 ⟨rfl, hb1⟩
  have hX1 := (hb1.block w.heap.size (by simp)).trans (heap_alloc_new _ _)
  have hxc := (fun i => cell_of_row _ _ i _ _ _ hX1)
  have hxf := (fun i => frozen_of_row _ _ i _ _ hX1)
  have hV1 := (hV.alloc (.cells #[.bool false, .int .u64 0, .int .u64 0] 79)).below hb1
  have hz1 := hb1.size
  simp only [World.size_alloc] at hz1
  go_wp2_with (go_at_call 49; refine (get_any hV1 _).mono ?_; rintro e w' ⟨rfl, rfl⟩)
  exact bodyPost_ret (results_cell_row_tmp rfl _ _ w.heap.size 79 #[.bool false, .int .u64 0, .int .u64 0] (0, 0) _ rfl (setCell_block _ (setCell_block _ (setCell_block _ hX1))) Tryz.underlying79 rfl (by kernel_rfl)) rfl ⟨rfl, by (repeat (first | exact Below.refl _ _ | apply Below.al | apply Below.dr | apply Below.drn | (refine Below.setCell ?_ (by simp only; omega) _) | refine Below.tr ?_ (by assumption)))⟩

set_option maxRecDepth 100000 in
set_option maxHeartbeats 1000000 in
theorem load_zero (hG : Γ 0 = some leastObj) (hV : VW Γ L w p s) (i k : Int) (hi : 0 ≤ i ∧ i < 4) (hk : 0 ≤ k ∧ k < 4) (hl : 264 ≤ s.I.length) (hz : ∀ n, 8 ≤ n → n < 264 → s.get n = 0) :
    Calls Tryz.prog 46 #[.pointer (some p), .int .i64 i, .int .i64 k] w (SRet (.tuple #[.int .u64 0, .agg #[.int .i64 0, .int .u64 0, .int .u64 0, .string ⟨#[]⟩], .int .i64 0]) w) := by
  have hs := fun {L : Nat → Prop} {w : World} (h : VW Γ L w p s) => sfind_ok hG h i k hi hk hl
  obtain ⟨i0, i1⟩ := hi
  obtain ⟨k0, k1⟩ := hk
  have g0 : s.get (16 + 64 * i + 12 * k) = 0 := hz _ (by omega) (by omega)
  have HZ := Lib.hid hz
  clear hz
  go_enter Tryz.func46, Tryz.ntmps46
  go_wp2_with fail
  refine (hs (hV.alloc _)).mono ?_
  rintro e w1 ⟨rfl, hb1⟩
  have hX1 := (hb1.block w.heap.size (by simp)).trans (heap_alloc_new _ _)
  have hxc := (fun i => cell_of_row _ _ i _ _ _ hX1)
  have hxf := (fun i => frozen_of_row _ _ i _ _ hX1)
  have hV1 := (hV.alloc (.cells #[.int .i64 0, .int .u64 0, .int .u64 0, .string ⟨#[]⟩] 84)).below hb1
  have hz1 := hb1.size
  simp only [World.size_alloc] at hz1
  go_wp2_with (go_at_call 49; refine (get_any hV1 _).mono ?_; rintro e w' ⟨rfl, rfl⟩)
  exact bodyPost_ret (v := .tuple #[.int .u64 0, .agg #[.int .i64 0, .int .u64 0, .int .u64 0, .string ⟨#[]⟩], .int .i64 0]) (by simp [results, Tryz.f46, go_sem, hxc, hxf]) rfl ⟨rfl, by (repeat (first | exact Below.refl _ _ | apply Below.al | apply Below.dr | apply Below.drn | (refine Below.setCell ?_ (by simp only; omega) _) | refine Below.tr ?_ (by assumption)))⟩
end
end Go.Proofs
