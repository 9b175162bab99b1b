import Derived.Test.YtfoknihgngobfaaGreatDoorChkB
namespace Go.Proofs
open Go Go.RowKit

section
variable {Γ : Nat → Option Obj} {L : Nat → Prop} {w : World} {b : Nat} {F : LKS} {s : VS}
set_option maxRecDepth 100000 in
set_option maxHeartbeats 2000000 in
theorem slots_ok (hG : Γ 0 = some leastObj) (hK : LK w b F) (hV : VW Γ L w F.p s) (hl : 264 ≤ s.I.length) (hz : ∀ n, 8 ≤ n → n < 264 → s.get n = 0) :
    Calls Tryz.prog 26 #[.pointer (some ⟨b, 0, none⟩)] w (SRet (.tuple #[]) w) := by
  have hlt := LKf.lt hK
  have HZ := Lib.hid hz
  clear hz
  go_enter Tryz.func26, Tryz.ntmps26
  go_wp2
  go_loopw [9] (fun i wr => ∃ k : Nat, k ≤ 4 ∧ i = .int .i64 k ∧ Below w.heap.size w wr) (fun i _ => 4 - (intOf i).toNat)
  case atStart => exact ⟨0, by omega, rfl, Below.refl _ _⟩
  case round =>
    obtain ⟨i, hi, rfl, hB⟩ := hrel
    obtain ⟨wo, rfl⟩ : ∃ wo : World, wo = wr := ⟨_, rfl⟩
    by_cases hlt4 : i < 4
    · have hKo : LK wo b F := LKf.below hK hB
      have hVo := hV.below hB
      have hc := hKo.hd.1
      have hs := sget_zero hG hVo i (by omega) hl HZ.out
      go_wp2_with (go_at_call 44; refine hs.mono ?_; rintro e w1 ⟨rfl, hb1⟩; have hz1 : w.heap.size ≤ w1.heap.size := (Nat.le_trans hB.size hb1.size); have hB1 : Below w.heap.size w w1 := by (repeat (first | exact Below.refl _ _ | apply Below.al | apply Below.dr | apply Below.drn | refine Below.tr ?_ (by assumption))))
      clear hs
      go_loopw [21] (fun v wi => ∃ k : Nat, k ≤ 4 ∧ v = .int .i64 k ∧ Below (w1.heap.size + 1) (w1.alloc (.cells #[.bool false, .int .u64 0, .int .u64 0] 79)) wi) (fun v _ => 4 - (intOf v).toNat)
      case atStart => exact ⟨0, by omega, rfl, Below.refl _ _⟩
      case round =>
        obtain ⟨k, hk, rfl, hBi⟩ := hrel
        have hch := cell_headnew hBi (v := .bool false) 0 (by simp)
        have hB2 : Below w.heap.size w wr := ((hB1.alloc hz1 _).trans (hBi.mono (by omega)))
        by_cases hk4 : k < 4
        · have hcl := load_zero hG (hV.below hB2) i k (by omega) (by omega) hl HZ.out
          have hc2 := (LK.hd (LKf.below hK hB2)).1
          have hsz : w1.heap.size < wr.heap.size := by have := hBi.size; simp at this; omega
          go_wp2_with (first
            | (go_at_call 46; refine hcl.mono ?_; rintro e w2 ⟨rfl, hb2⟩; have hch2 : w2.cell? ⟨w1.heap.size, 0, none⟩ = some (.bool false) := (hb2.cell (p := ⟨w1.heap.size, 0, none⟩) hsz).trans hch; have hz2 : w1.heap.size < w2.heap.size := (Nat.lt_of_lt_of_le hsz hb2.size))
            | (go_at_call 36; refine (must_yes _ _ _ _).mono ?_; rintro e w' ⟨rfl, rfl⟩))
          go_roundw
          case rel => exact ⟨k + 1, by omega, by go_num, (hBi.trans (hb2.mono (by omega))).alloc (by omega) _⟩
          case measure => simp [intOf]; omega
        · go_wp2
          go_roundw
          case rel => exact ⟨i + 1, by omega, by go_num, hB2⟩
          case measure => simp [intOf]; omega
    · go_wp2
      go_end0
      exact ⟨rfl, hB⟩

set_option maxRecDepth 100000 in
set_option maxHeartbeats 2000000 in
theorem descriptors_ok (hG : Γ 0 = some leastObj) (hK : LK w b F) (hV : VW Γ L w F.p s) (hz : ∀ n, 8 ≤ n → n < 264 → s.get n = 0) :
    Calls Tryz.prog 27 #[.pointer (some ⟨b, 0, none⟩)] w (SRet (.tuple #[]) w) := by
  have hlt := LKf.lt hK
  have HZ := Lib.hid hz
  clear hz
  go_enter Tryz.func27, Tryz.ntmps27
  go_wp2
  go_loopw [6] (fun i wr => ∃ k : Nat, k ≤ 4 ∧ i = .int .i64 k ∧ Below w.heap.size w wr) (fun i _ => 4 - (intOf i).toNat)
  case atStart => exact ⟨0, by omega, rfl, Below.refl _ _⟩
  case round =>
    obtain ⟨i, hi, rfl, hB⟩ := hrel
    obtain ⟨wo, rfl⟩ : ∃ wo : World, wo = wr := ⟨_, rfl⟩
    by_cases hlt4 : i < 4
    · have hdi : decide ((i : Int) < 4) = true := by simp; omega
      go_wp2
      go_loopw [9] (fun v wi => ∃ k : Nat, k ≤ 4 ∧ v = .int .i64 k ∧ Below w.heap.size w wi) (fun v _ => 4 - (intOf v).toNat)
      case atStart => exact ⟨0, by omega, rfl, hB⟩
      case round =>
        obtain ⟨k, hk, rfl, hBi⟩ := hrel
        by_cases hk4 : k < 4
        · have hcl := closed_yes hG (LKf.below hK hBi) (hV.below hBi) HZ.out i k hlt4 hk4
          go_wp2_with (go_at_call 45; refine hcl.mono ?_; rintro e w2 ⟨rfl, hb2⟩)
          go_roundw
          case rel => exact ⟨k + 1, by omega, by go_num, hBi.trans (hb2.mono hBi.size)⟩
          case measure => simp [intOf]; omega
        · go_wp2
          go_roundw
          case rel => exact ⟨i + 1, by omega, by go_num, hBi⟩
          case measure => simp [intOf]; omega
    · go_wp2
      go_end0
      exact ⟨rfl, hB⟩
end
end Go.Proofs
