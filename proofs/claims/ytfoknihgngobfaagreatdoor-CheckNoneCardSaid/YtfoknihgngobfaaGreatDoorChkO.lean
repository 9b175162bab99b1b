import Derived.Test.YtfoknihgngobfaaGreatDoorChkL
namespace Go.Proofs
open Go Go.RowKit

section
variable {Γ : Nat → Option Obj} {L : Nat → Prop} {w : World} {b : Nat} {F : LKS} {s : VS}
set_option maxRecDepth 100000 in
set_option maxHeartbeats 2000000 in
theorem open1_yes (hK : LK w b F) {Bx : Nat} (hX : w.cell? ⟨Bx, 0, none⟩ = some (.pointer (some ⟨b, 0, none⟩))) (hl : (F.node 1).links = 1) (ho : (F.node 1).opens = 0) (h0 : F.opens 1 = 0) :
    Calls Tryz.prog 53 #[.int .i64 1, (F.node 1).v, .pointer (some ⟨Bx, 0, none⟩)] w fun e w' => e = .returned (.tuple #[]) ∧ Below w.heap.size w w' := by
  have hn := hK.op 1 (by omega)
  rw [h0] at hn
  have hbx : Bx < w.heap.size := World.block_lt_of_cell? w _ hX
  have hlt := LKf.lt hK
  obtain ⟨⟨kind, links, opens, size, d0, d1, d2, d3, chain, parent⟩, hx⟩ : ∃ x, F.node 1 = x := ⟨_, rfl⟩
  rw [hx] at hl ho ⊢
  simp only at hl ho
  subst hl ho
  have hn' : w.cell? ⟨b, 775, none⟩ = some (.int .u64 0) := hn
  clear hx hn hK h0
  go_enter Tryz.func53, Tryz.ntmps53
  go_wp2
  go_quiet ((go_at_call 36; exact Calls.quiet_of_same ((must_yes _ _ _ _).mono fun e w' h => ⟨h.1, h.2.symm⟩)))
  go_wp2
  go_end0
  exact ⟨rfl, by (repeat (first | (with_reducible exact Below.refl _ _) | (with_reducible apply Below.dr) | (with_reducible apply Below.drn) | (with_reducible refine Below.setCell ?_ (by first | omega | (simp only; omega)) _) | (with_reducible apply Below.al) | (refine Below.tr ?_ (by with_reducible assumption))))⟩

set_option maxRecDepth 100000 in
set_option maxHeartbeats 2000000 in
theorem open_ok (hK : LK w b F) (N : Nat) (hN : F.g.I = N) (hN2 : 2 ≤ N) (hN64 : N ≤ 64) (hr1 : F.right 1 = true) (hr2 : ∀ k, 2 ≤ k → k < N → F.right k = false) (hl : (F.node 1).links = 1) (ho : (F.node 1).opens = 0) (h0 : F.opens 1 = 0) :
    Calls Tryz.prog 32 #[.pointer (some ⟨b, 0, none⟩)] w (SRet (.tuple #[]) w) := by
  have hlt := LKf.lt hK
  have hE : ∀ (ar : Array Value) (w : World), (callFunc 53 ar).run Tryz.prog w = .ok (.enter 53 ar) w := fun ar w => by kernel_rfl
  have hea := fun W => each_ret1 (w := W) (b := b) (F := F) 53 hE (.pointer (some ⟨w.heap.size, 0, none⟩)) N hN hN2 hN64 hr1 hr2
    (fun W => (LK W b F ∧ W.cell? ⟨w.heap.size, 0, none⟩ = some (.pointer (some ⟨b, 0, none⟩))) ∧ Below w.heap.size w W) (fun W => (LK W b F ∧ W.cell? ⟨w.heap.size, 0, none⟩ = some (.pointer (some ⟨b, 0, none⟩))) ∧ Below w.heap.size w W) (fun _ h => h.1.1) (fun _ h => h.1.1)
    (fun W h => (open1_yes h.1.1 h.1.2 hl ho h0).mono fun e W' hh => ⟨hh.1, ⟨LKf.below h.1.1 hh.2, (hh.2.cell (p := ⟨w.heap.size, 0, none⟩) (World.block_lt_of_cell? W _ h.1.2)).trans h.1.2⟩, h.2.trans (hh.2.mono h.2.size)⟩)
  have HK := Lib.hid hK
  clear hK hN hr1 hr2 h0 hl ho hE
  go_enter Tryz.func32, Tryz.ntmps32
  go_wp2_with fail
  refine (hea _ ⟨⟨?_, ?_⟩, ?_⟩).mono ?_
  · exact LKf.alloc HK.out _
  · simp [go_sem]
  · (repeat (first | (with_reducible exact Below.refl _ _) | (with_reducible apply Below.dr) | (with_reducible apply Below.drn) | (with_reducible refine Below.setCell ?_ (by first | omega | (simp only; omega)) _) | (with_reducible apply Below.al) | (refine Below.tr ?_ (by with_reducible assumption))))
  rintro e w1 ⟨rfl, ⟨h1, -⟩, h2⟩
  go_wp2
  go_end0
  exact ⟨rfl, h2⟩

set_option maxRecDepth 100000 in
set_option maxHeartbeats 2000000 in
theorem places_none (hK : LK w b F) (hV : VW Γ L w F.p s) (n : Int) (dov : Value) (h0 : (s.iget F.g n).2 = 0) (he : ∀ k : Nat, k < 12 → s.bat F.g n k = (0, 0)) :
    Calls Tryz.prog 55 #[.pointer (some ⟨b, 0, none⟩), .int .i64 n, dov] w (SRet (.tuple #[]) w) := by
  have hof := fun {L : Nat → Prop} {W : World} (h : VW Γ L W F.p s) => bof_any h F.g n
  simp only [h0] at hof
  have hS := fun W (hb : Below w.heap.size w W) => LK.six hK hb
  have hlt := LKf.lt hK
  obtain ⟨c0, c1, c2, c3, c4, c5⟩ := hK.hd
  have HE := Lib.hid he
  clear h0 he hK
  go_enter Tryz.func55, Tryz.ntmps55
  go_wp2
  go_region_held3 (fun W => (W.cell? ⟨b, 0, none⟩ = some (.pointer (some F.p)) ∧ W.cell? ⟨b, 1, none⟩ = some (.int .i64 F.g.W) ∧ W.cell? ⟨b, 2, none⟩ = some (.int .i64 F.g.I) ∧ W.cell? ⟨b, 3, none⟩ = some (.int .i64 F.g.B) ∧
      W.cell? ⟨b, 4, none⟩ = some (.pointer (some ⟨F.mi, 0, none⟩)) ∧ W.cell? ⟨b, 5, none⟩ = some (.pointer (some ⟨F.mb, 0, none⟩))) ∧ Below w.heap.size w W)
    ((refine hS _ ?_; (repeat (first | (with_reducible exact Below.refl _ _) | (with_reducible apply Below.dr) | (with_reducible apply Below.drn) | (with_reducible refine Below.setCell ?_ (by first | omega | (simp only; omega)) _) | (with_reducible apply Below.al) | (refine Below.tr ?_ (by with_reducible assumption))))))
    (first | (go_at_call 77; refine (hof (hV.below (by (repeat (first | (with_reducible exact Below.refl _ _) | (with_reducible apply Below.dr) | (with_reducible apply Below.drn) | (with_reducible refine Below.setCell ?_ (by first | omega | (simp only; omega)) _) | (with_reducible apply Below.al) | (refine Below.tr ?_ (by with_reducible assumption))))))).mono ?_; rintro e w2 ⟨q2, rfl, hb2, hq2⟩; obtain ⟨b2, rfl, hl2, hM2⟩ := hq2 rfl))
  obtain ⟨hd, hB⟩ := ‹_ ∧ Below w.heap.size w w2›
  go_wp2_with (go_at_call 36; refine (must_yes _ _ _ _).mono ?_; rintro e w' ⟨rfl, rfl⟩)
  clear hd hof hS
  go_loopw [28] (fun v wi => ∃ k : Nat, k ≤ 12 ∧ v = .int .i64 k ∧ Below w2.heap.size w2 wi) (fun v _ => 12 - (intOf v).toNat)
  case atStart => exact ⟨0, by omega, rfl, Below.refl _ _⟩
  case round =>
    obtain ⟨k, hk, rfl, hBi⟩ := hrel
    by_cases hk12 : k < 12
    · have hat := at_any ((hV.below hB).below hBi) (hM2.below hBi) k
      rw [HE.out k hk12] at hat
      go_wp2_with (first
        | (go_at_call 78; refine hat.mono ?_; rintro e w3 ⟨rfl, hb3⟩)
        | (go_at_call 36; refine (must_yes _ _ _ _).mono ?_; rintro e w' ⟨rfl, rfl⟩))
      go_roundw
      case rel => exact ⟨k + 1, by omega, by go_num, hBi.trans (hb3.mono hBi.size)⟩
      case measure => simp [intOf]; omega
    · go_wp2
      go_end0
      exact ⟨rfl, hB.trans (hBi.mono hB.size)⟩
end
end Go.Proofs
