import Derived.Test.YtfoknihgngobfaaGreatDoorChkC
namespace Go.Proofs
open Go Go.RowKit

/-- All that lay below n but the look's block lies as it lay. -/
def Kb (b n : Nat) (w w' : World) : Prop := Keep (fun i => i < n ∧ i ≠ b) w w'
theorem Kb.of_below {b n : Nat} {w w' : World} (h : Below n w w') : Kb b n w w' := ⟨h.os, h.tape, h.output, h.size, fun i hi => h.block i hi.1⟩
theorem Kb.trans {b n : Nat} {x y z : World} (h : Kb b n x y) (k : Kb b n y z) : Kb b n x z := Keep.trans h k
theorem Kb.setCell {b n : Nat} (w : World) (o : Nat) (v : Value) : Kb b n w (w.setCell ⟨b, o, none⟩ v) := ⟨rfl, rfl, rfl, by simp, fun i hi => Below.heap_setCell _ _ _ _ hi.2⟩
theorem Kb.vw {Γ : Nat → Option Obj} {L : Nat → Prop} {b : Nat} (hL : L b) {w w' : World} {p : Addr} {s : VS} (h : VW Γ L w p s) (k : Kb b w.heap.size w w') : VW Γ L w' p s :=
  h.same k.size (fun i hi hl => k.block i ⟨hl, fun e => hi (e ▸ hL)⟩) (fun _ hi => .inl hi) (fun i hi => Nat.lt_of_lt_of_le (h.lt i hi) k.size)
theorem Kb.mb {b q : Nat} {w w' : World} {p : Addr} {a m : Int} (h : MB w q p a m) (hq : q ≠ b) (k : Kb b w.heap.size w w') : MB w' q p a m := (k.block q ⟨blk_lt h, hq⟩).trans h

section
variable {w : World} {b : Nat} {F : LKS}
set_option maxRecDepth 100000 in
set_option maxHeartbeats 2000000 in
theorem links1_yes (hK : LK w b F) {Bx : Nat} (hX : w.cell? ⟨Bx, 0, none⟩ = some (.pointer (some ⟨b, 0, none⟩))) (h : (F.node 1).links = F.names 1) :
    Calls Tryz.prog 52 #[.int .i64 1, (F.node 1).v, .pointer (some ⟨Bx, 0, none⟩)] w fun e w' => e = .returned (.tuple #[]) ∧ Below w.heap.size w w' := by
  have hn := hK.nm 1 (by omega)
  have hbx := World.block_lt_of_cell? w _ hX
  have hlt := LKf.lt hK
  obtain ⟨⟨kind, links, opens, size, d0, d1, d2, d3, chain, parent⟩, hx⟩ : ∃ x, F.node 1 = x := ⟨_, rfl⟩
  rw [hx] at h ⊢
  simp only at h
  rw [← h] at hn
  have hn' : w.cell? ⟨b, 711, none⟩ = some (.int .u64 links) := hn
  clear hx h hn hK
  have hbx' : Bx < w.heap.size := hbx
  go_enter Tryz.func52, Tryz.ntmps52
  go_wp2
  go_quiet ((go_at_call 36; exact Calls.quiet_of_same ((must_yes _ _ _ _).mono fun e w' h => ⟨h.1, h.2.symm⟩)))
  go_wp2
  go_end0
  exact ⟨rfl, by (repeat (first | (with_reducible exact Below.refl _ _) | (with_reducible apply Below.dr) | (with_reducible apply Below.drn) | (with_reducible refine Below.setCell ?_ (by first | omega | (simp only; omega)) _) | (with_reducible apply Below.al) | (refine Below.tr ?_ (by with_reducible assumption))))⟩
set_option maxRecDepth 100000 in
set_option maxHeartbeats 2000000 in
theorem links1_no (hK : LK w b F) {Bx : Nat} (hX : w.cell? ⟨Bx, 0, none⟩ = some (.pointer (some ⟨b, 0, none⟩))) (h : (F.node 1).links ≠ F.names 1) :
    Calls Tryz.prog 52 #[.int .i64 1, (F.node 1).v, .pointer (some ⟨Bx, 0, none⟩)] w fun e w' => e = .panicked (faulte 7 1 0) ∧ Below w.heap.size w w' := by
  have hn := hK.nm 1 (by omega)
  have hbx := World.block_lt_of_cell? w _ hX
  have hlt := LKf.lt hK
  obtain ⟨⟨kind, links, opens, size, d0, d1, d2, d3, chain, parent⟩, hx⟩ : ∃ x, F.node 1 = x := ⟨_, rfl⟩
  rw [hx] at h ⊢
  obtain ⟨nm, hnm⟩ : ∃ x, F.names 1 = x := ⟨_, rfl⟩
  rw [hnm] at hn h
  have hn' : w.cell? ⟨b, 711, none⟩ = some (.int .u64 nm) := hn
  have hne : (links == nm) = false := by simpa using h
  clear hx h hn hK hnm
  have hbx' : Bx < w.heap.size := hbx
  go_enter Tryz.func52, Tryz.ntmps52
  go_wp2
  refine wp_region_still_tail 10 (by kernel_rfl) (by kernel_rfl) ?_; simp only [List.take_succ_cons, List.take_zero, List.drop_succ_cons, List.drop_zero]; change wpStill _ _ (World.drew _) _ _ _; repeat still_step
  refine wpStill_nil ?_; change wpList _ _ _ _ _ (World.drew _)
  go_wp2_with (go_at_call 36; refine (must_no _ _ _ _).mono ?_; rintro e w' ⟨rfl, rfl⟩)
  exact ⟨rfl, rfl, by (repeat (first | (with_reducible exact Below.refl _ _) | (with_reducible apply Below.dr) | (with_reducible apply Below.drn) | (with_reducible refine Below.setCell ?_ (by first | omega | (simp only; omega)) _) | (with_reducible apply Below.al) | (refine Below.tr ?_ (by with_reducible assumption))))⟩

/-- What stands behind the first name. -/
def LKS.named (F : LKS) : LKS := { F with names := fun n => if n = 1 then 1 else F.names n }
theorem named_names (F : LKS) (n : Nat) (h : n ≠ 1) : F.named.names n = F.names n := if_neg h
theorem LK.named {W : World} (h : LK W b F) : LK (W.setCell ⟨b, 711, none⟩ (.int .u64 1)) b F.named := by
  refine (LKf.setCell h 711 _).congr fun i hi => ?_
  unfold LKS.at
  by_cases e : i = 711
  · subst e; rfl
  · rw [if_neg e]
    by_cases h1 : i < 6
    · rw [if_pos h1, if_pos h1]; rfl
    · rw [if_neg h1, if_neg h1]
      by_cases h2 : i < 646
      · rw [if_pos h2, if_pos h2]; rfl
      · rw [if_neg h2, if_neg h2]
        by_cases h3 : i < 710
        · rw [if_pos h3, if_pos h3]; rfl
        · rw [if_neg h3, if_neg h3]
          by_cases h4 : i < 774
          · rw [if_pos h4, if_pos h4, named_names _ _ (by omega)]
          · rw [if_neg h4, if_neg h4]; rfl

set_option maxRecDepth 100000 in
set_option maxHeartbeats 2000000 in
theorem links_ok (hK : LK w b F) (N : Nat) (hN : F.g.I = N) (hN2 : 2 ≤ N) (hN64 : N ≤ 64) (hr1 : F.right 1 = true) (hr2 : ∀ k, 2 ≤ k → k < N → F.right k = false) (h0 : F.names 1 = 0) (hl : (F.node 1).links = 1) :
    Calls Tryz.prog 31 #[.pointer (some ⟨b, 0, none⟩)] w fun e w' => e = .returned (.tuple #[]) ∧ LK w' b F.named ∧ Kb b w.heap.size w w' := by
  have hn := hK.nm 1 (by omega)
  rw [h0] at hn
  have hn' : w.cell? ⟨b, 711, none⟩ = some (.int .u64 0) := hn
  have hf' : w.frozen? ⟨b, 711, none⟩ = false := LKf.frozen hK _
  have hlt := LKf.lt hK
  have hE : ∀ (ar : Array Value) (w : World), (callFunc 52 ar).run Tryz.prog w = .ok (.enter 52 ar) w := fun ar w => by kernel_rfl
  have hea := fun W => each_ret1 (w := W) (b := b) (F := F.named) 52 hE (.pointer (some ⟨w.heap.size, 0, none⟩)) N hN hN2 hN64 hr1 hr2
    (fun W => (LK W b F.named ∧ W.cell? ⟨w.heap.size, 0, none⟩ = some (.pointer (some ⟨b, 0, none⟩))) ∧ Kb b w.heap.size w W) (fun W => (LK W b F.named ∧ W.cell? ⟨w.heap.size, 0, none⟩ = some (.pointer (some ⟨b, 0, none⟩))) ∧ Kb b w.heap.size w W) (fun _ h => h.1.1) (fun _ h => h.1.1)
    (fun W h => (links1_yes h.1.1 h.1.2 (by show (F.node 1).links = _; rw [hl]; rfl)).mono fun e W' hh => ⟨hh.1, ⟨LKf.below h.1.1 hh.2, (hh.2.cell (p := ⟨w.heap.size, 0, none⟩) (World.block_lt_of_cell? W _ h.1.2)).trans h.1.2⟩, h.2.trans (Kb.of_below (hh.2.mono h.2.size))⟩)
  have HK := Lib.hid hK
  clear hK hN hr1 hr2 h0 hl hn hE
  go_enter Tryz.func31, Tryz.ntmps31
  go_wp2
  go_region
  go_wp2_with fail
  refine (hea _ ⟨⟨?_, ?_⟩, ?_⟩).mono ?_
  · exact LKf.drew (LKf.alloc (LK.named HK.out) _)
  · simp [go_sem]
  · exact Keep.drew (Keep.alloc (Kb.setCell w 711 _) (fun i hi => hi.1) _)
  rintro e w1 ⟨rfl, ⟨h1, -⟩, h2⟩
  go_wp2
  go_end0
  exact ⟨rfl, h1, h2⟩
set_option maxRecDepth 100000 in
set_option maxHeartbeats 2000000 in
theorem links_bad (hK : LK w b F) (N : Nat) (hN : F.g.I = N) (hN2 : 2 ≤ N) (hN64 : N ≤ 64) (hr1 : F.right 1 = true) (hr2 : ∀ k, 2 ≤ k → k < N → F.right k = false) (h0 : F.names 1 = 0) (hl : (F.node 1).links ≠ 1) :
    Calls Tryz.prog 31 #[.pointer (some ⟨b, 0, none⟩)] w fun e w' => e = .panicked (faulte 7 1 0) ∧ LK w' b F.named ∧ Kb b w.heap.size w w' := by
  have hn := hK.nm 1 (by omega)
  rw [h0] at hn
  have hn' : w.cell? ⟨b, 711, none⟩ = some (.int .u64 0) := hn
  have hf' : w.frozen? ⟨b, 711, none⟩ = false := LKf.frozen hK _
  have hlt := LKf.lt hK
  have hE : ∀ (ar : Array Value) (w : World), (callFunc 52 ar).run Tryz.prog w = .ok (.enter 52 ar) w := fun ar w => by kernel_rfl
  have hea := fun W => each_panic1 (w := W) (b := b) (F := F.named) 52 hE (.pointer (some ⟨w.heap.size, 0, none⟩)) N hN hN2 hN64 hr1 hr2 (faulte 7 1 0)
    (fun W => (LK W b F.named ∧ W.cell? ⟨w.heap.size, 0, none⟩ = some (.pointer (some ⟨b, 0, none⟩))) ∧ Kb b w.heap.size w W) (fun W => (LK W b F.named ∧ W.cell? ⟨w.heap.size, 0, none⟩ = some (.pointer (some ⟨b, 0, none⟩))) ∧ Kb b w.heap.size w W) (fun _ h => h.1.1)
    (fun W h => (links1_no h.1.1 h.1.2 (by show (F.node 1).links ≠ _; exact hl)).mono fun e W' hh => ⟨hh.1, ⟨LKf.below h.1.1 hh.2, (hh.2.cell (p := ⟨w.heap.size, 0, none⟩) (World.block_lt_of_cell? W _ h.1.2)).trans h.1.2⟩, h.2.trans (Kb.of_below (hh.2.mono h.2.size))⟩)
  have HK := Lib.hid hK
  clear hK hN hr1 hr2 h0 hl hn hE
  go_enter Tryz.func31, Tryz.ntmps31
  go_wp2
  go_region
  go_wp2_with fail
  refine (hea _ ⟨⟨?_, ?_⟩, ?_⟩).mono ?_
  · exact LKf.drew (LKf.alloc (LK.named HK.out) _)
  · simp [go_sem]
  · exact Keep.drew (Keep.alloc (Kb.setCell w 711 _) (fun i hi => hi.1) _)
  rintro e w1 ⟨rfl, ⟨h1, -⟩, h2⟩
  exact ⟨rfl, rfl, h1, h2⟩
end
end Go.Proofs
