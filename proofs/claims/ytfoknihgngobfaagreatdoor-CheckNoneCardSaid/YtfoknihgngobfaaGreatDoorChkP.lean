import Derived.Test.YtfoknihgngobfaaGreatDoorChkO
namespace Go.Proofs
open Go Go.RowKit

section
variable {Γ : Nat → Option Obj} {L : Nat → Prop} {w : World} {b : Nat} {F : LKS} {s : VS} {a m : Int}
set_option maxRecDepth 100000 in
set_option maxHeartbeats 2000000 in
theorem all1_none (hK : LK w b F) (hV : VW Γ L w F.p s) {Bx Bo : Nat} (hX : w.cell? ⟨Bx, 0, none⟩ = some (.pointer (some ⟨b, 0, none⟩))) (hc : (F.node 1).chain = 0) (h0 : (s.iget F.g 1).2 = 0) (he : ∀ k : Nat, k < 12 → s.bat F.g 1 k = (0, 0)) :
    Calls Tryz.prog 54 #[.int .i64 1, (F.node 1).v, .pointer (some ⟨Bx, 0, none⟩), .pointer (some ⟨Bo, 0, none⟩)] w fun e w' => e = .returned (.tuple #[]) ∧ Below w.heap.size w w' := by
  have hbx : Bx < w.heap.size := World.block_lt_of_cell? w _ hX
  have hpl := fun {L : Nat → Prop} {W : World} (hK : LK W b F) (h : VW Γ L W F.p s) (d : Value) => places_none hK h 1 d h0 he
  obtain ⟨⟨kind, links, opens, size, d0, d1, d2, d3, chain, parent⟩, hx⟩ : ∃ x, F.node 1 = x := ⟨_, rfl⟩
  rw [hx] at hc ⊢
  simp only at hc
  subst hc
  clear hx h0 he
  go_enter Tryz.func54, Tryz.ntmps54
  go_wp2_with fail
  refine (hpl (LKf.alloc (LKf.alloc hK _) _) ((hV.alloc _).alloc _) _).mono ?_
  rintro e w1 ⟨rfl, hb1⟩
  have hX1 := (hb1.block w.heap.size (by simp; omega)).trans (heap_alloc2_old _ _ _)
  have hxc := (fun i => cell_of_row _ _ i _ _ _ hX1)
  have hY1 := (hb1.block (w.heap.size + 1) (by simp)).trans (heap_alloc2_new _ _ _)
  have hyc := (fun i => cell_of_row _ _ i _ _ _ hY1)
  go_wp2
  refine wp_loop_rounds 1 ?_
  rw [rounds_succ]; go_wp2
  go_end0
  exact ⟨rfl, by (repeat (first | (with_reducible exact Below.refl _ _) | (with_reducible apply Below.dr) | (with_reducible apply Below.drn) | (with_reducible refine Below.setCell ?_ (by first | omega | (simp only; omega)) _) | (with_reducible apply Below.al) | (refine Below.tr ?_ (by with_reducible assumption))))⟩

theorem run_lookup_none {w : World} {bm c : Nat} (hm : w.heap[bm]? = some (.map #[] c)) (n : Int) :
    (Instr.lookup 100 (.map (some bm)) (.int .i64 n) false).run Tryz.prog w = .ok (.bool false) w := by
  have hz : ∀ w, (zeroValue 4).run Tryz.prog w = .ok (.bool false) w := fun w => by kernel_rfl
  have hck : ∀ b w, (Instr.checkKey b 10000 3 (.int .i64 n)).run Tryz.prog w = .ok () w := fun b w => by kernel_rfl
  have hu : ∀ w, (underlying 100).run Tryz.prog w = .ok (.map 3 4) w := fun w => by kernel_rfl
  have hu3 : ∀ w, (underlying 3).run Tryz.prog w = .ok (.int .i64) w := fun w => by kernel_rfl
  have hg : (getObj bm).run Tryz.prog w = .ok (.map #[] c) w := by simp [getObj, Sem.run, hm]
  simp only [Instr.lookup, Sem.run_bind, hu, hg, Result.andThen, hck, Instr.findKey, hu3, Instr.findNow, Sem.run_pure]
  simp [hz]

set_option maxRecDepth 100000 in
set_option maxHeartbeats 4000000 in
theorem all_ok (hK : LK w b F) (hV : VW Γ L w F.p s) (hq : MB w F.mb F.p a m) (ha : 0 ≤ a ∧ a ≤ 1000000) (hm : m ≤ 1000000) (N : Nat) (hN : F.g.I = N) (hN2 : 2 ≤ N) (hN64 : N ≤ 64) (hr1 : F.right 1 = true) (hr2 : ∀ k, 2 ≤ k → k < N → F.right k = false)
    (hc : (F.node 1).chain = 0) (h0 : (s.iget F.g 1).2 = 0) (he : ∀ k : Nat, k < 12 → s.bat F.g 1 k = (0, 0)) (hB0 : 2 ≤ F.g.B ∧ F.g.B ≤ 512) (hbit : ∀ k : Nat, 1 ≤ k → (k : Int) < F.g.B → s.bit a m k = false) :
    Calls Tryz.prog 33 #[.pointer (some ⟨b, 0, none⟩)] w (SRet (.tuple #[]) w) := by
  have hlt := LKf.lt hK
  have hE : ∀ (ar : Array Value) (w : World), (callFunc 54 ar).run Tryz.prog w = .ok (.enter 54 ar) w := fun ar w => by kernel_rfl
  have hea := fun W => each_ret2 (w := W) (b := b) (F := F) 54 hE (.pointer (some ⟨w.heap.size, 0, none⟩)) (.pointer (some ⟨w.heap.size + 1 + 1, 0, none⟩)) N hN hN2 hN64 hr1 hr2
    (fun W => (LK W b F ∧ W.cell? ⟨w.heap.size, 0, none⟩ = some (.pointer (some ⟨b, 0, none⟩)) ∧ W.heap[w.heap.size + 1]? = some (.map #[] 0) ∧ W.cell? ⟨w.heap.size + 1 + 1, 0, none⟩ = some (.map (some (w.heap.size + 1)))) ∧ Below w.heap.size w W)
    (fun W => (LK W b F ∧ W.cell? ⟨w.heap.size, 0, none⟩ = some (.pointer (some ⟨b, 0, none⟩)) ∧ W.heap[w.heap.size + 1]? = some (.map #[] 0) ∧ W.cell? ⟨w.heap.size + 1 + 1, 0, none⟩ = some (.map (some (w.heap.size + 1)))) ∧ Below w.heap.size w W) (fun _ h => h.1.1) (fun _ h => h.1.1)
    (fun W h => (all1_none h.1.1 (hV.below h.2) h.1.2.1 hc h0 he (Bo := w.heap.size + 1 + 1)).mono fun e W' hh => ⟨hh.1, ⟨LKf.below h.1.1 hh.2, (hh.2.cell (p := ⟨w.heap.size, 0, none⟩) (World.block_lt_of_cell? W _ h.1.2.1)).trans h.1.2.1,
      (hh.2.block _ (blk_lt h.1.2.2.1)).trans h.1.2.2.1, (hh.2.cell (p := ⟨w.heap.size + 1 + 1, 0, none⟩) (World.block_lt_of_cell? W _ h.1.2.2.2)).trans h.1.2.2.2⟩, h.2.trans (hh.2.mono h.2.size)⟩)
  have hmm := @run_makeMap Tryz.prog
  have HK := Lib.hid hK
  have HB := Lib.hid hbit
  obtain ⟨B0, B1⟩ := hB0
  clear hK hN hr1 hr2 h0 hc he hE hbit
  go_enter Tryz.func33, Tryz.ntmps33
  go_wp2_with fail
  refine (hea _ ⟨⟨?_, ?_, ?_, ?_⟩, ?_⟩).mono ?_
  · exact LKf.alloc (LKf.alloc (LKf.alloc HK.out _) _) _
  · simp [go_sem]
  · exact (Below.heap_alloc _ _ _ (by simp)).trans (heap_alloc2_new _ _ _)
  · simp [go_sem]
  · (repeat (first | (with_reducible exact Below.refl _ _) | (with_reducible apply Below.dr) | (with_reducible apply Below.drn) | (with_reducible refine Below.setCell ?_ (by first | omega | (simp only; omega)) _) | (with_reducible apply Below.al) | (refine Below.tr ?_ (by with_reducible assumption))))
  rintro e w1 ⟨rfl, ⟨h1, h2, h3, h4⟩, h5⟩
  go_wp2
  go_loopw [3] (fun v wi => ∃ k : Nat, 1 ≤ k ∧ (k : Int) ≤ F.g.B ∧ v = .int .i64 k ∧ Below w1.heap.size w1 wi) (fun v _ => (F.g.B - intOf v).toNat)
  case atStart => exact ⟨1, by omega, by omega, rfl, Below.refl _ _⟩
  case round =>
    obtain ⟨k, hk1, hkB, rfl, hBi⟩ := hrel
    have hKi : LK wr b F := LKf.below h1 hBi
    obtain ⟨c0, c1, c2, c3, c4, c5⟩ := hKi.hd
    have hx := (hBi.cell (p := ⟨w.heap.size, 0, none⟩) (World.block_lt_of_cell? w1 _ h2)).trans h2
    by_cases hlt2 : (k : Int) < F.g.B
    · have hmp := (hBi.block _ (blk_lt h3)).trans h3
      have hox := (hBi.cell (p := ⟨w.heap.size + 1 + 1, 0, none⟩) (World.block_lt_of_cell? w1 _ h4)).trans h4
      have hVi := (hV.below h5).below hBi
      have hqi : MB wr F.mb F.p a m := (hq.below h5).below hBi
      have hget := fun {W : World} (h : VW Γ L W F.p s) (h2 : MB W F.mb F.p a m) => mget_any h h2 ha hm k
      rw [HB.out k hk1 hlt2] at hget
      have hS : ∀ W, Below wr.heap.size wr W → (W.cell? ⟨w.heap.size, 0, none⟩ = some (.pointer (some ⟨b, 0, none⟩)) ∧ W.cell? ⟨b, 5, none⟩ = some (.pointer (some ⟨F.mb, 0, none⟩)) ∧ W.cell? ⟨w.heap.size + 1 + 1, 0, none⟩ = some (.map (some (w.heap.size + 1))) ∧ W.heap[w.heap.size + 1]? = some (.map #[] 0)) ∧ Below wr.heap.size wr W := fun W hb =>
        ⟨⟨(hb.cell (p := ⟨w.heap.size, 0, none⟩) (World.block_lt_of_cell? wr _ hx)).trans hx, (LK.hd (LKf.below hKi hb)).2.2.2.2.2, (hb.cell (p := ⟨w.heap.size + 1 + 1, 0, none⟩) (World.block_lt_of_cell? wr _ hox)).trans hox, (hb.block _ (blk_lt hmp)).trans hmp⟩, hb⟩
      have hlk := fun (W : World) (h : W.heap[w.heap.size + 1]? = some (.map #[] 0)) => run_lookup_none h (k : Int)
      have HS := Lib.hid hS
      clear hea hS
      go_wp2
      go_region_held3 (fun W => (W.cell? ⟨w.heap.size, 0, none⟩ = some (.pointer (some ⟨b, 0, none⟩)) ∧ W.cell? ⟨b, 5, none⟩ = some (.pointer (some ⟨F.mb, 0, none⟩)) ∧ W.cell? ⟨w.heap.size + 1 + 1, 0, none⟩ = some (.map (some (w.heap.size + 1))) ∧ W.heap[w.heap.size + 1]? = some (.map #[] 0)) ∧ Below wr.heap.size wr W)
        ((refine HS.out _ ?_; (repeat (first | (with_reducible exact Below.refl _ _) | (with_reducible apply Below.dr) | (with_reducible apply Below.drn) | (with_reducible refine Below.setCell ?_ (by first | omega | (simp only; omega)) _) | (with_reducible apply Below.al) | (refine Below.tr ?_ (by with_reducible assumption))))))
        (first
          | (go_at_call 42; refine (hget (hVi.below (by (repeat (first | (with_reducible exact Below.refl _ _) | (with_reducible apply Below.dr) | (with_reducible apply Below.drn) | (with_reducible refine Below.setCell ?_ (by first | omega | (simp only; omega)) _) | (with_reducible apply Below.al) | (refine Below.tr ?_ (by with_reducible assumption)))))) (hqi.below (by (repeat (first | (with_reducible exact Below.refl _ _) | (with_reducible apply Below.dr) | (with_reducible apply Below.drn) | (with_reducible refine Below.setCell ?_ (by first | omega | (simp only; omega)) _) | (with_reducible apply Below.al) | (refine Below.tr ?_ (by with_reducible assumption))))))).mono ?_; rintro e w2 ⟨rfl, hb2⟩)
          | (go_at_call 36; refine (must_yes _ _ _ _).mono ?_; rintro e w' ⟨rfl, rfl⟩))
      all_goals go_wp2
      all_goals exact ⟨⟨k + 1, by omega, by omega, by go_num, hBi.trans (Below.mono (And.right ‹_ ∧ Below wr.heap.size wr w2›) hBi.size)⟩, by simp [intOf]; omega⟩
    · have hnl : ¬ (k : Int) < F.g.B := hlt2
      go_wp2
      go_end0
      exact ⟨rfl, h5.trans (hBi.mono h5.size)⟩
set_option maxRecDepth 100000 in
set_option maxHeartbeats 2000000 in
theorem tails1_dir (hK : LK w b F) {Bx : Nat} (hX : w.cell? ⟨Bx, 0, none⟩ = some (.pointer (some ⟨b, 0, none⟩))) (hc : (F.node 1).chain = 0) (hk : (F.node 1).kind = 2) :
    Calls Tryz.prog 57 #[.int .i64 1, (F.node 1).v, .pointer (some ⟨Bx, 0, none⟩)] w fun e w' => e = .returned (.tuple #[]) ∧ Below w.heap.size w w' := by
  have hbx : Bx < w.heap.size := World.block_lt_of_cell? w _ hX
  obtain ⟨⟨kind, links, opens, size, d0, d1, d2, d3, chain, parent⟩, hx⟩ : ∃ x, F.node 1 = x := ⟨_, rfl⟩
  rw [hx] at hc hk ⊢
  simp only at hc hk
  subst hc hk
  clear hx hK
  go_enter Tryz.func57, Tryz.ntmps57
  go_wp2
  go_quiet ((go_at_call 36; exact Calls.quiet_of_same ((must_yes _ _ _ _).mono fun e w' h => ⟨h.1, h.2.symm⟩)))
  go_wp2
  refine bodyPost_ret (results_none rfl _ _ _) rfl ?_
  exact ⟨rfl, by (repeat (first | (with_reducible exact Below.refl _ _) | (with_reducible apply Below.dr) | (with_reducible apply Below.drn) | (with_reducible refine Below.setCell ?_ (by first | omega | (simp only; omega)) _) | (with_reducible apply Below.al) | (refine Below.tr ?_ (by with_reducible assumption))))⟩

set_option maxRecDepth 100000 in
set_option maxHeartbeats 2000000 in
theorem tails_ok (hK : LK w b F) (N : Nat) (hN : F.g.I = N) (hN2 : 2 ≤ N) (hN64 : N ≤ 64) (hr1 : F.right 1 = true) (hr2 : ∀ k, 2 ≤ k → k < N → F.right k = false) (hc : (F.node 1).chain = 0) (hk : (F.node 1).kind = 2) :
    Calls Tryz.prog 34 #[.pointer (some ⟨b, 0, none⟩)] w (SRet (.tuple #[]) w) := by
  have hlt := LKf.lt hK
  have hE : ∀ (ar : Array Value) (w : World), (callFunc 57 ar).run Tryz.prog w = .ok (.enter 57 ar) w := fun ar w => by kernel_rfl
  have hea := fun W => each_ret1 (w := W) (b := b) (F := F) 57 hE (.pointer (some ⟨w.heap.size, 0, none⟩)) N hN hN2 hN64 hr1 hr2
    (fun W => (LK W b F ∧ W.cell? ⟨w.heap.size, 0, none⟩ = some (.pointer (some ⟨b, 0, none⟩))) ∧ Below w.heap.size w W) (fun W => (LK W b F ∧ W.cell? ⟨w.heap.size, 0, none⟩ = some (.pointer (some ⟨b, 0, none⟩))) ∧ Below w.heap.size w W) (fun _ h => h.1.1) (fun _ h => h.1.1)
    (fun W h => (tails1_dir h.1.1 h.1.2 hc hk).mono fun e W' hh => ⟨hh.1, ⟨LKf.below h.1.1 hh.2, (hh.2.cell (p := ⟨w.heap.size, 0, none⟩) (World.block_lt_of_cell? W _ h.1.2)).trans h.1.2⟩, h.2.trans (hh.2.mono h.2.size)⟩)
  have HK := Lib.hid hK
  clear hK hN hr1 hr2 hc hk hE
  go_enter Tryz.func34, Tryz.ntmps34
  go_wp2_with fail
  refine (hea _ ⟨⟨?_, ?_⟩, ?_⟩).mono ?_
  · exact LKf.alloc HK.out _
  · simp [go_sem]
  · (repeat (first | (with_reducible exact Below.refl _ _) | (with_reducible apply Below.dr) | (with_reducible apply Below.drn) | (with_reducible refine Below.setCell ?_ (by first | omega | (simp only; omega)) _) | (with_reducible apply Below.al) | (refine Below.tr ?_ (by with_reducible assumption))))
  rintro e w1 ⟨rfl, ⟨h1, -⟩, h2⟩
  go_wp2
  go_end0
  exact ⟨rfl, h2⟩
end
end Go.Proofs
