import Derived.Test.YtfoknihgngobfaaGreatDoorSame
namespace Go.Proofs
open Go Go.RowKit

section
variable {w : World}
set_option maxRecDepth 100000 in
set_option maxHeartbeats 4000000 in
theorem works_ok (hG : Glob w) : Calls Tryz.prog 4 #[] w (SRet (.bool true) w) := by
  have hlf := fun {W : World} => format_ok W
  have hl3 := fun {W : World} {b : Nat} (h : WF W b (imgF 3 1)) (g : Glob W) => look3 h g
  have hl7 := fun {W : World} {b : Nat} (h : WF W b (imgF 7 1)) (g : Glob W) => look7 h g
  have hll := fun {W : World} {b : Nat} (h : WF W b (imgF 3 2)) (g : Glob W) => lookl h g
  have hr3 := fun {W : World} {b : Nat} (h : WF W b (imgF 3 1)) (g : Glob W) => reach3 h g
  have hnG : ∀ W : World, Glob W → (0 : Nat) < W.heap.size := fun W h => blk_lt h
  have g0 := hnG _ hG
  go_enter Tryz.func4, Tryz.ntmps4
  go_wp2_with fail
  obtain ⟨U0, hU⟩ : ∃ U0, w.alloc (.cells #[.int .i64 1, .int .i64 9, .int .i64 30] 25) = U0 := ⟨_, rfl⟩
  rw [hU]
  have hX : U0.heap[w.heap.size]? = some (.cells #[.int .i64 1, .int .i64 9, .int .i64 30] 25 (0, 0)) := by subst hU; exact heap_alloc_new _ _
  have hB : Below w.heap.size w U0 := by subst hU; (repeat (first | (with_reducible exact Below.refl _ _) | (with_reducible apply Below.dr) | (with_reducible apply Below.drn) | (with_reducible refine Below.setCell ?_ (by first | omega | (simp only; omega)) _) | (with_reducible apply Below.al) | (refine Below.tr ?_ (by with_reducible assumption))))
  clear hU
  refine hlf.mono ?_
  rintro e V1 ⟨b, rfl, hD, hb0, hb⟩
  have hxb : w.heap.size < b := by have := blk_lt hX; omega
  have hX := (hb.block _ (blk_lt hX)).trans hX
  have hB : Below w.heap.size w V1 := by (repeat (first | (with_reducible exact Below.refl _ _) | (with_reducible apply Below.dr) | (with_reducible apply Below.drn) | (with_reducible refine Below.setCell ?_ (by first | omega | (simp only; omega)) _) | (with_reducible apply Below.al) | (refine Below.tr ?_ (by with_reducible assumption))))
  have hG := hG.below hB
  clear hb hb0
  go_wp2_with fail
  refine (hl3 hD hG).mono ?_
  rintro e V2 ⟨rfl, hb⟩
  have hX := (hb.block _ (blk_lt hX)).trans hX
  have hD := hD.below hb
  have hG := hG.below hb
  have hB : Below w.heap.size w V2 := by (repeat (first | (with_reducible exact Below.refl _ _) | (with_reducible apply Below.dr) | (with_reducible apply Below.drn) | (with_reducible refine Below.setCell ?_ (by first | omega | (simp only; omega)) _) | (with_reducible apply Below.al) | (refine Below.tr ?_ (by with_reducible assumption))))
  clear hb
  go_wp2_with fail
  obtain ⟨U2, hU⟩ : ∃ U2, V2.alloc (.cells #[.int .i64 0, .int .i64 0, .int .i64 0] 29) = U2 := ⟨_, rfl⟩
  rw [hU]
  have hF : U2.heap[V2.heap.size]? = some (.cells #[.int .i64 0, .int .i64 0, .int .i64 0] 29 (0, 0)) := by subst hU; exact heap_alloc_new _ _
  have hX := (show U2.heap[_]? = V2.heap[_]? by subst hU; exact Below.heap_alloc _ _ _ (blk_lt hX)).trans hX
  have hbu : Below V2.heap.size V2 U2 := by subst hU; (repeat (first | (with_reducible exact Below.refl _ _) | (with_reducible apply Below.dr) | (with_reducible apply Below.drn) | (with_reducible refine Below.setCell ?_ (by first | omega | (simp only; omega)) _) | (with_reducible apply Below.al) | (refine Below.tr ?_ (by with_reducible assumption))))
  have hzhF : b < V2.heap.size := hD.lt
  have hD := hD.below hbu
  have hG := hG.below hbu
  have hB : Below w.heap.size w U2 := by (repeat (first | (with_reducible exact Below.refl _ _) | (with_reducible apply Below.dr) | (with_reducible apply Below.drn) | (with_reducible refine Below.setCell ?_ (by first | omega | (simp only; omega)) _) | (with_reducible apply Below.al) | (refine Below.tr ?_ (by with_reducible assumption))))
  clear hU hbu
  refine (hr3 hD hG).mono ?_
  rintro e V3 ⟨A, c, rfl, hzA, hA, hb⟩
  have hzA : b < A := by have := hD.lt; omega
  have hX := (hb.block _ (blk_lt hX)).trans hX
  have hF := (hb.block _ (blk_lt hF)).trans hF
  have hD := hD.below hb
  have hG := hG.below hb
  have hB : Below w.heap.size w V3 := by (repeat (first | (with_reducible exact Below.refl _ _) | (with_reducible apply Below.dr) | (with_reducible apply Below.drn) | (with_reducible refine Below.setCell ?_ (by first | omega | (simp only; omega)) _) | (with_reducible apply Below.al) | (refine Below.tr ?_ (by with_reducible assumption))))
  clear hb
  have chX := (fun i => cell_of_row _ _ i _ _ _ hX)
  go_wp2_with fail
  refine (rimap _).mono ?_
  rintro e V4 ⟨rfl, hb⟩
  have hX := (hb.block _ (blk_lt hX)).trans hX
  have hF := (hb.block _ (blk_lt hF)).trans hF
  have hD := hD.below hb
  have hA := (hb.cell (p := ⟨A, 0, none⟩) (World.block_lt_of_cell? _ _ hA)).trans hA
  have hG := hG.below hb
  have hB : Below w.heap.size w V4 := by (repeat (first | (with_reducible exact Below.refl _ _) | (with_reducible apply Below.dr) | (with_reducible apply Below.drn) | (with_reducible refine Below.setCell ?_ (by first | omega | (simp only; omega)) _) | (with_reducible apply Below.al) | (refine Below.tr ?_ (by with_reducible assumption))))
  clear hb
  have hc : V4.cell? ⟨b, 472, none⟩ = some (.int .u64 3) := hD.cell 472 (by omega)
  have hf := hD.frozen 472
  go_wp2_with fail
  have hset : ∀ i, (imgF 7 1) i = if i = 472 then 7 else (imgF 3 1) i := fun i => by
    unfold imgF
    by_cases h1 : i = 505
    · subst h1; rfl
    by_cases h2 : i = 472
    · subst h2; rfl
    simp [h1, h2]
  rw [show bits BinOp.or IntKind.u64 3 4 = 7 by decide]
  obtain ⟨U4, hU⟩ : ∃ U4, V4.setCell ⟨b, 472, none⟩ (.int .u64 7) = U4 := ⟨_, rfl⟩
  rw [hU]
  have hX := (show U4.heap[_]? = V4.heap[_]? by subst hU; exact Below.heap_setCell _ _ _ _ (by simp only; omega)).trans hX
  have hF := (show U4.heap[_]? = V4.heap[_]? by subst hU; exact Below.heap_setCell _ _ _ _ (by simp only; omega)).trans hF
  have hA := (show U4.cell? ⟨A, 0, none⟩ = V4.cell? ⟨A, 0, none⟩ by subst hU; exact World.cell?_setCell_far _ _ _ _ (by simp only; omega)).trans hA
  have hG : Glob U4 := (show U4.heap[_]? = V4.heap[_]? by subst hU; exact Below.heap_setCell _ _ _ _ (by simp only; omega)).trans hG
  have hB : Below w.heap.size w U4 := by subst hU; (repeat (first | (with_reducible exact Below.refl _ _) | (with_reducible apply Below.dr) | (with_reducible apply Below.drn) | (with_reducible refine Below.setCell ?_ (by first | omega | (simp only; omega)) _) | (with_reducible apply Below.al) | (refine Below.tr ?_ (by with_reducible assumption))))
  have hD : WF U4 b (imgF 7 1) := by subst hU; exact hD.set 472 7 _ hset
  clear hU hset
  clear hc hf chX
  refine (hl7 hD hG).mono ?_
  rintro e V5 ⟨rfl, hb⟩
  have hX := (hb.block _ (blk_lt hX)).trans hX
  have hF := (hb.block _ (blk_lt hF)).trans hF
  have hD := hD.below hb
  have hA := (hb.cell (p := ⟨A, 0, none⟩) (World.block_lt_of_cell? _ _ hA)).trans hA
  have hG := hG.below hb
  have hB : Below w.heap.size w V5 := by (repeat (first | (with_reducible exact Below.refl _ _) | (with_reducible apply Below.dr) | (with_reducible apply Below.drn) | (with_reducible refine Below.setCell ?_ (by first | omega | (simp only; omega)) _) | (with_reducible apply Below.al) | (refine Below.tr ?_ (by with_reducible assumption))))
  clear hb
  have chX := (fun i => cell_of_row _ _ i _ _ _ hX)
  have lX := blk_lt hX
  go_wp2_with fail
  clear chX lX
  obtain ⟨U5, hU⟩ : ∃ U5, V5.alloc (.cells #[.int .i64 5, .int .i64 2, .int .i64 0] 29) = U5 := ⟨_, rfl⟩
  rw [hU]
  have hH : U5.heap[V5.heap.size]? = some (.cells #[.int .i64 5, .int .i64 2, .int .i64 0] 29 (0, 0)) := by subst hU; exact heap_alloc_new _ _
  have hX := (show U5.heap[_]? = V5.heap[_]? by subst hU; exact Below.heap_alloc _ _ _ (blk_lt hX)).trans hX
  have hF := (show U5.heap[_]? = V5.heap[_]? by subst hU; exact Below.heap_alloc _ _ _ (blk_lt hF)).trans hF
  have hbu : Below V5.heap.size V5 U5 := by subst hU; (repeat (first | (with_reducible exact Below.refl _ _) | (with_reducible apply Below.dr) | (with_reducible apply Below.drn) | (with_reducible refine Below.setCell ?_ (by first | omega | (simp only; omega)) _) | (with_reducible apply Below.al) | (refine Below.tr ?_ (by with_reducible assumption))))
  have hzhH : b < V5.heap.size := hD.lt
  have hD := hD.below hbu
  have hA := (hbu.cell (p := ⟨A, 0, none⟩) (World.block_lt_of_cell? _ _ hA)).trans hA
  have hG := hG.below hbu
  have hB : Below w.heap.size w U5 := by (repeat (first | (with_reducible exact Below.refl _ _) | (with_reducible apply Below.dr) | (with_reducible apply Below.drn) | (with_reducible refine Below.setCell ?_ (by first | omega | (simp only; omega)) _) | (with_reducible apply Below.al) | (refine Below.tr ?_ (by with_reducible assumption))))
  clear hU hbu
  refine (rimap _).mono ?_
  rintro e V6 ⟨rfl, hb⟩
  have hX := (hb.block _ (blk_lt hX)).trans hX
  have hF := (hb.block _ (blk_lt hF)).trans hF
  have hH := (hb.block _ (blk_lt hH)).trans hH
  have hD := hD.below hb
  have hA := (hb.cell (p := ⟨A, 0, none⟩) (World.block_lt_of_cell? _ _ hA)).trans hA
  have hG := hG.below hb
  have hB : Below w.heap.size w V6 := by (repeat (first | (with_reducible exact Below.refl _ _) | (with_reducible apply Below.dr) | (with_reducible apply Below.drn) | (with_reducible refine Below.setCell ?_ (by first | omega | (simp only; omega)) _) | (with_reducible apply Below.al) | (refine Below.tr ?_ (by with_reducible assumption))))
  clear hb
  have hc : V6.cell? ⟨b, 472, none⟩ = some (.int .u64 7) := hD.cell 472 (by omega)
  have hf := hD.frozen 472
  have chX := (fun i => cell_of_row _ _ i _ _ _ hX)
  go_wp2_with fail
  have hset : ∀ i, (imgF 3 1) i = if i = 472 then 3 else (imgF 7 1) i := fun i => by
    unfold imgF
    by_cases h1 : i = 505
    · subst h1; rfl
    by_cases h2 : i = 472
    · subst h2; rfl
    simp [h1, h2]
  rw [show bits BinOp.andNot IntKind.u64 7 4 = 3 by decide]
  obtain ⟨U6, hU⟩ : ∃ U6, V6.setCell ⟨b, 472, none⟩ (.int .u64 3) = U6 := ⟨_, rfl⟩
  rw [hU]
  have hX := (show U6.heap[_]? = V6.heap[_]? by subst hU; exact Below.heap_setCell _ _ _ _ (by simp only; omega)).trans hX
  have hF := (show U6.heap[_]? = V6.heap[_]? by subst hU; exact Below.heap_setCell _ _ _ _ (by simp only; omega)).trans hF
  have hH := (show U6.heap[_]? = V6.heap[_]? by subst hU; exact Below.heap_setCell _ _ _ _ (by simp only; omega)).trans hH
  have hA := (show U6.cell? ⟨A, 0, none⟩ = V6.cell? ⟨A, 0, none⟩ by subst hU; exact World.cell?_setCell_far _ _ _ _ (by simp only; omega)).trans hA
  have hG : Glob U6 := (show U6.heap[_]? = V6.heap[_]? by subst hU; exact Below.heap_setCell _ _ _ _ (by simp only; omega)).trans hG
  have hB : Below w.heap.size w U6 := by subst hU; (repeat (first | (with_reducible exact Below.refl _ _) | (with_reducible apply Below.dr) | (with_reducible apply Below.drn) | (with_reducible refine Below.setCell ?_ (by first | omega | (simp only; omega)) _) | (with_reducible apply Below.al) | (refine Below.tr ?_ (by with_reducible assumption))))
  have hD : WF U6 b (imgF 3 1) := by subst hU; exact hD.set 472 3 _ hset
  clear hU hset
  clear hc hf chX
  refine (rinode _).mono ?_
  rintro e V7 ⟨rfl, hb⟩
  have hX := (hb.block _ (blk_lt hX)).trans hX
  have hF := (hb.block _ (blk_lt hF)).trans hF
  have hH := (hb.block _ (blk_lt hH)).trans hH
  have hD := hD.below hb
  have hA := (hb.cell (p := ⟨A, 0, none⟩) (World.block_lt_of_cell? _ _ hA)).trans hA
  have hG := hG.below hb
  have hB : Below w.heap.size w V7 := by (repeat (first | (with_reducible exact Below.refl _ _) | (with_reducible apply Below.dr) | (with_reducible apply Below.drn) | (with_reducible refine Below.setCell ?_ (by first | omega | (simp only; omega)) _) | (with_reducible apply Below.al) | (refine Below.tr ?_ (by with_reducible assumption))))
  clear hb
  have hc : V7.cell? ⟨b, 505, none⟩ = some (.int .u64 1) := hD.cell 505 (by omega)
  have hf := hD.frozen 505
  go_wp2_with fail
  have hset : ∀ i, (imgF 3 2) i = if i = 505 then 2 else (imgF 3 1) i := fun i => by
    unfold imgF
    by_cases h1 : i = 505
    · subst h1; rfl
    by_cases h2 : i = 472
    · subst h2; rfl
    simp [h1, h2]
  obtain ⟨U7, hU⟩ : ∃ U7, V7.setCell ⟨b, 505, none⟩ (.int .u64 2) = U7 := ⟨_, rfl⟩
  rw [hU]
  have hX := (show U7.heap[_]? = V7.heap[_]? by subst hU; exact Below.heap_setCell _ _ _ _ (by simp only; omega)).trans hX
  have hF := (show U7.heap[_]? = V7.heap[_]? by subst hU; exact Below.heap_setCell _ _ _ _ (by simp only; omega)).trans hF
  have hH := (show U7.heap[_]? = V7.heap[_]? by subst hU; exact Below.heap_setCell _ _ _ _ (by simp only; omega)).trans hH
  have hA := (show U7.cell? ⟨A, 0, none⟩ = V7.cell? ⟨A, 0, none⟩ by subst hU; exact World.cell?_setCell_far _ _ _ _ (by simp only; omega)).trans hA
  have hG : Glob U7 := (show U7.heap[_]? = V7.heap[_]? by subst hU; exact Below.heap_setCell _ _ _ _ (by simp only; omega)).trans hG
  have hB : Below w.heap.size w U7 := by subst hU; (repeat (first | (with_reducible exact Below.refl _ _) | (with_reducible apply Below.dr) | (with_reducible apply Below.drn) | (with_reducible refine Below.setCell ?_ (by first | omega | (simp only; omega)) _) | (with_reducible apply Below.al) | (refine Below.tr ?_ (by with_reducible assumption))))
  have hD : WF U7 b (imgF 3 2) := by subst hU; exact hD.set 505 2 _ hset
  clear hU hset
  clear hc hf
  refine (hll hD hG).mono ?_
  rintro e V8 ⟨rfl, hb⟩
  have hX := (hb.block _ (blk_lt hX)).trans hX
  have hF := (hb.block _ (blk_lt hF)).trans hF
  have hH := (hb.block _ (blk_lt hH)).trans hH
  have hD := hD.below hb
  have hA := (hb.cell (p := ⟨A, 0, none⟩) (World.block_lt_of_cell? _ _ hA)).trans hA
  have hG := hG.below hb
  have hB : Below w.heap.size w V8 := by (repeat (first | (with_reducible exact Below.refl _ _) | (with_reducible apply Below.dr) | (with_reducible apply Below.drn) | (with_reducible refine Below.setCell ?_ (by first | omega | (simp only; omega)) _) | (with_reducible apply Below.al) | (refine Below.tr ?_ (by with_reducible assumption))))
  clear hb
  have cF := (fun i => cell_of_row _ _ i _ _ _ hF)
  have cH := (fun i => cell_of_row _ _ i _ _ _ hH)
  have lF := blk_lt hF
  have lH := blk_lt hH
  have lA := World.block_lt_of_cell? _ _ hA
  have lA' : A < V8.heap.size := lA
  go_wp2_with fail
  obtain ⟨U9, hU⟩ : ∃ U9, (V8.alloc (.cells #[.int .i64 7, .int .i64 1, .int .i64 0] 29)).alloc (.cells #[.int .i64 1] 3) = U9 := ⟨_, rfl⟩
  rw [hU]
  have hI : U9.heap[V8.heap.size]? = some (.cells #[.int .i64 7, .int .i64 1, .int .i64 0] 29 (0, 0)) := by subst hU; exact (Below.heap_alloc _ _ _ (by simp)).trans (heap_alloc_new _ _)
  have hJ : U9.heap[V8.heap.size + 1]? = some (.cells #[.int .i64 1] 3 (0, 0)) := by
    subst hU
    have h := heap_alloc_new (V8.alloc (.cells #[.int .i64 7, .int .i64 1, .int .i64 0] 29)) (.cells #[.int .i64 1] 3)
    simp only [World.size_alloc] at h
    exact h
  have hbu : Below V8.heap.size V8 U9 := by subst hU; (repeat (first | (with_reducible exact Below.refl _ _) | (with_reducible apply Below.dr) | (with_reducible apply Below.drn) | (with_reducible refine Below.setCell ?_ (by first | omega | (simp only; omega)) _) | (with_reducible apply Below.al) | (refine Below.tr ?_ (by with_reducible assumption))))
  have hF := (hbu.block _ (blk_lt hF)).trans hF
  have hH := (hbu.block _ (blk_lt hH)).trans hH
  have hA := (hbu.cell (p := ⟨A, 0, none⟩) (World.block_lt_of_cell? _ _ hA)).trans hA
  have hB : Below w.heap.size w U9 := by (repeat (first | (with_reducible exact Below.refl _ _) | (with_reducible apply Below.dr) | (with_reducible apply Below.drn) | (with_reducible refine Below.setCell ?_ (by first | omega | (simp only; omega)) _) | (with_reducible apply Below.al) | (refine Below.tr ?_ (by with_reducible assumption))))
  clear hU hbu cF cH lF lH lA lA'
  refine (same_ok hA (by rw [cell_of_row _ _ _ _ _ _ hJ]; rfl)).mono ?_
  rintro e V9 ⟨rfl, hb⟩
  have hF := (hb.block _ (blk_lt hF)).trans hF
  have hH := (hb.block _ (blk_lt hH)).trans hH
  have hI := (hb.block _ (blk_lt hI)).trans hI
  have hB : Below w.heap.size w V9 := by (repeat (first | (with_reducible exact Below.refl _ _) | (with_reducible apply Below.dr) | (with_reducible apply Below.drn) | (with_reducible refine Below.setCell ?_ (by first | omega | (simp only; omega)) _) | (with_reducible apply Below.al) | (refine Below.tr ?_ (by with_reducible assumption))))
  clear hb
  have cF := (fun i => cell_of_row _ _ i _ _ _ hF)
  have cH := (fun i => cell_of_row _ _ i _ _ _ hH)
  have cI := (fun i => cell_of_row _ _ i _ _ _ hI)
  go_wp2
  go_ret
  exact SRet.mk rfl (by (repeat (first | (with_reducible exact Below.refl _ _) | (with_reducible apply Below.dr) | (with_reducible apply Below.drn) | (with_reducible refine Below.setCell ?_ (by first | omega | (simp only; omega)) _) | (with_reducible apply Below.al) | (refine Below.tr ?_ (by with_reducible assumption)))))
end
end Go.Proofs
