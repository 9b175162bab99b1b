import Derived.Test.YtfoknihgngobfaaGreatDoorRef
import Derived.Test.YtfoknihgngobfaaGreatDoorOf
import Derived.Deep.OwnRows
namespace Go.Proofs
open Go Go.RowKit

/-- The words of a device lie at b: f. -/
def WF (w : World) (b : Nat) (f : Nat → Int) : Prop := ∃ A : Array Value, w.heap[b]? = some (.cells A 37 (0, 0)) ∧ A.size = 872 ∧ ∀ i, i < 872 → A[i]? = some (.int .u64 (f i))
theorem WF.cell {w : World} {b : Nat} {f : Nat → Int} (h : WF w b f) (i : Nat) (hi : i < 872) : w.cell? ⟨b, i, none⟩ = some (.int .u64 (f i)) := by
  obtain ⟨A, h1, _, h3⟩ := h
  exact (cell_of_row _ _ i _ _ _ h1).trans (h3 i hi)
theorem WF.frozen {w : World} {b : Nat} {f : Nat → Int} (h : WF w b f) (i : Nat) : w.frozen? ⟨b, i, none⟩ = false := by
  obtain ⟨A, h1, _, h3⟩ := h
  exact frozen_of_row _ _ i _ _ h1
theorem WF.lt {w : World} {b : Nat} {f : Nat → Int} (h : WF w b f) : b < w.heap.size := by
  obtain ⟨A, h1, _, h3⟩ := h
  exact blk_lt h1
theorem aset {A : Array Value} {f : Nat → Int} (h2 : A.size = 872 ∧ ∀ i, i < 872 → A[i]? = some (.int .u64 (f i))) (k : Nat) (x : Int) (g : Nat → Int) (hg : ∀ i, g i = if i = k then x else f i) : (A.setIfInBounds k (.int .u64 x)).size = 872 ∧ ∀ i, i < 872 → (A.setIfInBounds k (.int .u64 x))[i]? = some (.int .u64 (g i)) := by
  refine ⟨by simp [h2.1], fun i hi => ?_⟩
  rw [Array.getElem?_setIfInBounds, hg i]
  have h3 := h2.2 i hi
  by_cases e : k = i
  · rw [if_pos e, if_pos e.symm, if_pos (by have := h2.1; omega)]
  · rw [if_neg e, if_neg (fun h => e h.symm), h3]
theorem WF.set {w : World} {b : Nat} {f : Nat → Int} (h : WF w b f) (k : Nat) (x : Int) (g : Nat → Int) (hg : ∀ i, g i = if i = k then x else f i) : WF (w.setCell ⟨b, k, none⟩ (.int .u64 x)) b g := by
  obtain ⟨A, h1, h2, h3⟩ := h
  refine ⟨_, setCell_block _ h1, by simp [h2], fun i hi => ?_⟩
  rw [Array.getElem?_setIfInBounds, hg i]
  by_cases e : k = i
  · rw [if_pos e, if_pos e.symm, if_pos (by omega)]
  · rw [if_neg e, if_neg (fun h => e h.symm), h3 i hi]
theorem WF.other {w : World} {b : Nat} {f : Nat → Int} (h : WF w b f) (w' : World) (hb : w'.heap[b]? = w.heap[b]?) : WF w' b f := by
  obtain ⟨A, h1, h2⟩ := h
  exact ⟨A, hb.trans h1, h2⟩
theorem WF.below {w w' : World} {b : Nat} {f : Nat → Int} (h : WF w b f) (hb : Below w.heap.size w w') : WF w' b f := h.other w' (hb.block _ h.lt)

/-- The words of the anchor's device. -/
def imgF (m l : Int) (i : Nat) : Int := if i = 505 then l else if i = 504 then 2 else if i = 480 then 1 else if i = 472 then m else if i = 3 then 30 else if i = 2 then 9 else if i = 1 then 1 else if i = 0 then magic else 0
def imgL (m l : Int) : List Int := (List.range 872).map (imgF m l)
theorem imgL_at (m l : Int) (i : Nat) (hi : i < 872) : (imgL m l)[i]? = some (imgF m l i) := by simp [imgL, hi]
theorem imgL_len (m l : Int) : (imgL m l).length = 872 := by simp [imgL]
theorem WF.sl {w : World} {b : Nat} {m l : Int} (h : WF w b (imgF m l)) : SL w (.slice (some ⟨b, 0, none⟩) 872 872) (imgL m l) := by
  refine ⟨_, 872, by rw [imgL_len], fun _ => ⟨b, 0, rfl, fun i x hx => ?_⟩⟩
  have hi : i < 872 := by have := (List.getElem?_eq_some_iff.1 hx).1; rwa [imgL_len] at this
  rw [imgL_at m l i hi] at hx
  injection hx with hx
  rw [Nat.zero_add, ← hx]
  exact h.cell i hi

section
variable {w : World}
set_option maxRecDepth 100000 in
set_option maxHeartbeats 1000000 in
theorem format_ok (w : World) : Calls Tryz.prog 8 #[gw] w fun e w' => ∃ b, e = .returned (.slice (some ⟨b, 0, none⟩) 872 872) ∧ WF w' b (imgF 3 1) ∧ w.heap.size ≤ b ∧ Below w.heap.size w w' := by
  obtain ⟨Z, hZ⟩ : ∃ Z, madeCells #[Value.int .u64 0] 872 = Z := ⟨_, rfl⟩
  have hmk : ∀ w, (Instr.makeSlice 22 (.int .i64 872) (.int .i64 872)).run Tryz.prog w = .ok (.slice (some ⟨w.heap.size, 0, none⟩) 872 872) (w.alloc (.cells Z 37)) := by
    subst hZ
    exact fun w => run_make_row' 22 37 (.int .u64 0) 8 Tryz.underlying22 (by kernel_rfl) rfl .i64 .i64 872 (by decide) (by decide) w
  have hZs : Z.size = 872 ∧ ∀ i, i < 872 → Z[i]? = some (.int .u64 0) := by
    subst hZ
    exact ⟨size_madeCells _ _, fun i hi => by simp [madeCells, hi, Nat.mod_one]⟩
  clear hZ
  have z0 := hZs.2 0 (by omega)
  have z1 := hZs.2 1 (by omega)
  have z2 := hZs.2 2 (by omega)
  have z3 := hZs.2 3 (by omega)
  have HZ := Lib.hid hZs
  clear hZs
  go_enter Tryz.func8, Tryz.ntmps8
  go_wp2_with (first
    | (go_at_call 17; refine (rmay _).mono ?_; rintro e w1 ⟨rfl, hb1⟩; have hX1 := (hb1.block w.heap.size (by simp)).trans (heap_alloc_new _ _); have xc1 := (fun i => cell_of_row _ _ i _ _ _ hX1); have hz1 := blk_lt hX1; have hB1 : Below w.heap.size w w1 := (by (repeat (first | (with_reducible exact Below.refl _ _) | (with_reducible apply Below.dr) | (with_reducible apply Below.drn) | (with_reducible refine Below.setCell ?_ (by first | omega | (simp only; omega)) _) | (with_reducible apply Below.al) | (refine Below.tr ?_ (by with_reducible assumption))))); clear hb1)
    | (go_at_call 18; refine (rwords _).mono ?_; rintro e w2 ⟨rfl, hb2⟩; have hX2 := (hb2.block w.heap.size hz1).trans hX1; have xc2 := (fun i => cell_of_row _ _ i _ _ _ hX2); have hz2 := blk_lt hX2; have hB2 : Below w.heap.size w w2 := (by (repeat (first | (with_reducible exact Below.refl _ _) | (with_reducible apply Below.dr) | (with_reducible apply Below.drn) | (with_reducible refine Below.setCell ?_ (by first | omega | (simp only; omega)) _) | (with_reducible apply Below.al) | (refine Below.tr ?_ (by with_reducible assumption))))); clear hX1 xc1 hB1 hb2 hz1))
  obtain ⟨U, hU⟩ : ∃ U, w2.alloc (.cells ((((Z.setIfInBounds 0 (.int .u64 32762617960297063)).setIfInBounds 1 (.int .u64 1)).setIfInBounds 2 (.int .u64 9)).setIfInBounds 3 (.int .u64 30)) 37) = U := ⟨_, rfl⟩
  rw [hU]
  have hB0 : w.heap.size ≤ w2.heap.size := by omega
  have hD : WF U w2.heap.size (fun i => if i = 3 then 30 else if i = 2 then 9 else if i = 1 then 1 else if i = 0 then magic else 0) := by
    subst hU
    exact ⟨_, heap_alloc_new _ _, aset (aset (aset (aset (f := fun _ => 0) HZ.out 0 magic (fun i => if i = 0 then magic else 0) (fun _ => rfl)) 1 1 (fun i => if i = 1 then 1 else if i = 0 then magic else 0) (fun _ => rfl)) 2 9 (fun i => if i = 2 then 9 else if i = 1 then 1 else if i = 0 then magic else 0) (fun _ => rfl)) 3 30 _ (fun _ => rfl)⟩
  have hX : U.heap[w.heap.size]? = some (.cells #[.int .i64 1, .int .i64 9, .int .i64 30] 36 (0, 0)) := by subst hU; exact (Below.heap_alloc _ _ _ hz2).trans hX2
  have hB : Below w.heap.size w U := by subst hU; (repeat (first | (with_reducible exact Below.refl _ _) | (with_reducible apply Below.dr) | (with_reducible apply Below.drn) | (with_reducible refine Below.setCell ?_ (by first | omega | (simp only; omega)) _) | (with_reducible apply Below.al) | (refine Below.tr ?_ (by with_reducible assumption))))
  clear hU xc2 hX2 hB2 z0 z1 z2 z3 HZ
  refine (rimap _).mono ?_
  rintro e V1 ⟨rfl, hb⟩
  have hE := hD.below hb
  have hX := (hb.block _ (blk_lt hX)).trans hX
  have xc := (fun i => cell_of_row _ _ i _ _ _ hX)
  have hc := hE.cell 472 (by omega)
  have hf := hE.frozen 472
  have hB : Below w.heap.size w V1 := by (repeat (first | (with_reducible exact Below.refl _ _) | (with_reducible apply Below.dr) | (with_reducible apply Below.drn) | (with_reducible refine Below.setCell ?_ (by first | omega | (simp only; omega)) _) | (with_reducible apply Below.al) | (refine Below.tr ?_ (by with_reducible assumption))))
  clear hb hD
  go_wp2_with fail
  obtain ⟨U1, hU⟩ : ∃ U1, V1.setCell ⟨w2.heap.size, 472, none⟩ (.int .u64 3) = U1 := ⟨_, rfl⟩
  rw [hU]
  have hD : WF U1 w2.heap.size (fun i => if i = 472 then 3 else if i = 3 then 30 else if i = 2 then 9 else if i = 1 then 1 else if i = 0 then magic else 0) := by subst hU; exact hE.set 472 3 _ (fun _ => rfl)
  have hX : U1.heap[w.heap.size]? = some (.cells #[.int .i64 1, .int .i64 9, .int .i64 30] 36 (0, 0)) := by subst hU; exact (Below.heap_setCell _ _ _ _ (by simp only; omega)).trans hX
  have hB : Below w.heap.size w U1 := by subst hU; (repeat (first | (with_reducible exact Below.refl _ _) | (with_reducible apply Below.dr) | (with_reducible apply Below.drn) | (with_reducible refine Below.setCell ?_ (by first | omega | (simp only; omega)) _) | (with_reducible apply Below.al) | (refine Below.tr ?_ (by with_reducible assumption))))
  clear hU hE hc hf xc
  refine (rbmap _).mono ?_
  rintro e V2 ⟨rfl, hb⟩
  have hE := hD.below hb
  have hX := (hb.block _ (blk_lt hX)).trans hX
  have xc := (fun i => cell_of_row _ _ i _ _ _ hX)
  have hc := hE.cell 480 (by omega)
  have hf := hE.frozen 480
  have hB : Below w.heap.size w V2 := by (repeat (first | (with_reducible exact Below.refl _ _) | (with_reducible apply Below.dr) | (with_reducible apply Below.drn) | (with_reducible refine Below.setCell ?_ (by first | omega | (simp only; omega)) _) | (with_reducible apply Below.al) | (refine Below.tr ?_ (by with_reducible assumption))))
  clear hb hD
  go_wp2_with fail
  obtain ⟨U2, hU⟩ : ∃ U2, V2.setCell ⟨w2.heap.size, 480, none⟩ (.int .u64 1) = U2 := ⟨_, rfl⟩
  rw [hU]
  have hD : WF U2 w2.heap.size (fun i => if i = 480 then 1 else if i = 472 then 3 else if i = 3 then 30 else if i = 2 then 9 else if i = 1 then 1 else if i = 0 then magic else 0) := by subst hU; exact hE.set 480 1 _ (fun _ => rfl)
  have hX : U2.heap[w.heap.size]? = some (.cells #[.int .i64 1, .int .i64 9, .int .i64 30] 36 (0, 0)) := by subst hU; exact (Below.heap_setCell _ _ _ _ (by simp only; omega)).trans hX
  have hB : Below w.heap.size w U2 := by subst hU; (repeat (first | (with_reducible exact Below.refl _ _) | (with_reducible apply Below.dr) | (with_reducible apply Below.drn) | (with_reducible refine Below.setCell ?_ (by first | omega | (simp only; omega)) _) | (with_reducible apply Below.al) | (refine Below.tr ?_ (by with_reducible assumption))))
  clear hU hE hc hf xc
  refine (rinode _).mono ?_
  rintro e V3 ⟨rfl, hb⟩
  have hE := hD.below hb
  have hX := (hb.block _ (blk_lt hX)).trans hX
  have xc := (fun i => cell_of_row _ _ i _ _ _ hX)
  have hc := hE.cell 504 (by omega)
  have hf := hE.frozen 504
  have hB : Below w.heap.size w V3 := by (repeat (first | (with_reducible exact Below.refl _ _) | (with_reducible apply Below.dr) | (with_reducible apply Below.drn) | (with_reducible refine Below.setCell ?_ (by first | omega | (simp only; omega)) _) | (with_reducible apply Below.al) | (refine Below.tr ?_ (by with_reducible assumption))))
  clear hb hD
  go_wp2_with fail
  obtain ⟨U3, hU⟩ : ∃ U3, V3.setCell ⟨w2.heap.size, 504, none⟩ (.int .u64 2) = U3 := ⟨_, rfl⟩
  rw [hU]
  have hD : WF U3 w2.heap.size (fun i => if i = 504 then 2 else if i = 480 then 1 else if i = 472 then 3 else if i = 3 then 30 else if i = 2 then 9 else if i = 1 then 1 else if i = 0 then magic else 0) := by subst hU; exact hE.set 504 2 _ (fun _ => rfl)
  have hX : U3.heap[w.heap.size]? = some (.cells #[.int .i64 1, .int .i64 9, .int .i64 30] 36 (0, 0)) := by subst hU; exact (Below.heap_setCell _ _ _ _ (by simp only; omega)).trans hX
  have hB : Below w.heap.size w U3 := by subst hU; (repeat (first | (with_reducible exact Below.refl _ _) | (with_reducible apply Below.dr) | (with_reducible apply Below.drn) | (with_reducible refine Below.setCell ?_ (by first | omega | (simp only; omega)) _) | (with_reducible apply Below.al) | (refine Below.tr ?_ (by with_reducible assumption))))
  clear hU hE hc hf xc
  refine (rinode _).mono ?_
  rintro e V4 ⟨rfl, hb⟩
  have hE := hD.below hb
  have hX := (hb.block _ (blk_lt hX)).trans hX
  have xc := (fun i => cell_of_row _ _ i _ _ _ hX)
  have hc := hE.cell 505 (by omega)
  have hf := hE.frozen 505
  have hB : Below w.heap.size w V4 := by (repeat (first | (with_reducible exact Below.refl _ _) | (with_reducible apply Below.dr) | (with_reducible apply Below.drn) | (with_reducible refine Below.setCell ?_ (by first | omega | (simp only; omega)) _) | (with_reducible apply Below.al) | (refine Below.tr ?_ (by with_reducible assumption))))
  clear hb hD
  go_wp2
  obtain ⟨U4, hU⟩ : ∃ U4, V4.setCell ⟨w2.heap.size, 505, none⟩ (.int .u64 1) = U4 := ⟨_, rfl⟩
  rw [hU]
  have hD : WF U4 w2.heap.size (fun i => if i = 505 then 1 else if i = 504 then 2 else if i = 480 then 1 else if i = 472 then 3 else if i = 3 then 30 else if i = 2 then 9 else if i = 1 then 1 else if i = 0 then magic else 0) := by subst hU; exact hE.set 505 1 _ (fun _ => rfl)
  have hX : U4.heap[w.heap.size]? = some (.cells #[.int .i64 1, .int .i64 9, .int .i64 30] 36 (0, 0)) := by subst hU; exact (Below.heap_setCell _ _ _ _ (by simp only; omega)).trans hX
  have hB : Below w.heap.size w U4 := by subst hU; (repeat (first | (with_reducible exact Below.refl _ _) | (with_reducible apply Below.dr) | (with_reducible apply Below.drn) | (with_reducible refine Below.setCell ?_ (by first | omega | (simp only; omega)) _) | (with_reducible apply Below.al) | (refine Below.tr ?_ (by with_reducible assumption))))
  clear hU hE hc hf xc
  go_ret
  exact ⟨_, rfl, hD, hB0, hB⟩
end
end Go.Proofs
