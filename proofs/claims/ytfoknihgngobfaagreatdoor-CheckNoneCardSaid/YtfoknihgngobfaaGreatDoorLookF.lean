import Derived.Test.YtfoknihgngobfaaGreatDoorLookE
import Derived.Test.YtfoknihgngobfaaGreatDoorLookD
import Derived.Test.YtfoknihgngobfaaGreatDoorEach2
namespace Go.Proofs
open Go Go.RowKit

section
variable {v : Value} {w : World}
set_option maxRecDepth 100000 in
set_option maxHeartbeats 1000000 in
theorem look_of {k a c : Int} {t : Bool} (hc : ∀ W, Below w.heap.size w W → Calls Tryz.prog 14 #[v] W fun e w' => ∃ p, e = .returned (.tuple #[p, faultv k a c, .bool t]) ∧ Below W.heap.size W w') :
    Calls Tryz.prog 6 #[v] w (SRet (.tuple #[faultv k a c, .bool t]) w) := by
  go_enter Tryz.func6, Tryz.ntmps6
  go_wp2_with fail
  refine (hc _ (by (repeat (first | (with_reducible exact Below.refl _ _) | (with_reducible apply Below.dr) | (with_reducible apply Below.drn) | (with_reducible refine Below.setCell ?_ (by first | omega | (simp only; omega)) _) | (with_reducible apply Below.al) | (refine Below.tr ?_ (by with_reducible assumption)))))).mono ?_
  rintro e w1 ⟨p, rfl, hb1⟩
  have hX1 := (hb1.block w.heap.size (by simp)).trans (heap_alloc_new _ _)
  have hz1 : w.heap.size < w1.heap.size := blk_lt hX1
  have hxc := (fun i => cell_of_row _ _ i _ _ _ hX1)
  have hxf := (fun i => frozen_of_row _ _ i _ _ hX1)
  clear hc
  go_wp2
  have hX2 := fun o => (Below.heap_alloc (((w1.setCell ⟨w.heap.size, 0, none⟩ (.int .i64 k)).setCell ⟨w.heap.size, 1, none⟩ (.int .i64 a)).setCell ⟨w.heap.size, 2, none⟩ (.int .i64 c)) o w.heap.size (by simp; omega)).trans (setCell_block _ (setCell_block _ (setCell_block _ hX1)))
  refine bodyPost_ret (results_cell_row_tmp rfl _ _ w.heap.size 29 _ (0, 0) _ rfl (hX2 _) Tryz.underlying29 rfl (by kernel_rfl)) rfl ⟨rfl, by (repeat (first | (with_reducible exact Below.refl _ _) | (with_reducible apply Below.dr) | (with_reducible apply Below.drn) | (with_reducible refine Below.setCell ?_ (by first | omega | (simp only; omega)) _) | (with_reducible apply Below.al) | (refine Below.tr ?_ (by with_reducible assumption))))⟩

set_option maxRecDepth 100000 in
set_option maxHeartbeats 1000000 in
theorem reach_none {p : Option Addr} {f0 f1 f2 : Int} (hc : ∀ W, Below w.heap.size w W → Calls Tryz.prog 14 #[v] W fun e w' => e = .returned (.tuple #[.pointer p, faultv f0 f1 f2, .bool false]) ∧ Below W.heap.size W w') :
    Calls Tryz.prog 7 #[v] w (SRet (.slice none 0 0) w) := by
  go_enter Tryz.func7, Tryz.ntmps7
  go_wp2_with fail
  refine (hc _ (by (repeat (first | (with_reducible exact Below.refl _ _) | (with_reducible apply Below.dr) | (with_reducible apply Below.drn) | (with_reducible refine Below.setCell ?_ (by first | omega | (simp only; omega)) _) | (with_reducible apply Below.al) | (refine Below.tr ?_ (by with_reducible assumption)))))).mono ?_
  rintro e w1 ⟨rfl, hb1⟩
  have hX1 := (hb1.block w.heap.size (by simp)).trans (heap_alloc_new _ _)
  have hz1 : w.heap.size < w1.heap.size := blk_lt hX1
  have hxc := (fun i => cell_of_row _ _ i _ _ _ hX1)
  have hxf := (fun i => frozen_of_row _ _ i _ _ hX1)
  clear hc
  go_wp2
  have hX2 := fun o o2 => (Below.heap_alloc ((w1.setCell ⟨w.heap.size, 0, none⟩ (.slice none 0 0)).alloc o) o2 w.heap.size (by simp; omega)).trans ((Below.heap_alloc (w1.setCell ⟨w.heap.size, 0, none⟩ (.slice none 0 0)) o w.heap.size (by simp; omega)).trans (setCell_block _ hX1))
  have xc := (fun o o2 i => cell_of_row _ _ i _ _ _ (hX2 o o2))
  refine bodyPost_ret (v := .slice none 0 0) ?_ rfl ⟨rfl, by (repeat (first | (with_reducible exact Below.refl _ _) | (with_reducible apply Below.dr) | (with_reducible apply Below.drn) | (with_reducible refine Below.setCell ?_ (by first | omega | (simp only; omega)) _) | (with_reducible apply Below.al) | (refine Below.tr ?_ (by with_reducible assumption))))⟩
  simp [results, Tryz.results7, go_sem, xc]

set_option maxRecDepth 100000 in
set_option maxHeartbeats 1000000 in
theorem reach1_ok {b Bx Bl : Nat} {F : LKS} (hK : LK w b F) (hX : w.heap[Bx]? = some (.cells #[.pointer (some ⟨b, 0, none⟩)] 43 (0, 0))) (hL : w.heap[Bl]? = some (.cells #[.slice none 0 0] 32 (0, 0)))
    (h1 : F.names 1 = 1) (h2 : F.opens 1 = 0) :
    Calls Tryz.prog 16 #[.int .i64 1, (F.node 1).v, .pointer (some ⟨Bx, 0, none⟩), .pointer (some ⟨Bl, 0, none⟩)] w fun e w' => e = .returned (.tuple #[]) ∧ ∃ A c, w'.heap[Bl]? = some (.cells #[.slice (some ⟨A, 0, none⟩) 1 c] 32 (0, 0)) ∧ w.heap.size ≤ A ∧ w'.cell? ⟨A, 0, none⟩ = some (.int .i64 1) ∧ Kb Bl w.heap.size w w' := by
  have hn := hK.nm 1 (by omega)
  have ho := hK.op 1 (by omega)
  rw [h1] at hn
  rw [h2] at ho
  have hlt := LKf.lt hK
  have xc : w.cell? ⟨Bx, 0, none⟩ = some (.pointer (some ⟨b, 0, none⟩)) := (by rw [cell_of_row _ _ _ _ _ _ hX]; rfl)
  obtain ⟨⟨kind, links, opens, size, d0, d1, d2, d3, chain, parent⟩, hx⟩ : ∃ x, F.node 1 = x := ⟨_, rfl⟩
  rw [hx]
  have hn' : w.cell? ⟨b, 711, none⟩ = some (.int .u64 1) := hn
  have ho' : w.cell? ⟨b, 775, none⟩ = some (.int .u64 0) := ho
  clear hx hn ho hK
  have lc := (fun i => cell_of_row _ _ i _ _ _ hL)
  have lf := (fun i => frozen_of_row _ _ i _ _ hL)
  have bx := blk_lt hX
  have bl := blk_lt hL
  go_enter Tryz.func16, Tryz.ntmps16
  go_wp2
  go_quiet (fail)
  obtain ⟨W1, hW1⟩ : ∃ W1, World.drewN (w.alloc (.cells #[.int .u64 kind, .int .u64 links, .int .u64 opens, .int .u64 size, .int .u64 d0, .int .u64 d1, .int .u64 d2, .int .u64 d3, .int .u64 chain, .int .u64 parent] 49)) nq = W1 := ⟨_, rfl⟩
  rw [hW1]
  have hB1 : Below w.heap.size w W1 := by subst hW1; (repeat (first | (with_reducible exact Below.refl _ _) | (with_reducible apply Below.dr) | (with_reducible apply Below.drn) | (with_reducible refine Below.setCell ?_ (by first | omega | (simp only; omega)) _) | (with_reducible apply Below.al) | (refine Below.tr ?_ (by with_reducible assumption))))
  have hL1 := (hB1.block _ bl).trans hL
  have lc1 := (fun i => cell_of_row _ _ i _ _ _ hL1)
  have lf1 := (fun i => frozen_of_row _ _ i _ _ hL1)
  have l1 := blk_lt hL1
  have l2 : Bl < W1.heap.size + 1 := by omega
  have l3 : Bl < W1.heap.size + 1 + 1 := by omega
  clear hW1 lc lf hn' ho' xc
  go_wp2
  go_end0
  have hM := fun v o o2 => (Below.heap_alloc ((W1.setCell ⟨Bl, 0, none⟩ v).alloc o) o2 Bl (by simp; omega)).trans ((Below.heap_alloc (W1.setCell ⟨Bl, 0, none⟩ v) o Bl (by simp; omega)).trans (setCell_block _ hL1))
  refine ⟨rfl, W1.heap.size + 1, _, hM _ _ _, by have := hB1.size; omega, ?_, Keep.drew (Keep.alloc (Keep.alloc ((Kb.of_below hB1).trans (Kb.setCell W1 0 _)) (fun i hi => hi.1) _) (fun i hi => hi.1) _)⟩
  have hN := fun v o o2 => heap_alloc_new ((W1.setCell ⟨Bl, 0, none⟩ v).alloc o) o2
  simp only [World.size_alloc, World.size_setCell] at hN
  refine (cell_of_row _ _ 0 _ _ _ (hN _ _ _)).trans ?_
  simp only [Array.size_append, Array.getElem?_append]
  rfl

set_option maxRecDepth 100000 in
set_option maxHeartbeats 1000000 in
theorem reach_ok {I : List Int} {g : Geo} (N : Nat) (hN : g.I = N) (hN2 : 2 ≤ N) (hN64 : N ≤ 64) (hc : ∀ W, Below w.heap.size w W → Calls Tryz.prog 14 #[v] W (LGood I g W)) :
    Calls Tryz.prog 7 #[v] w fun e w' => ∃ A c, e = .returned (.slice (some ⟨A, 0, none⟩) 1 c) ∧ w.heap.size ≤ A ∧ w'.cell? ⟨A, 0, none⟩ = some (.int .i64 1) ∧ Below w.heap.size w w' := by
  have hE : ∀ (ar : Array Value) (w : World), (callFunc 16 ar).run Tryz.prog w = .ok (.enter 16 ar) w := fun ar w => by kernel_rfl
  have hmf : ∀ (fn : Fn) (first cap : Array Value) (w : World), (Instr.makeFunc fn first cap).run Tryz.prog w = .ok (.func fn first cap) w := fun _ _ _ _ => rfl
  have HN := Lib.hid hN
  clear hN
  go_enter Tryz.func7, Tryz.ntmps7
  go_wp2_with fail
  refine (hc _ (by (repeat (first | (with_reducible exact Below.refl _ _) | (with_reducible apply Below.dr) | (with_reducible apply Below.drn) | (with_reducible refine Below.setCell ?_ (by first | omega | (simp only; omega)) _) | (with_reducible apply Below.al) | (refine Below.tr ?_ (by with_reducible assumption)))))).mono ?_
  rintro e w1 ⟨b, F, rfl, hK, hg, hr, hn, ho, hb1⟩
  have hX1 := (hb1.block w.heap.size (by simp)).trans (heap_alloc_new _ _)
  have hz1 : w.heap.size < w1.heap.size := blk_lt hX1
  have hbz := LKf.lt hK
  have hbn : b ≠ w.heap.size := by
    intro e
    obtain ⟨A, h1, h2, _⟩ := hK
    rw [e, hX1] at h1
    injection h1 with h1
    injection h1 with h1 _ _
    rw [← h1] at h2
    simp at h2
  have hB1 : Below w.heap.size w w1 := by (repeat (first | (with_reducible exact Below.refl _ _) | (with_reducible apply Below.dr) | (with_reducible apply Below.drn) | (with_reducible refine Below.setCell ?_ (by first | omega | (simp only; omega)) _) | (with_reducible apply Below.al) | (refine Below.tr ?_ (by with_reducible assumption))))
  have HR := Lib.hid hr
  have HNm := Lib.hid hn
  have HO := Lib.hid ho
  have HG := Lib.hid hg
  clear hc hr hn ho hg hb1
  go_wp2_with fail
  obtain ⟨W2, hW2⟩ : ∃ W2, (w1.alloc (.cells #[.pointer (some ⟨b, 0, none⟩)] 43)).alloc (.cells #[.int .i64 0, .int .i64 0, .int .i64 0] 29) = W2 := ⟨_, rfl⟩
  rw [hW2]
  have hL2 : W2.heap[w.heap.size]? = some (.cells #[.slice none 0 0] 32 (0, 0)) := by subst hW2; exact (Below.heap_alloc _ _ _ (by simp; omega)).trans ((Below.heap_alloc _ _ _ (by omega)).trans hX1)
  have hX2 : W2.heap[w1.heap.size]? = some (.cells #[.pointer (some ⟨b, 0, none⟩)] 43 (0, 0)) := by subst hW2; exact (Below.heap_alloc _ _ _ (by simp)).trans (heap_alloc_new _ _)
  have hK2 : LK W2 b F := by subst hW2; exact LKf.alloc (LKf.alloc hK _) _
  have hB2 : Below w.heap.size w W2 := by subst hW2; (repeat (first | (with_reducible exact Below.refl _ _) | (with_reducible apply Below.dr) | (with_reducible apply Below.drn) | (with_reducible refine Below.setCell ?_ (by first | omega | (simp only; omega)) _) | (with_reducible apply Below.al) | (refine Below.tr ?_ (by with_reducible assumption))))
  have hkb : ∀ {W W' : World}, LK W b F → Kb w.heap.size W.heap.size W W' → LK W' b F := fun {W W'} h k => by
    have hl := LKf.lt h
    obtain ⟨A, h1, h2⟩ := h
    exact ⟨A, (k.block b ⟨hl, hbn⟩).trans h1, h2⟩
  clear hW2 hX1 hB1 hK
  refine (each_ret2 (w := W2) (b := b) (F := F) 16 hE (.pointer (some ⟨w1.heap.size, 0, none⟩)) (.pointer (some ⟨w.heap.size, 0, none⟩)) N (by rw [HG.out]; exact HN.out) hN2 hN64 (by rw [HR.out 1 (by omega) (by have := HN.out; omega)]; rfl) (fun k h1 h2 => by rw [HR.out k (by omega) (by have := HN.out; omega)]; exact decide_eq_false (by omega))
    (fun W => (LK W b F ∧ W.heap[w1.heap.size]? = some (.cells #[.pointer (some ⟨b, 0, none⟩)] 43 (0, 0)) ∧ W.heap[w.heap.size]? = some (.cells #[.slice none 0 0] 32 (0, 0))) ∧ Below w.heap.size w W)
    (fun W => LK W b F ∧ (∃ A c, W.heap[w.heap.size]? = some (.cells #[.slice (some ⟨A, 0, none⟩) 1 c] 32 (0, 0)) ∧ w.heap.size + 1 ≤ A ∧ W.cell? ⟨A, 0, none⟩ = some (.int .i64 1)) ∧ Below w.heap.size w W)
    (fun _ h => h.1.1) (fun _ h => h.1) (fun W h => (reach1_ok h.1.1 h.1.2.1 h.1.2.2 (by rw [HNm.out]; rfl) (by rw [HO.out])).mono ?_) ⟨⟨hK2, hX2, hL2⟩, hB2⟩).mono ?_
  · rintro e W' ⟨rfl, A, c, h1, h2, h3, h4⟩
    have hsz := blk_lt h.1.2.2
    exact ⟨rfl, hkb h.1.1 h4, ⟨A, c, h1, by omega, h3⟩, h.2.trans ⟨h4.os, h4.tape, h4.output, h4.size, fun i hi => h4.block i ⟨by omega, by omega⟩⟩⟩
  rintro e W3 ⟨rfl, hK3, ⟨A, c, hL3, hA, hc3⟩, hB3⟩
  have xc := (fun i => cell_of_row _ _ i _ _ _ hL3)
  have xf := (fun i => frozen_of_row _ _ i _ _ hL3)
  go_wp2
  have hL4 := setCell_block (i := 0) (v := Value.slice (some ⟨A, 0, none⟩) 1 c) _ hL3
  have yc := (fun i => cell_of_row _ _ i _ _ _ hL4)
  refine bodyPost_ret (v := .slice (some ⟨A, 0, none⟩) 1 c) ?_ rfl ⟨A, c, rfl, by omega, (World.cell?_setCell_far _ _ _ _ (by simp only; omega)).trans hc3, by (repeat (first | (with_reducible exact Below.refl _ _) | (with_reducible apply Below.dr) | (with_reducible apply Below.drn) | (with_reducible refine Below.setCell ?_ (by first | omega | (simp only; omega)) _) | (with_reducible apply Below.al) | (refine Below.tr ?_ (by with_reducible assumption))))⟩
  simp [results, Tryz.results7, go_sem, yc]
end
end Go.Proofs
