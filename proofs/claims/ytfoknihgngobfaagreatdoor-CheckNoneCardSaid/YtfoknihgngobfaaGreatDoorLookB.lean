import Derived.Test.YtfoknihgngobfaaGreatDoorLookA
import Derived.Test.YtfoknihgngobfaaGreatDoorBegin
namespace Go.Proofs
open Go Go.RowKit

section
variable {w : World} {v : Value} {I : List Int}
set_option maxRecDepth 100000 in
set_option maxHeartbeats 2000000 in
theorem looked_none (h : SL w v I) (hok : ∀ x ∈ I, u64ok x) (hlen : I.length ≤ 17592186044415) (h0 : ofG I = none) :
    Calls Tryz.prog 14 #[v] w (SRet (.tuple #[.pointer none, faultv 1 0 0, .bool false]) w) := by
  have hbe := fun {W : World} (hb : Below w.heap.size w W) => begin_none (h.below hb) hok hlen h0
  have hmf : ∀ (fn : Fn) (first cap : Array Value) (w : World), (Instr.makeFunc fn first cap).run Tryz.prog w = .ok (.func fn first cap) w := fun _ _ _ _ => rfl
  go_enter_defers Tryz.func14, Tryz.ntmps14
  go_wp2_with (go_at_call 24; refine (hbe (by (repeat (first | (with_reducible exact Below.refl _ _) | (with_reducible apply Below.dr) | (with_reducible apply Below.drn) | (with_reducible refine Below.setCell ?_ (by first | omega | (simp only; omega)) _) | (with_reducible apply Below.al) | (refine Below.tr ?_ (by with_reducible assumption)))))).mono ?_; rintro e w1 ⟨rfl, hb1⟩)
  have h3 : ∀ (a b c : Obj), (((w.alloc a).alloc b).alloc c).heap[w.heap.size]? = some a ∧ (((w.alloc a).alloc b).alloc c).heap[w.heap.size + 1]? = some b ∧ (((w.alloc a).alloc b).alloc c).heap[w.heap.size + 1 + 1]? = some c := fun a b c =>
    ⟨(Below.heap_alloc _ _ _ (by simp; omega)).trans (heap_alloc2_old _ _ _), (Below.heap_alloc _ _ _ (by simp)).trans (heap_alloc2_new _ _ _), by have := heap_alloc_new ((w.alloc a).alloc b) c; simpa using this⟩
  have hX := (hb1.block (w.heap.size) (by simp; omega)).trans (h3 _ _ _).1
  have hF := (hb1.block (w.heap.size + 1) (by simp)).trans (h3 _ _ _).2.1
  have hI := (hb1.block (w.heap.size + 1 + 1) (by simp)).trans (h3 _ _ _).2.2
  have hB1 : Below w.heap.size w w1 := by (repeat (first | (with_reducible exact Below.refl _ _) | (with_reducible apply Below.dr) | (with_reducible apply Below.drn) | (with_reducible refine Below.setCell ?_ (by first | omega | (simp only; omega)) _) | (with_reducible apply Below.al) | (refine Below.tr ?_ (by with_reducible assumption))))
  clear hb1 h3 hbe h
  refine leaves_cons (f := 23) (args := #[.pointer (some ⟨w.heap.size + 1, 0, none⟩), .pointer (some ⟨w.heap.size + 1 + 1, 0, none⟩)]) (by simp) (by simp [go_sem]) ?_
  refine (catch_fault (w.heap.size + 1) (w.heap.size + 1 + 1) 1 0 0 [] w1 (.int .i64 0) (.int .i64 0) (.int .i64 0) (.bool false) (by rw [cell_of_row _ _ _ _ _ _ hF]; rfl) (by rw [cell_of_row _ _ _ _ _ _ hF]; rfl) (by rw [cell_of_row _ _ _ _ _ _ hF]; rfl) (by rw [cell_of_row _ _ _ _ _ _ hI]; rfl) (frozen_of_row _ _ _ _ _ hF) (frozen_of_row _ _ _ _ _ hF) (frozen_of_row _ _ _ _ _ hF) (frozen_of_row _ _ _ _ _ hI) (by omega)).mono ?_
  rintro e u' w'' ⟨rfl, rfl, rfl⟩
  obtain ⟨W2, hW2⟩ : ∃ W2, (((w1.setCell ⟨w.heap.size + 1, 0, none⟩ (.int .i64 1)).setCell ⟨w.heap.size + 1, 1, none⟩ (.int .i64 0)).setCell ⟨w.heap.size + 1, 2, none⟩ (.int .i64 0)).setCell ⟨w.heap.size + 1 + 1, 0, none⟩ (.bool false) = W2 := ⟨_, rfl⟩
  rw [hW2]
  have hB2 : Below w.heap.size w W2 := by subst hW2; (repeat (first | (with_reducible exact Below.refl _ _) | (with_reducible apply Below.dr) | (with_reducible apply Below.drn) | (with_reducible refine Below.setCell ?_ (by first | omega | (simp only; omega)) _) | (with_reducible apply Below.al) | (refine Below.tr ?_ (by with_reducible assumption))))
  have hX2 : W2.heap[w.heap.size]? = some (.cells #[.pointer none] 43 (0, 0)) := by
    subst hW2
    exact (Below.heap_setCell _ _ _ _ (by simp only; omega)).trans ((Below.heap_setCell _ _ _ _ (by simp only; omega)).trans ((Below.heap_setCell _ _ _ _ (by simp only; omega)).trans ((Below.heap_setCell _ _ _ _ (by simp only; omega)).trans hX)))
  have hF2 : W2.heap[w.heap.size + 1]? = some (.cells #[.int .i64 1, .int .i64 0, .int .i64 0] 29 (0, 0)) := by
    subst hW2
    exact (Below.heap_setCell _ _ _ _ (by simp only; omega)).trans (setCell_block _ (setCell_block _ (setCell_block _ hF)))
  have hI2 : W2.heap[w.heap.size + 1 + 1]? = some (.cells #[.bool false] 4 (0, 0)) := by
    subst hW2
    exact setCell_block _ ((Below.heap_setCell _ _ _ _ (by simp only; omega)).trans ((Below.heap_setCell _ _ _ _ (by simp only; omega)).trans ((Below.heap_setCell _ _ _ _ (by simp only; omega)).trans hI)))
  have xc := (fun i => cell_of_row _ _ i _ _ _ hX2)
  have fc := (fun i => cell_of_row _ _ i _ _ _ hF2)
  have ic := (fun i => cell_of_row _ _ i _ _ _ hI2)
  refine ⟨.tuple #[.pointer none, faultv 1 0 0, .bool false], ?_, rfl, hB2⟩
  simp [results, Tryz.results14, go_sem, xc, fc, ic]
end
end Go.Proofs
