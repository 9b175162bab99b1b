import Derived.Test.YtfoknihgngobfaaGreatDoorEntE
namespace Go.Proofs
open Go Go.RowKit
attribute [local go_sem] Oper.semAt_some

section
variable {Γ : Nat → Option Obj} {L : Nat → Prop} {w w' : World} {p : Addr} {s : VS} {q : Nat} {g : Geo} {n : Int}
set_option maxRecDepth 100000 in
set_option maxHeartbeats 4000000 in
theorem list_empty (hV : VW Γ L w p s) (g : Geo) (n : Int) (h0 : (s.iget g n).2 = 0) (h2 : (s.iget g n).1.kind = 2) (he : ∀ k : Nat, k < 12 → s.bat g n k = (0, 0)) :
    Calls Tryz.prog 50 #[.pointer (some p), g.v, .int .i64 n] w (SRet (.tuple #[.slice none 0 0, .int .i64 0]) w) := by
  have hto := fun {L : Nat → Prop} {W : World} (h : VW Γ L W p s) => topen_ok h g n h0 h2
  have HE := Lib.hid he
  clear h0 h2 he
  refine (callsIn_wide (n := 9)).1 ?_
  have h1 : 1 ≤ 9 := by omega
  refine callsIn_of_wp_marks Tryz.func50 rfl trivial ?_ rfl
  simp only [Tryz.ntmps50, List.size_toArray, List.length_cons, List.length_nil, Nat.reduceAdd, Nat.reduceSub, Array.replicate_succ, Array.replicate_zero, List.push_toArray, List.append_toArray, List.nil_append, List.cons_append]
  gi_wp2_with (fail)
  refine ⟨trivial, ?_⟩
  refine (callsIn_wide.2 (hto (((hV.alloc _).alloc _).alloc _))).mono ?_
  rintro e w1 ⟨v1, rfl, hb1, hq1⟩
  obtain ⟨q1, rfl, hl1, hM1⟩ := hq1 rfl
  have heap3 : ∀ (a b c : Obj), (((w.alloc a).alloc b).alloc c).heap[w.heap.size + 1]? = some b ∧ (((w.alloc a).alloc b).alloc c).heap[w.heap.size + 1 + 1]? = some c := fun a b c =>
    ⟨(Below.heap_alloc _ _ _ (by simp)).trans (heap_alloc2_new _ _ _), by have := heap_alloc_new ((w.alloc a).alloc b) c; simpa using this⟩
  have hL1 := (hb1.block (w.heap.size + 1) (by simp)).trans (heap3 _ _ _).1
  have hE1 := (hb1.block (w.heap.size + 1 + 1) (by simp)).trans (heap3 _ _ _).2
  have hlc := (fun i => cell_of_row _ _ i _ _ _ hL1)
  have hlf := (fun i => frozen_of_row _ _ i _ _ hL1)
  have hec := (fun i => cell_of_row _ _ i _ _ _ hE1)
  have hef := (fun i => frozen_of_row _ _ i _ _ hE1)
  have hz1 : w.heap.size + 1 + 1 < w1.heap.size := by have := hb1.size; simp at this; omega
  have hz1' : w.heap.size + 1 < w1.heap.size := by omega
  gi_wp2_with (refine ⟨trivial, ?_⟩; gi_at_call 75; refine (callsIn_wide.2 (around_any _)).mono ?_; rintro e w' ⟨rfl, rfl⟩)
  obtain ⟨W0, hW0⟩ : ∃ W0, (((w1.setCell ⟨w.heap.size + 1 + 1, 0, none⟩ (.int .i64 0)).alloc (.cells #[.pointer (some p), .int .i64 g.W, .int .i64 g.I, .int .i64 g.B, .pointer (some ⟨q1, 0, none⟩)] 126)).alloc (.cells #[.int .i64 0] 3)) = W0 := ⟨_, rfl⟩
  rw [hW0]
  have hB0 : Below w.heap.size w W0 := by subst hW0; (repeat (first | (with_reducible exact Below.refl _ _) | (with_reducible apply Below.dr) | (with_reducible apply Below.drn) | (with_reducible refine Below.setCell ?_ (by first | omega | (simp only; omega)) _) | (with_reducible apply Below.al) | (refine Below.tr ?_ (by with_reducible assumption))))
  have hs0 : W0.heap.size = w1.heap.size + 2 := by subst hW0; simp
  have hT0 : W0.heap[w1.heap.size]? = some (.cells #[.pointer (some p), .int .i64 g.W, .int .i64 g.I, .int .i64 g.B, .pointer (some ⟨q1, 0, none⟩)] 126 (0, 0)) := by
    subst hW0; have := heap_alloc2_old (w1.setCell ⟨w.heap.size + 1 + 1, 0, none⟩ (.int .i64 0)) (.cells #[.pointer (some p), .int .i64 g.W, .int .i64 g.I, .int .i64 g.B, .pointer (some ⟨q1, 0, none⟩)] 126) (.cells #[.int .i64 0] 3); simpa using this
  have hbx : W0.cell? ⟨w1.heap.size + 1, 0, none⟩ = some (.int .i64 0) := by subst hW0; simp [go_sem]
  have hL0 : W0.heap[w.heap.size + 1]? = some (.cells #[.slice none 0 0] 93 (0, 0)) := by
    subst hW0
    exact (Below.heap_alloc _ _ _ (by simp; omega)).trans ((Below.heap_alloc _ _ _ (by simp; omega)).trans ((Below.heap_setCell _ _ _ _ (by simp)).trans hL1))
  have hE0 : W0.heap[w.heap.size + 1 + 1]? = some (.cells #[.int .i64 0] 71 (0, 0)) := by
    subst hW0
    exact (Below.heap_alloc _ _ _ (by simp; omega)).trans ((Below.heap_alloc _ _ _ (by simp; omega)).trans (setCell_block _ hE1))
  have hM0 : BM W0 q1 p g n := by
    subst hW0
    simp only [World.size_alloc] at hl1
    refine (Below.heap_alloc _ _ _ (by have := hM1.lt; simp; omega)).trans ((Below.heap_alloc _ _ _ (by have := hM1.lt; simp; omega)).trans ((Below.heap_setCell _ _ _ _ (by simp only; omega)).trans hM1))
  have hV0 := hV.below hB0
  have HW0 := Lib.hid hW0
  clear hW0 hlc hlf hec hef hL1 hE1 hM1 hq1 hb1 heap3
  have hqn : ∀ w, (binOp .neq 98 entry0v entry0v).run Tryz.prog w = .ok (.bool false) w := fun w => by kernel_rfl
  refine wpIn_rangeFunc_ownG rfl h1 (gf := 84) (lb := #[.pointer (some ⟨w1.heap.size + 1, 0, none⟩)]) rfl trivial (enters_of Tryz.func84 (by kernel_rfl) rfl)
    (around_stops (9 - 1) (by omega) (w1.heap.size + 1) W0.heap.size 0 (by omega) (Nat.le_refl _) hbx) Keep.trans (keepK_b (Nat.le_refl _) (by omega)) (Below.refl _ _) (fun _ => rfl)
    (fun _ W => Below W0.heap.size W0 W)
    (fun _ _ _ => False)
    (ownFrom_below (Nat.le_refl _) (Nat.le_refl _))
    (fun _ _ _ _ _ hs _ _ => hs)
    (Below.refl _ _)
    (fun x => { tmps := #[.pointer (some p), g.v, .int .i64 n, undef, .pointer (some ⟨w.heap.size, 0, none⟩), undef, .pointer (some ⟨w.heap.size + 1, 0, none⟩), .pointer (some ⟨w.heap.size + 1 + 1, 0, none⟩), .pointer (some ⟨w1.heap.size, 0, none⟩), .int .i64 (x.1 : Int), undef, undef,
      .tuple #[tablev (some p) g (some ⟨q1, 0, none⟩), .int .i64 0], .pointer (some p), .agg #[.int .i64 g.W, .int .i64 g.I, .int .i64 g.B], .int .i64 n, .tuple #[tablev (some p) g (some ⟨q1, 0, none⟩), .int .i64 0], tablev (some p) g (some ⟨q1, 0, none⟩), .int .i64 0, .int .i64 0, .bool false, undef,
      .func (.func 84) #[] #[.pointer (some ⟨w1.heap.size + 1, 0, none⟩)], .int .i64 (x.1 : Int), undef, undef, undef, undef, undef, undef, undef, undef, undef, undef, undef, undef, undef, undef, undef, undef, undef], defers := [] }) ?assign ?body ?done ?stop
  case assign =>
    intro l x W K hK
    simp only [K12.enc]
    gi_wp2
    exact hK
  case body =>
    rintro l pre ⟨x, hx⟩ W hB _
    have hTc := (fun i => cell_of_row _ _ i _ _ _ ((hB.block _ (by omega)).trans hT0))
    have hMW := hM0.below hB
    have hVW := hV0.below hB
    have hex := HE.out x hx
    gi_wp2_with (refine ⟨trivial, ?_⟩; gi_at_call 76; refine (CallsIn.inRound l (callsIn_wide.2 (entry_empty hVW hMW x hex))).mono ?_; rintro e w2 ⟨rfl, hb2⟩)
    have hBW : Below W.heap.size W (w2.alloc (.cells #[.string ⟨#[]⟩, .int .i64 0] 98)) := by (repeat (first | (with_reducible exact Below.refl _ _) | (with_reducible apply Below.dr) | (with_reducible apply Below.drn) | (with_reducible refine Below.setCell ?_ (by first | omega | (simp only; omega)) _) | (with_reducible apply Below.al) | (refine Below.tr ?_ (by with_reducible assumption))))
    exact ⟨KeepsFrom.of_below hBW, Keep.ofBelow hBW (fun i hi => by have := hB.size; rcases hi with h | h <;> omega), hB.trans (hBW.mono hB.size)⟩
  case done =>
    rintro D ys W hD rfl hB hK
    have hLW := (hB.block _ (by omega)).trans hL0
    have hEW := (hB.block _ (by omega)).trans hE0
    have hlc := (fun i => cell_of_row _ _ i _ _ _ hLW)
    have hlf := (fun i => frozen_of_row _ _ i _ _ hLW)
    have hec := (fun i => cell_of_row _ _ i _ _ _ hEW)
    have hef := (fun i => frozen_of_row _ _ i _ _ hEW)
    gi_wp2
    have hK' := ((KeepsOthers.setCell W ⟨w.heap.size + 1, 0, none⟩ (.slice none 0 0)).trans (KeepsOthers.setCell _ ⟨w.heap.size + 1 + 1, 0, none⟩ (.int .i64 0))).same D _ hK rfl
    refine ⟨by simp, .inl ⟨_, _, rfl, run_takeDeferred hK', ?_⟩⟩
    have hc5 := cell_kept (cell_two W (b := w.heap.size + 1) (c := w.heap.size + 1 + 1) (u := .slice none 0 0) (v := .int .i64 0) (x := .slice none 0 0) (by omega) (by rw [hlc]; rfl)) (grownBy_putObj' _ D (.deferred none)) (fun r e => by cases e; exact ⟨_, hK', rfl⟩)
    have hc6 := cell_kept (cell_one W (b := w.heap.size + 1) (c := w.heap.size + 1 + 1) (u := .slice none 0 0) (v := .int .i64 0) (x := .int .i64 0) (by omega) (by rw [hec]; rfl)) (grownBy_putObj' _ D (.deferred none)) (fun r e => by cases e; exact ⟨_, hK', rfl⟩)
    refine ⟨.tuple #[.slice none 0 0, .int .i64 0], ?_, rfl, (((hB0.trans (hB.mono (by omega))).setCell (p := ⟨w.heap.size + 1, 0, none⟩) (by simp only; omega) _).setCell (p := ⟨w.heap.size + 1 + 1, 0, none⟩) (by simp only; omega) _).trans (belowK_b (w := w) (Nat.le_refl _) _ D _ _ (by omega) hK' rfl rfl)⟩
    simp [results, Tryz.f50, go_sem, hc5, hc6]
  case stop =>
    rintro D c pre W hD _ h _
    exact h.elim
end
end Go.Proofs
