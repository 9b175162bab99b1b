import Derived.Test.YtfoknihgngobfaaGreatDoorRight
import Derived.Deep.RegionLawGrows
namespace Go.Proofs
open Go Go.RowKit

theorem zero_right (g : Geo) (x : Node) (h : x.isZero = true) : x.right g = false := by
  simp only [Node.isZero, decide_eq_true_eq] at h
  simp [Node.right, h.1]
theorem max5_lt (a b c d e n : Int) : max5 a b c d e < n ↔ (a < n ∧ b < n ∧ c < n ∧ d < n ∧ e < n) := by unfold max5; omega

theorem holdsAt {W : World} {b o : Nat} {cs : Array Value} {t : TypeId} {f : Nat × Nat} (hb : W.heap[b]? = some (.cells cs t f)) {l : List Value} (hl : ∀ j u, l[j]? = some u → cs[o + j]? = some u) :
    ∀ q, some (⟨b, o, none⟩ : Addr) = some q → ∀ j u, l[j]? = some u → W.cell? (q.add j) = some u := by
  rintro q hq j u hu
  cases hq
  have hadd : (⟨b, o, none⟩ : Addr).add j = ⟨b, o + j, none⟩ := by unfold Addr.add; split <;> simp_all
  rw [hadd, cell_of_row W b _ _ _ _ hb]
  exact hl j u hu
theorem dir4 (x : Node) : ∀ j u, [Value.int .u64 x.d0, .int .u64 x.d1, .int .u64 x.d2, .int .u64 x.d3][j]? = some u → x.v.cells[4 + j]? = some u := by
  intro j u hj
  rcases j with _ | _ | _ | _ | j
  · simpa [Value.cells] using hj
  · simpa [Value.cells] using hj
  · simpa [Value.cells] using hj
  · simpa [Value.cells] using hj
  · simp at hj

set_option maxRecDepth 100000 in
set_option maxHeartbeats 4000000 in
theorem right_any (g : Geo) (x : Node) (hx : x.ok) (w : World) : Calls Tryz.prog 65 #[g.v, x.v] w (SRet (.bool (x.right g)) w) := by
  have hm := may_any g
  cases hg : g.may with
  | false =>
    rw [hg] at hm
    have HR := Lib.hid (show x.right g = false by simp [Node.right, hg])
    clear hg
    go_enter Tryz.func65, Tryz.ntmps65
    go_wp2_with (go_at_call 12; refine (hm _).mono ?_; rintro e w1 ⟨rfl, hb1⟩; have hc1 := (bcell hb1).1; have hz1 := hb1.size)
    go_ret
    refine SRet.mk ?_ (by (repeat (first | exact Below.refl _ _ | apply Below.al | apply Below.dr | apply Below.drn | refine Below.tr ?_ (by assumption))))
    rw [HR.out]; rfl
  | true =>
    rw [hg] at hm
    have hq : ∀ w, (binOp .eql 49 x.v (.agg #[.int .u64 0, .int .u64 0, .int .u64 0, .int .u64 0, .int .u64 0, .int .u64 0, .int .u64 0, .int .u64 0, .int .u64 0, .int .u64 0])).run Tryz.prog w = .ok (.bool x.isZero) w := fun w => by
      rw [run_eql_struct]
      have := eq_node x w
      simp only [Node.v, Node.zero] at this
      rw [this]; rfl
    cases hz : x.isZero with
    | true =>
      rw [hz] at hq
      have HR := Lib.hid (zero_right g x hz)
      clear hz hg
      go_enter Tryz.func65, Tryz.ntmps65
      go_wp2_with (go_at_call 12; refine (hm _).mono ?_; rintro e w1 ⟨rfl, hb1⟩; have hc1 := (bcell hb1).1; have hz1 := hb1.size)
      go_ret
      refine SRet.mk ?_ (by (repeat (first | exact Below.refl _ _ | apply Below.al | apply Below.dr | apply Below.drn | refine Below.tr ?_ (by assumption))))
      rw [HR.out]; rfl
    | false =>
      rw [hz] at hq
      have HG := Lib.hid hg
      rw [Geo.may_iff] at hg
      obtain ⟨i0, hi, hy0, hy1, hy2⟩ := info_parts Tryz.info37
      go_enter Tryz.func65, Tryz.ntmps65
      go_wp2_with (go_at_call 12; refine (hm _).mono ?_; rintro e w1 ⟨rfl, hb1⟩; have hc1 := (bcell hb1).1; have hf1 := (bcell hb1).2; have hz1 := hb1.size)
      have hX : w1.heap[w.heap.size + 1]? = some (.cells x.v.cells 49 (0, 0)) := (hb1.block _ (by simp)).trans (heap_alloc2_new _ _ _)
      go_region_law (refine step_append_grows rfl (.tmp 15) (.tmp 18) 22 rfl 37 i0 (.int .u64 0) 1 8 Tryz.underlying22 hi hy0 hy1 hy2 rfl (by decide) (some ⟨w.heap.size + 1, 4, none⟩) 4 4 [.int .u64 x.d0, .int .u64 x.d1, .int .u64 x.d2, .int .u64 x.d3] rfl (by simp) rfl (holdsAt ((Below.heap_alloc _ _ _ (blk_lt hX)).trans hX) (dir4 x)) ⟨w1.heap.size, 0, none⟩ 1 1 [.int .u64 x.chain] rfl rfl (cell_one_new _ _ _) (by simp [Value.oneCell']) (by omega) (by unfold maxLen; omega) (by omega) ?_; intro v' w2 hown hgrow; obtain ⟨g', cap', rfl⟩ := ownsRow_succ hown)
      have hcs := hown.cells (g := g') rfl
      have c0 : w2.cell? ⟨g', 0, none⟩ = some (.int .u64 x.d0) := hcs 0 _ rfl
      have c1 : w2.cell? ⟨g', 1, none⟩ = some (.int .u64 x.d1) := hcs 1 _ rfl
      have c2 : w2.cell? ⟨g', 2, none⟩ = some (.int .u64 x.d2) := hcs 2 _ rfl
      have c3 : w2.cell? ⟨g', 3, none⟩ = some (.int .u64 x.d3) := hcs 3 _ rfl
      have c4 : w2.cell? ⟨g', 4, none⟩ = some (.int .u64 x.chain) := hcs 4 _ rfl
      have hg0 : w1.heap[w.heap.size]? = some (.cells #[.int .i64 g.W, .int .i64 g.I, .int .i64 g.B] 25 (0, 0)) := (hb1.block _ (by simp only [World.size_alloc]; omega)).trans (heap_alloc2_old _ _ _)
      have hlt1 : w.heap.size < w1.heap.size := blk_lt hg0
      have hlt2 : w.heap.size + 1 < w1.heap.size := blk_lt hX
      have hg2 : w2.heap[w.heap.size]? = some (.cells #[.int .i64 g.W, .int .i64 g.I, .int .i64 g.B] 25 (0, 0)) := (hgrow.block _ (by simp; omega) (by simp)).trans ((Below.heap_alloc _ _ _ hlt1).trans hg0)
      have hX2 : w2.heap[w.heap.size + 1]? = some (.cells x.v.cells 49 (0, 0)) := (hgrow.block _ (by simp; omega) (by simp)).trans ((Below.heap_alloc _ _ _ hlt2).trans hX)
      have hbel : Below w.heap.size w w2 := by
        refine Below.grown (row := none) ?_ hgrow (by simp; omega) (fun k h => by cases h)
        (repeat (first | exact Below.refl _ _ | apply Below.al | apply Below.dr | apply Below.drn | refine Below.tr ?_ (by assumption)))
      have gc : ∀ i, w2.cell? ⟨w.heap.size, i, none⟩ = (#[Value.int .i64 g.W, .int .i64 g.I, .int .i64 g.B])[i]? := fun i => cell_of_row _ _ _ _ _ _ hg2
      have xc : ∀ i, w2.cell? ⟨w.heap.size + 1, i, none⟩ = x.v.cells[i]? := fun i => cell_of_row _ _ _ _ _ _ hX2
      have HB := Lib.hid hbel
      clear hcs hown hgrow hg0 hX hg2 hX2 hc1 hf1 hb1 hz1 hlt1 hlt2 hbel hi hy0 hy1 hy2
      obtain ⟨m, hmx⟩ : ∃ m, max5 x.d0 x.d1 x.d2 x.d3 x.chain = m := ⟨_, rfl⟩
      have hmax := fun n => max5_any g' cap' x.d0 x.d1 x.d2 x.d3 x.chain (w2.drewN n) c0 c1 c2 c3 c4
      rw [hmx] at hmax
      have hml := fun n => max5_lt x.d0 x.d1 x.d2 x.d3 x.chain n
      rw [hmx] at hml
      have hmb := hml g.B
      have HM := Lib.hid hmb
      obtain ⟨q0, q1, q2, q3, q4, q5⟩ := hg
      obtain ⟨r0, r1, r2, r3, r4, r5, r6, r7, r8, r9⟩ := hx
      unfold u64ok at r0 r1 r2 r3 r4 r5 r6 r7 r8 r9
      have hm0 : 0 ≤ m ∧ m < 18446744073709551616 := by rw [← hmx]; unfold max5; omega
      clear hmb hml hmx
      go_wp2
      have hwB : IntKind.u64.wrap g.B = g.B := IntWalk.u64_in _ (by omega)
      have hwI : IntKind.u64.wrap g.I = g.I := IntWalk.u64_in _ (by omega)
      by_cases h1 : m < g.B
      · have hd : decide (g.B ≤ m) = false := by simpa using h1
        go_quiet ((go_at_call 80; exact Calls.quiet_of_same ((hmax _).mono fun e w' h => ⟨h.1, h.2.symm⟩)))
        go_wp2
        all_goals go_ret
        all_goals refine SRet.mk (congrArg Value.bool (show _ = x.right g from ?_)) (Below.drn HB.out _)
        all_goals rw [Bool.eq_iff_iff]
        all_goals have hmq := HM.out
        all_goals have hgm := HG.out
        all_goals simp only [Node.right, decide_eq_true_eq, hgm, true_and, beq_iff_eq, beq_eq_false_iff_ne, Bool.false_eq_true, ne_eq, false_iff, not_and, not_or] at *
        all_goals first | omega | (constructor <;> omega) | (intros; omega)
      · have hd : decide (g.B ≤ m) = true := by simp; omega
        go_quiet ((go_at_call 80; exact Calls.quiet_of_same ((hmax _).mono fun e w' h => ⟨h.1, h.2.symm⟩)))
        go_wp2
        all_goals go_ret
        all_goals refine SRet.mk (congrArg Value.bool (show _ = x.right g from ?_)) (Below.drn HB.out _)
        all_goals rw [Bool.eq_iff_iff]
        all_goals have hmq := HM.out
        all_goals have hgm := HG.out
        all_goals simp only [Node.right, decide_eq_true_eq, hgm, true_and, beq_iff_eq, beq_eq_false_iff_ne, Bool.false_eq_true, ne_eq, false_iff, not_and, not_or] at *
        all_goals first | omega | (constructor <;> omega) | (intros; omega)
end Go.Proofs
