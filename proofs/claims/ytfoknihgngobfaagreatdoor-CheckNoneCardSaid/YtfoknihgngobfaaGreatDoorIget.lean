import Derived.Test.YtfoknihgngobfaaGreatDoorRight2
import Derived.Test.YtfoknihgngobfaaGreatDoorInode
namespace Go.Proofs
open Go Go.RowKit

/-- The node that stands at a place. -/
def VS.node (s : VS) (a : Int) : Node := ⟨s.get a, s.get (a + 1), s.get (a + 2), s.get (a + 3), s.get (a + 4), s.get (a + 5), s.get (a + 6), s.get (a + 7), s.get (a + 8), s.get (a + 9)⟩
def VS.iget (s : VS) (g : Geo) (n : Int) : Node × Int :=
  if (s.ifind g n).2 = 0 then (if (s.node (s.ifind g n).1).right g then (s.node (s.ifind g n).1, 0) else (Node.zero, 4)) else (Node.zero, (s.ifind g n).2)

theorem get_ok {s : VS} (h : s.ok) (n : Int) : u64ok (s.get n) := by
  unfold VS.get
  split
  · rename_i hh
    rw [VS.has_iff] at hh
    unfold VS.put?
    cases hf : s.L.find? (fun x => x.1 == n) with
    | some x => exact (h.2.1 x (List.mem_of_find?_eq_some hf)).2.2
    | none =>
      have hk : n.toNat < s.I.length := by omega
      simp [hk]
      exact h.1 _ (List.getElem_mem hk)
  · unfold u64ok; omega
theorem node_ok {s : VS} (h : s.ok) (a : Int) : (s.node a).ok := ⟨get_ok h _, get_ok h _, get_ok h _, get_ok h _, get_ok h _, get_ok h _, get_ok h _, get_ok h _, get_ok h _, get_ok h _⟩

theorem at8_bd (g : Geo) (n : Int) : -1 ≤ g.at8 n ∧ g.at8 n ≤ 10000 := by
  unfold Geo.at8 Geo.maps
  split
  · rename_i h
    obtain ⟨h1, h2, h3⟩ := h
    rw [Geo.may_iff] at h1
    omega
  · omega

set_option maxRecDepth 100000 in
set_option maxHeartbeats 4000000 in
theorem iget_any {Γ : Nat → Option Obj} {L : Nat → Prop} {w : World} {p : Addr} {s : VS} (h : VW Γ L w p s) (g : Geo) (n : Int) :
    Calls Tryz.prog 41 #[.pointer (some p), g.v, .int .i64 n] w (SRet (.tuple #[(s.iget g n).1.v, .int .i64 (s.iget g n).2]) w) := by
  have hf := fun {L : Nat → Prop} {w : World} (h : VW Γ L w p s) => ifind_any h g n
  obtain ⟨r, hr⟩ : ∃ r, s.iget g n = r := ⟨_, rfl⟩
  rw [hr]
  have HR := Lib.hid hr
  unfold VS.iget at HR
  clear hr
  have hab : (s.ifind g n).2 = 0 → 0 ≤ (s.ifind g n).1 ∧ (s.ifind g n).1 ≤ 10000 := by
    have := at8_bd g n
    unfold VS.ifind
    split
    · intro h; simp at h
    · split
      · intro h; simp at h
      · intro _; simp; omega
  obtain ⟨a, ha⟩ : ∃ a, (s.ifind g n).1 = a := ⟨_, rfl⟩
  obtain ⟨e, he⟩ : ∃ e, (s.ifind g n).2 = e := ⟨_, rfl⟩
  rw [ha, he] at hab
  have hf' := fun {L : Nat → Prop} {w : World} (h : VW Γ L w p s) => (hf h)
  simp only [ha, he] at hf'
  have HF := @hf'
  clear hf hf'
  rw [ha, he] at HR
  clear ha he
  by_cases h0 : e = 0
  · subst h0
    obtain ⟨ha0, ha1⟩ := hab rfl
    have hR2 := HR.out
    rw [if_pos rfl] at hR2
    have HR2 := Lib.hid hR2
    have hno := node_ok h.okv a
    have hright := right_any g (s.node a) hno
    obtain ⟨b, hb⟩ : ∃ b, (s.node a).right g = b := ⟨_, rfl⟩
    rw [hb] at hright
    have HB := Lib.hid hb
    clear hR2 hab hno hb
    go_enter Tryz.func41, Tryz.ntmps41
    go_wp2_with (go_at_call 63; refine (HF ((h.alloc _).alloc _)).mono ?_; rintro e w1 ⟨rfl, hb1⟩; have hc1 := (bcell hb1).1; have hf1 := (bcell hb1).2; have hz1 := hb1.size; simp only [World.size_alloc] at hz1 hc1 hf1)
    have hX1 : w1.heap[w.heap.size + 1]? = some (.cells #[.int .u64 0, .int .u64 0, .int .u64 0, .int .u64 0, .int .u64 0, .int .u64 0, .int .u64 0, .int .u64 0, .int .u64 0, .int .u64 0] 49 (0, 0)) := (hb1.block _ (by simp)).trans (heap_alloc2_new _ _ _)
    have hG1 : w1.heap[w.heap.size]? = some (.cells #[.int .i64 g.W, .int .i64 g.I, .int .i64 g.B] 25 (0, 0)) := (hb1.block _ (by simp only [World.size_alloc]; omega)).trans (heap_alloc2_old _ _ _)
    have HX1 := Lib.hid hX1
    have HG1 := Lib.hid hG1
    clear hX1 hG1
    have hV1 := ((h.alloc (.cells #[.int .i64 g.W, .int .i64 g.I, .int .i64 g.B] 25)).alloc (.cells #[.int .u64 0, .int .u64 0, .int .u64 0, .int .u64 0, .int .u64 0, .int .u64 0, .int .u64 0, .int .u64 0, .int .u64 0, .int .u64 0] 49)).below hb1
    refine wp_loop_rounds 11 ?_
    iterate 10 (rw [rounds_succ]; go_wp2_with (go_at_call 49; refine (get_any (hV1.alloc _) _).mono ?_; rintro e w' ⟨rfl, rfl⟩))
    rw [rounds_succ]; go_wp2_with fail
    refine (node_any (s.node a) _).mono ?_
    rintro e w2 ⟨rfl, hb2⟩
    have hz2 := hb2.size
    simp only [World.size_alloc] at hz2
    have hX2 : w2.heap[w.heap.size + 1]? = _ := (hb2.block _ (by simp only [World.size_alloc]; omega)).trans ((Below.heap_alloc _ _ _ (by omega)).trans HX1.out)
    have hG2 : w2.heap[w.heap.size]? = _ := (hb2.block _ (by simp only [World.size_alloc]; omega)).trans ((Below.heap_alloc _ _ _ (by omega)).trans HG1.out)
    have hgc : ∀ i, w2.cell? ⟨w.heap.size, i, none⟩ = (#[Value.int .i64 g.W, .int .i64 g.I, .int .i64 g.B])[i]? := fun i => cell_of_row _ _ _ _ _ _ hG2
    have hl1 : w.heap.size < w2.heap.size := by omega
    have hl2 : w.heap.size + 1 < w2.heap.size := by omega
    have HX2 := Lib.hid hX2
    have hB2 : Below w.heap.size w w2 := by (repeat (first | exact Below.refl _ _ | apply Below.al | apply Below.dr | apply Below.drn | refine Below.tr ?_ (by assumption)))
    clear hX2 hG2 hc1 hf1 hz1 hz2 hV1
    go_wp2_with (first
      | (refine wpList_store_row (o := ⟨none, Op.store 49 (.tmp 12) (.tmp 36), _, _, _, _⟩) rfl 49 (.tmp 12) (.tmp 36) rfl w2.heap.size _ rfl rfl 49 _ (heap_alloc_new _ _) (by kernel_rfl) rfl (by simp [Value.oneCell']) ?_; rw [alloc_setRow])
      | (refine wpList_store_row (o := ⟨none, Op.store 49 (.tmp 6) (.tmp 41), _, _, _, _⟩) rfl 49 (.tmp 6) (.tmp 41) rfl (w.heap.size + 1) _ rfl rfl 49 _ hX3 (by kernel_rfl) rfl (by simp [Value.oneCell']) ?_)
      | (refine wpList_store_row (o := ⟨none, Op.store 49 (.tmp 6) (.tmp 42), _, _, _, _⟩) rfl 49 (.tmp 6) (.tmp 42) rfl (w.heap.size + 1) _ rfl rfl 49 _ hX3 (by kernel_rfl) rfl (by simp [Value.oneCell']) ?_)
      | (go_at_call 65; refine (hright _).mono ?_; rintro e w3 ⟨rfl, hb3⟩; have hz3 := hb3.size; simp only [World.size_alloc] at hz3; have hX3 := (hb3.block (w.heap.size + 1) (by simp only [World.size_alloc]; omega)).trans ((Below.heap_alloc _ _ _ (by omega)).trans HX2.out); have hY3 := (hb3.block w2.heap.size (by simp)).trans (heap_alloc_new _ _); have hyc := (fun i => cell_of_row w3 w2.heap.size i _ _ _ hY3)))
    all_goals refine bodyPost_ret (results_cell_row_tmp rfl _ _ (w.heap.size + 1) 49 _ (0, 0) _ rfl (setRow_heap _ _ _ _ _ _ hX3) Tryz.underlying49 rfl (by kernel_rfl)) rfl ⟨?_, by (repeat (first | exact Below.refl _ _ | apply Below.al | apply Below.dr | apply Below.drn | (refine below_setRow ?_ (by omega) _) | refine Below.tr ?_ (by assumption)))⟩
    all_goals cases b
    all_goals first | exact absurd ‹(!true) = true› (by decide) | exact absurd ‹(!false) = false› (by decide) | (simp only [← HR2.out, HB.out]; simp [Node.zero, VS.node])
  · have hR : r = (Node.zero, e) := by rw [← HR.out, if_neg h0]
    subst hR
    have hne : (e != 0) = true := by simpa using h0
    clear hab
    go_enter Tryz.func41, Tryz.ntmps41
    go_wp2_with (first
      | (refine wpList_store_row (o := ⟨none, Op.store 49 (.tmp 6) (.tmp 22), _, _, _, _⟩) rfl 49 (.tmp 6) (.tmp 22) rfl (w.heap.size + 1) _ rfl rfl 49 _ hX1 (by kernel_rfl) rfl (by simp [Value.oneCell']) ?_)
      | (go_at_call 63; refine (HF ((h.alloc _).alloc _)).mono ?_; rintro e w1 ⟨rfl, hb1⟩; have hX1 := (hb1.block (w.heap.size + 1) (by simp)).trans (heap_alloc2_new _ _ _)))
    refine bodyPost_ret (results_cell_row_tmp rfl _ _ (w.heap.size + 1) 49 _ (0, 0) _ rfl (setRow_heap _ _ _ _ _ _ hX1) Tryz.underlying49 rfl (by kernel_rfl)) rfl ⟨rfl, by (repeat (first | exact Below.refl _ _ | apply Below.al | apply Below.dr | apply Below.drn | (refine below_setRow ?_ (by omega) _) | refine Below.tr ?_ (by assumption)))⟩
end Go.Proofs
