import Derived.Test.YtfoknihgngobfaaGreatDoorLayout
namespace Go.Proofs
open Go Go.RowKit

/-- Where the i-th thing of the kind 6 stands. -/
def Geo.at6 (g : Geo) (i : Int) : Int := if g.may = true ∧ 0 ≤ i ∧ i < 1 then g.maps + 8 * i else -1
set_option maxRecDepth 100000 in
set_option maxHeartbeats 1000000 in
theorem place6 (g : Geo) (i : Int) (w : World) : Calls Tryz.prog 62 #[g.v, .int .u8 6, .int .i64 i] w (SRet (.int .i64 (g.at6 i)) w) := by
  have hm := may_any g
  obtain ⟨i0, i1, i2, i3, i4, i5, i6⟩ := row_at g
  cases hg : g.may with
  | false =>
    have hr : g.at6 i = -1 := by simp [Geo.at6, hg]
    rw [hg] at hm
    rw [hr]
    clear hr hg
    go_enter Tryz.func62, Tryz.ntmps62
    go_wp2_with (go_at_call 22; refine (rows_any g _).mono ?_; rintro e w2 ⟨rfl, hb2⟩; have hc2 := (bcell hb2).1; have hz2 := hb2.size; simp only [World.size_alloc] at hz2 hc2; have hy2 : w.heap.size < w2.heap.size := (by omega); have hy3 : w.heap.size ≤ w2.heap.size := (by omega); have hy4 : (∀ k, w.heap.size < w2.heap.size + k) := (fun _ => by omega); have hy5 : (∀ k, w.heap.size ≤ w2.heap.size + k) := (fun _ => by omega))
    refine wp_loop_rounds 4 ?_
    rw [rounds_succ]; go_wp2
    rw [rounds_succ]; go_wp2
    rw [rounds_succ]; go_wp2
    rw [rounds_succ]; go_wp2_with (go_at_call 12; refine (hm _).mono ?_; rintro e w1 ⟨rfl, hb1⟩; have hc1 := (bcell hb1).1; have hz1 := hb1.size)
    go_ret
    exact SRet.mk rfl (by (repeat (first | exact Below.refl _ _ | apply Below.al | apply Below.dr | apply Below.drn | refine Below.tr ?_ (by assumption))))
  | true =>
    rw [hg] at hm
    have hg' := hg
    rw [Geo.may_iff] at hg
    obtain ⟨g1, g2, g3, g4, g5, g6⟩ := hg
    by_cases hi : 0 ≤ i ∧ i < 1
    · have hr : g.at6 i = g.maps + 8 * i := by simp [Geo.at6, hg', hi]
      have HR := Lib.hid hr
      obtain ⟨hi1, hi2⟩ := hi
      clear hr hg'
      go_enter Tryz.func62, Tryz.ntmps62
      go_wp2_with (go_at_call 22; refine (rows_any g _).mono ?_; rintro e w2 ⟨rfl, hb2⟩; have hc2 := (bcell hb2).1; have hz2 := hb2.size; simp only [World.size_alloc] at hz2 hc2; have hy2 : w.heap.size < w2.heap.size := (by omega); have hy3 : w.heap.size ≤ w2.heap.size := (by omega); have hy4 : (∀ k, w.heap.size < w2.heap.size + k) := (fun _ => by omega); have hy5 : (∀ k, w.heap.size ≤ w2.heap.size + k) := (fun _ => by omega))
      refine wp_loop_rounds 4 ?_
      rw [rounds_succ]; go_wp2
      rw [rounds_succ]; go_wp2
      rw [rounds_succ]; go_wp2
      rw [rounds_succ]; go_wp2_with (first
        | (go_at_call 12; refine (hm _).mono ?_; rintro e w1 ⟨rfl, hb1⟩; have hc1 := (bcell hb1).1; have hz1 := hb1.size)
        | (go_at_call 21; refine (within_yes (by omega)).mono ?_; rintro e w' ⟨rfl, rfl⟩))
      go_ret
      refine SRet.mk ?_ (by (repeat (first | exact Below.refl _ _ | apply Below.al | apply Below.dr | apply Below.drn | refine Below.tr ?_ (by assumption))))
      rw [HR.out]
      simp [Geo.maps]
      try omega
    · have hr : g.at6 i = -1 := by simp only [Geo.at6, hg', true_and]; rw [if_neg hi]
      have HR := Lib.hid hr
      have HI := Lib.hid hi
      clear hr hg' hi
      go_enter Tryz.func62, Tryz.ntmps62
      go_wp2_with (go_at_call 22; refine (rows_any g _).mono ?_; rintro e w2 ⟨rfl, hb2⟩; have hc2 := (bcell hb2).1; have hz2 := hb2.size; simp only [World.size_alloc] at hz2 hc2; have hy2 : w.heap.size < w2.heap.size := (by omega); have hy3 : w.heap.size ≤ w2.heap.size := (by omega); have hy4 : (∀ k, w.heap.size < w2.heap.size + k) := (fun _ => by omega); have hy5 : (∀ k, w.heap.size ≤ w2.heap.size + k) := (fun _ => by omega))
      refine wp_loop_rounds 4 ?_
      rw [rounds_succ]; go_wp2
      rw [rounds_succ]; go_wp2
      rw [rounds_succ]; go_wp2
      rw [rounds_succ]; go_wp2_with (first
        | (go_at_call 12; refine (hm _).mono ?_; rintro e w1 ⟨rfl, hb1⟩; have hc1 := (bcell hb1).1; have hz1 := hb1.size)
        | (go_at_call 21; refine (within_no (by have := HI.out; omega)).mono ?_; rintro e w' ⟨rfl, rfl⟩))
      go_ret
      refine SRet.mk ?_ (by (repeat (first | exact Below.refl _ _ | apply Below.al | apply Below.dr | apply Below.drn | refine Below.tr ?_ (by assumption))))
      rw [HR.out]
      rfl

/-- Where the i-th thing of the kind 7 stands. -/
def Geo.at7 (g : Geo) (i : Int) : Int := if g.may = true ∧ 0 ≤ i ∧ i < 1 then g.maps + 8 + 8 * i else -1
set_option maxRecDepth 100000 in
set_option maxHeartbeats 1000000 in
theorem place7 (g : Geo) (i : Int) (w : World) : Calls Tryz.prog 62 #[g.v, .int .u8 7, .int .i64 i] w (SRet (.int .i64 (g.at7 i)) w) := by
  have hm := may_any g
  obtain ⟨i0, i1, i2, i3, i4, i5, i6⟩ := row_at g
  cases hg : g.may with
  | false =>
    have hr : g.at7 i = -1 := by simp [Geo.at7, hg]
    rw [hg] at hm
    rw [hr]
    clear hr hg
    go_enter Tryz.func62, Tryz.ntmps62
    go_wp2_with (go_at_call 22; refine (rows_any g _).mono ?_; rintro e w2 ⟨rfl, hb2⟩; have hc2 := (bcell hb2).1; have hz2 := hb2.size; simp only [World.size_alloc] at hz2 hc2; have hy2 : w.heap.size < w2.heap.size := (by omega); have hy3 : w.heap.size ≤ w2.heap.size := (by omega); have hy4 : (∀ k, w.heap.size < w2.heap.size + k) := (fun _ => by omega); have hy5 : (∀ k, w.heap.size ≤ w2.heap.size + k) := (fun _ => by omega))
    refine wp_loop_rounds 5 ?_
    rw [rounds_succ]; go_wp2
    rw [rounds_succ]; go_wp2
    rw [rounds_succ]; go_wp2
    rw [rounds_succ]; go_wp2
    rw [rounds_succ]; go_wp2_with (go_at_call 12; refine (hm _).mono ?_; rintro e w1 ⟨rfl, hb1⟩; have hc1 := (bcell hb1).1; have hz1 := hb1.size)
    go_ret
    exact SRet.mk rfl (by (repeat (first | exact Below.refl _ _ | apply Below.al | apply Below.dr | apply Below.drn | refine Below.tr ?_ (by assumption))))
  | true =>
    rw [hg] at hm
    have hg' := hg
    rw [Geo.may_iff] at hg
    obtain ⟨g1, g2, g3, g4, g5, g6⟩ := hg
    by_cases hi : 0 ≤ i ∧ i < 1
    · have hr : g.at7 i = g.maps + 8 + 8 * i := by simp [Geo.at7, hg', hi]
      have HR := Lib.hid hr
      obtain ⟨hi1, hi2⟩ := hi
      clear hr hg'
      go_enter Tryz.func62, Tryz.ntmps62
      go_wp2_with (go_at_call 22; refine (rows_any g _).mono ?_; rintro e w2 ⟨rfl, hb2⟩; have hc2 := (bcell hb2).1; have hz2 := hb2.size; simp only [World.size_alloc] at hz2 hc2; have hy2 : w.heap.size < w2.heap.size := (by omega); have hy3 : w.heap.size ≤ w2.heap.size := (by omega); have hy4 : (∀ k, w.heap.size < w2.heap.size + k) := (fun _ => by omega); have hy5 : (∀ k, w.heap.size ≤ w2.heap.size + k) := (fun _ => by omega))
      refine wp_loop_rounds 5 ?_
      rw [rounds_succ]; go_wp2
      rw [rounds_succ]; go_wp2
      rw [rounds_succ]; go_wp2
      rw [rounds_succ]; go_wp2
      rw [rounds_succ]; go_wp2_with (first
        | (go_at_call 12; refine (hm _).mono ?_; rintro e w1 ⟨rfl, hb1⟩; have hc1 := (bcell hb1).1; have hz1 := hb1.size)
        | (go_at_call 21; refine (within_yes (by omega)).mono ?_; rintro e w' ⟨rfl, rfl⟩))
      go_ret
      refine SRet.mk ?_ (by (repeat (first | exact Below.refl _ _ | apply Below.al | apply Below.dr | apply Below.drn | refine Below.tr ?_ (by assumption))))
      rw [HR.out]
      simp [Geo.maps]
      try omega
    · have hr : g.at7 i = -1 := by simp only [Geo.at7, hg', true_and]; rw [if_neg hi]
      have HR := Lib.hid hr
      have HI := Lib.hid hi
      clear hr hg' hi
      go_enter Tryz.func62, Tryz.ntmps62
      go_wp2_with (go_at_call 22; refine (rows_any g _).mono ?_; rintro e w2 ⟨rfl, hb2⟩; have hc2 := (bcell hb2).1; have hz2 := hb2.size; simp only [World.size_alloc] at hz2 hc2; have hy2 : w.heap.size < w2.heap.size := (by omega); have hy3 : w.heap.size ≤ w2.heap.size := (by omega); have hy4 : (∀ k, w.heap.size < w2.heap.size + k) := (fun _ => by omega); have hy5 : (∀ k, w.heap.size ≤ w2.heap.size + k) := (fun _ => by omega))
      refine wp_loop_rounds 5 ?_
      rw [rounds_succ]; go_wp2
      rw [rounds_succ]; go_wp2
      rw [rounds_succ]; go_wp2
      rw [rounds_succ]; go_wp2
      rw [rounds_succ]; go_wp2_with (first
        | (go_at_call 12; refine (hm _).mono ?_; rintro e w1 ⟨rfl, hb1⟩; have hc1 := (bcell hb1).1; have hz1 := hb1.size)
        | (go_at_call 21; refine (within_no (by have := HI.out; omega)).mono ?_; rintro e w' ⟨rfl, rfl⟩))
      go_ret
      refine SRet.mk ?_ (by (repeat (first | exact Below.refl _ _ | apply Below.al | apply Below.dr | apply Below.drn | refine Below.tr ?_ (by assumption))))
      rw [HR.out]
      rfl

end Go.Proofs
