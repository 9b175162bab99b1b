import Derived.Test.YtfoknihgngobfaaGreatDoorLayout2
import Derived.Deep.RegionHeld3
namespace Go.Proofs
open Go Go.RowKit

/-- The anchor's geometry. -/
abbrev gw : Value := .agg #[.int .i64 1, .int .i64 9, .int .i64 30]
section
variable {w : World}
theorem rmay (w : World) : Calls Tryz.prog 17 #[gw] w (SRet (.bool true) w) := by
  go_enter Tryz.func17, Tryz.ntmps17
  go_wp2
  go_ret
  exact SRet.mk rfl (by (repeat (first | (with_reducible exact Below.refl _ _) | (with_reducible apply Below.dr) | (with_reducible apply Below.drn) | (with_reducible refine Below.setCell ?_ (by first | omega | (simp only; omega)) _) | (with_reducible apply Below.al) | (refine Below.tr ?_ (by with_reducible assumption)))))
theorem rareas (w : World) : Calls Tryz.prog 35 #[] w fun e w' => e = .returned (.int .i64 264) ∧ w' = w := by
  go_enter Tryz.func35, Tryz.ntmps35
  go_wp2
  go_ret
  exact ⟨rfl, rfl⟩
theorem rmaps (w : World) : Calls Tryz.prog 20 #[gw] w (SRet (.int .i64 472) w) := by
  go_enter Tryz.func20, Tryz.ntmps20
  go_wp2
  go_quiet ((go_at_call 35; exact Calls.quiet_of_same (rareas _)))
  go_wp2
  go_ret
  exact SRet.mk rfl (by (repeat (first | (with_reducible exact Below.refl _ _) | (with_reducible apply Below.dr) | (with_reducible apply Below.drn) | (with_reducible refine Below.setCell ?_ (by first | omega | (simp only; omega)) _) | (with_reducible apply Below.al) | (refine Below.tr ?_ (by with_reducible assumption)))))
theorem rimap (w : World) : Calls Tryz.prog 9 #[gw] w (SRet (.int .i64 472) w) := by
  go_enter Tryz.func9, Tryz.ntmps9
  go_wp2_with (first
    | (go_at_call 17; refine (rmay _).mono ?_; rintro e w1 ⟨rfl, hb1⟩; have hc1 := (bcell hb1).1)
    | (go_at_call 20; refine (rmaps _).mono ?_; rintro e w2 ⟨rfl, hb2⟩))
  go_ret
  exact SRet.mk rfl (by (repeat (first | (with_reducible exact Below.refl _ _) | (with_reducible apply Below.dr) | (with_reducible apply Below.drn) | (with_reducible refine Below.setCell ?_ (by first | omega | (simp only; omega)) _) | (with_reducible apply Below.al) | (refine Below.tr ?_ (by with_reducible assumption)))))
theorem rbmap (w : World) : Calls Tryz.prog 19 #[gw] w (SRet (.int .i64 480) w) := by
  go_enter Tryz.func19, Tryz.ntmps19
  go_wp2_with (first
    | (go_at_call 17; refine (rmay _).mono ?_; rintro e w1 ⟨rfl, hb1⟩; have hc1 := (bcell hb1).1)
    | (go_at_call 20; refine (rmaps _).mono ?_; rintro e w2 ⟨rfl, hb2⟩))
  go_ret
  exact SRet.mk rfl (by (repeat (first | (with_reducible exact Below.refl _ _) | (with_reducible apply Below.dr) | (with_reducible apply Below.drn) | (with_reducible refine Below.setCell ?_ (by first | omega | (simp only; omega)) _) | (with_reducible apply Below.al) | (refine Below.tr ?_ (by with_reducible assumption)))))
theorem rinode (w : World) : Calls Tryz.prog 10 #[gw, .int .i64 1] w (SRet (.int .i64 504) w) := by
  go_enter Tryz.func10, Tryz.ntmps10
  go_wp2_with (first
    | (go_at_call 17; refine (rmay _).mono ?_; rintro e w1 ⟨rfl, hb1⟩; have hc1 := (bcell hb1).1)
    | (go_at_call 20; refine (rmaps _).mono ?_; rintro e w2 ⟨rfl, hb2⟩))
  go_ret
  exact SRet.mk rfl (by (repeat (first | (with_reducible exact Below.refl _ _) | (with_reducible apply Below.dr) | (with_reducible apply Below.drn) | (with_reducible refine Below.setCell ?_ (by first | omega | (simp only; omega)) _) | (with_reducible apply Below.al) | (refine Below.tr ?_ (by with_reducible assumption)))))
theorem rwords (w : World) : Calls Tryz.prog 18 #[gw] w (SRet (.int .i64 872) w) := by
  go_enter Tryz.func18, Tryz.ntmps18
  go_wp2_with (go_at_call 17; refine (rmay _).mono ?_; rintro e w1 ⟨rfl, hb1⟩)
  have hX1 := (hb1.block w.heap.size (by simp)).trans (heap_alloc_new _ _)
  have hB1 : Below w.heap.size w w1 := by (repeat (first | (with_reducible exact Below.refl _ _) | (with_reducible apply Below.dr) | (with_reducible apply Below.drn) | (with_reducible refine Below.setCell ?_ (by first | omega | (simp only; omega)) _) | (with_reducible apply Below.al) | (refine Below.tr ?_ (by with_reducible assumption))))
  have hS : ∀ W, Below w1.heap.size w1 W → (W.cell? ⟨w.heap.size, 0, none⟩ = some (.int .i64 1) ∧ W.cell? ⟨w.heap.size, 1, none⟩ = some (.int .i64 9) ∧ W.cell? ⟨w.heap.size, 2, none⟩ = some (.int .i64 30)) ∧ Below w1.heap.size w1 W := fun W hb => by
    have hX := (hb.block _ (blk_lt hX1)).trans hX1
    exact ⟨⟨by rw [cell_of_row _ _ _ _ _ _ hX]; rfl, by rw [cell_of_row _ _ _ _ _ _ hX]; rfl, by rw [cell_of_row _ _ _ _ _ _ hX]; rfl⟩, hb⟩
  have HS := Lib.hid hS
  have hm := rmaps
  clear hb1 hX1 hS
  go_region_held3 (fun W => (W.cell? ⟨w.heap.size, 0, none⟩ = some (.int .i64 1) ∧ W.cell? ⟨w.heap.size, 1, none⟩ = some (.int .i64 9) ∧ W.cell? ⟨w.heap.size, 2, none⟩ = some (.int .i64 30)) ∧ Below w1.heap.size w1 W)
    ((refine HS.out _ ?_; (repeat (first | (with_reducible exact Below.refl _ _) | (with_reducible apply Below.dr) | (with_reducible apply Below.drn) | (with_reducible refine Below.setCell ?_ (by first | omega | (simp only; omega)) _) | (with_reducible apply Below.al) | (refine Below.tr ?_ (by with_reducible assumption))))))
    ((go_at_call 20; refine (hm _).mono ?_; rintro e w2 ⟨rfl, hb2⟩))
  all_goals go_wp2
  all_goals go_ret
  all_goals exact SRet.mk rfl (by (repeat (first | (with_reducible exact Below.refl _ _) | (with_reducible apply Below.dr) | (with_reducible apply Below.drn) | (with_reducible refine Below.setCell ?_ (by first | omega | (simp only; omega)) _) | (with_reducible apply Below.al) | (refine Below.tr ?_ (by with_reducible assumption)))))
end
end Go.Proofs
