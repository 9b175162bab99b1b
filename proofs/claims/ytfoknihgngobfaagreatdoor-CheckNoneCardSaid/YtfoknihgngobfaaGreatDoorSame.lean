import Derived.Test.YtfoknihgngobfaaGreatDoorImg
namespace Go.Proofs
open Go Go.RowKit

section
variable {w : World} {b : Nat}
set_option maxRecDepth 100000 in
theorem same_ok {A B c c' : Nat} (hA : w.cell? ⟨A, 0, none⟩ = some (.int .i64 1)) (hB : w.cell? ⟨B, 0, none⟩ = some (.int .i64 1)) :
    Calls Tryz.prog 11 #[.slice (some ⟨A, 0, none⟩) 1 c, .slice (some ⟨B, 0, none⟩) 1 c'] w (SRet (.bool true) w) := by
  have a := World.block_lt_of_cell? w _ hA
  have b := World.block_lt_of_cell? w _ hB
  go_enter Tryz.func11, Tryz.ntmps11
  go_wp2
  refine wp_loop_rounds 3 ?_
  rw [rounds_succ]; go_wp2
  go_quiet (fail)
  go_wp2
  rw [rounds_succ]; go_wp2
  go_ret
  exact SRet.mk rfl (by (repeat (first | (with_reducible exact Below.refl _ _) | (with_reducible apply Below.dr) | (with_reducible apply Below.drn) | (with_reducible refine Below.setCell ?_ (by first | omega | (simp only; omega)) _) | (with_reducible apply Below.al) | (refine Below.tr ?_ (by with_reducible assumption)))))

theorem look3 (hD : WF w b (imgF 3 1)) (hG : Glob w) : Calls Tryz.prog 6 #[.slice (some ⟨b, 0, none⟩) 872 872] w (SRet (.tuple #[faultv 0 0 0, .bool true]) w) :=
  look_of fun W hb => (looked_sound ((hD.below hb).sl) (img_ok (.inl rfl) (.inl rfl)) (hG.below hb) (fun k h1 h2 F hg hr => img_taken F hg hr k h1 h2)).mono fun e w' h => by
    obtain ⟨q, F, rfl, -, -, -, -, -, h⟩ := h
    exact ⟨_, rfl, h⟩
theorem look7 (hD : WF w b (imgF 7 1)) (hG : Glob w) : Calls Tryz.prog 6 #[.slice (some ⟨b, 0, none⟩) 872 872] w (SRet (.tuple #[faultv 5 2 0, .bool false]) w) :=
  look_of fun W hb => (looked_odd ((hD.below hb).sl) (img_ok (.inr rfl) (.inl rfl)) (hG.below hb) (fun F hg hr => img_full (.inr rfl) F hg hr) (by decide) (fun F hg => img_odd F hg)).mono fun e w' h => by
    obtain ⟨q, rfl, h⟩ := h
    exact ⟨_, rfl, h⟩
theorem lookl (hD : WF w b (imgF 3 2)) (hG : Glob w) : Calls Tryz.prog 6 #[.slice (some ⟨b, 0, none⟩) 872 872] w (SRet (.tuple #[faultv 7 1 0, .bool false]) w) :=
  look_of fun W hb => (looked_links ((hD.below hb).sl) (img_ok (.inl rfl) (.inr rfl)) (hG.below hb) (by decide) (fun k h1 h2 F hg hr => img_taken F hg hr k h1 h2)).mono fun e w' h => by
    obtain ⟨q, rfl, h⟩ := h
    exact ⟨_, rfl, h⟩
theorem reach3 (hD : WF w b (imgF 3 1)) (hG : Glob w) : Calls Tryz.prog 7 #[.slice (some ⟨b, 0, none⟩) 872 872] w fun e w' => ∃ A c, e = .returned (.slice (some ⟨A, 0, none⟩) 1 c) ∧ w.heap.size ≤ A ∧ w'.cell? ⟨A, 0, none⟩ = some (.int .i64 1) ∧ Below w.heap.size w w' :=
  reach_ok (I := imgL 3 1) (g := g1) 9 rfl (by omega) (by omega) fun W hb => looked_sound ((hD.below hb).sl) (img_ok (.inl rfl) (.inl rfl)) (hG.below hb) (fun k h1 h2 F hg hr => img_taken F hg hr k h1 h2)
end
end Go.Proofs
