import Derived.Test.YtfoknihgngobfaaGreatDoorEach2
import Derived.Test.YtfoknihgngobfaaGreatDoorEntM
import Derived.Deep.RegionHeld3
namespace Go.Proofs
open Go Go.RowKit

section
variable {Γ : Nat → Option Obj} {L : Nat → Prop} {w : World} {b : Nat} {F : LKS} {s : VS}
theorem LK.six {w W : World} (h : LK w b F) (hb : Below w.heap.size w W) : (W.cell? ⟨b, 0, none⟩ = some (.pointer (some F.p)) ∧ W.cell? ⟨b, 1, none⟩ = some (.int .i64 F.g.W) ∧ W.cell? ⟨b, 2, none⟩ = some (.int .i64 F.g.I) ∧ W.cell? ⟨b, 3, none⟩ = some (.int .i64 F.g.B) ∧
    W.cell? ⟨b, 4, none⟩ = some (.pointer (some ⟨F.mi, 0, none⟩)) ∧ W.cell? ⟨b, 5, none⟩ = some (.pointer (some ⟨F.mb, 0, none⟩))) ∧ Below w.heap.size w W := ⟨LK.hd (LKf.below h hb), hb⟩

set_option maxRecDepth 100000 in
set_option maxHeartbeats 2000000 in
theorem below_root (hK : LK w b F) (hV : VW Γ L w F.p s) (h0 : (s.iget F.g 1).2 = 0) (h2 : (s.iget F.g 1).1.kind = 2) (he : ∀ k : Nat, k < 12 → s.bat F.g 1 k = (0, 0)) :
    Calls Tryz.prog 30 #[.pointer (some ⟨b, 0, none⟩), .int .i64 1] w (SRet (.tuple #[]) w) := by
  have hli := fun {L : Nat → Prop} {W : World} (h : VW Γ L W F.p s) => list_empty h F.g 1 h0 h2 he
  have hS := fun W (hb : Below w.heap.size w W) => LK.six hK hb
  have hlt := LKf.lt hK
  obtain ⟨c0, c1, c2, c3, c4, c5⟩ := hK.hd
  have hmm := @run_makeMap Tryz.prog
  clear h0 h2 he hK
  go_enter Tryz.func30, Tryz.ntmps30
  go_wp2
  go_region_held3 (fun W => (W.cell? ⟨b, 0, none⟩ = some (.pointer (some F.p)) ∧ W.cell? ⟨b, 1, none⟩ = some (.int .i64 F.g.W) ∧ W.cell? ⟨b, 2, none⟩ = some (.int .i64 F.g.I) ∧ W.cell? ⟨b, 3, none⟩ = some (.int .i64 F.g.B) ∧
      W.cell? ⟨b, 4, none⟩ = some (.pointer (some ⟨F.mi, 0, none⟩)) ∧ W.cell? ⟨b, 5, none⟩ = some (.pointer (some ⟨F.mb, 0, none⟩))) ∧ Below w.heap.size w W)
    ((refine hS _ ?_; (repeat (first | (with_reducible exact Below.refl _ _) | (with_reducible apply Below.dr) | (with_reducible apply Below.drn) | (with_reducible refine Below.setCell ?_ (by first | omega | (simp only; omega)) _) | (with_reducible apply Below.al) | (refine Below.tr ?_ (by with_reducible assumption))))))
    (first | (go_at_call 50; refine (hli (hV.below (by (repeat (first | (with_reducible exact Below.refl _ _) | (with_reducible apply Below.dr) | (with_reducible apply Below.drn) | (with_reducible refine Below.setCell ?_ (by first | omega | (simp only; omega)) _) | (with_reducible apply Below.al) | (refine Below.tr ?_ (by with_reducible assumption))))))).mono ?_; rintro e w2 ⟨rfl, hb2⟩))
  obtain ⟨hd, hB⟩ := ‹_ ∧ Below w.heap.size w w2›
  go_wp2_with (go_at_call 36; refine (must_yes _ _ _ _).mono ?_; rintro e w' ⟨rfl, rfl⟩)
  refine wp_loop_rounds 1 ?_
  rw [rounds_succ]; go_wp2
  refine wp_loop_rounds 1 ?_
  rw [rounds_succ]; go_wp2
  go_end0
  exact ⟨rfl, by (repeat (first | (with_reducible exact Below.refl _ _) | (with_reducible apply Below.dr) | (with_reducible apply Below.drn) | (with_reducible refine Below.setCell ?_ (by first | omega | (simp only; omega)) _) | (with_reducible apply Below.al) | (refine Below.tr ?_ (by with_reducible assumption))))⟩
end
end Go.Proofs
