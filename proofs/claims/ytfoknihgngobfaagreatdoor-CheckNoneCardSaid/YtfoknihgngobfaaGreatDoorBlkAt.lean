import Derived.Test.YtfoknihgngobfaaGreatDoorBlk
import Derived.Deep.RegionHeld3
namespace Go.Proofs
open Go Go.RowKit

section
variable {Γ : Nat → Option Obj} {L : Nat → Prop} {w w' : World} {p : Addr} {s : VS} {q : Nat} {g : Geo} {n : Int}
theorem iget_may {s : VS} {g : Geo} {n : Int} (h : (s.iget g n).2 = 0) : g.may = true := by
  unfold VS.iget at h
  split at h
  · split at h
    · rename_i hr
      simp only [Node.right, decide_eq_true_eq] at hr
      exact hr.1
    · simp at h
  · rename_i h2; exact absurd h h2

set_option maxRecDepth 100000 in
set_option maxHeartbeats 4000000 in
theorem at_any (hV : VW Γ L w p s) (h : BM w q p g n) (k : Int) : Calls Tryz.prog 78 #[.pointer (some ⟨q, 0, none⟩), .int .i64 k] w (SRet (.tuple #[.int .i64 (s.bat g n k).1, .int .i64 (s.bat g n k).2]) w) := by
  obtain ⟨r, hr⟩ : ∃ r, s.bat g n k = r := ⟨_, rfl⟩
  rw [hr]
  have HR := Lib.hid hr
  unfold VS.bat at HR
  clear hr
  by_cases h1 : k < 0
  · have hR : r = (0, 1) := by rw [← HR.out, if_pos (Or.inl h1)]
    subst hR
    go_enter Tryz.func78, Tryz.ntmps78
    go_wp2
    go_ret2
    exact SRet.mk rfl (by (repeat (first | exact Below.refl _ _ | apply Below.al | apply Below.dr | apply Below.drn | refine Below.tr ?_ (by assumption))))
  by_cases h2 : k ≥ 12
  · have hR : r = (0, 1) := by rw [← HR.out, if_pos (Or.inr h2)]
    subst hR
    go_enter Tryz.func78, Tryz.ntmps78
    go_wp2
    go_ret2
    exact SRet.mk rfl (by (repeat (first | exact Below.refl _ _ | apply Below.al | apply Below.dr | apply Below.drn | refine Below.tr ?_ (by assumption))))
  have h12 : ¬ (k < 0 ∨ k ≥ 12) := by omega
  have hR := HR.out
  rw [if_neg h12] at hR
  have HR2 := Lib.hid hR
  clear hR HR h12
  have hlt := h.lt
  obtain ⟨c0, c1, c2, c3, c4⟩ := h.cells
  have hig := fun {W : World} (h : VW Γ L W p s) => iget_any h g n
  have hMay := fun (e : (s.iget g n).2 = 0) => (Geo.may_iff g).1 (iget_may e)
  obtain ⟨⟨x, e⟩, hx⟩ : ∃ x, s.iget g n = x := ⟨_, rfl⟩
  rw [hx] at hMay
  simp only [hx] at hig HR2
  clear hx
  by_cases he : e = 0
  · subst he
    have hR := HR2.out
    rw [if_neg (by simp)] at hR
    have HR3 := Lib.hid hR
    obtain ⟨m1, m2, m3, m4, m5, m6⟩ := hMay rfl
    have hwd := fun {W : World} (h1 : VW Γ L W p s) (h2 : BM W q p g n) => bword_any h1 h2 k (by omega)
    obtain ⟨⟨a, bb⟩, hab⟩ : ∃ x, s.word g n k = x := ⟨_, rfl⟩
    simp only [hab] at hwd HR3
    clear hR HR2 hab hMay
    have hS : ∀ w', Below w.heap.size w w' → ((w'.cell? ⟨q, 0, none⟩ = some (.pointer (some p)) ∧ w'.cell? ⟨q, 1, none⟩ = some (.int .i64 g.W) ∧ w'.cell? ⟨q, 2, none⟩ = some (.int .i64 g.I) ∧ w'.cell? ⟨q, 3, none⟩ = some (.int .i64 g.B) ∧ w'.cell? ⟨q, 4, none⟩ = some (.int .i64 n)) ∧ Below w.heap.size w w') := fun w' hb => ⟨(h.below hb).cells, hb⟩
    go_enter Tryz.func78, Tryz.ntmps78
    go_wp2
    go_cut [6, 7] from 8 (fun s6 s7 w' => s7 = .int .i64 0 ∧ Below w.heap.size w w')
    case first =>
      go_region_held3 (fun w' => (w'.cell? ⟨q, 0, none⟩ = some (.pointer (some p)) ∧ w'.cell? ⟨q, 1, none⟩ = some (.int .i64 g.W) ∧ w'.cell? ⟨q, 2, none⟩ = some (.int .i64 g.I) ∧ w'.cell? ⟨q, 3, none⟩ = some (.int .i64 g.B) ∧ w'.cell? ⟨q, 4, none⟩ = some (.int .i64 n)) ∧ Below w.heap.size w w')
        ((refine hS _ ?_; (repeat (first | (with_reducible exact Below.refl _ _) | (with_reducible apply Below.dr) | (with_reducible apply Below.drn) | (with_reducible refine Below.setCell ?_ (by first | omega | (simp only; omega)) _) | (with_reducible apply Below.al) | (refine Below.tr ?_ (by with_reducible assumption))))))
        (first | (go_at_call 41; refine (hig (hV.below (by (repeat (first | (with_reducible exact Below.refl _ _) | (with_reducible apply Below.dr) | (with_reducible apply Below.drn) | (with_reducible refine Below.setCell ?_ (by first | omega | (simp only; omega)) _) | (with_reducible apply Below.al) | (refine Below.tr ?_ (by with_reducible assumption))))))).mono ?_; rintro e w2 ⟨rfl, hb2⟩; (try (have hX2 := (hb2.block w.heap.size (by simp)).trans (heap_alloc_new _ _); have hxc := (fun i => cell_of_row _ _ i _ _ _ hX2); have hxf := (fun i => frozen_of_row _ _ i _ _ hX2)))))
      all_goals go_wp2
      all_goals go_meet
      all_goals exact ⟨rfl, by (repeat (first | (with_reducible exact Below.refl _ _) | (with_reducible apply Below.dr) | (with_reducible apply Below.drn) | (with_reducible refine Below.setCell ?_ (by first | omega | (simp only; omega)) _) | (with_reducible apply Below.al) | (refine Below.tr ?_ (by with_reducible assumption))))⟩
    case rest =>
      obtain ⟨rfl, hB⟩ := hcut
      have hb1 := hwd (hV.below hB) (h.below hB)
      have hBM := h.below hB
      cases bb
      · have hR : r = (0, 0) := by rw [← HR3.out]; rfl
        subst hR
        go_wp2_with (go_at_call 86; refine hb1.mono ?_; rintro e w3 ⟨rfl, hb3⟩)
        go_ret2
        exact SRet.mk rfl (by (repeat (first | (with_reducible exact Below.refl _ _) | (with_reducible apply Below.dr) | (with_reducible apply Below.drn) | (with_reducible refine Below.setCell ?_ (by first | omega | (simp only; omega)) _) | (with_reducible apply Below.al) | (refine Below.tr ?_ (by with_reducible assumption)))))
      · have hgo := get_ok hV.okv a
        obtain ⟨v, hv⟩ : ∃ v, s.get a = v := ⟨_, rfl⟩
        have hget := fun {W : World} (h : VW Γ L W p s) => get_any h a
        rw [hv] at hgo
        simp only [hv] at hget HR3
        clear hv
        obtain ⟨v0, v1⟩ := hgo
        by_cases hvB : v ≥ g.B
        · have hR : r = (0, 4) := by rw [← HR3.out, if_neg (by simp), if_pos hvB]
          subst hR
          go_wp2_with (first
            | (go_at_call 86; refine hb1.mono ?_; rintro e w3 ⟨rfl, hb3⟩; obtain ⟨d0, d1, d2, d3, d4⟩ := (hBM.below hb3).cells; have hV3 := (hV.below hB).below hb3)
            | (go_at_call 49; refine (hget hV3).mono ?_; rintro e w' ⟨rfl, rfl⟩))
          go_ret2
          exact SRet.mk rfl (by (repeat (first | (with_reducible exact Below.refl _ _) | (with_reducible apply Below.dr) | (with_reducible apply Below.drn) | (with_reducible refine Below.setCell ?_ (by first | omega | (simp only; omega)) _) | (with_reducible apply Below.al) | (refine Below.tr ?_ (by with_reducible assumption)))))
        · have hR : r = (v, 0) := by rw [← HR3.out, if_neg (by simp), if_neg hvB]
          subst hR
          have hvB' : v < g.B := by omega
          clear hvB
          go_wp2_with (first
            | (go_at_call 86; refine hb1.mono ?_; rintro e w3 ⟨rfl, hb3⟩; obtain ⟨d0, d1, d2, d3, d4⟩ := (hBM.below hb3).cells; have hV3 := (hV.below hB).below hb3)
            | (go_at_call 49; refine (hget hV3).mono ?_; rintro e w' ⟨rfl, rfl⟩))
          go_ret2
          exact SRet.mk rfl (by (repeat (first | (with_reducible exact Below.refl _ _) | (with_reducible apply Below.dr) | (with_reducible apply Below.drn) | (with_reducible refine Below.setCell ?_ (by first | omega | (simp only; omega)) _) | (with_reducible apply Below.al) | (refine Below.tr ?_ (by with_reducible assumption)))))
  · have hR : r = (0, e) := by rw [← HR2.out, if_pos he]
    subst hR
    have hne : (e != 0) = true := by simpa using he
    have hS : ∀ w', Below w.heap.size w w' → ((w'.cell? ⟨q, 0, none⟩ = some (.pointer (some p)) ∧ w'.cell? ⟨q, 1, none⟩ = some (.int .i64 g.W) ∧ w'.cell? ⟨q, 2, none⟩ = some (.int .i64 g.I) ∧ w'.cell? ⟨q, 3, none⟩ = some (.int .i64 g.B) ∧ w'.cell? ⟨q, 4, none⟩ = some (.int .i64 n)) ∧ Below w.heap.size w w') := fun w' hb => ⟨(h.below hb).cells, hb⟩
    clear he HR2 hMay
    go_enter Tryz.func78, Tryz.ntmps78
    go_wp2
    go_cut [6, 7] from 8 (fun s6 s7 w' => s7 = .int .i64 e ∧ Below w.heap.size w w')
    case first =>
      go_region_held3 (fun w' => (w'.cell? ⟨q, 0, none⟩ = some (.pointer (some p)) ∧ w'.cell? ⟨q, 1, none⟩ = some (.int .i64 g.W) ∧ w'.cell? ⟨q, 2, none⟩ = some (.int .i64 g.I) ∧ w'.cell? ⟨q, 3, none⟩ = some (.int .i64 g.B) ∧ w'.cell? ⟨q, 4, none⟩ = some (.int .i64 n)) ∧ Below w.heap.size w w')
        ((refine hS _ ?_; (repeat (first | (with_reducible exact Below.refl _ _) | (with_reducible apply Below.dr) | (with_reducible apply Below.drn) | (with_reducible refine Below.setCell ?_ (by first | omega | (simp only; omega)) _) | (with_reducible apply Below.al) | (refine Below.tr ?_ (by with_reducible assumption))))))
        (first | (go_at_call 41; refine (hig (hV.below (by (repeat (first | (with_reducible exact Below.refl _ _) | (with_reducible apply Below.dr) | (with_reducible apply Below.drn) | (with_reducible refine Below.setCell ?_ (by first | omega | (simp only; omega)) _) | (with_reducible apply Below.al) | (refine Below.tr ?_ (by with_reducible assumption))))))).mono ?_; rintro e w2 ⟨rfl, hb2⟩; (try (have hX2 := (hb2.block w.heap.size (by simp)).trans (heap_alloc_new _ _); have hxc := (fun i => cell_of_row _ _ i _ _ _ hX2); have hxf := (fun i => frozen_of_row _ _ i _ _ hX2)))))
      all_goals go_wp2
      all_goals go_meet
      all_goals exact ⟨rfl, by (repeat (first | (with_reducible exact Below.refl _ _) | (with_reducible apply Below.dr) | (with_reducible apply Below.drn) | (with_reducible refine Below.setCell ?_ (by first | omega | (simp only; omega)) _) | (with_reducible apply Below.al) | (refine Below.tr ?_ (by with_reducible assumption))))⟩
    case rest =>
      obtain ⟨rfl, hB⟩ := hcut
      go_wp2
      go_ret2
      exact SRet.mk rfl hB
end
end Go.Proofs
