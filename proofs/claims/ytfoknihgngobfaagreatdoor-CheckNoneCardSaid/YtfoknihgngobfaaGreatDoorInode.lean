import Derived.Test.YtfoknihgngobfaaGreatDoorSlot
namespace Go.Proofs
open Go Go.RowKit

/-- Where an inode begins, if it is there. -/
def VS.ifind (s : VS) (g : Geo) (n : Int) : Int × Int :=
  if g.at8 n < 0 ∨ n = 0 then (0, 1) else if (s.I.length : Int) < g.words then (0, 8) else (g.at8 n, 0)

set_option maxRecDepth 100000 in
set_option maxHeartbeats 2000000 in
theorem ifind_any {Γ : Nat → Option Obj} {L : Nat → Prop} {w : World} {p : Addr} {s : VS} (h : VW Γ L w p s) (g : Geo) (n : Int) :
    Calls Tryz.prog 63 #[.pointer (some p), g.v, .int .i64 n] w (SRet (.tuple #[.int .i64 (s.ifind g n).1, .int .i64 (s.ifind g n).2]) w) := by
  obtain ⟨a, ha⟩ : ∃ a, g.at8 n = a := ⟨_, rfl⟩
  obtain ⟨m, hm⟩ : ∃ m, g.words = m := ⟨_, rfl⟩
  have hat := inodeAt_any g n
  rw [ha] at hat
  have hwd := words_any g
  rw [hm] at hwd
  obtain ⟨r, hr⟩ : ∃ r, s.ifind g n = r := ⟨_, rfl⟩
  rw [hr]
  have HR := Lib.hid hr
  unfold VS.ifind at HR
  rw [ha, hm] at HR
  clear ha hm hr
  by_cases h1 : a < 0
  · go_enter Tryz.func63, Tryz.ntmps63
    go_wp2_with (go_at_call 48; refine (hat _).mono ?_; rintro e w1 ⟨rfl, hb1⟩; have hc1 := (bcell hb1).1; have hz1 := hb1.size)
    go_ret2
    exact SRet.mk (by rw [← HR.out]; simp [h1]) (by (repeat (first | exact Below.refl _ _ | apply Below.al | apply Below.dr | apply Below.drn | refine Below.tr ?_ (by assumption))))
  · by_cases h2 : n = 0
    · subst h2
      go_enter Tryz.func63, Tryz.ntmps63
      go_wp2_with (go_at_call 48; refine (hat _).mono ?_; rintro e w1 ⟨rfl, hb1⟩; have hc1 := (bcell hb1).1; have hz1 := hb1.size)
      go_ret2
      exact SRet.mk (by rw [← HR.out]; simp) (by (repeat (first | exact Below.refl _ _ | apply Below.al | apply Below.dr | apply Below.drn | refine Below.tr ?_ (by assumption))))
    · have hb : (n == 0) = false := by simp [h2]
      have h12 : ¬ (a < 0 ∨ n = 0) := by simp [h2]; omega
      by_cases h3 : (s.I.length : Int) < m
      · have hR : r = (0, 8) := by rw [← HR.out, if_neg h12, if_pos h3]
        clear h2 h12
        subst hR
        go_enter Tryz.func63, Tryz.ntmps63
        go_wp2_with (go_at_call 48; refine (hat _).mono ?_; rintro e w1 ⟨rfl, hb1⟩; have hc1 := (bcell hb1).1; have hz1 := hb1.size)
        go_region_with (first
          | (go_at_call 61; refine (len_any (h.below (by (repeat (first | exact Below.refl _ _ | apply Below.al | apply Below.dr | apply Below.drn | refine Below.tr ?_ (by assumption)))))).mono ?_; rintro e w' ⟨rfl, rfl⟩)
          | (go_at_call 13; refine (hwd _).mono ?_; rintro e w2 ⟨rfl, hb2⟩))
        all_goals go_wp2
        all_goals go_ret2
        all_goals exact SRet.mk rfl (by (repeat (first | exact Below.refl _ _ | apply Below.al | apply Below.dr | apply Below.drn | refine Below.tr ?_ (by assumption))))
      · have hR : r = (a, 0) := by rw [← HR.out, if_neg h12, if_neg h3]
        clear h2 h12
        subst hR
        go_enter Tryz.func63, Tryz.ntmps63
        go_wp2_with (go_at_call 48; refine (hat _).mono ?_; rintro e w1 ⟨rfl, hb1⟩; have hc1 := (bcell hb1).1; have hz1 := hb1.size)
        go_region_with (first
          | (go_at_call 61; refine (len_any (h.below (by (repeat (first | exact Below.refl _ _ | apply Below.al | apply Below.dr | apply Below.drn | refine Below.tr ?_ (by assumption)))))).mono ?_; rintro e w' ⟨rfl, rfl⟩)
          | (go_at_call 13; refine (hwd _).mono ?_; rintro e w2 ⟨rfl, hb2⟩))
        all_goals go_wp2
        all_goals go_ret2
        all_goals exact SRet.mk rfl (by (repeat (first | exact Below.refl _ _ | apply Below.al | apply Below.dr | apply Below.drn | refine Below.tr ?_ (by assumption))))
end Go.Proofs
