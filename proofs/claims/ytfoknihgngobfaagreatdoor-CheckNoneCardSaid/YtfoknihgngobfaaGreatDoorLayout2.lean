import Derived.Test.YtfoknihgngobfaaGreatDoorPlaceA
import Derived.Test.YtfoknihgngobfaaGreatDoorPlaceB
import Derived.Test.YtfoknihgngobfaaGreatDoorPlaceC
namespace Go.Proofs
open Go Go.RowKit


theorem inodeMapAt_any (g : Geo) (w : World) : Calls Tryz.prog 39 #[g.v] w (SRet (.int .i64 (g.at6 0)) w) := by
  go_enter Tryz.func39, Tryz.ntmps39
  go_wp2_with (go_at_call 62; refine (place6 g _ _).mono ?_; rintro e w2 ⟨rfl, hb2⟩)
  go_ret
  exact SRet.mk rfl (by (repeat (first | exact Below.refl _ _ | apply Below.al | apply Below.dr | apply Below.drn | refine Below.tr ?_ (by assumption))))

theorem blockMapAt_any (g : Geo) (w : World) : Calls Tryz.prog 40 #[g.v] w (SRet (.int .i64 (g.at7 0)) w) := by
  go_enter Tryz.func40, Tryz.ntmps40
  go_wp2_with (go_at_call 62; refine (place7 g _ _).mono ?_; rintro e w2 ⟨rfl, hb2⟩)
  go_ret
  exact SRet.mk rfl (by (repeat (first | exact Below.refl _ _ | apply Below.al | apply Below.dr | apply Below.drn | refine Below.tr ?_ (by assumption))))

theorem inodeAt_any (g : Geo) (n : Int) (w : World) : Calls Tryz.prog 48 #[g.v, .int .i64 n] w (SRet (.int .i64 (g.at8 n)) w) := by
  go_enter Tryz.func48, Tryz.ntmps48
  go_wp2_with (go_at_call 62; refine (place8 g _ _).mono ?_; rintro e w2 ⟨rfl, hb2⟩)
  go_ret
  exact SRet.mk rfl (by (repeat (first | exact Below.refl _ _ | apply Below.al | apply Below.dr | apply Below.drn | refine Below.tr ?_ (by assumption))))

theorem blockAt_any (g : Geo) (n : Int) (w : World) : Calls Tryz.prog 79 #[g.v, .int .i64 n] w (SRet (.int .i64 (g.at9 n)) w) := by
  go_enter Tryz.func79, Tryz.ntmps79
  go_wp2_with (go_at_call 62; refine (place9 g _ _).mono ?_; rintro e w2 ⟨rfl, hb2⟩)
  go_ret
  exact SRet.mk rfl (by (repeat (first | exact Below.refl _ _ | apply Below.al | apply Below.dr | apply Below.drn | refine Below.tr ?_ (by assumption))))

/-- Where a session stands. -/
def sessAt (i : Int) : Int := if 0 ≤ i ∧ i < 4 then 8 + 64 * i else -1
theorem sess_least (i : Int) : Geo.at2 ⟨1, 2, 2⟩ i = sessAt i := by
  simp [Geo.at2, sessAt, Geo.may]
theorem sessionAt_any (i : Int) (w : World) (hG : Glob w) : Calls Tryz.prog 81 #[.int .i64 i] w (SRet (.int .i64 (sessAt i)) w) := by
  obtain ⟨c0, c1, c2⟩ := hG.cells
  have hp := place2 ⟨1, 2, 2⟩ i
  rw [sess_least] at hp
  go_enter Tryz.func81, Tryz.ntmps81
  go_wp2_with (go_at_call 62; refine (hp _).mono ?_; rintro e w2 ⟨rfl, hb2⟩)
  go_ret
  exact SRet.mk rfl (by (repeat (first | exact Below.refl _ _ | apply Below.al | apply Below.dr | apply Below.drn | refine Below.tr ?_ (by assumption))))

def slotAt (i k : Int) : Int := if (0 ≤ i ∧ i < 4) ∧ 0 ≤ k ∧ k < 4 then 8 + 64 * i + 8 + 12 * k else -1
set_option maxRecDepth 100000 in
theorem slotAt_part (i k : Int) (w : World) (hG : Glob w) :
    Calls Tryz.prog 82 #[.int .i64 i, .int .i64 k, .int .i64 4, .int .i64 8, .int .i64 12] w (SRet (.int .i64 (slotAt i k)) w) := by
  have hp := sessionAt_any i w hG
  unfold sessAt at hp
  by_cases hi : 0 ≤ i ∧ i < 4
  · rw [if_pos hi] at hp
    by_cases hk' : 0 ≤ k ∧ k < 4
    · have HR := Lib.hid (show slotAt i k = 8 + 64 * i + 8 + 12 * k by simp [slotAt, hi, hk'])
      obtain ⟨k1, k2⟩ := hk'
      obtain ⟨i1, i2⟩ := hi
      go_enter Tryz.func82, Tryz.ntmps82
      go_wp2_with (first
        | (go_at_call 81; refine hp.mono ?_; rintro e w2 ⟨rfl, hb2⟩)
        | (go_at_call 21; refine (within_yes (by omega)).mono ?_; rintro e w' ⟨rfl, rfl⟩))
      go_ret
      refine SRet.mk ?_ (by (repeat (first | exact Below.refl _ _ | apply Below.al | apply Below.dr | apply Below.drn | refine Below.tr ?_ (by assumption))))
      rw [HR.out]
      rfl
    · have HR := Lib.hid (show slotAt i k = -1 by unfold slotAt; rw [if_neg (fun h => hk' h.2)])
      have HK := Lib.hid hk'
      obtain ⟨i1, i2⟩ := hi
      clear hk'
      go_enter Tryz.func82, Tryz.ntmps82
      go_wp2_with (first
        | (go_at_call 81; refine hp.mono ?_; rintro e w2 ⟨rfl, hb2⟩)
        | (go_at_call 21; refine (within_no (by have := HK.out; omega)).mono ?_; rintro e w' ⟨rfl, rfl⟩))
      go_ret
      refine SRet.mk ?_ (by (repeat (first | exact Below.refl _ _ | apply Below.al | apply Below.dr | apply Below.drn | refine Below.tr ?_ (by assumption))))
      rw [HR.out]
      rfl
  · rw [if_neg hi] at hp
    have HR := Lib.hid (show slotAt i k = -1 by unfold slotAt; rw [if_neg (fun h => hi h.1)])
    clear hi
    go_enter Tryz.func82, Tryz.ntmps82
    go_wp2_with (go_at_call 81; refine hp.mono ?_; rintro e w2 ⟨rfl, hb2⟩)
    go_ret
    refine SRet.mk ?_ (by (repeat (first | exact Below.refl _ _ | apply Below.al | apply Below.dr | apply Below.drn | refine Below.tr ?_ (by assumption))))
    rw [HR.out]
    rfl
theorem slotAt_any (i k : Int) (w : World) (hG : Glob w) : Calls Tryz.prog 83 #[.int .i64 i, .int .i64 k] w (SRet (.int .i64 (slotAt i k)) w) := by
  have hp := slotAt_part i k w hG
  go_enter Tryz.func83, Tryz.ntmps83
  go_wp2_with (go_at_call 82; refine hp.mono ?_; rintro e w2 ⟨rfl, hb2⟩)
  go_ret
  exact SRet.mk rfl (by (repeat (first | exact Below.refl _ _ | apply Below.al | apply Below.dr | apply Below.drn | refine Below.tr ?_ (by assumption))))

def descAt (i k : Int) : Int := if (0 ≤ i ∧ i < 4) ∧ 0 ≤ k ∧ k < 4 then 8 + 64 * i + 56 + 2 * k else -1
set_option maxRecDepth 100000 in
theorem descAt_part (i k : Int) (w : World) (hG : Glob w) :
    Calls Tryz.prog 82 #[.int .i64 i, .int .i64 k, .int .i64 4, .int .i64 56, .int .i64 2] w (SRet (.int .i64 (descAt i k)) w) := by
  have hp := sessionAt_any i w hG
  unfold sessAt at hp
  by_cases hi : 0 ≤ i ∧ i < 4
  · rw [if_pos hi] at hp
    by_cases hk' : 0 ≤ k ∧ k < 4
    · have HR := Lib.hid (show descAt i k = 8 + 64 * i + 56 + 2 * k by simp [descAt, hi, hk'])
      obtain ⟨k1, k2⟩ := hk'
      obtain ⟨i1, i2⟩ := hi
      go_enter Tryz.func82, Tryz.ntmps82
      go_wp2_with (first
        | (go_at_call 81; refine hp.mono ?_; rintro e w2 ⟨rfl, hb2⟩)
        | (go_at_call 21; refine (within_yes (by omega)).mono ?_; rintro e w' ⟨rfl, rfl⟩))
      go_ret
      refine SRet.mk ?_ (by (repeat (first | exact Below.refl _ _ | apply Below.al | apply Below.dr | apply Below.drn | refine Below.tr ?_ (by assumption))))
      rw [HR.out]
      rfl
    · have HR := Lib.hid (show descAt i k = -1 by unfold descAt; rw [if_neg (fun h => hk' h.2)])
      have HK := Lib.hid hk'
      obtain ⟨i1, i2⟩ := hi
      clear hk'
      go_enter Tryz.func82, Tryz.ntmps82
      go_wp2_with (first
        | (go_at_call 81; refine hp.mono ?_; rintro e w2 ⟨rfl, hb2⟩)
        | (go_at_call 21; refine (within_no (by have := HK.out; omega)).mono ?_; rintro e w' ⟨rfl, rfl⟩))
      go_ret
      refine SRet.mk ?_ (by (repeat (first | exact Below.refl _ _ | apply Below.al | apply Below.dr | apply Below.drn | refine Below.tr ?_ (by assumption))))
      rw [HR.out]
      rfl
  · rw [if_neg hi] at hp
    have HR := Lib.hid (show descAt i k = -1 by unfold descAt; rw [if_neg (fun h => hi h.1)])
    clear hi
    go_enter Tryz.func82, Tryz.ntmps82
    go_wp2_with (go_at_call 81; refine hp.mono ?_; rintro e w2 ⟨rfl, hb2⟩)
    go_ret
    refine SRet.mk ?_ (by (repeat (first | exact Below.refl _ _ | apply Below.al | apply Below.dr | apply Below.drn | refine Below.tr ?_ (by assumption))))
    rw [HR.out]
    rfl
theorem descAt_any (i k : Int) (w : World) (hG : Glob w) : Calls Tryz.prog 69 #[.int .i64 i, .int .i64 k] w (SRet (.int .i64 (descAt i k)) w) := by
  have hp := descAt_part i k w hG
  go_enter Tryz.func69, Tryz.ntmps69
  go_wp2_with (go_at_call 82; refine hp.mono ?_; rintro e w2 ⟨rfl, hb2⟩)
  go_ret
  exact SRet.mk rfl (by (repeat (first | exact Below.refl _ _ | apply Below.al | apply Below.dr | apply Below.drn | refine Below.tr ?_ (by assumption))))

end Go.Proofs
