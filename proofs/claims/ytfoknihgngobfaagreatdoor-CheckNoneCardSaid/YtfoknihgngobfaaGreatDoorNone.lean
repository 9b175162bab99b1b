import Derived.Test.YtfoknihgngobfaaGreatDoorWorks
namespace Go.Proofs
open Go Go.RowKit

section
variable {w : World} {v : Value} {I : List Int}
set_option maxRecDepth 100000 in
set_option maxHeartbeats 2000000 in
theorem none_great (h : SL w v I) (hl : 8192 < I.length) (hG : Glob w) : Calls Tryz.prog 3 #[v] w (SRet (.bool true) w) := by
  obtain ⟨a, c, rfl, -⟩ := h
  have hd : decide ((8192 : Int) < I.length) = true := decide_eq_true (by omega)
  have hi : (8192 : Int) < I.length := by omega
  have hw := works_ok hG
  clear hl hG
  go_enter Tryz.func3, Tryz.ntmps3
  go_wp2_with (go_at_call 4; refine hw.mono ?_; rintro e w1 ⟨rfl, hb1⟩)
  go_ret
  exact SRet.mk rfl (by (repeat (first | (with_reducible exact Below.refl _ _) | (with_reducible apply Below.dr) | (with_reducible apply Below.drn) | (with_reducible refine Below.setCell ?_ (by first | omega | (simp only; omega)) _) | (with_reducible apply Below.al) | (refine Below.tr ?_ (by with_reducible assumption)))))
set_option maxRecDepth 100000 in
set_option maxHeartbeats 2000000 in
theorem none_fit (h : SL w v I) (hl : I.length ≤ 8192) (hok : ∀ x ∈ I, u64ok x) (hG : Glob w) : Calls Tryz.prog 3 #[v] w (SRet (.bool true) w) := by
  have hof := of_any h hok (by omega)
  have hlk := fun {W : World} (hb : Below w.heap.size w W) (h0 : ofG I = none) => look_of (w := W) fun W' hb' => (looked_none ((h.below hb).below hb') hok (by omega) h0).mono fun e w' h => ⟨_, h.1, h.2⟩
  have hrn := fun {W : World} (hb : Below w.heap.size w W) (h0 : ofG I = none) => reach_none (w := W) fun W' hb' => (looked_none ((h.below hb).below hb') hok (by omega) h0).mono fun e w' h => ⟨h.1, h.2⟩
  have hw := fun {W : World} (hb : Below w.heap.size w W) => works_ok (hG.below hb)
  obtain ⟨a, c, rfl, -⟩ := h
  have hd : decide ((8192 : Int) < I.length) = false := decide_eq_false (by omega)
  have hi : ¬ (8192 : Int) < I.length := by omega
  obtain ⟨r, hr⟩ : ∃ r, ofG I = r := ⟨_, rfl⟩
  rw [hr] at hof
  clear hl hG hok
  cases r with
  | some g =>
    rw [ofv_some] at hof
    clear hlk hrn
    go_enter Tryz.func3, Tryz.ntmps3
    go_wp2_with (first
      | (go_at_call 5; refine hof.mono ?_; rintro e w1 ⟨rfl, hb1⟩)
      | (go_at_call 4; refine (hw (by (repeat (first | (with_reducible exact Below.refl _ _) | (with_reducible apply Below.dr) | (with_reducible apply Below.drn) | (with_reducible refine Below.setCell ?_ (by first | omega | (simp only; omega)) _) | (with_reducible apply Below.al) | (refine Below.tr ?_ (by with_reducible assumption)))))).mono ?_; rintro e w2 ⟨rfl, hb2⟩))
    go_ret
    exact SRet.mk rfl (by (repeat (first | (with_reducible exact Below.refl _ _) | (with_reducible apply Below.dr) | (with_reducible apply Below.drn) | (with_reducible refine Below.setCell ?_ (by first | omega | (simp only; omega)) _) | (with_reducible apply Below.al) | (refine Below.tr ?_ (by with_reducible assumption)))))
  | none =>
    rw [ofv_none] at hof
    have hlk := fun {W : World} (hb : Below w.heap.size w W) => hlk hb hr
    have hrn := fun {W : World} (hb : Below w.heap.size w W) => hrn hb hr
    go_enter Tryz.func3, Tryz.ntmps3
    go_wp2_with (first
      | (go_at_call 5; refine hof.mono ?_; rintro e w1 ⟨rfl, hb1⟩)
      | (go_at_call 6; refine (hlk (by (repeat (first | (with_reducible exact Below.refl _ _) | (with_reducible apply Below.dr) | (with_reducible apply Below.drn) | (with_reducible refine Below.setCell ?_ (by first | omega | (simp only; omega)) _) | (with_reducible apply Below.al) | (refine Below.tr ?_ (by with_reducible assumption)))))).mono ?_; rintro e w2 ⟨rfl, hb2⟩)
      | (go_at_call 7; refine (hrn (by (repeat (first | (with_reducible exact Below.refl _ _) | (with_reducible apply Below.dr) | (with_reducible apply Below.drn) | (with_reducible refine Below.setCell ?_ (by first | omega | (simp only; omega)) _) | (with_reducible apply Below.al) | (refine Below.tr ?_ (by with_reducible assumption)))))).mono ?_; rintro e w3 ⟨rfl, hb3⟩)
      | (go_at_call 4; refine (hw (by (repeat (first | (with_reducible exact Below.refl _ _) | (with_reducible apply Below.dr) | (with_reducible apply Below.drn) | (with_reducible refine Below.setCell ?_ (by first | omega | (simp only; omega)) _) | (with_reducible apply Below.al) | (refine Below.tr ?_ (by with_reducible assumption)))))).mono ?_; rintro e w4 ⟨rfl, hb4⟩))
    go_ret
    exact SRet.mk rfl (by (repeat (first | (with_reducible exact Below.refl _ _) | (with_reducible apply Below.dr) | (with_reducible apply Below.drn) | (with_reducible refine Below.setCell ?_ (by first | omega | (simp only; omega)) _) | (with_reducible apply Below.al) | (refine Below.tr ?_ (by with_reducible assumption)))))
theorem none_ok (h : SL w v I) (hok : ∀ x ∈ I, u64ok x) (hG : Glob w) : Calls Tryz.prog 3 #[v] w (SRet (.bool true) w) := by
  by_cases hl : I.length ≤ 8192
  · exact none_fit h hl hok hG
  · exact none_great h (by omega) hG
end
end Go.Proofs
