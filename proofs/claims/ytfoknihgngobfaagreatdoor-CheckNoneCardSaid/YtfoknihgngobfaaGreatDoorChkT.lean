import Derived.Test.YtfoknihgngobfaaGreatDoorChkB
namespace Go.Proofs
open Go Go.RowKit

section
variable {Γ : Nat → Option Obj} {L : Nat → Prop} {w : World} {b : Nat} {F : LKS} {s : VS} {a m : Int}

/-- What taken asks of one inode that nobody has. -/
structure Bare (s : VS) (F : LKS) (a m : Int) (k : Nat) : Prop where
  bit : s.bit a m k = false
  words : ∀ i : Int, 0 ≤ i → i < 10 → s.get (F.g.at8 k + i) = 0
/-- What it asks of one that is there. -/
structure Full (s : VS) (F : LKS) (a m : Int) (k : Nat) : Prop where
  bit : s.bit a m k = true
  kind : s.get (F.g.at8 k) ≠ 0
  right : F.right k = true
/-- What fails: a bit that is set, and no kind. -/
structure Odd (s : VS) (F : LKS) (a m : Int) (k : Nat) : Prop where
  bit : s.bit a m k = true
  kind : s.get (F.g.at8 k) = 0

set_option maxRecDepth 100000 in
set_option maxHeartbeats 4000000 in
theorem taken_ok (hK : LK w b F) (hV : VW Γ L w F.p s) (hq : MB w F.mi F.p a m) (ha : 0 ≤ a ∧ a ≤ 1000000) (hm : m ≤ 1000000) (N : Nat) (hN : F.g.I = N) (hN64 : N ≤ 64)
    (X : Nat) (hX : X = N ∨ (1 ≤ X ∧ X < N ∧ Odd s F a m X)) (hs : ∀ k : Nat, 1 ≤ k → k < X → Bare s F a m k ∨ Full s F a m k) :
    Calls Tryz.prog 28 #[.pointer (some ⟨b, 0, none⟩)] w fun e w' => (e = if X = N then .returned (.tuple #[]) else .panicked (faulte 5 X 0)) ∧ Below w.heap.size w w' := by
  obtain ⟨a0, a1⟩ := ha
  have hX1 : 1 ≤ X ∨ X = N := by omega
  have HS := Lib.hid hs
  have HX := Lib.hid hX
  have HN := Lib.hid hN
  clear hs hX hN
  go_enter Tryz.func28, Tryz.ntmps28
  go_wp2
  go_loopw [2] (fun i wr => ∃ k : Nat, 1 ≤ k ∧ (k ≤ X ∨ X < 1) ∧ i = .int .i64 k ∧ Below w.heap.size w wr) (fun i _ => N - (intOf i).toNat)
  case atStart => exact ⟨1, by omega, by omega, rfl, Below.refl _ _⟩
  case round =>
    obtain ⟨k, hk1, hkX, rfl, hB⟩ := hrel
    obtain ⟨wo, rfl⟩ : ∃ wo : World, wo = wr := ⟨_, rfl⟩
    have hKo : LK wo b F := LKf.below hK hB
    obtain ⟨c0, c1, c2, c3, c4, c5⟩ := hKo.hd
    by_cases hkN : k < N
    · have hkI : (k : Int) < F.g.I := by have := HN.out; omega
      obtain ⟨at', hat⟩ : ∃ x, F.g.at8 k = x := ⟨_, rfl⟩
      have hbd := at8_bd F.g k
      have hia := fun W => inodeAt_any F.g k W
      rw [hat] at hbd hia
      obtain ⟨bd0, bd1⟩ := hbd
      have hrt := fun {W : World} (h : LK W b F) => h.rt k (by omega)
      by_cases hlt : k < X
      · rcases HS.out k hk1 hlt with ⟨hb0, hw0⟩ | ⟨hb0, hw0, hr0⟩
        · rw [hat] at hw0
          have hb := fun {L : Nat → Prop} {W : World} (h : VW Γ L W F.p s) (h2 : MB W F.mi F.p a m) => mget_any h h2 ⟨a0, a1⟩ hm k
          rw [hb0] at hb
          have h00 : s.get at' = 0 := by have := hw0 0 (by omega) (by omega); simpa using this
          have HW := Lib.hid hw0
          clear hw0 hb0 hat
          go_wp2_with (first
            | (go_at_call 48; refine (hia _).mono ?_; rintro e w1 ⟨rfl, hb1⟩; obtain ⟨d0, d1, d2, d3, d4, d5⟩ := LK.hd (LKf.below hKo hb1); have hB1 : Below w.heap.size w w1 := by (repeat (first | exact Below.refl _ _ | apply Below.al | apply Below.dr | apply Below.drn | refine Below.tr ?_ (by assumption))))
            | (go_at_call 42; refine (hb (hV.below hB1) (hq.below hB1)).mono ?_; rintro e w2 ⟨rfl, hb2⟩; obtain ⟨e0, e1, e2, e3, e4, e5⟩ := LK.hd (LKf.below (LKf.below hKo hb1) hb2); have hB2 : Below w.heap.size w w2 := by (repeat (first | exact Below.refl _ _ | apply Below.al | apply Below.dr | apply Below.drn | refine Below.tr ?_ (by assumption))))
            | (go_at_call 49; refine (get_any (hV.below hB2) _).mono ?_; rintro e w' ⟨rfl, rfl⟩)
            | (go_at_call 36; refine (must_yes _ _ _ _).mono ?_; rintro e w' ⟨rfl, rfl⟩))
          clear hb hia
          go_loopw [50] (fun v wi => ∃ j : Nat, j ≤ 10 ∧ v = .int .i64 j ∧ w2 = wi) (fun v _ => 10 - (intOf v).toNat)
          case atStart => exact ⟨0, by omega, rfl, by first | rfl | trivial⟩
          case round =>
            obtain ⟨j, hj, rfl, rfl⟩ := hrel
            by_cases hj10 : j < 10
            · have h0j : s.get (at' + j) = 0 := HW.out j (by omega) (by omega)
              go_wp2_with (first
                | (go_at_call 49; refine (get_any (hV.below hB2) _).mono ?_; rintro e w' ⟨rfl, rfl⟩)
                | (go_at_call 36; refine (must_yes _ _ _ _).mono ?_; rintro e w' ⟨rfl, rfl⟩))
              go_roundw
              case rel => exact ⟨j + 1, by omega, by go_num, trivial⟩
              case measure => simp [intOf]; omega
            · go_wp2
              go_roundw
              case rel => exact ⟨k + 1, by omega, by omega, by go_num, hB2⟩
              case measure => simp [intOf]; omega
        · have hb := fun {L : Nat → Prop} {W : World} (h : VW Γ L W F.p s) (h2 : MB W F.mi F.p a m) => mget_any h h2 ⟨a0, a1⟩ hm k
          rw [hb0] at hb
          rw [hr0] at hrt
          rw [hat] at hw0
          have hne : (s.get at' != 0) = true := by simpa using hw0
          clear hw0 hb0 hr0 hat
          go_wp2_with (first
            | (go_at_call 48; refine (hia _).mono ?_; rintro e w1 ⟨rfl, hb1⟩; obtain ⟨d0, d1, d2, d3, d4, d5⟩ := LK.hd (LKf.below hKo hb1); have hB1 : Below w.heap.size w w1 := by (repeat (first | exact Below.refl _ _ | apply Below.al | apply Below.dr | apply Below.drn | refine Below.tr ?_ (by assumption))))
            | (go_at_call 42; refine (hb (hV.below hB1) (hq.below hB1)).mono ?_; rintro e w2 ⟨rfl, hb2⟩; obtain ⟨e0, e1, e2, e3, e4, e5⟩ := LK.hd (LKf.below (LKf.below hKo hb1) hb2); have hr2 := hrt (LKf.below (LKf.below hKo hb1) hb2); have hB2 : Below w.heap.size w w2 := by (repeat (first | exact Below.refl _ _ | apply Below.al | apply Below.dr | apply Below.drn | refine Below.tr ?_ (by assumption))))
            | (go_at_call 49; refine (get_any (hV.below hB2) _).mono ?_; rintro e w' ⟨rfl, rfl⟩)
            | (go_at_call 36; refine (must_yes _ _ _ _).mono ?_; rintro e w' ⟨rfl, rfl⟩))
          clear hb hia
          go_loopw [50] (fun v wi => ∃ j : Nat, j ≤ 10 ∧ v = .int .i64 j ∧ w2 = wi) (fun v _ => 10 - (intOf v).toNat)
          case atStart => exact ⟨0, by omega, rfl, by first | rfl | trivial⟩
          case round =>
            obtain ⟨j, hj, rfl, rfl⟩ := hrel
            by_cases hj10 : j < 10
            · go_wp2_with (go_at_call 36; refine (must_yes _ _ _ _).mono ?_; rintro e w' ⟨rfl, rfl⟩)
              go_roundw
              case rel => exact ⟨j + 1, by omega, by go_num, by first | rfl | trivial⟩
              case measure => simp [intOf]; omega
            · go_wp2
              go_roundw
              case rel => exact ⟨k + 1, by omega, by omega, by go_num, hB2⟩
              case measure => simp [intOf]; omega
      · obtain rfl : k = X := by omega
        have hne : ¬ k = N := by omega
        rcases HX.out with e | ⟨-, -, hb0, hw0⟩
        · exact absurd e hne
        have hb := fun {L : Nat → Prop} {W : World} (h : VW Γ L W F.p s) (h2 : MB W F.mi F.p a m) => mget_any h h2 ⟨a0, a1⟩ hm k
        rw [hb0] at hb
        rw [hat] at hw0
        have HNE := Lib.hid hne
        clear hb0 hat hne
        go_wp2_with (first
            | (go_at_call 48; refine (hia _).mono ?_; rintro e w1 ⟨rfl, hb1⟩; obtain ⟨d0, d1, d2, d3, d4, d5⟩ := LK.hd (LKf.below hKo hb1); have hB1 : Below w.heap.size w w1 := by (repeat (first | exact Below.refl _ _ | apply Below.al | apply Below.dr | apply Below.drn | refine Below.tr ?_ (by assumption))))
            | (go_at_call 42; refine (hb (hV.below hB1) (hq.below hB1)).mono ?_; rintro e w2 ⟨rfl, hb2⟩; obtain ⟨e0, e1, e2, e3, e4, e5⟩ := LK.hd (LKf.below (LKf.below hKo hb1) hb2); have hr2 := hrt (LKf.below (LKf.below hKo hb1) hb2); have hB2 : Below w.heap.size w w2 := by (repeat (first | exact Below.refl _ _ | apply Below.al | apply Below.dr | apply Below.drn | refine Below.tr ?_ (by assumption))))
            | (go_at_call 49; refine (get_any (hV.below hB2) _).mono ?_; rintro e w' ⟨rfl, rfl⟩)
            | (go_at_call 36; refine (must_no _ _ _ _).mono ?_; rintro e w' ⟨rfl, rfl⟩))
        refine ⟨rfl, ?_, hB2⟩
        first | rfl | rw [if_neg HNE.out]
    · have hNX : X = N := by have := HX.out; omega
      have hnk : ¬ (k : Int) < F.g.I := by have := HN.out; omega
      have HNX := Lib.hid hNX
      clear hNX
      go_wp2
      go_end0
      exact ⟨by first | rfl | rw [if_pos HNX.out], hB⟩
end
end Go.Proofs
