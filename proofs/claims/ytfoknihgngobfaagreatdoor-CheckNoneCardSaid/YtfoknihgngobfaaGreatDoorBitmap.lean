import Derived.Test.YtfoknihgngobfaaGreatDoorBits
namespace Go.Proofs
open Go Go.RowKit

/-- A map of bits lies at q. -/
def MB (w : World) (q : Nat) (p : Addr) (a m : Int) : Prop := w.heap[q]? = some (.cells #[.pointer (some p), .int .i64 a, .int .i64 m] 108 (0, 0))
theorem MB.cells {w : World} {q : Nat} {p : Addr} {a m : Int} (h : MB w q p a m) : w.cell? ⟨q, 0, none⟩ = some (.pointer (some p)) ∧ w.cell? ⟨q, 1, none⟩ = some (.int .i64 a) ∧ w.cell? ⟨q, 2, none⟩ = some (.int .i64 m) := by
  unfold MB at h
  simp [World.cell?, h]

theorem MB.below {w w' : World} {q : Nat} {p : Addr} {a m : Int} (h : MB w q p a m) (hb : Below w.heap.size w w') : MB w' q p a m := (hb.block _ (blk_lt h)).trans h
theorem MB.alloc {w : World} {q : Nat} {p : Addr} {a m : Int} (h : MB w q p a m) (o : Obj) : MB (w.alloc o) q p a m := (Below.heap_alloc _ _ _ (blk_lt h)).trans h

def mhas (m i : Int) : Bool := decide (0 ≤ i) && decide (i < m)
theorem mhas_any {w : World} {q : Nat} {p : Addr} {a m : Int} (h : MB w q p a m) (i : Int) :
    Calls Tryz.prog 66 #[.pointer (some ⟨q, 0, none⟩), .int .i64 i] w fun e w' => e = .returned (.bool (mhas m i)) ∧ w' = w := by
  obtain ⟨c0, c1, c2⟩ := h.cells
  by_cases h0 : 0 ≤ i
  · by_cases h1 : i < m
    · go_enter Tryz.func66, Tryz.ntmps66
      go_wp2
      go_ret
      exact ⟨by simp [mhas, h0, h1], rfl⟩
    · go_enter Tryz.func66, Tryz.ntmps66
      go_wp2
      go_ret
      exact ⟨by simp [mhas, h1], rfl⟩
  · go_enter Tryz.func66, Tryz.ntmps66
    go_wp2
    go_ret
    exact ⟨by simp [mhas]; intro h; omega, rfl⟩
theorem mword_any {w : World} {q : Nat} {p : Addr} {a m : Int} (h : MB w q p a m) (ha : 0 ≤ a ∧ a ≤ 1000000) (hm : m ≤ 1000000) (i : Int) (hi : mhas m i = true) :
    Calls Tryz.prog 67 #[.pointer (some ⟨q, 0, none⟩), .int .i64 i] w (SRet (.tuple #[.int .i64 (a + i / 64), .int .u64 (2 ^ (i % 64).toNat)]) w) := by
  obtain ⟨c0, c1, c2⟩ := h.cells
  simp only [mhas, Bool.and_eq_true, decide_eq_true_eq] at hi
  obtain ⟨i0, i1⟩ := hi
  obtain ⟨a0, a1⟩ := ha
  have hq : i.tdiv 64 = i / 64 := Int.tdiv_eq_ediv_of_nonneg i0
  have hr : i.tmod 64 = i % 64 := Int.tmod_eq_emod_of_nonneg i0
  have hp := pow_u64 (k := i % 64) (by omega) (by omega)
  simp only [Int.natCast_pow, Int.cast_ofNat_Int] at hp
  go_enter Tryz.func67, Tryz.ntmps67
  go_wp2
  go_quiet (fail)
  go_wp2
  go_ret2
  exact SRet.mk rfl (by (repeat (first | exact Below.refl _ _ | apply Below.al | apply Below.dr | apply Below.drn | refine Below.tr ?_ (by assumption))))

/-- A bit of a map at a, of m bits. -/
def VS.bit (s : VS) (a m i : Int) : Bool := mhas m i && bt (s.get (a + i / 64)) (i % 64)
def VS.setBit (s : VS) (a m i : Int) (b : Bool) : Int × VS := if mhas m i then s.put (a + i / 64) (setb (s.get (a + i / 64)) (i % 64) b) else (8, s)

theorem mget_any {Γ : Nat → Option Obj} {L : Nat → Prop} {w : World} {p : Addr} {s : VS} (h : VW Γ L w p s) {q : Nat} {a m : Int} (hq : MB w q p a m) (ha : 0 ≤ a ∧ a ≤ 1000000) (hm : m ≤ 1000000) (i : Int) :
    Calls Tryz.prog 42 #[.pointer (some ⟨q, 0, none⟩), .int .i64 i] w (SRet (.bool (s.bit a m i)) w) := by
  obtain ⟨c0, c1, c2⟩ := hq.cells
  by_cases hi : mhas m i = true
  · have hb := bits_and_pow (x := s.get (a + i / 64)) (k := i % 64) (get_ok h.okv _) (by omega) (by omega)
    simp only [Int.natCast_pow, Int.cast_ofNat_Int] at hb
    go_enter Tryz.func42, Tryz.ntmps42
    go_wp2_with (first
      | (go_at_call 66; refine (mhas_any hq i).mono ?_; rintro e w' ⟨rfl, rfl⟩)
      | (go_at_call 67; refine (mword_any hq ha hm i hi).mono ?_; rintro e w1 ⟨rfl, hb1⟩; have hc1 := (bcell hb1).1; have hz := blk_lt hq)
      | (go_at_call 49; refine (get_any (h.below hb1) _).mono ?_; rintro e w' ⟨rfl, rfl⟩))
    go_ret
    exact SRet.mk (congrArg Value.bool (by simp [VS.bit, hi])) (by (repeat (first | exact Below.refl _ _ | apply Below.al | apply Below.dr | apply Below.drn | refine Below.tr ?_ (by assumption))))
  · have hb : mhas m i = false := by simpa using hi
    go_enter Tryz.func42, Tryz.ntmps42
    go_wp2_with (first
      | (go_at_call 66; refine (mhas_any hq i).mono ?_; rintro e w' ⟨rfl, rfl⟩))
    go_ret
    exact SRet.mk (by simp [VS.bit, hb]) (by (repeat (first | exact Below.refl _ _ | apply Below.al | apply Below.dr | apply Below.drn | refine Below.tr ?_ (by assumption))))
/-- Why there is no map. -/
def VS.mof (s : VS) (a m : Int) : Int := if m < 1 then 1 else if a < 0 ∨ a ≥ s.I.length ∨ (m - 1) / 64 ≥ s.I.length - a then 8 else 0
def MRet (r a m : Int) (p : Addr) (w : World) (e : Ending) (w' : World) : Prop := ∃ q : Option Nat, e = .returned (.tuple #[.pointer (q.map fun q => ⟨q, 0, none⟩), .int .i64 r]) ∧ Below w.heap.size w w' ∧ (r = 0 → ∃ b, q = some b ∧ w.heap.size ≤ b ∧ MB w' b p a m)

set_option maxHeartbeats 1000000 in
theorem mof_any {Γ : Nat → Option Obj} {L : Nat → Prop} {w : World} {p : Addr} {s : VS} (h : VW Γ L w p s) (a m : Int) (ha : -1000000 ≤ a ∧ a ≤ 1000000) (hm : -1000000 ≤ m ∧ m ≤ 1000000) :
    Calls Tryz.prog 38 #[.pointer (some p), .int .i64 a, .int .i64 m] w (MRet (s.mof a m) a m p w) := by
  obtain ⟨a0, a1⟩ := ha
  obtain ⟨m0, m1⟩ := hm
  obtain ⟨r, hr⟩ : ∃ r, s.mof a m = r := ⟨_, rfl⟩
  rw [hr]
  have HR := Lib.hid hr
  unfold VS.mof at HR
  clear hr
  have hlen : (s.I.length : Int) ≤ 17592186044415 := by have := h.okv.2.2.2.2; omega
  by_cases hm1 : m < 1
  · have hR : r = 1 := by rw [← HR.out, if_pos hm1]
    subst hR
    go_enter Tryz.func38, Tryz.ntmps38
    go_wp2
    go_ret2
    exact ⟨none, rfl, Below.refl _ _, fun e => absurd e (by decide)⟩
  have hq : (m - 1).tdiv 64 = (m - 1) / 64 := Int.tdiv_eq_ediv_of_nonneg (by omega)
  by_cases hx : a < 0 ∨ a ≥ s.I.length ∨ (m - 1) / 64 ≥ s.I.length - a
  · have hR : r = 8 := by rw [← HR.out, if_neg hm1, if_pos hx]
    clear HR
    subst hR
    by_cases h1 : a < 0
    · go_enter Tryz.func38, Tryz.ntmps38
      go_wp2
      go_ret2
      exact ⟨none, rfl, Below.refl _ _, fun e => absurd e (by decide)⟩
    · by_cases h2 : a ≥ s.I.length
      · go_enter Tryz.func38, Tryz.ntmps38
        go_wp2_with (go_at_call 61; refine (len_any h).mono ?_; rintro e w' ⟨rfl, rfl⟩)
        go_ret2
        exact ⟨none, rfl, Below.refl _ _, fun e => absurd e (by decide)⟩
      · have h3 : (m - 1) / 64 ≥ s.I.length - a := by omega
        clear hx
        go_enter Tryz.func38, Tryz.ntmps38
        go_wp2_with (go_at_call 61; refine (len_any h).mono ?_; rintro e w' ⟨rfl, rfl⟩)
        go_ret2
        exact ⟨none, rfl, Below.refl _ _, fun e => absurd e (by decide)⟩
  · have hR : r = 0 := by rw [← HR.out, if_neg hm1, if_neg hx]
    clear HR
    subst hR
    have h1 : ¬ a < 0 := by omega
    have h2 : ¬ a ≥ s.I.length := by omega
    have h3 : ¬ (m - 1) / 64 ≥ s.I.length - a := by omega
    clear hx
    go_enter Tryz.func38, Tryz.ntmps38
    go_wp2_with (go_at_call 61; refine (len_any h).mono ?_; rintro e w' ⟨rfl, rfl⟩)
    go_ret2
    exact ⟨some _, rfl, by (repeat (first | exact Below.refl _ _ | apply Below.al | apply Below.dr | apply Below.drn | refine Below.tr ?_ (by assumption))), fun _ => ⟨_, rfl, Nat.le_refl _, heap_alloc_new _ _⟩⟩
end Go.Proofs
