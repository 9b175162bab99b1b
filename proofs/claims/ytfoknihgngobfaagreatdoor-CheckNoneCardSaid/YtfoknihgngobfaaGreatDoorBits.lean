import Derived.Test.YtfoknihgngobfaaGreatDoorIget
import Derived.Laws.BitsAllLaws
namespace Go.Proofs
open Go Go.RowKit

def bt (x k : Int) : Bool := x.toNat.testBit k.toNat
def setb (x k : Int) (b : Bool) : Int := if bt x k = b then x else ((x.toNat ^^^ 2 ^ k.toNat : Nat) : Int)

theorem pow_u64 {k : Int} (h0 : 0 ≤ k) (h1 : k < 64) : IntKind.u64.wrap (2 ^ k.toNat) = ((2 ^ k.toNat : Nat) : Int) := by
  have h : 2 ^ k.toNat < 2 ^ 64 := Nat.pow_lt_pow_right (by omega) (by omega)
  rw [IntKind.wrap_u64]
  simp only [Int.natCast_pow, Int.cast_ofNat_Int]
  have h' : ((2 ^ k.toNat : Nat) : Int) < ((2 ^ 64 : Nat) : Int) := by exact_mod_cast h
  simp only [Int.natCast_pow, Int.cast_ofNat_Int] at h'
  have h0 : (0 : Int) ≤ 2 ^ k.toNat := by have := Int.natCast_nonneg (2 ^ k.toNat); simpa using this
  rw [Int.emod_eq_of_lt h0 (by simpa using h')]
theorem pow_ok {k : Int} (h0 : 0 ≤ k) (h1 : k < 64) : u64ok ((2 ^ k.toNat : Nat) : Int) := by
  have h : 2 ^ k.toNat < 2 ^ 64 := Nat.pow_lt_pow_right (by omega) (by omega)
  refine ⟨Int.natCast_nonneg _, ?_⟩
  have e : (18446744073709551616 : Int) = ((2 ^ 64 : Nat) : Int) := by decide
  rw [e]; exact Int.ofNat_lt.2 h
theorem xor_lt {x k : Int} (hx : u64ok x) (h0 : 0 ≤ k) (h1 : k < 64) : (x.toNat ^^^ 2 ^ k.toNat) < 2 ^ 64 := by
  apply Nat.xor_lt_two_pow
  · have := hx.2; have := hx.1; omega
  · exact Nat.pow_lt_pow_right (by omega) (by omega)
theorem setb_ok {x k : Int} (hx : u64ok x) (h0 : 0 ≤ k) (h1 : k < 64) (b : Bool) : u64ok (setb x k b) := by
  unfold setb
  split
  · exact hx
  · have := xor_lt hx h0 h1
    unfold u64ok; omega
theorem bits_xor_pow {x k : Int} (hx : u64ok x) (h0 : 0 ≤ k) (h1 : k < 64) : bits .xor .u64 x ((2 ^ k.toNat : Nat) : Int) = ((x.toNat ^^^ 2 ^ k.toNat : Nat) : Int) := by
  rw [u64_xor _ _ hx.1 hx.2 (pow_ok h0 h1).1 (pow_ok h0 h1).2]; rfl
theorem bits_and_pow {x k : Int} (hx : u64ok x) (h0 : 0 ≤ k) (h1 : k < 64) : (bits .and .u64 x ((2 ^ k.toNat : Nat) : Int) != 0) = bt x k := by
  rw [u64_and _ _ hx.1 hx.2 (pow_ok h0 h1).1 (pow_ok h0 h1).2, Int.toNat_natCast, nat_bit]
  unfold bt
  rw [Nat.testBit_eq_decide_div_mod_eq]
  have hp := Nat.two_pow_pos k.toNat
  by_cases h : x.toNat / 2 ^ k.toNat % 2 = 1
  · rw [h, Nat.one_mul, bne_iff_ne.2 (by intro e; have := Int.ofNat.inj e; omega)]; simp
  · have h0 : x.toNat / 2 ^ k.toNat % 2 = 0 := by omega
    rw [h0]; simp
theorem bits_clear {x k : Int} (hx : u64ok x) (h0 : 0 ≤ k) (h1 : k < 64) : bits .andNot .u64 x ((2 ^ k.toNat : Nat) : Int) = setb x k false := by
  rw [u64_andNot _ _ hx.1 hx.2 (pow_ok h0 h1).1 (pow_ok h0 h1).2, Int.toNat_natCast]
  unfold setb bt
  have hlt : x.toNat < 2 ^ 64 := by have := hx.2; have := hx.1; omega
  have hp : 2 ^ k.toNat < 2 ^ 64 := Nat.pow_lt_pow_right (by omega) (by omega)
  have key : ∀ i, (x.toNat &&& (18446744073709551615 - 2 ^ k.toNat)).testBit i = (x.toNat.testBit i && !decide (k.toNat = i)) := by
    intro i
    rw [Nat.testBit_and]
    have e : 18446744073709551615 - 2 ^ k.toNat = 2 ^ 64 - (2 ^ k.toNat + 1) := by omega
    rw [e, Nat.testBit_two_pow_sub_succ hp, Nat.testBit_two_pow]
    by_cases hi : i < 64
    · simp [hi]
    · rw [Nat.testBit_lt_two_pow (Nat.lt_of_lt_of_le hlt (Nat.pow_le_pow_right (by omega) (by omega)))]; simp
  cases hb : x.toNat.testBit k.toNat
  · rw [if_pos rfl]
    have : x.toNat &&& (18446744073709551615 - 2 ^ k.toNat) = x.toNat := by
      apply Nat.eq_of_testBit_eq
      intro i
      rw [key]
      by_cases hi : k.toNat = i
      · subst hi; simp [hb]
      · simp [hi]
    rw [this]; have := hx.1; omega
  · rw [if_neg (by simp)]
    congr 1
    apply Nat.eq_of_testBit_eq
    intro i
    rw [key, Nat.testBit_xor, Nat.testBit_two_pow]
    by_cases hi : k.toNat = i
    · subst hi; simp [hb]
    · simp [hi]
theorem bt_clear {x k : Int} : bt (setb x k false) k = false := by
  unfold setb
  cases hb : bt x k
  · simp [hb]
  · rw [if_neg (by simp)]
    unfold bt at hb ⊢
    rw [Int.toNat_natCast, Nat.testBit_xor, Nat.testBit_two_pow]
    simp [hb]
theorem bits_or_pow {x k : Int} (hx : u64ok x) (h0 : 0 ≤ k) (h1 : k < 64) : bits .or .u64 (setb x k false) ((2 ^ k.toNat : Nat) : Int) = setb x k true := by
  have hs := setb_ok hx h0 h1 false
  rw [u64_or _ _ hs.1 hs.2 (pow_ok h0 h1).1 (pow_ok h0 h1).2, Int.toNat_natCast]
  unfold setb bt
  cases hb : x.toNat.testBit k.toNat
  · rw [if_pos rfl, if_neg (by simp)]
    congr 1
    apply Nat.eq_of_testBit_eq
    intro i
    rw [Nat.testBit_or, Nat.testBit_xor, Nat.testBit_two_pow]
    by_cases hi : k.toNat = i
    · subst hi; simp [hb]
    · simp [hi]
  · rw [if_neg (by simp), if_pos rfl]
    have e : (x.toNat ^^^ 2 ^ k.toNat) ||| 2 ^ k.toNat = x.toNat := by
      apply Nat.eq_of_testBit_eq
      intro i
      rw [Nat.testBit_or, Nat.testBit_xor, Nat.testBit_two_pow]
      by_cases hi : k.toNat = i
      · subst hi; simp [hb]
      · simp [hi]
    rw [Int.toNat_natCast, e]
    have := hx.1; omega
end Go.Proofs
