import Derived.Test.YtfoknihgngobfaaGreatDoorChkB
namespace Go.Proofs
open Go Go.RowKit

def nodeL (x : Node) : List Value := [.int .u64 x.kind, .int .u64 x.links, .int .u64 x.opens, .int .u64 x.size, .int .u64 x.d0, .int .u64 x.d1, .int .u64 x.d2, .int .u64 x.d3, .int .u64 x.chain, .int .u64 x.parent]
theorem LK.range {w : World} {b : Nat} {F : LKS} (h : LK w b F) (k : Nat) (hk : k < 64) : w.rangeAt b (6 + k * 10) (nodeL (F.node k)) := fun j v hj => by
  have hlt : j < 10 := by have := (List.getElem?_eq_some_iff.1 hj).1; simpa [nodeL] using this
  rw [h.nd k j hk hlt]
  rcases j with _ | _ | _ | _ | _ | _ | _ | _ | _ | _ | j
  all_goals first | (simp only [nodeL, List.getElem?_cons_zero, List.getElem?_cons_succ] at hj; rw [← hj]; rfl) | omega

section
variable {w : World} {b : Nat} {F : LKS}
set_option maxRecDepth 100000 in
set_option maxHeartbeats 2000000 in
/-- each, where the inode 1 alone is right: what is done is done once. -/
theorem each_ret1 (K : Nat) (hE : ∀ (ar : Array Value) (w : World), (callFunc K ar).run Tryz.prog w = .ok (.enter K ar) w) (c : Value) (N : Nat) (hN : F.g.I = N) (hN2 : 2 ≤ N) (hN64 : N ≤ 64) (hr1 : F.right 1 = true) (hr2 : ∀ k, 2 ≤ k → k < N → F.right k = false)
    (Q Q2 : World → Prop) (hQ : ∀ W, Q W → LK W b F) (hQ2 : ∀ W, Q2 W → LK W b F)
    (hdo : ∀ W, Q W → Calls Tryz.prog K #[.int .i64 1, (F.node 1).v, c] W fun e W' => e = .returned (.tuple #[]) ∧ Q2 W') (h0 : Q w) :
    Calls Tryz.prog 15 #[.pointer (some ⟨b, 0, none⟩), .func (.func K) #[] #[c]] w fun e W' => e = .returned (.tuple #[]) ∧ Q2 W' := by
  have HN := Lib.hid hN
  have HR := Lib.hid hr2
  have HR1 := Lib.hid hr1
  clear hN hr2 hr1
  go_enter Tryz.func15, Tryz.ntmps15
  go_wp2
  go_loopw [4] (fun i wr => ∃ k : Nat, i = .int .i64 k ∧ k ≤ N ∧ ((k = 1 ∧ Q wr) ∨ (2 ≤ k ∧ Q2 wr))) (fun i _ => N - (intOf i).toNat)
  case atStart => exact ⟨1, rfl, by omega, .inl ⟨rfl, h0⟩⟩
  case round =>
    obtain ⟨k, rfl, hkN, hor⟩ := hrel
    rcases hor with ⟨hk, hq⟩ | ⟨hk, hq⟩
    · have hKr := hQ _ hq
      obtain ⟨c0, c1, c2, c3, c4, c5⟩ := hKr.hd
      have hI : (k : Int) < F.g.I := by have := HN.out; omega
      have hrt := hKr.rt k (by omega)
      rw [show F.right k = true by rw [hk]; exact HR1.out] at hrt
      have hrg := hKr.range k (by omega)
      have hd : Calls Tryz.prog K #[.int .i64 (k : Int), .agg (nodeL (F.node k)).toArray, c] wr fun e W' => e = .returned (.tuple #[]) ∧ Q2 W' := by rw [hk]; exact hdo _ hq
      have hk64 : k < 64 := by omega
      have HK := Lib.hid hk
      clear hk hdo
      go_wp2_with (first
        | (refine wpList_load_mid (op := ⟨some 27, Op.load 49 (.tmp 26), _, _, _, _⟩) rfl 49 (.tmp 26) rfl b (6 + k * 10) rfl (nodeL (F.node k)) _ hrg Tryz.underlying49 rfl (by kernel_rfl) ?_)
        | ((with_reducible refine hd.mono ?_); rintro e w1 ⟨rfl, hq1⟩))
      go_roundw
      case rel => exact ⟨k + 1, by go_num, by have := HK.out; omega, .inr ⟨by have := HK.out; omega, hq1⟩⟩
      case measure => have := HK.out; simp [intOf]; omega
    · have hKr := hQ2 _ hq
      obtain ⟨c0, c1, c2, c3, c4, c5⟩ := hKr.hd
      by_cases hlt : k < N
      · have hI : (k : Int) < F.g.I := by have := HN.out; omega
        have hrt := hKr.rt k (by omega)
        rw [HR.out k hk hlt] at hrt
        clear hdo
        go_wp2
        go_roundw
        case rel => exact ⟨k + 1, by go_num, by omega, .inr ⟨by omega, hq⟩⟩
        case measure => simp [intOf]; omega
      · have hI : ¬ (k : Int) < F.g.I := by have := HN.out; omega
        clear hdo
        go_wp2
        go_end0
        exact ⟨rfl, hq⟩
end
end Go.Proofs
