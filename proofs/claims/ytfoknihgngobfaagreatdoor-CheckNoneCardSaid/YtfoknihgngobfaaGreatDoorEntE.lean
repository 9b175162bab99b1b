import Derived.Test.YtfoknihgngobfaaGreatDoorEntL
import Derived.Test.YtfoknihgngobfaaGreatDoorIter
namespace Go.Proofs
open Go Go.RowKit
attribute [local go_sem] Oper.semAt_some

section
variable {Γ : Nat → Option Obj} {L : Nat → Prop} {w w' : World} {p : Addr} {s : VS} {q : Nat} {g : Geo} {n : Int}
abbrev entry0v : Value := .agg #[.string ⟨#[]⟩, .int .i64 0]
set_option maxRecDepth 100000 in
set_option maxHeartbeats 2000000 in
theorem entry_empty (hV : VW Γ L w p s) (h : BM w q p g n) (k : Int) (hk : s.bat g n k = (0, 0)) :
    Calls Tryz.prog 76 #[tablev (some p) g (some ⟨q, 0, none⟩), .int .i64 k] w (SRet (.tuple #[entry0v, .int .i64 0]) w) := by
  have hat := fun {L : Nat → Prop} {W : World} (h : VW Γ L W p s) (h2 : BM W q p g n) => at_any h h2 k
  simp only [hk] at hat
  clear hk
  go_enter Tryz.func76, Tryz.ntmps76
  go_wp2_with fail
  refine (hat ((hV.alloc _).alloc _) ((h.alloc _).alloc _)).mono ?_
  rintro e w1 ⟨rfl, hb1⟩
  have hY1 := (hb1.block (w.heap.size + 1) (by simp)).trans (heap_alloc2_new _ _ _)
  have hyc := (fun i => cell_of_row _ _ i _ _ _ hY1)
  have hyf := (fun i => frozen_of_row _ _ i _ _ hY1)
  go_wp2
  exact bodyPost_ret (results_cell_row_tmp rfl _ _ (w.heap.size + 1) 98 #[.string ⟨#[]⟩, .int .i64 0] (0, 0) _ rfl (setCell_block _ (setCell_block _ hY1)) Tryz.underlying98 rfl (by kernel_rfl)) rfl ⟨rfl, by (repeat (first | (with_reducible exact Below.refl _ _) | (with_reducible apply Below.dr) | (with_reducible apply Below.drn) | (with_reducible refine Below.setCell ?_ (by first | omega | (simp only; omega)) _) | (with_reducible apply Below.al) | (refine Below.tr ?_ (by with_reducible assumption))))⟩

abbrev K12 := { x : Nat // x < 12 }
def K12.mk (f i : Nat) : K12 := ⟨(f + i) % 12, Nat.mod_lt _ (by omega)⟩
def K12.enc (x : K12) : Array Value := #[.int .i64 (x.1 : Int)]

set_option maxRecDepth 100000 in
set_option maxHeartbeats 2000000 in
theorem around1_in (N : Nat) (hN : 1 ≤ N) (l Bm n₀ f : Nat) (hf : f < 12) {w0 : World} (hn0 : n₀ ≤ w0.heap.size) (hB : w0.cell? ⟨Bm, 0, none⟩ = some (.int .i64 f)) (J Jx : List K12 → World → Prop)
    (hY : ∀ pre x W, J pre W → pre.length < 12 → YieldAt Fence.wide (N - 1) Tryz.prog l x.enc W fun e W' =>
      (e = .returned (.bool true) ∧ J (pre ++ [x]) W' ∧ Keep (KK n₀ Bm) W W') ∨ (e = .returned (.bool false) ∧ Jx (pre ++ [x]) W'))
    (W : World) (hW : Below w0.heap.size w0 W) (_hJ : AbidesFrom W.heap.size J) (h0 : J [] W) :
    CallsIn Fence.wide N Tryz.prog 84 #[.func (.yield l) #[] #[], .pointer (some ⟨Bm, 0, none⟩)] W fun e W' => (∃ v, e = .returned v) ∧
      ((∃ ys, ys = upto (K12.mk f) 12 ∧ J ys W') ∨ (∃ pre, (∃ k, k ≤ 12 ∧ pre = upto (K12.mk f) k) ∧ Jx pre W')) := by
  have hBl := World.block_lt_of_cell? w0 _ hB
  have hKl : ∀ i, KK n₀ Bm i → i < w0.heap.size := fun i hi => hi.elim (fun h => Nat.lt_of_lt_of_le h hn0) (fun h => h ▸ hBl)
  have hc0 := (hW.cell (p := ⟨Bm, 0, none⟩) hBl).trans hB
  refine callsIn_of_wp Tryz.func84 rfl trivial ?_ rfl
  simp only [Tryz.ntmps84, List.size_toArray, List.length_cons, List.length_nil, Nat.reduceAdd, Nat.reduceSub, Array.replicate_succ, Array.replicate_zero, List.push_toArray, List.append_toArray, List.nil_append, List.cons_append]
  gi_wp2
  gi_loopw [4] (fun i wr => ∃ k : Nat, k ≤ 12 ∧ i = .int .i64 (k : Int) ∧ J (upto (K12.mk f) k) wr ∧ Keep (KK n₀ Bm) w0 wr)
    (fun i _ => (12 - intOf i).toNat)
  case atStart => exact ⟨0, Nat.zero_le _, rfl, h0, Keep.ofBelow hW hKl⟩
  case round =>
    obtain ⟨k, hk, rfl, hJs, hKr⟩ := hrel
    have cb := (hKr.cell Bm 0 (.inr rfl)).trans hB
    by_cases hlt : k < 12
    · have hlen : (upto (K12.mk f) k).length < 12 := by rw [upto_length]; exact hlt
      obtain ⟨fn, tmps, assign, body, hy, hR⟩ := hY _ (K12.mk f k) _ hJs hlen
      simp only [K12.enc, K12.mk] at hy
      rw [show (((f + k) % 12 : Nat) : Int) = ((f : Int) + (k : Int)) % 12 by omega] at hy
      gi_wp2
      refine hR.mono ?_
      rintro e W3 (⟨rfl, hJ3, hk3⟩ | ⟨rfl, hJx3⟩)
      · gi_wp2
        go_roundw
        case rel => exact ⟨k + 1, by omega, by go_num, by rw [upto_succ]; exact hJ3, Keep.trans hKr hk3⟩
        case measure => simp [intOf]; omega
      · gi_wp2
        refine bodyPost_ret (results_none rfl _ _ _) rfl ?_
        exact ⟨⟨_, rfl⟩, .inr ⟨_, ⟨k + 1, by omega, (upto_succ _ _).symm⟩, hJx3⟩⟩
    · obtain rfl : k = 12 := by omega
      gi_wp2
      go_end0
      exact ⟨⟨_, rfl⟩, .inl ⟨_, rfl, hJs⟩⟩

theorem around_any {w : World} (f : Int) : Calls Tryz.prog 75 #[.int .i64 f] w fun e w' =>
    e = .returned (.func (.func 84) #[] #[.pointer (some ⟨w.heap.size, 0, none⟩)]) ∧ w' = w.alloc (.cells #[.int .i64 f] 3) := by
  go_enter Tryz.func75, Tryz.ntmps75
  go_wp2
  go_ret
  exact ⟨rfl, rfl⟩
theorem around_stops (N : Nat) (hN : 1 ≤ N) (Bm n₀ f : Nat) (hf : f < 12) {w0 : World} (hn0 : n₀ ≤ w0.heap.size) (hB : w0.cell? ⟨Bm, 0, none⟩ = some (.int .i64 f)) :
    SeqStopsK Fence.wide N Tryz.prog 84 #[.pointer (some ⟨Bm, 0, none⟩)] K12.enc (Keep (KK n₀ Bm)) (fun ys => ys = upto (K12.mk f) 12) (fun pre => ∃ k, k ≤ 12 ∧ pre = upto (K12.mk f) k) 12 w0 := fun l J Jx W hW hJ _ hY h0 =>
  around1_in N hN l Bm n₀ f hf hn0 hB J Jx hY W hW hJ h0
end
end Go.Proofs
