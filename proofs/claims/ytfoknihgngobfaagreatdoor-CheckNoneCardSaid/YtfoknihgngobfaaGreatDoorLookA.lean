import Derived.Test.YtfoknihgngobfaaGreatDoorChkP
import Derived.Test.YtfoknihgngobfaaGreatDoorChkT
import Derived.Test.YtfoknihgngobfaaGreatDoorChkB2
namespace Go.Proofs
open Go Go.RowKit

section
variable {Γ : Nat → Option Obj} {L : Nat → Prop} {w : World} {b : Nat} {F : LKS} {s : VS}
theorem looked2_ok (hK : LK w b F) (hV : VW Γ L w F.p s) {X : Nat} (hX : w.cell? ⟨X, 0, none⟩ = some (.pointer (some ⟨b, 0, none⟩))) (h0 : (s.iget F.g 1).2 = 0) (h2 : (s.iget F.g 1).1.kind = 2) (he : ∀ k : Nat, k < 12 → s.bat F.g 1 k = (0, 0)) :
    Calls Tryz.prog 29 #[.pointer (some ⟨X, 0, none⟩)] w (SRet (.tuple #[]) w) := by
  have hb := below_root hK hV h0 h2 he
  clear h0 h2 he
  go_enter Tryz.func29, Tryz.ntmps29
  go_wp2_with (go_at_call 30; refine hb.mono ?_; rintro e w1 ⟨rfl, hb1⟩)
  go_end0
  exact ⟨rfl, hb1⟩

set_option maxRecDepth 100000 in
theorem catch_fault (bf bi : Nat) (k a c : Int) (older : List PanicEntry) (w : World) (f0 f1 f2 i0 : Value) (h0 : w.cell? ⟨bf, 0, none⟩ = some f0) (h1 : w.cell? ⟨bf, 1, none⟩ = some f1) (h2 : w.cell? ⟨bf, 2, none⟩ = some f2) (hi : w.cell? ⟨bi, 0, none⟩ = some i0)
    (z0 : w.frozen? ⟨bf, 0, none⟩ = false) (z1 : w.frozen? ⟨bf, 1, none⟩ = false) (z2 : w.frozen? ⟨bf, 2, none⟩ = false) (zi : w.frozen? ⟨bi, 0, none⟩ = false) (hne : bf ≠ bi) :
    CallsD Tryz.prog 23 #[.pointer (some ⟨bf, 0, none⟩), .pointer (some ⟨bi, 0, none⟩)] (.panicking ({ v := .iface 29 (faultv k a c), recovered := false } :: older)) w fun e u' w' =>
      e = .returned (.tuple #[]) ∧ u' = .panicking ({ v := .iface 29 (faultv k a c), recovered := true } :: older) ∧
        w' = (((w.setCell ⟨bf, 0, none⟩ (.int .i64 k)).setCell ⟨bf, 1, none⟩ (.int .i64 a)).setCell ⟨bf, 2, none⟩ (.int .i64 c)).setCell ⟨bi, 0, none⟩ (.bool false) := by
  refine callsD_of_wpS Tryz.func23 rfl fun c₀ cs hu => ?_
  apply wpS_seq
  apply wpS_region
  simp [wpOpsS, go_sem, recoverD, hu, Tryz.ntmps23, Exit.thenS]
  apply wpS_seq
  apply wpS_region
  simp [wpOpsS, go_sem, Exit.thenS]
  refine wpS_cond (t := true) (by simp [Act.eval, Array.replicate]) ?_
  simp only [if_true]
  have n1 : (⟨bi, 0, none⟩ : Addr) ≠ ⟨bf, 0, none⟩ := by intro e; injection e with e; exact hne e.symm
  apply wpS_region
  have hta : ∀ w, (Instr.typeAssert (.iface 29 (.agg #[.int .i64 k, .int .i64 a, .int .i64 c])) 20 29 false).run Tryz.prog w = .ok (.agg #[.int .i64 k, .int .i64 a, .int .i64 c]) w := fun w => by kernel_rfl
  simp [wpOpsS, go_sem, hta, h0, h1, h2, hi, z0, z1, z2, zi]
  simp [bodyPostS, results, Tryz.results23]

theorem catch_none (bf bi : Nat) (w : World) :
    CallsD Tryz.prog 23 #[.pointer (some ⟨bf, 0, none⟩), .pointer (some ⟨bi, 0, none⟩)] .returning w fun e u' w' => e = .returned (.tuple #[]) ∧ u' = .returning ∧ w' = w := by
  refine callsD_of_wpS Tryz.func23 rfl fun c₀ cs hu => ?_
  apply wpS_seq
  apply wpS_region
  simp [wpOpsS, go_sem, recoverD, hu, Tryz.ntmps23, Exit.thenS]
  apply wpS_seq
  apply wpS_region
  simp [wpOpsS, go_sem, Exit.thenS]
  refine wpS_cond (t := false) (by simp [Act.eval, Array.replicate]) ?_
  simp only [Bool.false_eq_true, if_false]
  refine wpS_of_wp (wp_skip ?_)
  cases c₀
  simp_all [bodyPostS, results, Tryz.results23]
end
end Go.Proofs
