import Derived.Test.YtfoknihgngobfaaGreatDoorBlkAt
namespace Go.Proofs
open Go Go.RowKit

def BRet (r : Int) (p : Addr) (g : Geo) (n : Int) (w : World) (e : Ending) (w' : World) : Prop :=
  ∃ q : Option Nat, e = .returned (.tuple #[.pointer (q.map fun q => ⟨q, 0, none⟩), .int .i64 r]) ∧ Below w.heap.size w w' ∧ (r = 0 → ∃ b, q = some b ∧ w.heap.size ≤ b ∧ BM w' b p g n)
section
variable {Γ : Nat → Option Obj} {L : Nat → Prop} {w w' : World} {p : Addr} {s : VS} {q : Nat} {g : Geo} {n : Int}
set_option maxRecDepth 100000 in
set_option maxHeartbeats 2000000 in
theorem bof_any (hV : VW Γ L w p s) (g : Geo) (n : Int) : Calls Tryz.prog 77 #[.pointer (some p), g.v, .int .i64 n] w (BRet (s.iget g n).2 p g n w) := by
  have hig := fun {L : Nat → Prop} {W : World} (h : VW Γ L W p s) => iget_any h g n
  obtain ⟨⟨x, e⟩, hx⟩ : ∃ x, s.iget g n = x := ⟨_, rfl⟩
  simp only [hx] at hig ⊢
  clear hx
  by_cases he : e = 0
  · subst he
    go_enter Tryz.func77, Tryz.ntmps77
    go_wp2_with fail
    refine (hig (hV.alloc _)).mono ?_
    rintro e w1 ⟨rfl, hb1⟩
    have hX1 := (hb1.block w.heap.size (by simp)).trans (heap_alloc_new _ _)
    have hxc := (fun i => cell_of_row _ _ i _ _ _ hX1)
    have hz1 : w.heap.size < w1.heap.size := by have := hb1.size; simp at this; omega
    go_wp2
    go_ret2
    exact ⟨some _, rfl, by (repeat (first | (with_reducible exact Below.refl _ _) | (with_reducible apply Below.dr) | (with_reducible apply Below.drn) | (with_reducible refine Below.setCell ?_ (by first | omega | (simp only; omega)) _) | (with_reducible apply Below.al) | (refine Below.tr ?_ (by with_reducible assumption)))), fun _ => ⟨_, rfl, by omega, heap_alloc2_new _ _ _⟩⟩
  · have hne : (e != 0) = true := by simpa using he
    have HE := Lib.hid he
    clear he
    go_enter Tryz.func77, Tryz.ntmps77
    go_wp2_with fail
    refine (hig (hV.alloc _)).mono ?_
    rintro e w1 ⟨rfl, hb1⟩
    go_wp2
    go_ret2
    exact ⟨none, rfl, by (repeat (first | (with_reducible exact Below.refl _ _) | (with_reducible apply Below.dr) | (with_reducible apply Below.drn) | (with_reducible refine Below.setCell ?_ (by first | omega | (simp only; omega)) _) | (with_reducible apply Below.al) | (refine Below.tr ?_ (by with_reducible assumption)))), fun e => absurd e HE.out⟩
end
end Go.Proofs
