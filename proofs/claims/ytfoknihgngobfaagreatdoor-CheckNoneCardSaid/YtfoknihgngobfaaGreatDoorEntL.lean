import Derived.Test.YtfoknihgngobfaaGreatDoorBlkOf
import Derived.RangeFuncNested
import Derived.RangeFuncBound
import Derived.RangeFuncLeaves
import Derived.RangeFuncBox
import Derived.RangeFuncWrites
import Derived.Shelf.Abstract
import Derived.Shelf.RegionOpen
import Derived.OwnWalkIn
import Derived.TacticsInMore
import Derived.LoopNIn
import Derived.LoopIn
namespace Go.Proofs
open Go Go.RowKit

/-- A table is opened: the value, and why not. -/
abbrev tablev (p : Option Addr) (g : Geo) (q : Option Addr) : Value := .agg #[.pointer p, .int .i64 g.W, .int .i64 g.I, .int .i64 g.B, .pointer q]
def TRet (r : Int) (p : Addr) (g : Geo) (n : Int) (w : World) (e : Ending) (w' : World) : Prop :=
  ∃ v : Value, e = .returned (.tuple #[v, .int .i64 r]) ∧ Below w.heap.size w w' ∧ (r = 0 → ∃ b, v = tablev (some p) g (some ⟨b, 0, none⟩) ∧ w.heap.size ≤ b ∧ BM w' b p g n)
def VS.topen (s : VS) (g : Geo) (n : Int) : Int := if (s.iget g n).2 = 0 then (if (s.iget g n).1.kind = 2 then 0 else 10) else (s.iget g n).2
section
variable {Γ : Nat → Option Obj} {L : Nat → Prop} {w w' : World} {p : Addr} {s : VS} {q : Nat} {g : Geo} {n : Int}
set_option maxRecDepth 100000 in
set_option maxHeartbeats 2000000 in
theorem topen_ok (hV : VW Γ L w p s) (g : Geo) (n : Int) (h0 : (s.iget g n).2 = 0) (h2 : (s.iget g n).1.kind = 2) : Calls Tryz.prog 74 #[.pointer (some p), g.v, .int .i64 n] w (TRet 0 p g n w) := by
  have hig := fun {L : Nat → Prop} {W : World} (h : VW Γ L W p s) => iget_any h g n
  have hbo := fun {L : Nat → Prop} {W : World} (h : VW Γ L W p s) => bof_any h g n
  obtain ⟨⟨x, e⟩, hx⟩ : ∃ x, s.iget g n = x := ⟨_, rfl⟩
  simp only [hx] at hig hbo h0 h2
  subst h0
  clear hx
  obtain ⟨kind, links, opens, size, d0, d1, d2, d3, chain, parent⟩ := x
  simp only at h2
  subst h2
  go_enter Tryz.func74, Tryz.ntmps74
  go_wp2_with fail
  refine (hig ((hV.alloc _).alloc _)).mono ?_
  rintro e w1 ⟨rfl, hb1⟩
  have hX1 := (hb1.block w.heap.size (by simp; omega)).trans (heap_alloc2_old _ _ _)
  have hxc := (fun i => cell_of_row _ _ i _ _ _ hX1)
  have hY1 := (hb1.block (w.heap.size + 1) (by simp)).trans (heap_alloc2_new _ _ _)
  have hyc := (fun i => cell_of_row _ _ i _ _ _ hY1)
  have hyf := (fun i => frozen_of_row _ _ i _ _ hY1)
  have hz1 : w.heap.size + 1 < w1.heap.size := by have := hb1.size; simp at this; omega
  have hz1' : w.heap.size < w1.heap.size := by omega
  go_wp2_with (go_at_call 77; refine (hbo ((((hV.alloc _).alloc _).below hb1).alloc _)).mono ?_; rintro e w3 ⟨q3, rfl, hb3, hq3⟩; obtain ⟨b3, rfl, hl3, hM3⟩ := hq3 rfl; have hX3 := (hb3.block w.heap.size (by simp; omega)).trans ((Below.heap_alloc _ _ _ hz1').trans hX1); have hxc3 := (fun i => cell_of_row _ _ i _ _ _ hX3); have hY3 := (hb3.block (w.heap.size + 1) (by simp; omega)).trans ((Below.heap_alloc _ _ _ hz1).trans hY1); have hyc3 := (fun i => cell_of_row _ _ i _ _ _ hY3); have hyf3 := (fun i => frozen_of_row _ _ i _ _ hY3); simp only [World.size_alloc] at hl3; have hne3 : w.heap.size + 1 ≠ b3 := (by omega); have hz3 : w.heap.size + 1 < w3.heap.size := (by have := hb3.size; simp at this; omega); have HM3 := Lib.hid hM3; clear hM3)
  refine bodyPost_ret (results_cell_row_tmp rfl _ _ (w.heap.size + 1) 126 #[.pointer (some p), .int .i64 g.W, .int .i64 g.I, .int .i64 g.B, .pointer (some ⟨b3, 0, none⟩)] (0, 0) _ rfl (setCell_block _ (setCell_block _ (setCell_block _ (setCell_block _ (setCell_block _ hY3))))) Tryz.underlying126 rfl (by kernel_rfl)) rfl ⟨_, rfl, by (repeat (first | (with_reducible exact Below.refl _ _) | (with_reducible apply Below.dr) | (with_reducible apply Below.drn) | (with_reducible refine Below.setCell ?_ (by first | omega | (simp only; omega)) _) | (with_reducible apply Below.al) | (refine Below.tr ?_ (by with_reducible assumption)))), fun _ => ⟨b3, rfl, by omega, ?_⟩⟩
  refine Eq.trans ?_ HM3.out
  simp [World.setCell, Array.getElem?_modify, hne3]
end
end Go.Proofs
