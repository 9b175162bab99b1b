import Derived.Test.YtfoknihgngobfaaGreatDoorBitmap
import Derived.RangeFuncBox
import Derived.Sort.QuietTacIn
import Derived.RangeFuncWrites
import Derived.Shelf.RegionOpen
namespace Go.Proofs
open Go Go.RowKit

/-- WHAT HAS COME WHEN k ROUNDS ARE OVER. -/
def upto {α : Type} (f : Nat → α) (k : Nat) : List α := (List.range k).map f
theorem upto_succ {α : Type} (f : Nat → α) (k : Nat) : upto f (k + 1) = upto f k ++ [f k] := by simp [upto, List.range_succ]
theorem upto_length {α : Type} (f : Nat → α) (k : Nat) : (upto f k).length = k := by simp [upto]

/-- What a loop over a map's words keeps: what lay ahead of the call, and the box that the iterator has captured. -/
def KK (n₀ Bm : Nat) (b : Nat) : Prop := b < n₀ ∨ b = Bm
theorem Keep.onto {n₀ Bm : Nat} {wA w0 W : World} (h : Below n₀ wA w0) (hn : n₀ ≤ wA.heap.size) (k : Keep (KK n₀ Bm) w0 W) : Below n₀ wA W :=
  ⟨k.os.trans h.os, k.tape.trans h.tape, k.output.trans h.output, Nat.le_trans h.size k.size, fun i hi => (k.block i (.inl hi)).trans (h.block i hi)⟩
theorem Keep.ofBelow {L : Nat → Prop} {w w' : World} (h : Below w.heap.size w w') (hl : ∀ i, L i → i < w.heap.size) : Keep L w w' := Below.keep h hl
theorem Keep.drn {L : Nat → Prop} {a b : World} (h : Keep L a b) (n : Nat) : Keep L a (b.drewN n) := ⟨h.os, h.tape, h.output, h.size, h.block⟩

theorem keepK_b {n₀ Bm : Nat} {w : World} (hn : n₀ ≤ w.heap.size) (hB : Bm < w.heap.size) : ∀ (W : World) (l : Nat) (o o' : Obj), w.heap.size ≤ l → W.heap[l]? = some o → o.isCells = false → o.isWalk = false → Keep (KK n₀ Bm) W (W.putObj l o') := fun W l o o' hl _ _ _ =>
  ⟨rfl, rfl, rfl, (grownBy_putObj' W l o').size, fun b hb => by
    have hne : b ≠ l := by rcases hb with h | h <;> omega
    by_cases hlt : b < W.heap.size
    · exact (grownBy_putObj' W l o').block b hlt (fun e => hne (by injection e))
    · have h1 : W.heap[b]? = none := Array.getElem?_eq_none (by omega)
      have h2 : (W.putObj l o').heap[b]? = none := Array.getElem?_eq_none (by have : (W.putObj l o').heap.size = W.heap.size := by simp [World.putObj]
                                                                              omega)
      rw [h1, h2]⟩
theorem cell_two (W : World) {b c : Nat} (hne : b ≠ c) {u v x : Value} (h : W.cell? ⟨b, 0, none⟩ = some x) : ((W.setCell ⟨b, 0, none⟩ u).setCell ⟨c, 0, none⟩ v).cell? ⟨b, 0, none⟩ = some u :=
  (World.cell?_of_block (a := ⟨b, 0, none⟩) (Below.heap_setCell _ ⟨c, 0, none⟩ _ _ hne)).trans (World.cell?_setCell_same' _ _ _ (by rw [h]; rfl))
theorem cell_one (W : World) {b c : Nat} (hne : c ≠ b) {u v x : Value} (h : W.cell? ⟨c, 0, none⟩ = some x) : ((W.setCell ⟨b, 0, none⟩ u).setCell ⟨c, 0, none⟩ v).cell? ⟨c, 0, none⟩ = some v :=
  World.cell?_setCell_same' _ _ _ (by rw [World.cell?_of_block (a := ⟨c, 0, none⟩) (Below.heap_setCell _ ⟨b, 0, none⟩ _ _ hne), h]; rfl)
theorem KeepsFrom.of_below {B : Nat} {W W' : World} (h : Below W.heap.size W W') : KeepsFrom B W W' := ⟨h.size, fun k _ _ hk _ => (h.block k (blk_lt hk)).trans hk⟩
end Go.Proofs
