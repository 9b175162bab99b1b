import Derived.Test.YtfoknihgngobfaaGreatDoorOf
import Derived.Test.YtfoknihgngobfaaGreatDoorBitmap
import Derived.Deep.MidRow
namespace Go.Proofs
open Go Go.RowKit

section
variable {w : World}
set_option maxRecDepth 100000 in
set_option maxHeartbeats 1000000 in
theorem clone_any {b o c n : Nat} (hn : 0 < n) (I : List Int) (hI : I.length = n) (hlen : I.length * 8 ≤ 140737488351232) (hc : ∀ i x, I[i]? = some x → w.cell? ⟨b, o + i, none⟩ = some (.int .u64 x)) :
    Calls Tryz.prog 60 #[.slice (some ⟨b, o, none⟩) n c] w fun e w' => ∃ g cap, e = .returned (.slice (some ⟨g, 0, none⟩) n cap) ∧ w.heap.size ≤ g ∧ (∀ i x, I[i]? = some x → w'.cell? ⟨g, i, none⟩ = some (.int .u64 x)) ∧ Below w.heap.size w w' := by
  obtain ⟨i0, hi, hz0, hz1, hz2⟩ := info_parts Tryz.info37
  have hnil := fun w => Lib.run_eql_slice_nil (P := Tryz.prog) w 22 37 (some ⟨b, o, none⟩) n c 0 0 Tryz.underlying22
  have hown : (w.alloc (.cells #[] 37)).ownsRow w.heap.size 37 1 (.slice (some ⟨w.heap.size, 0, none⟩) 0 0) 0 [] := World.ownsRow_made w #[] 0 (Nat.le_refl _) (by unfold maxLen; omega) (by simp)
  have hl : (I.map (Value.int .u64)).length = n * 1 := by simp [hI]
  have hbl : ∀ i x, I[i]? = some x → b < w.heap.size := fun i x hx => World.block_lt_of_cell? w _ (hc i x hx)
  have hnews : ∀ j u, (I.map (Value.int .u64))[j]? = some u → (w.alloc (.cells #[] 37)).cell? ((⟨b, o, none⟩ : Addr).add j) = some u := by
    intro j u hu
    simp only [List.getElem?_map, Option.map_eq_some_iff] at hu
    obtain ⟨x, hx, rfl⟩ := hu
    rw [Addr.add_mid, World.cell?_alloc_lt _ _ _ (hbl j x hx)]
    exact hc j x hx
  have h1c : ∀ u ∈ I.map (Value.int .u64), u.oneCell' = true := by intro u hu; simp only [List.mem_map] at hu; obtain ⟨x, -, rfl⟩ := hu; rfl
  have hN := Lib.hid hnews
  have hO := Lib.hid hown
  have hH := Lib.hid h1c
  clear hnews hown h1c
  go_enter Tryz.func60, Tryz.ntmps60
  go_wp2_with (at_builtin; refine wpList_append_at _ rfl _ _ 22 rfl w.heap.size 37 i0 (.int .u64 0) 1 8 Tryz.underlying22 hi hz0 hz1 hz2 rfl (by decide) _ _ _ rfl hO.out ⟨b, o, none⟩ n c (I.map (Value.int .u64)) rfl hl hN.out hH.out (by unfold maxLen; omega) (by omega) (by simp) ?_)
  intro v' w1 hown1 hg1 hat1 _
  try simp only [Nat.zero_add, List.nil_append] at hown1
  obtain ⟨n', rfl⟩ : ∃ k, n = k + 1 := ⟨n - 1, by omega⟩
  obtain ⟨g', cap', rfl⟩ := ownsRow_succ hown1
  have HW := Lib.hid hown1
  have HA := Lib.hid hat1
  have HG := Lib.hid hg1
  clear hown1 hat1 hg1
  go_wp2
  go_ret
  refine ⟨g', cap', rfl, ?_, fun i x hx => ?_, ?_⟩
  · rcases HA.out g' rfl with h | h
    · simp only [Value.ownBlock, Option.some.injEq] at h; omega
    · omega
  · have := HW.out.cells (g := g') rfl i (.int .u64 x) (by simp [hx])
    rw [Addr.add_mid] at this
    simpa using this
  · exact ((Below.refl _ w).alloc (Nat.le_refl _) _).grown HG.out (by simp) (fun k e => by cases e; exact Nat.le_refl _)

/-- The globals of which this proof speaks. -/
def ΓL (b : Nat) : Option Obj := if b = 0 then some leastObj else none
/-- What a view leaves alone: the look's block, and whatever lay there ahead. -/
def Lb (n b i : Nat) : Prop := i = b ∨ (i < n ∧ ΓL i = none)
theorem ΓL_least : ΓL 0 = some leastObj := if_pos rfl

set_option maxRecDepth 100000 in
set_option maxHeartbeats 1000000 in
theorem vnew_any (hG : Glob w) {b o c : Nat} (I : List Int) (hn : 0 < I.length) (hok : ∀ x ∈ I, u64ok x) (hlen : I.length * 8 ≤ 140737488351232) (hc : ∀ i x, I[i]? = some x → w.cell? ⟨b, o + i, none⟩ = some (.int .u64 x)) :
    Calls Tryz.prog 37 #[.slice (some ⟨b, o, none⟩) I.length c] w fun e w' => ∃ bv, e = .returned (.pointer (some ⟨bv, 0, none⟩)) ∧ Below w.heap.size w w' ∧ VW ΓL (fun i => i < w.heap.size ∧ ΓL i = none) w' ⟨bv, 0, none⟩ ⟨I, []⟩ := by
  have hcl := clone_any (c := c) hn I rfl hlen hc
  have hmm := @run_makeMap Tryz.prog
  go_enter Tryz.func37, Tryz.ntmps37
  go_wp2_with (go_at_call 60; refine hcl.mono ?_; rintro e w1 ⟨g1, cap1, rfl, hg1, hc1, hb1⟩; have HC := Lib.hid hc1; clear hc1)
  go_ret
  obtain ⟨x0, hx0⟩ : ∃ x, I[0]? = some x := ⟨I[0], by simp [hn]⟩
  have hgl : g1 < w1.heap.size := World.block_lt_of_cell? w1 _ (HC.out 0 x0 hx0)
  have hgb : 0 < w.heap.size := blk_lt hG
  have hG1 : Glob w1 := hG.below hb1
  have hsz := hb1.size
  refine ⟨w1.heap.size + 1, rfl, by (repeat (first | (with_reducible exact Below.refl _ _) | (with_reducible apply Below.dr) | (with_reducible apply Below.drn) | (with_reducible refine Below.setCell ?_ (by first | omega | (simp only; omega)) _) | (with_reducible apply Below.al) | (refine Below.tr ?_ (by with_reducible assumption)))), w1.heap.size + 1, w1.heap.size, some ⟨g1, 0, none⟩, cap1, .slice none 0 0, ?_⟩
  exact { hp := rfl, ok := ⟨hok, by simp, by simp, by simp, hlen⟩, hv := heap_alloc2_new _ _ _, hm := ⟨#[], 0, heap_alloc2_old _ _ _, rfl⟩, ho := World.ownsRow_nil _ _ _ _,
          hi := fun _ => ⟨g1, 0, rfl, fun h => by have := h.1; omega, by omega, by omega, by simp [Value.ownBlock], fun i x hx => by
            rw [Nat.zero_add, World.cell?_alloc_lt _ _ _ (by first | (simp; done) | (simp; omega)), World.cell?_alloc_lt _ _ _ hgl]; exact HC.out i x hx⟩,
          Lv := fun h => by have := h.1; omega, Lm := fun h => by have := h.1; omega, Lo := fun _ h => by simp [Value.ownBlock] at h, dvo := by simp [Value.ownBlock], dmo := by simp [Value.ownBlock], lt := fun _ h => by have := h.1; simp; omega,
          gl := fun b o hb => by
            unfold ΓL at hb
            split at hb
            · rename_i e
              cases hb
              subst e
              exact (Below.heap_alloc _ _ _ (by first | (simp; done) | (simp; omega))).trans ((Below.heap_alloc _ _ _ (by omega)).trans hG1)
            · cases hb
          Lg := fun _ _ hb h => (by rw [hb] at h; cases h.2), dg := ⟨if_neg (by omega), if_neg (by omega), fun b h => by simp [Value.ownBlock] at h⟩ }
end
end Go.Proofs
