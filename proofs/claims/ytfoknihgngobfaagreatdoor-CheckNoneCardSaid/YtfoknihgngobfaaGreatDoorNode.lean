import Derived.Test.YtfoknihgngobfaaGreatDoorSlot
namespace Go.Proofs
open Go Go.RowKit

/-- A node's words. -/
structure Node where
  kind : Int
  links : Int
  opens : Int
  size : Int
  d0 : Int
  d1 : Int
  d2 : Int
  d3 : Int
  chain : Int
  parent : Int
abbrev Node.v (x : Node) : Value := .agg #[.int .u64 x.kind, .int .u64 x.links, .int .u64 x.opens, .int .u64 x.size, .int .u64 x.d0, .int .u64 x.d1, .int .u64 x.d2, .int .u64 x.d3, .int .u64 x.chain, .int .u64 x.parent]

set_option maxRecDepth 100000 in
set_option maxHeartbeats 1000000 in
theorem node_any (x : Node) (w : World) : Calls Tryz.prog 64 #[x.v] w (SRet x.v w) := by
  have ha : ∀ (a : Option Addr) (w : World), (Instr.arrayAt 47 (.slice a 4 6)).run Tryz.prog w = .ok (.pointer a) w := fun a w => by kernel_rfl
  go_enter Tryz.func64, Tryz.ntmps64
  go_wp2
  refine wp_region_still_tail 16 (by kernel_rfl) (by kernel_rfl) ?_; simp only [List.take_succ_cons, List.take_zero, List.drop_succ_cons, List.drop_zero]; change wpStill _ _ (World.drew _) _ _ _; repeat still_step
  refine wpStill_nil ?_; change wpList _ _ _ _ _ (World.drew _)
  go_wp2
  refine bodyPost_ret (results_cell_row rfl _ _ (w.heap.size + 1) 49 _ (0, 0) _ rfl (heap_alloc2_new _ _ _) Tryz.underlying49 rfl (by kernel_rfl)) rfl ⟨rfl, ?_⟩
  (repeat (first | exact Below.refl _ _ | apply Below.al | apply Below.dr | apply Below.drn | refine Below.tr ?_ (by assumption)))

end Go.Proofs
