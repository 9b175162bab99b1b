import Derived.Test.YtfoknihgngobfaaGreatDoorView
namespace Go.Proofs
open Go Go.RowKit

theorem results_cell_row_tmp {P : Program} {fn : Func} {p u : Tmp} {ty : TypeId} (h : fn.results = #[.cell p ty, .tmp u]) (tmps : Array Value) (w : World) (g : Nat) (t : TypeId) (cs : Array Value) (fr : Nat × Nat) (d : TypeDesc)
    (hp : tmps.getD p undef = .pointer (some ⟨g, 0, none⟩)) (hg : w.heap[g]? = some (.cells cs t fr))
    (hu : P.underlying ty = some d) (hd : (match d with | .struct _ | .array _ _ => true | _ => false) = true) (hi : (P.info? ty).map (·.size) = some cs.size) :
    (results fn tmps).run P w = .ok (.tuple #[.agg cs, tmps.getD u undef]) w := by
  rw [results_cell_tmp h]
  have hp' : tmps[p]?.getD undef = .pointer (some ⟨g, 0, none⟩) := by simpa using hp
  simp [hp', asAddr, run_loadVar_row w g t ty cs fr d hg hu hd hi, Result.andThen]

/-- A geometry. -/
structure Geo where
  W : Int
  I : Int
  B : Int
def Geo.may (g : Geo) : Bool := decide (1 ≤ g.W ∧ g.W ≤ 4 ∧ 2 ≤ g.I ∧ g.I ≤ 64 ∧ 2 ≤ g.B ∧ g.B ≤ 512)
/-- Where the maps stand; the inodes; the blocks; how many words there are. -/
def Geo.maps (g : Geo) : Int := 264 + 208 * g.W
def Geo.words (g : Geo) : Int := if g.may then 264 + 208 * g.W + 16 + 16 * g.I + 8 * g.B else 0
abbrev Geo.v (g : Geo) : Value := .agg #[.int .i64 g.W, .int .i64 g.I, .int .i64 g.B]
theorem Geo.may_iff (g : Geo) : g.may = true ↔ (1 ≤ g.W ∧ g.W ≤ 4 ∧ 2 ≤ g.I ∧ g.I ≤ 64 ∧ 2 ≤ g.B ∧ g.B ≤ 512) := by simp [Geo.may]

theorem within_is (r : Bool) (n a b : Int) (w : World) (h : r = true ↔ (a ≤ n ∧ n ≤ b)) :
    Calls Tryz.prog 21 #[.int .i64 n, .int .i64 a, .int .i64 b] w fun e w' => e = .returned (.bool r) ∧ w = w' := by
  cases r
  all_goals
    by_cases h1 : a ≤ n
    all_goals
      by_cases h2 : n ≤ b
      all_goals
        try (exfalso; simp [h1, h2] at h; done)
        try
          (clear h
           go_enter Tryz.func21, Tryz.ntmps21
           go_wp2
           go_ret
           exact ⟨rfl, rfl⟩)

theorem within_yes {n a b : Int} {w : World} (h : a ≤ n ∧ n ≤ b) :
    Calls Tryz.prog 21 #[.int .i64 n, .int .i64 a, .int .i64 b] w fun e w' => e = .returned (.bool true) ∧ w = w' := within_is true n a b w (by simp [h])
theorem within_no {n a b : Int} {w : World} (h : ¬ (a ≤ n ∧ n ≤ b)) :
    Calls Tryz.prog 21 #[.int .i64 n, .int .i64 a, .int .i64 b] w fun e w' => e = .returned (.bool false) ∧ w = w' := within_is false n a b w (by simp [h])

theorem bcell {W w1 : World} (hb : Below W.heap.size W w1) : (∀ b o, b < W.heap.size → w1.cell? ⟨b, o, none⟩ = W.cell? ⟨b, o, none⟩) ∧ (∀ b o, b < W.heap.size → w1.frozen? ⟨b, o, none⟩ = W.frozen? ⟨b, o, none⟩) :=
  ⟨fun b o h => hb.cell (p := ⟨b, o, none⟩) h, fun b o h => hb.frozen (p := ⟨b, o, none⟩) h⟩

def SRet (v : Value) (w : World) (e : Ending) (w' : World) : Prop := e = .returned v ∧ Below w.heap.size w w'
theorem SRet.mk {v v' : Value} {w w' : World} (h : v' = v) (hb : Below w.heap.size w w') : SRet v w (.returned v') w' := ⟨by rw [h], hb⟩

theorem may_any (g : Geo) (w : World) : Calls Tryz.prog 12 #[g.v] w (SRet (.bool g.may) w) := by
  go_enter Tryz.func12, Tryz.ntmps12
  by_cases h1 : (1 ≤ g.W ∧ g.W ≤ 4) <;> by_cases h2 : (2 ≤ g.I ∧ g.I ≤ 64) <;> by_cases h3 : (2 ≤ g.B ∧ g.B ≤ 512)
  all_goals
    go_wp2_with (go_at_call 21; first | (refine (within_yes (by omega)).mono ?_; rintro e w' ⟨rfl, rfl⟩) | (refine (within_no (by omega)).mono ?_; rintro e w' ⟨rfl, rfl⟩))
    go_ret
    refine SRet.mk ?_ ((Below.refl _ _).alloc (Nat.le_refl _) _)
    simp [Geo.may]
    try omega
/-- The rows of a geometry, cell by cell. -/
abbrev Geo.rowsv (g : Geo) : Value := .agg #[.int .u8 1, .int .i64 8, .int .i64 1, .int .u8 2, .int .i64 64, .int .i64 4, .int .u8 5, .int .i64 208, .int .i64 g.W, .int .u8 6, .int .i64 8, .int .i64 1,
  .int .u8 7, .int .i64 8, .int .i64 1, .int .u8 8, .int .i64 16, .int .i64 g.I, .int .u8 9, .int .i64 8, .int .i64 g.B]

set_option maxRecDepth 100000 in
set_option maxHeartbeats 400000 in
theorem rows_any (g : Geo) (w : World) : Calls Tryz.prog 22 #[g.v] w (SRet g.rowsv w) := by
  go_enter Tryz.func22, Tryz.ntmps22
  iterate 55 go_step
  refine wpList_store_row (o := ⟨none, Op.store 63 (.tmp 2) (.tmp 16), _, _, _, _⟩) rfl 63 (.tmp 2) (.tmp 16) rfl (w.heap.size + 1) _ rfl rfl 63 _ (heap_alloc2_new _ _ _) (by kernel_rfl) rfl (by simp [Value.oneCell']) ?_
  go_wp2
  refine bodyPost_ret (results_cell_row rfl _ _ (w.heap.size + 1) 63 _ (0, 0) _ rfl (setRow_heap _ _ _ _ _ _ (heap_alloc2_new _ _ _)) Tryz.underlying63 rfl (by kernel_rfl)) rfl ⟨rfl, ?_⟩
  exact below_setRow (((Below.refl _ _).alloc (Nat.le_refl _) _).alloc (by simp) _) (by omega) _

theorem row_at (g : Geo) : (∀ w, (Instr.index 63 g.rowsv (.int .i64 0)).run Tryz.prog w = .ok (.agg #[.int .u8 1, .int .i64 8, .int .i64 1]) w) ∧
    (∀ w, (Instr.index 63 g.rowsv (.int .i64 1)).run Tryz.prog w = .ok (.agg #[.int .u8 2, .int .i64 64, .int .i64 4]) w) ∧
    (∀ w, (Instr.index 63 g.rowsv (.int .i64 2)).run Tryz.prog w = .ok (.agg #[.int .u8 5, .int .i64 208, .int .i64 g.W]) w) ∧
    (∀ w, (Instr.index 63 g.rowsv (.int .i64 3)).run Tryz.prog w = .ok (.agg #[.int .u8 6, .int .i64 8, .int .i64 1]) w) ∧
    (∀ w, (Instr.index 63 g.rowsv (.int .i64 4)).run Tryz.prog w = .ok (.agg #[.int .u8 7, .int .i64 8, .int .i64 1]) w) ∧
    (∀ w, (Instr.index 63 g.rowsv (.int .i64 5)).run Tryz.prog w = .ok (.agg #[.int .u8 8, .int .i64 16, .int .i64 g.I]) w) ∧
    (∀ w, (Instr.index 63 g.rowsv (.int .i64 6)).run Tryz.prog w = .ok (.agg #[.int .u8 9, .int .i64 8, .int .i64 g.B]) w) :=
  ⟨fun _ => by kernel_rfl, fun _ => by kernel_rfl, fun _ => by kernel_rfl, fun _ => by kernel_rfl, fun _ => by kernel_rfl, fun _ => by kernel_rfl, fun _ => by kernel_rfl⟩

set_option maxRecDepth 100000 in
set_option maxHeartbeats 1000000 in
theorem words_any (g : Geo) (w : World) : Calls Tryz.prog 13 #[g.v] w (SRet (.int .i64 g.words) w) := by
  have hm := may_any g
  unfold Geo.words
  cases hg : g.may with
  | false =>
    rw [hg] at hm
    go_enter Tryz.func13, Tryz.ntmps13
    go_wp2_with (go_at_call 12; refine (hm _).mono ?_; rintro e w' ⟨rfl, hb⟩; have hc := (bcell hb).1; have hz := hb.size)
    go_ret
    simp at hz
    exact SRet.mk rfl (by (repeat (first | exact Below.refl _ _ | apply Below.al | apply Below.dr | apply Below.drn | refine Below.tr ?_ (by assumption))))
  | true =>
    rw [hg] at hm
    rw [Geo.may_iff] at hg
    obtain ⟨g1, g2, g3, g4, g5, g6⟩ := hg
    obtain ⟨i0, i1, i2, i3, i4, i5, i6⟩ := row_at g
    go_enter Tryz.func13, Tryz.ntmps13
    go_wp2_with (first
      | (go_at_call 12; refine (hm _).mono ?_; rintro e w1 ⟨rfl, hb1⟩; have hc1 := (bcell hb1).1; have hz1 := hb1.size)
      | (go_at_call 22; refine (rows_any g _).mono ?_; rintro e w2 ⟨rfl, hb2⟩; have hz2 := hb2.size))
    clear hm
    refine wp_loop_rounds 8 ?_
    rw [rounds_succ]; go_wp2
    rw [rounds_succ]; go_wp2
    rw [rounds_succ]; go_wp2
    rw [rounds_succ]; go_wp2
    rw [rounds_succ]; go_wp2
    rw [rounds_succ]; go_wp2
    rw [rounds_succ]; go_wp2
    rw [rounds_succ]; go_wp2
    go_ret
    refine SRet.mk ?_ ?_
    · simp
      omega
    · (repeat (first | exact Below.refl _ _ | apply Below.al | apply Below.dr | apply Below.drn | refine Below.tr ?_ (by assumption)))
end Go.Proofs
