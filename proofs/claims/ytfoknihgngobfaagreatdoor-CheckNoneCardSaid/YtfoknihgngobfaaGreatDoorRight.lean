import Derived.Test.YtfoknihgngobfaaGreatDoorNode
namespace Go.Proofs
open Go Go.RowKit

def max5 (a b c d e : Int) : Int := max (max (max (max a b) c) d) e
set_option maxRecDepth 100000 in
set_option maxHeartbeats 1000000 in
theorem max5_any (b : Nat) (cap : Nat) (x0 x1 x2 x3 x4 : Int) (w : World) (c0 : w.cell? ⟨b, 0, none⟩ = some (.int .u64 x0)) (c1 : w.cell? ⟨b, 1, none⟩ = some (.int .u64 x1)) (c2 : w.cell? ⟨b, 2, none⟩ = some (.int .u64 x2))
    (c3 : w.cell? ⟨b, 3, none⟩ = some (.int .u64 x3)) (c4 : w.cell? ⟨b, 4, none⟩ = some (.int .u64 x4)) :
    Calls Tryz.prog 80 #[.slice (some ⟨b, 0, none⟩) 5 cap] w fun e w' => e = .returned (.int .u64 (max5 x0 x1 x2 x3 x4)) ∧ w = w' := by
  go_enter Tryz.func80, Tryz.ntmps80
  go_wp2
  refine wp_loop_rounds 5 ?_
  rw [rounds_succ]; go_wp2
  all_goals (rw [rounds_succ]; go_wp2)
  all_goals (rw [rounds_succ]; go_wp2)
  all_goals (rw [rounds_succ]; go_wp2)
  all_goals (rw [rounds_succ]; go_wp2)
  all_goals go_ret
  all_goals exact ⟨ret_int (by unfold max5; omega), rfl⟩

theorem part4 (a b c d : Int) (i : Nat) (v : Int) (hi : #[a, b, c, d][i]? = some v) (w : World) : (part 37 #[.int .u64 a, .int .u64 b, .int .u64 c, .int .u64 d] i).run Tryz.prog w = .ok (.int .u64 v) w := by
  rcases i with _ | _ | _ | _ | i
  · simp at hi; subst hi; kernel_rfl
  · simp at hi; subst hi; kernel_rfl
  · simp at hi; subst hi; kernel_rfl
  · simp at hi; subst hi; kernel_rfl
  · simp at hi
theorem eq4 (d : Nat) (a b c e : Int) (w : World) :
    (Op.equalIn (d + 2) 47 (.agg #[.int .u64 a, .int .u64 b, .int .u64 c, .int .u64 e]) (.agg #[.int .u64 0, .int .u64 0, .int .u64 0, .int .u64 0])).run Tryz.prog w = .ok (decide (a = 0 ∧ b = 0 ∧ c = 0 ∧ e = 0)) w := by
  have hs : ∀ w, (sizeOf 37).run Tryz.prog w = .ok 1 w := fun w => by kernel_rfl
  have p0 := part4 a b c e 0 a rfl
  have p1 := part4 a b c e 1 b rfl
  have p2 := part4 a b c e 2 c rfl
  have p3 := part4 a b c e 3 e rfl
  have q0 := part4 0 0 0 0 0 0 rfl
  have q1 := part4 0 0 0 0 1 0 rfl
  have q2 := part4 0 0 0 0 2 0 rfl
  have q3 := part4 0 0 0 0 3 0 rfl
  have he : ∀ (x y : Int) w, (Op.equalIn (d + 1) 37 (.int .u64 x) (.int .u64 y)).run Tryz.prog w = .ok (x == y) w := fun x y w => run_equalIn_int w d 37 .u64 .u64 x y Tryz.underlying37
  generalize (#[Value.int .u64 a, .int .u64 b, .int .u64 c, .int .u64 e] : Array Value) = A at *
  generalize (#[Value.int .u64 0, .int .u64 0, .int .u64 0, .int .u64 0] : Array Value) = Z at *
  unfold Op.equalIn
  simp only [Sem.run_bind, run_underlying Tryz.underlying47, Result.andThen_ok, hs]

  have hr : List.range' 0 4 = [0, 1, 2, 3] := rfl
  by_cases ha : a = 0 <;> by_cases hb : b = 0 <;> by_cases hc : c = 0 <;> by_cases hd : e = 0 <;> simp [Sem.run_bind, p0, p1, p2, p3, q0, q1, q2, q3, he, Result.andThen, ha, hb, hc, hd, hr, List.forIn_cons]

def Node.right (g : Geo) (x : Node) : Bool :=
  decide (g.may = true ∧ (x.d0 < g.B ∧ x.d1 < g.B ∧ x.d2 < g.B ∧ x.d3 < g.B ∧ x.chain < g.B) ∧ x.parent < g.I ∧ x.links ≤ 65536 ∧ x.opens ≤ 16 ∧ x.size ≤ 768 ∧
    ((x.kind = 1 ∧ x.parent = 0) ∨ (x.kind = 2 ∧ x.size = 0)))

def Node.ok (x : Node) : Prop := u64ok x.kind ∧ u64ok x.links ∧ u64ok x.opens ∧ u64ok x.size ∧ u64ok x.d0 ∧ u64ok x.d1 ∧ u64ok x.d2 ∧ u64ok x.d3 ∧ u64ok x.chain ∧ u64ok x.parent
def Node.zero : Node := ⟨0, 0, 0, 0, 0, 0, 0, 0, 0, 0⟩

def Node.isZero (x : Node) : Bool := decide (x.kind = 0 ∧ x.links = 0 ∧ x.opens = 0 ∧ x.size = 0 ∧ (x.d0 = 0 ∧ x.d1 = 0 ∧ x.d2 = 0 ∧ x.d3 = 0) ∧ x.chain = 0 ∧ x.parent = 0)
theorem run_eqFields {P : Program} (d : Nat) (xs ys : Array Value) : ∀ (fs : List Field) (l : List (TypeId × Nat × Bool)) (w : World), fs.map (fun f => (f.type, f.offset, decide (f.name = "_"))) = l.map (fun q => (q.1, q.2.1, false)) →
    (∀ q ∈ l, ∀ w, ∃ a b, (part q.1 xs q.2.1).run P w = .ok a w ∧ (part q.1 ys q.2.1).run P w = .ok b w ∧ (Op.equalIn d q.1 a b).run P w = .ok q.2.2 w) → (Op.eqFields d xs ys fs).run P w = .ok (l.all (·.2.2)) w
  | [], l, w, h, _ => by cases l with
    | nil => simp [Op.eqFields]
    | cons q l => simp at h
  | f :: fs, l, w, h, hq => by
    cases l with
    | nil => simp at h
    | cons q l =>
      simp only [List.map_cons, List.cons.injEq, Prod.mk.injEq, decide_eq_false_iff_not] at h
      obtain ⟨⟨h1, h2, h3⟩, h4⟩ := h
      obtain ⟨a, b, e1, e2, e3⟩ := hq q (by simp) w
      have ih := run_eqFields d xs ys fs l w h4 (fun q hq' => hq q (by simp [hq']))
      cases hr : q.2.2 with
      | true =>
        rw [hr] at e3
        simp [Op.eqFields, h3, h1, h2, Sem.run_bind, e1, e2, e3, Result.andThen, ih, hr]
      | false =>
        rw [hr] at e3
        simp [Op.eqFields, h3, h1, h2, Sem.run_bind, e1, e2, e3, Result.andThen, hr]

set_option maxRecDepth 100000 in
theorem eq_node (x : Node) (w : World) : (Op.equalIn 10000 49 x.v Node.zero.v).run Tryz.prog w = .ok x.isZero w := by
  have h4 : ∀ w, (Op.equalIn 9999 47 (.agg #[.int .u64 x.d0, .int .u64 x.d1, .int .u64 x.d2, .int .u64 x.d3]) (.agg #[.int .u64 0, .int .u64 0, .int .u64 0, .int .u64 0])).run Tryz.prog w = .ok (decide (x.d0 = 0 ∧ x.d1 = 0 ∧ x.d2 = 0 ∧ x.d3 = 0)) w := fun w => eq4 9997 _ _ _ _ w
  have hi : ∀ (a b : Int) w, (Op.equalIn 9999 37 (.int .u64 a) (.int .u64 b)).run Tryz.prog w = .ok (a == b) w := fun a b w => run_equalIn_int w 9998 37 .u64 .u64 a b Tryz.underlying37
  rw [run_equalIn_agg w 9999 49 _ _ (by kernel_rfl) (by kernel_rfl)]
  rw [run_eqFields 9999 _ _ _ [(37, 0, x.kind == 0), (37, 1, x.links == 0), (37, 2, x.opens == 0), (37, 3, x.size == 0), (47, 4, decide (x.d0 = 0 ∧ x.d1 = 0 ∧ x.d2 = 0 ∧ x.d3 = 0)), (37, 8, x.chain == 0), (37, 9, x.parent == 0)] w (by kernel_rfl) ?_]
  · congr 1
    unfold Node.isZero
    rw [Bool.eq_iff_iff]
    simp
  · intro q hq
    simp only [List.mem_cons, List.mem_nil_iff, or_false] at hq
    rcases hq with rfl | rfl | rfl | rfl | rfl | rfl | rfl
    · exact fun w => ⟨_, _, by kernel_rfl, by kernel_rfl, hi _ _ _⟩
    · exact fun w => ⟨_, _, by kernel_rfl, by kernel_rfl, hi _ _ _⟩
    · exact fun w => ⟨_, _, by kernel_rfl, by kernel_rfl, hi _ _ _⟩
    · exact fun w => ⟨_, _, by kernel_rfl, by kernel_rfl, hi _ _ _⟩
    · exact fun w => ⟨_, _, by kernel_rfl, by kernel_rfl, h4 _⟩
    · exact fun w => ⟨_, _, by kernel_rfl, by kernel_rfl, hi _ _ _⟩
    · exact fun w => ⟨_, _, by kernel_rfl, by kernel_rfl, hi _ _ _⟩
theorem Tryz.info37 : (Tryz.prog.info? 37).map (fun i => (i.zero, i.size, i.bytes)) = some (some (.int .u64 0), 1, 8) := by kernel_rfl
end Go.Proofs
