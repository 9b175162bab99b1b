import Derived.Test.YtfoknihgngobfaaGreatDoorLayout2
import Derived.Deep.RegionHeld3
import Derived.IntWalk
namespace Go.Proofs
open Go Go.RowKit

/-- A slice of words lies there and says I. -/
def SL (w : World) (v : Value) (I : List Int) : Prop := ∃ a c, v = .slice a I.length c ∧ (I ≠ [] → ∃ b o, a = some ⟨b, o, none⟩ ∧ ∀ i x, I[i]? = some x → w.cell? ⟨b, o + i, none⟩ = some (.int .u64 x))
theorem SL.below {w w' : World} {v : Value} {I : List Int} (h : SL w v I) (hb : Below w.heap.size w w') : SL w' v I := by
  obtain ⟨a, c, e, h⟩ := h
  refine ⟨a, c, e, fun hne => ?_⟩
  obtain ⟨b, o, e2, h2⟩ := h hne
  refine ⟨b, o, e2, fun i x hx => (hb.cell (p := ⟨b, o + i, none⟩) (World.block_lt_of_cell? w _ (h2 i x hx))).trans (h2 i x hx)⟩

def magic : Int := 32762617960297063
def ofG (I : List Int) : Option Geo :=
  match I with
  | x0 :: x1 :: x2 :: x3 :: _ :: _ :: _ :: _ :: _ => if x0 = magic ∧ x1 ≤ 512 ∧ x2 ≤ 512 ∧ x3 ≤ 512 then (if Geo.may ⟨x1, x2, x3⟩ = true ∧ Geo.words ⟨x1, x2, x3⟩ ≤ I.length then some ⟨x1, x2, x3⟩ else none) else none
  | _ => none
theorem ofG_short {I : List Int} (h : I.length < 8) : ofG I = none := by
  match I, h with
  | [], _ => rfl
  | [_], _ => rfl
  | [_, _], _ => rfl
  | [_, _, _], _ => rfl
  | [_, _, _, _], _ => rfl
  | [_, _, _, _, _], _ => rfl
  | [_, _, _, _, _, _], _ => rfl
  | [_, _, _, _, _, _, _], _ => rfl
  | _ :: _ :: _ :: _ :: _ :: _ :: _ :: _ :: _, h => simp at h; omega
def ofv (r : Option Geo) : Value := match r with
  | some g => .tuple #[g.v, .bool true]
  | none => .tuple #[.agg #[.int .i64 0, .int .i64 0, .int .i64 0], .bool false]

theorem ofG_some {I : List Int} {x0 x1 x2 x3 : Int} (h8 : 8 ≤ I.length) (h0 : I[0]? = some x0) (h1 : I[1]? = some x1) (h2 : I[2]? = some x2) (h3 : I[3]? = some x3) :
    ofG I = if x0 = magic ∧ x1 ≤ 512 ∧ x2 ≤ 512 ∧ x3 ≤ 512 then (if Geo.may ⟨x1, x2, x3⟩ = true ∧ Geo.words ⟨x1, x2, x3⟩ ≤ I.length then some ⟨x1, x2, x3⟩ else none) else none := by
  match I, h8, h0, h1, h2, h3 with
  | y0 :: y1 :: y2 :: y3 :: _ :: _ :: _ :: _ :: _, _, h0, h1, h2, h3 =>
    simp at h0 h1 h2 h3
    subst h0 h1 h2 h3
    rfl
theorem ofv_none : ofv none = .tuple #[.agg #[.int .i64 0, .int .i64 0, .int .i64 0], .bool false] := rfl
theorem ofv_some (g : Geo) : ofv (some g) = .tuple #[g.v, .bool true] := rfl

section
variable {w : World} {v : Value} {I : List Int}
set_option maxRecDepth 100000 in
set_option maxHeartbeats 1000000 in
theorem of_short (h : SL w v I) (h8 : I.length < 8) : Calls Tryz.prog 5 #[v] w (SRet (ofv (ofG I)) w) := by
  obtain ⟨a, c, rfl, h⟩ := h
  have h8' : decide ((I.length : Int) < 8) = true := by simp; omega
  rw [ofG_short h8, ofv_none]
  clear h h8
  go_enter Tryz.func5, Tryz.ntmps5
  go_wp2
  go_quiet (fail)
  go_wp2
  exact bodyPost_ret (results_cell_row_tmp rfl _ _ w.heap.size 25 #[.int .i64 0, .int .i64 0, .int .i64 0] (0, 0) _ rfl (setCell_block _ (setCell_block _ (setCell_block _ (heap_alloc_new _ _)))) Tryz.underlying25 rfl (by kernel_rfl)) rfl ⟨rfl, by (repeat (first | (with_reducible exact Below.refl _ _) | (with_reducible apply Below.dr) | (with_reducible apply Below.drn) | (with_reducible refine Below.setCell ?_ (by first | omega | (simp only; omega)) _) | (with_reducible apply Below.al) | (refine Below.tr ?_ (by with_reducible assumption))))⟩

structure Four (w : World) (b o : Nat) (n : Nat) (x0 x1 x2 x3 : Int) : Prop where
  c0 : w.cell? ⟨b, o, none⟩ = some (.int .u64 x0)
  c1 : w.cell? ⟨b, o + 1, none⟩ = some (.int .u64 x1)
  c2 : w.cell? ⟨b, o + 2, none⟩ = some (.int .u64 x2)
  c3 : w.cell? ⟨b, o + 3, none⟩ = some (.int .u64 x3)
  l0 : 0 < n
  l1 : 1 < n
  l2 : 2 < n
  l3 : 3 < n
theorem SL.four {w : World} {v : Value} {I : List Int} (h : SL w v I) (h8 : 8 ≤ I.length) : ∃ b o c x0 x1 x2 x3, v = .slice (some ⟨b, o, none⟩) I.length c ∧ I[0]? = some x0 ∧ I[1]? = some x1 ∧ I[2]? = some x2 ∧ I[3]? = some x3 ∧ Four w b o I.length x0 x1 x2 x3 := by
  obtain ⟨a, c, rfl, h⟩ := h
  obtain ⟨b, o, rfl, hc⟩ := h (by intro e; simp [e] at h8)
  have g : ∀ i, i < 8 → I[i]? = some (I[i]?.getD 0) := fun i hi => by rw [List.getElem?_eq_getElem (by omega)]; rfl
  exact ⟨b, o, c, _, _, _, _, rfl, g 0 (by omega), g 1 (by omega), g 2 (by omega), g 3 (by omega), hc 0 _ (g 0 (by omega)), hc 1 _ (g 1 (by omega)), hc 2 _ (g 2 (by omega)), hc 3 _ (g 3 (by omega)), by omega, by omega, by omega, by omega⟩

set_option maxRecDepth 100000 in
set_option maxHeartbeats 1000000 in
theorem of_strange {b o c n : Nat} {x0 x1 x2 x3 : Int} (h : Four w b o n x0 x1 x2 x3) (h8 : 8 ≤ n) (h0 : x0 ≠ magic) : Calls Tryz.prog 5 #[.slice (some ⟨b, o, none⟩) n c] w (SRet (ofv none) w) := by
  obtain ⟨c0, c1, c2, c3, l0, l1, l2, l3⟩ := h
  have hb : b < w.heap.size := World.block_lt_of_cell? w _ c0
  have h8' : decide ((n : Int) < 8) = false := by simp; omega
  have hne : (x0 != 32762617960297063) = true := by simpa [magic] using h0
  rw [ofv_none]
  clear h0 h8
  go_enter Tryz.func5, Tryz.ntmps5
  go_wp2
  go_quiet (fail)
  go_wp2
  exact bodyPost_ret (results_cell_row_tmp rfl _ _ w.heap.size 25 #[.int .i64 0, .int .i64 0, .int .i64 0] (0, 0) _ rfl (setCell_block _ (setCell_block _ (setCell_block _ (heap_alloc_new _ _)))) Tryz.underlying25 rfl (by kernel_rfl)) rfl ⟨rfl, by (repeat (first | (with_reducible exact Below.refl _ _) | (with_reducible apply Below.dr) | (with_reducible apply Below.drn) | (with_reducible refine Below.setCell ?_ (by first | omega | (simp only; omega)) _) | (with_reducible apply Below.al) | (refine Below.tr ?_ (by with_reducible assumption))))⟩

set_option maxRecDepth 100000 in
set_option maxHeartbeats 1000000 in
theorem of_great {b o c n : Nat} {x1 x2 x3 : Int} (h : Four w b o n magic x1 x2 x3) (h8 : 8 ≤ n) (h0 : ¬ (x1 ≤ 512 ∧ x2 ≤ 512 ∧ x3 ≤ 512)) : Calls Tryz.prog 5 #[.slice (some ⟨b, o, none⟩) n c] w (SRet (ofv none) w) := by
  obtain ⟨c0, c1, c2, c3, l0, l1, l2, l3⟩ := h
  have hb : b < w.heap.size := World.block_lt_of_cell? w _ c0
  have h8' : decide ((n : Int) < 8) = false := by simp; omega
  have hc0 : w.cell? ⟨b, o, none⟩ = some (.int .u64 32762617960297063) := c0
  rw [ofv_none]
  have hm : decide (512 < if (if x1 < x2 then x2 else x1) < x3 then x3 else if x1 < x2 then x2 else x1) = true := by
    rw [decide_eq_true_eq]
    split
    · split at * <;> omega
    · split at * <;> omega
  clear h0 h8 c0
  go_enter Tryz.func5, Tryz.ntmps5
  go_wp2
  go_quiet (fail)
  go_wp2
  all_goals exact bodyPost_ret (results_cell_row_tmp rfl _ _ w.heap.size 25 #[.int .i64 0, .int .i64 0, .int .i64 0] (0, 0) _ rfl (setCell_block _ (setCell_block _ (setCell_block _ (heap_alloc_new _ _)))) Tryz.underlying25 rfl (by kernel_rfl)) rfl ⟨rfl, by (repeat (first | (with_reducible exact Below.refl _ _) | (with_reducible apply Below.dr) | (with_reducible apply Below.drn) | (with_reducible refine Below.setCell ?_ (by first | omega | (simp only; omega)) _) | (with_reducible apply Below.al) | (refine Below.tr ?_ (by with_reducible assumption))))⟩

set_option maxRecDepth 100000 in
set_option maxHeartbeats 2000000 in
theorem of_fit {b o c n : Nat} {x1 x2 x3 : Int} (h : Four w b o n magic x1 x2 x3) (h8 : 8 ≤ n) (hn : n ≤ 17592186044415) (h0 : x1 ≤ 512 ∧ x2 ≤ 512 ∧ x3 ≤ 512) (hp : 0 ≤ x1 ∧ 0 ≤ x2 ∧ 0 ≤ x3) (v : Value)
    (hv : ofv (if Geo.may ⟨x1, x2, x3⟩ = true ∧ Geo.words ⟨x1, x2, x3⟩ ≤ n then some ⟨x1, x2, x3⟩ else none) = v) : Calls Tryz.prog 5 #[.slice (some ⟨b, o, none⟩) n c] w (SRet v w) := by
  obtain ⟨c0, c1, c2, c3, l0, l1, l2, l3⟩ := h
  obtain ⟨h1, h2, h3⟩ := h0
  obtain ⟨p1, p2, p3⟩ := hp
  have hb : b < w.heap.size := World.block_lt_of_cell? w _ c0
  have h8' : decide ((n : Int) < 8) = false := by simp; omega
  have hc0 : w.cell? ⟨b, o, none⟩ = some (.int .u64 32762617960297063) := c0
  have hm : decide (512 < if (if x1 < x2 then x2 else x1) < x3 then x3 else if x1 < x2 then x2 else x1) = false := by
    rw [decide_eq_false_iff_not]
    split
    · split at * <;> omega
    · split at * <;> omega
  have hmay := may_any ⟨x1, x2, x3⟩
  have hwd := words_any ⟨x1, x2, x3⟩
  obtain ⟨r, hr⟩ : ∃ r, Geo.may ⟨x1, x2, x3⟩ = r := ⟨_, rfl⟩
  obtain ⟨k, hk⟩ : ∃ k, Geo.words ⟨x1, x2, x3⟩ = k := ⟨_, rfl⟩
  rw [hr] at hmay hv
  rw [hk] at hwd hv
  have HV := Lib.hid hv
  clear hv
  have i1 : (1 : Int) < n := by omega
  have i2 : (2 : Int) < n := by omega
  have i3 : (3 : Int) < n := by omega
  have hw1 : IntKind.i64.wrap x1 = x1 := IntWalk.i64_in _ (by omega)
  have hw2 : IntKind.i64.wrap x2 = x2 := IntWalk.i64_in _ (by omega)
  have hw3 : IntKind.i64.wrap x3 = x3 := IntWalk.i64_in _ (by omega)
  clear h8 c0 hr hk
  go_enter Tryz.func5, Tryz.ntmps5
  go_wp2
  go_quiet (fail)
  go_wp2
  all_goals
    obtain ⟨W1, hW1⟩ : ∃ W1, (w.alloc (.cells #[.int .i64 0, .int .i64 0, .int .i64 0] 25)).drewN nq = W1 := ⟨_, rfl⟩
    rw [hW1]
    have hB1 : Below w.heap.size w W1 := by subst hW1; (repeat (first | (with_reducible exact Below.refl _ _) | (with_reducible apply Below.dr) | (with_reducible apply Below.drn) | (with_reducible refine Below.setCell ?_ (by first | omega | (simp only; omega)) _) | (with_reducible apply Below.al) | (refine Below.tr ?_ (by with_reducible assumption))))
    have hX1 : W1.heap[w.heap.size]? = some (.cells #[.int .i64 0, .int .i64 0, .int .i64 0] 25 (0, 0)) := by subst hW1; exact heap_alloc_new _ _
    have e1 := (hB1.cell (p := ⟨b, o + 1, none⟩) hb).trans c1
    have e2 := (hB1.cell (p := ⟨b, o + 2, none⟩) hb).trans c2
    have e3 := (hB1.cell (p := ⟨b, o + 3, none⟩) hb).trans c3
    have hxc := (fun i => cell_of_row _ _ i _ _ _ hX1)
    have hxf := (fun i => frozen_of_row _ _ i _ _ hX1)
    clear hW1 c1 c2 c3 hc0
    refine wp_region_still_tail 13 (by kernel_rfl) (by kernel_rfl) ?_; simp only [List.take_succ_cons, List.take_zero, List.drop_succ_cons, List.drop_zero]; change wpStill _ _ (World.drew _) _ _ _; repeat still_step
    refine wpStill_nil ?_; change wpList _ _ _ _ _ (World.drew _)
    go_wp2_with (fail)
    obtain ⟨W2, hW2⟩ : ∃ W2, (((W1.setCell ⟨w.heap.size, 0, none⟩ (.int .i64 x1)).setCell ⟨w.heap.size, 1, none⟩ (.int .i64 x2)).setCell ⟨w.heap.size, 2, none⟩ (.int .i64 x3)).drew = W2 := ⟨_, rfl⟩
    rw [hW2]
    have hB2 : Below w.heap.size w W2 := by subst hW2; (repeat (first | (with_reducible exact Below.refl _ _) | (with_reducible apply Below.dr) | (with_reducible apply Below.drn) | (with_reducible refine Below.setCell ?_ (by first | omega | (simp only; omega)) _) | (with_reducible apply Below.al) | (refine Below.tr ?_ (by with_reducible assumption))))
    have hX2 : W2.heap[w.heap.size]? = some (.cells #[.int .i64 x1, .int .i64 x2, .int .i64 x3] 25 (0, 0)) := by subst hW2; exact setCell_block _ (setCell_block _ (setCell_block _ hX1))
    have hl2 : w.heap.size < W2.heap.size := blk_lt hX2
    clear hW2 hxc hxf hX1 hB1 e1 e2 e3
    refine (hmay _).mono ?_
    rintro e W3 ⟨rfl, hb3⟩
    have hX3 := (hb3.block _ hl2).trans hX2
    have hxc := (fun i => cell_of_row _ _ i _ _ _ hX3)
    have hxf := (fun i => frozen_of_row _ _ i _ _ hX3)
    have hl3 : w.heap.size < W3.heap.size := blk_lt hX3
    have hB3 : Below w.heap.size w W3 := by (repeat (first | (with_reducible exact Below.refl _ _) | (with_reducible apply Below.dr) | (with_reducible apply Below.drn) | (with_reducible refine Below.setCell ?_ (by first | omega | (simp only; omega)) _) | (with_reducible apply Below.al) | (refine Below.tr ?_ (by with_reducible assumption))))
    clear hb3 hX2 hB2
    cases r
    · have hv : v = ofv none := by rw [← HV.out]; simp
      subst hv
      go_wp2
      exact bodyPost_ret (results_cell_row_tmp rfl _ _ w.heap.size 25 #[.int .i64 0, .int .i64 0, .int .i64 0] (0, 0) _ rfl (setCell_block _ (setCell_block _ (setCell_block _ hX3))) Tryz.underlying25 rfl (by kernel_rfl)) rfl ⟨rfl, by (repeat (first | (with_reducible exact Below.refl _ _) | (with_reducible apply Below.dr) | (with_reducible apply Below.drn) | (with_reducible refine Below.setCell ?_ (by first | omega | (simp only; omega)) _) | (with_reducible apply Below.al) | (refine Below.tr ?_ (by with_reducible assumption))))⟩
    · by_cases hnk : (n : Int) < k
      · have hv : v = ofv none := by rw [← HV.out, if_neg (by omega)]
        subst hv
        go_wp2_with (go_at_call 13; refine (hwd _).mono ?_; rintro e W4 ⟨rfl, hb4⟩; have hX4 := (hb4.block _ hl3).trans hX3; have hyc := (fun i => cell_of_row _ _ i _ _ _ hX4); have hyf := (fun i => frozen_of_row _ _ i _ _ hX4))
        exact bodyPost_ret (results_cell_row_tmp rfl _ _ w.heap.size 25 #[.int .i64 0, .int .i64 0, .int .i64 0] (0, 0) _ rfl (setCell_block _ (setCell_block _ (setCell_block _ hX4))) Tryz.underlying25 rfl (by kernel_rfl)) rfl ⟨rfl, by (repeat (first | (with_reducible exact Below.refl _ _) | (with_reducible apply Below.dr) | (with_reducible apply Below.drn) | (with_reducible refine Below.setCell ?_ (by first | omega | (simp only; omega)) _) | (with_reducible apply Below.al) | (refine Below.tr ?_ (by with_reducible assumption))))⟩
      · have hv : v = ofv (some ⟨x1, x2, x3⟩) := by rw [← HV.out, if_pos ⟨rfl, by omega⟩]
        subst hv
        go_wp2_with (go_at_call 13; refine (hwd _).mono ?_; rintro e W4 ⟨rfl, hb4⟩; have hX4 := (hb4.block _ hl3).trans hX3; have hyc := (fun i => cell_of_row _ _ i _ _ _ hX4); have hyf := (fun i => frozen_of_row _ _ i _ _ hX4))
        exact bodyPost_ret (results_cell_row_tmp rfl _ _ w.heap.size 25 #[.int .i64 x1, .int .i64 x2, .int .i64 x3] (0, 0) _ rfl (setCell_block _ (setCell_block _ (setCell_block _ hX4))) Tryz.underlying25 rfl (by kernel_rfl)) rfl ⟨rfl, by (repeat (first | (with_reducible exact Below.refl _ _) | (with_reducible apply Below.dr) | (with_reducible apply Below.drn) | (with_reducible refine Below.setCell ?_ (by first | omega | (simp only; omega)) _) | (with_reducible apply Below.al) | (refine Below.tr ?_ (by with_reducible assumption))))⟩

theorem of_any (h : SL w v I) (hok : ∀ x ∈ I, u64ok x) (hlen : I.length ≤ 17592186044415) : Calls Tryz.prog 5 #[v] w (SRet (ofv (ofG I)) w) := by
  by_cases h8 : I.length < 8
  · exact of_short h h8
  obtain ⟨b, o, c, x0, x1, x2, x3, rfl, h0, h1, h2, h3, h4⟩ := h.four (by omega)
  rw [ofG_some (by omega) h0 h1 h2 h3]
  by_cases e0 : x0 = magic
  · subst e0
    by_cases e1 : x1 ≤ 512 ∧ x2 ≤ 512 ∧ x3 ≤ 512
    · rw [if_pos ⟨rfl, e1⟩]
      have g := fun i (x : Int) (hx : I[i]? = some x) => hok x (List.mem_of_getElem? hx)
      exact of_fit h4 (by omega) hlen e1 ⟨(g 1 _ h1).1, (g 2 _ h2).1, (g 3 _ h3).1⟩ _ rfl
    · rw [if_neg (fun h => e1 h.2)]
      exact of_great h4 (by omega) e1
  · rw [if_neg (fun h => e0 h.1)]
    exact of_strange h4 (by omega) e0
end
end Go.Proofs
