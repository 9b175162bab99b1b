import Derived.Test.YtfoknihgngobfaaGreatDoorBitmap
import Derived.Deep.MidRow
import Derived.Recover
namespace Go.Proofs
open Go Go.RowKit

/-- What the look knows of a device, field by field. -/
structure LKS where
  p : Addr
  g : Geo
  mi : Nat
  mb : Nat
  node : Nat → Node
  right : Nat → Bool
  names : Nat → Int
  opens : Nat → Int
def Node.cellAt (x : Node) (j : Nat) : Value := x.v.cells.getD j (.int .u64 0)
/-- The cells of the look's block, one by one. -/
def LKS.at (F : LKS) (i : Nat) : Value :=
  if i < 6 then (#[.pointer (some F.p), .int .i64 F.g.W, .int .i64 F.g.I, .int .i64 F.g.B, .pointer (some ⟨F.mi, 0, none⟩), .pointer (some ⟨F.mb, 0, none⟩)] : Array Value).getD i undef
  else if i < 646 then (F.node ((i - 6) / 10)).cellAt ((i - 6) % 10) else if i < 710 then .bool (F.right (i - 646)) else if i < 774 then .int .u64 (F.names (i - 710)) else .int .u64 (F.opens (i - 774))
/-- A block of a look's size whose cells are f's. -/
def LKf (w : World) (b : Nat) (f : Nat → Value) : Prop := ∃ A : Array Value, w.heap[b]? = some (.cells A 56 (0, 0)) ∧ A.size = 838 ∧ ∀ i, i < 838 → A[i]? = some (f i)
def LK (w : World) (b : Nat) (F : LKS) : Prop := LKf w b F.at

section
variable {w w' : World} {b : Nat} {f : Nat → Value}
theorem LKf.cell (h : LKf w b f) (i : Nat) (hi : i < 838) : w.cell? ⟨b, i, none⟩ = some (f i) := by
  obtain ⟨A, hA, hs, hc⟩ := h
  rw [cell_of_row _ _ _ _ _ _ hA]; exact hc i hi
theorem LKf.frozen (h : LKf w b f) (i : Nat) : w.frozen? ⟨b, i, none⟩ = false := by
  obtain ⟨A, hA, hs, hc⟩ := h
  exact frozen_of_row _ _ _ _ _ hA
theorem LKf.lt (h : LKf w b f) : b < w.heap.size := by
  obtain ⟨A, hA, hs, hc⟩ := h
  exact blk_lt hA
theorem LKf.block (h : LKf w b f) (hb : w'.heap[b]? = w.heap[b]?) : LKf w' b f := by
  obtain ⟨A, hA, hs, hc⟩ := h
  exact ⟨A, hb.trans hA, hs, hc⟩
theorem LKf.below (h : LKf w b f) (hb : Below w.heap.size w w') : LKf w' b f := h.block (hb.block _ h.lt)
theorem LKf.alloc (h : LKf w b f) (o : Obj) : LKf (w.alloc o) b f := h.block (Below.heap_alloc _ _ _ h.lt)
theorem LKf.drew (h : LKf w b f) : LKf w.drew b f := h.block rfl
theorem LKf.drewN (h : LKf w b f) (n : Nat) : LKf (w.drewN n) b f := h.block rfl
theorem LKf.other (h : LKf w b f) {a : Addr} (ha : b ≠ a.block) (v : Value) : LKf (w.setCell a v) b f := h.block (Below.heap_setCell _ _ _ _ ha)
theorem LKf.congr {f' : Nat → Value} (h : LKf w b f) (he : ∀ i, i < 838 → f i = f' i) : LKf w b f' := by
  obtain ⟨A, hA, hs, hc⟩ := h
  exact ⟨A, hA, hs, fun i hi => by rw [hc i hi, he i hi]⟩
theorem LKf.setCell (h : LKf w b f) (o : Nat) (v : Value) : LKf (w.setCell ⟨b, o, none⟩ v) b (fun i => if i = o then v else f i) := by
  obtain ⟨A, hA, hs, hc⟩ := h
  refine ⟨_, setCell_block w hA, by simpa using hs, fun i hi => ?_⟩
  by_cases e : i = o
  · subst e; simp [hs, hi]
  · rw [Array.getElem?_setIfInBounds_ne (Ne.symm e), hc i hi]; simp [e]
theorem LKf.setCells : ∀ (vs : List Value) (o : Nat) {w : World} {f : Nat → Value}, LKf w b f → LKf (w.setCells b o vs) b (fun i => if o ≤ i ∧ i < o + vs.length then vs.getD (i - o) undef else f i)
  | [], o, w, f, h => h.congr fun i _ => by rw [if_neg (by simp)]
  | v :: r, o, w, f, h => by
    rw [World.setCells]
    refine (LKf.setCells r (o + 1) (h.setCell o v)).congr fun i _ => ?_
    by_cases e : i = o
    · subst e; rw [if_neg (by omega), if_pos rfl, if_pos (by simp)]; simp
    · by_cases e2 : o + 1 ≤ i ∧ i < o + 1 + r.length
      · rw [if_pos e2, if_pos (by simp; omega)]
        obtain ⟨d, rfl⟩ : ∃ d, i = o + 1 + d := ⟨i - (o + 1), by omega⟩
        rw [show o + 1 + d - (o + 1) = d by omega, show o + 1 + d - o = d + 1 by omega]; simp
      · rw [if_neg e2, if_neg e, if_neg (by simp; omega)]
theorem LKf.there (h : LKf w b f) (o n : Nat) (hn : o + n ≤ 838) : w.there b o n := fun j hj => ⟨by rw [h.cell _ (by omega)]; rfl, h.frozen _⟩
theorem LKf.range (h : LKf w b f) (o : Nat) (l : List Value) (hl : ∀ j v, l[j]? = some v → o + j < 838 ∧ f (o + j) = v) : w.rangeAt b o l := fun j v hv => by
  obtain ⟨h1, h2⟩ := hl j v hv
  rw [h.cell _ h1, h2]
end

section
variable {w : World} {b : Nat} {F : LKS}
theorem LK.hd (h : LK w b F) : w.cell? ⟨b, 0, none⟩ = some (.pointer (some F.p)) ∧ w.cell? ⟨b, 1, none⟩ = some (.int .i64 F.g.W) ∧ w.cell? ⟨b, 2, none⟩ = some (.int .i64 F.g.I) ∧ w.cell? ⟨b, 3, none⟩ = some (.int .i64 F.g.B) ∧
    w.cell? ⟨b, 4, none⟩ = some (.pointer (some ⟨F.mi, 0, none⟩)) ∧ w.cell? ⟨b, 5, none⟩ = some (.pointer (some ⟨F.mb, 0, none⟩)) :=
  ⟨LKf.cell h 0 (by omega), LKf.cell h 1 (by omega), LKf.cell h 2 (by omega), LKf.cell h 3 (by omega), LKf.cell h 4 (by omega), LKf.cell h 5 (by omega)⟩
theorem LK.rt (h : LK w b F) (n : Nat) (hn : n < 64) : w.cell? ⟨b, 646 + n, none⟩ = some (.bool (F.right n)) := by
  rw [LKf.cell h _ (by omega)]
  unfold LKS.at
  rw [if_neg (by omega), if_neg (by omega), if_pos (by omega), show 646 + n - 646 = n by omega]
theorem LK.nm (h : LK w b F) (n : Nat) (hn : n < 64) : w.cell? ⟨b, 710 + n, none⟩ = some (.int .u64 (F.names n)) := by
  rw [LKf.cell h _ (by omega)]
  unfold LKS.at
  rw [if_neg (by omega), if_neg (by omega), if_neg (by omega), if_pos (by omega), show 710 + n - 710 = n by omega]
theorem LK.op (h : LK w b F) (n : Nat) (hn : n < 64) : w.cell? ⟨b, 774 + n, none⟩ = some (.int .u64 (F.opens n)) := by
  rw [LKf.cell h _ (by omega)]
  unfold LKS.at
  rw [if_neg (by omega), if_neg (by omega), if_neg (by omega), if_neg (by omega), show 774 + n - 774 = n by omega]
theorem LK.nd (h : LK w b F) (n j : Nat) (hn : n < 64) (hj : j < 10) : w.cell? ⟨b, 6 + n * 10 + j, none⟩ = some ((F.node n).cellAt j) := by
  rw [LKf.cell h _ (by omega)]
  unfold LKS.at
  rw [if_neg (by omega), if_pos (by omega), show (6 + n * 10 + j - 6) / 10 = n by omega, show (6 + n * 10 + j - 6) % 10 = j by omega]
end

/-- The fault, as it is thrown. -/
abbrev faultv (k a b : Int) : Value := .agg #[.int .i64 k, .int .i64 a, .int .i64 b]
abbrev faulte (k a b : Int) : List PanicEntry := [{ v := .iface 29 (faultv k a b), recovered := false }]

theorem must_yes (k a b : Int) (w : World) : Calls Tryz.prog 36 #[.bool true, .int .i64 k, .int .i64 a, .int .i64 b] w fun e w' => e = .returned (.tuple #[]) ∧ w = w' := by
  go_enter Tryz.func36, Tryz.ntmps36
  go_wp2
  go_end0
  exact ⟨rfl, rfl⟩
theorem must_no (k a b : Int) (w : World) : Calls Tryz.prog 36 #[.bool false, .int .i64 k, .int .i64 a, .int .i64 b] w fun e w' => e = .panicked (faulte k a b) ∧ w = w' := by
  go_enter Tryz.func36, Tryz.ntmps36
  go_wp2
  exact ⟨rfl, rfl, rfl⟩

theorem is_any {w : World} {b : Nat} {F : LKS} (h : LK w b F) (n : Nat) (hn : n < 64) (kind : Int) :
    Calls Tryz.prog 43 #[.pointer (some ⟨b, 0, none⟩), .int .i64 n, .int .u64 kind] w fun e w' => e = .returned (.bool (F.right n && decide ((F.node n).kind = kind))) ∧ w = w' := by
  have hr := h.rt n hn
  have hk := h.nd n 0 hn (by omega)
  obtain ⟨r, hR⟩ : ∃ r, F.right n = r := ⟨_, rfl⟩
  rw [hR] at hr ⊢
  have hk' : w.cell? ⟨b, 6 + n * 10, none⟩ = some (.int .u64 (F.node n).kind) := hk
  clear hk hR
  cases r
  · go_enter Tryz.func43, Tryz.ntmps43
    go_wp2
    go_ret
    exact ⟨rfl, rfl⟩
  · go_enter Tryz.func43, Tryz.ntmps43
    go_wp2
    go_ret
    exact ⟨ret_bool (by simp; rfl), rfl⟩

set_option maxHeartbeats 1000000 in
theorem closed_any {Γ : Nat → Option Obj} (hG : Γ 0 = some leastObj) {L : Nat → Prop} {w : World} {b : Nat} {F : LKS} {s : VS} (h : LK w b F) (hV : VW Γ L w F.p s) (i k : Int) :
    Calls Tryz.prog 45 #[.pointer (some ⟨b, 0, none⟩), .int .i64 i, .int .i64 k] w (SRet (.bool (decide (s.get (descAt i k) = 0))) w) := by
  have hGl := hV.glob hG
  have hc := h.hd.1
  have hlt := LKf.lt h
  obtain ⟨d, hd⟩ : ∃ d, descAt i k = d := ⟨_, rfl⟩
  have hdesc := fun w hg => descAt_any i k w hg
  rw [hd] at hdesc ⊢
  obtain ⟨x, hx⟩ : ∃ x, s.get d = x := ⟨_, rfl⟩
  have hget := fun {w : World} (h : VW Γ L w F.p s) => get_any h d
  rw [hx] at hget ⊢
  clear hx hd h
  go_enter Tryz.func45, Tryz.ntmps45
  go_wp2
  go_region_with (first
    | (go_at_call 69; refine (hdesc _ (hGl.below (by (repeat (first | exact Below.refl _ _ | apply Below.al | apply Below.dr | apply Below.drn | refine Below.tr ?_ (by assumption)))))).mono ?_; rintro e w2 ⟨rfl, hb2⟩; have hc2 : ∀ b o, b < w.heap.size → w2.cell? ⟨b, o, none⟩ = w.cell? ⟨b, o, none⟩ := (fun b o hb => (bcell hb2).1 b o hb); have hz2 : w.heap.size ≤ w2.heap.size := hb2.size)
    | (go_at_call 49; refine (hget (hV.below (by (repeat (first | exact Below.refl _ _ | apply Below.al | apply Below.dr | apply Below.drn | refine Below.tr ?_ (by assumption)))))).mono ?_; rintro e w' ⟨rfl, rfl⟩))
  all_goals go_wp2
  all_goals go_ret
  all_goals exact SRet.mk (by simp; rfl) (by (repeat (first | exact Below.refl _ _ | apply Below.al | apply Below.dr | apply Below.drn | refine Below.tr ?_ (by assumption))))
end Go.Proofs
