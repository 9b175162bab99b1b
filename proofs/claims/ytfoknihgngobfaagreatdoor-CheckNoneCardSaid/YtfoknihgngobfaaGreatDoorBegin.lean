import Derived.Test.YtfoknihgngobfaaGreatDoorNew
import Derived.Test.YtfoknihgngobfaaGreatDoorMof
import Derived.Test.YtfoknihgngobfaaGreatDoorEach
namespace Go.Proofs
open Go Go.RowKit

section
variable {w : World} {v : Value} {I : List Int}
theorem begin_none (h : SL w v I) (hok : ∀ x ∈ I, u64ok x) (hlen : I.length ≤ 17592186044415) (h0 : ofG I = none) :
    Calls Tryz.prog 24 #[v] w fun e w' => e = .panicked (faulte 1 0 0) ∧ Below w.heap.size w w' := by
  have hof := of_any h hok hlen
  rw [h0, ofv_none] at hof
  clear h h0 hok
  go_enter Tryz.func24, Tryz.ntmps24
  go_wp2_with (first
    | (go_at_call 5; refine hof.mono ?_; rintro e w1 ⟨rfl, hb1⟩)
    | (go_at_call 36; refine (must_no _ _ _ _).mono ?_; rintro e w' ⟨rfl, rfl⟩))
  exact ⟨rfl, rfl, by (repeat (first | (with_reducible exact Below.refl _ _) | (with_reducible apply Below.dr) | (with_reducible apply Below.drn) | (with_reducible refine Below.setCell ?_ (by first | omega | (simp only; omega)) _) | (with_reducible apply Below.al) | (refine Below.tr ?_ (by with_reducible assumption))))⟩

/-- What a look knows when it begins. -/
def FS (s : VS) (g : Geo) (p : Addr) (mi mb : Nat) : LKS := ⟨p, g, mi, mb, fun n => if 1 ≤ n ∧ (n : Int) < g.I then (s.iget g n).1 else Node.zero, fun n => decide (1 ≤ n ∧ (n : Int) < g.I ∧ (s.iget g n).2 = 0), fun _ => 0, fun _ => 0⟩
/-- The cells of a look of which k inodes have been looked at. -/
def LKS.raw (pv : Value) (g : Geo) (mi mb : Value) (node : Nat → Node) (right : Nat → Bool) (i : Nat) : Value :=
  if i < 6 then (#[pv, .int .i64 g.W, .int .i64 g.I, .int .i64 g.B, mi, mb] : Array Value).getD i undef
  else if i < 646 then (node ((i - 6) / 10)).cellAt ((i - 6) % 10) else if i < 710 then .bool (right (i - 646)) else .int .u64 0
def lookNew (pv : Value) (g : Geo) : Array Value := ((List.range 838).map (LKS.raw pv g (.pointer none) (.pointer none) (fun _ => Node.zero) (fun _ => false))).toArray

theorem lookNew_at (pv : Value) (g : Geo) (W : World) : LKf (W.alloc (.cells (lookNew pv g) 56)) W.heap.size (LKS.raw pv g (.pointer none) (.pointer none) (fun _ => Node.zero) (fun _ => false)) :=
  ⟨_, heap_alloc_new _ _, by simp [lookNew], fun i hi => by simp [lookNew, hi]⟩
/-- What has been read when k inodes have been looked at. -/
def ndk (s : VS) (g : Geo) (k n : Nat) : Node := if 1 ≤ n ∧ n < k then (s.iget g n).1 else Node.zero
def rtk (s : VS) (g : Geo) (k n : Nat) : Bool := decide (1 ≤ n ∧ n < k ∧ (s.iget g n).2 = 0)
theorem rtk_fs {g : Geo} {s : VS} {N : Nat} {p : Addr} {mi mb : Nat} (hN : g.I = N) (n : Nat) : rtk s g N n = (FS s g p mi mb).right n := by
  have h : (1 ≤ n ∧ n < N ∧ (s.iget g n).2 = 0) ↔ (1 ≤ n ∧ (n : Int) < g.I ∧ (s.iget g n).2 = 0) := by
    constructor
    · rintro ⟨a, c, d⟩; exact ⟨a, by omega, d⟩
    · rintro ⟨a, c, d⟩; exact ⟨a, by omega, d⟩
  exact decide_eq_decide.2 h
theorem ndk_fs {g : Geo} {s : VS} {N : Nat} {p : Addr} {mi mb : Nat} (hN : g.I = N) (n : Nat) : ndk s g N n = (FS s g p mi mb).node n := by
  show (if 1 ≤ n ∧ n < N then (s.iget g n).1 else Node.zero) = if 1 ≤ n ∧ (n : Int) < g.I then (s.iget g n).1 else Node.zero
  by_cases h : 1 ≤ n ∧ n < N
  · rw [if_pos h, if_pos (by omega)]
  · rw [if_neg h, if_neg (by omega)]
theorem raw_done {w : World} {b mi mb : Nat} {p : Addr} {g : Geo} {s : VS} {N : Nat} (hN : g.I = N) (h : LKf w b (LKS.raw (.pointer (some p)) g (.pointer (some ⟨mi, 0, none⟩)) (.pointer (some ⟨mb, 0, none⟩)) (ndk s g N) (rtk s g N))) : LK w b (FS s g p mi mb) := by
  refine LKf.congr h fun i hi => ?_
  unfold LKS.raw LKS.at
  by_cases h1 : i < 6
  · rw [if_pos h1, if_pos h1]; rfl
  rw [if_neg h1, if_neg h1]
  by_cases h2 : i < 646
  · rw [if_pos h2, if_pos h2]
    have e := ndk_fs (s := s) (p := p) (mi := mi) (mb := mb) hN ((i - 6) / 10)
    rw [e]
  rw [if_neg h2, if_neg h2]
  by_cases h3 : i < 710
  · rw [if_pos h3, if_pos h3]
    have e := rtk_fs (s := s) (p := p) (mi := mi) (mb := mb) hN (i - 646)
    rw [e]
  rw [if_neg h3, if_neg h3]
  by_cases h4 : i < 774
  · rw [if_pos h4]; rfl
  · rw [if_neg h4]; rfl
/-- begin has come to its end. -/
def BGood (I : List Int) (g : Geo) (w : World) (e : Ending) (w' : World) : Prop :=
  ∃ b p mi mb, e = .returned (.pointer (some ⟨b, 0, none⟩)) ∧ LK w' b (FS ⟨I, []⟩ g p mi mb) ∧ VW ΓL (Lb w.heap.size b) w' p ⟨I, []⟩ ∧ MB w' mi p (g.at6 0) g.I ∧ MB w' mb p (g.at7 0) g.B ∧ mi ≠ b ∧ mb ≠ b ∧ Below w.heap.size w w' ∧ w.heap.size ≤ b
theorem is_yes {w : World} {b : Nat} {F : LKS} (h : LK w b F) (h1 : F.right 1 = true) (h2 : (F.node 1).kind = 2) :
    Calls Tryz.prog 43 #[.pointer (some ⟨b, 0, none⟩), .int .i64 1, .int .u64 2] w fun e w' => e = .returned (.bool true) ∧ w = w' := by
  have := is_any h 1 (by omega) 2
  rw [h1, h2] at this
  simpa using this
theorem ofG_geo {I : List Int} {g : Geo} (h : ofG I = some g) : g.may = true ∧ g.words ≤ I.length := by
  unfold ofG at h
  split at h
  · split at h
    · split at h
      · rename_i hh
        cases h
        exact ⟨hh.1, by simpa using hh.2⟩
      · cases h
    · cases h
  · cases h
theorem raw_cells {w : World} {b : Nat} {pv mi mb : Value} {g : Geo} {nd : Nat → Node} {r : Nat → Bool} (h : LKf w b (LKS.raw pv g mi mb nd r)) : w.cell? ⟨b, 0, none⟩ = some pv ∧ w.cell? ⟨b, 1, none⟩ = some (.int .i64 g.W) ∧ w.cell? ⟨b, 2, none⟩ = some (.int .i64 g.I) ∧ w.cell? ⟨b, 3, none⟩ = some (.int .i64 g.B) ∧
    w.cell? ⟨b, 4, none⟩ = some mi ∧ w.cell? ⟨b, 5, none⟩ = some mb :=
  ⟨h.cell 0 (by omega), h.cell 1 (by omega), h.cell 2 (by omega), h.cell 3 (by omega), h.cell 4 (by omega), h.cell 5 (by omega)⟩
theorem raw_mi {w : World} {b : Nat} {pv mi mb : Value} {g : Geo} {nd : Nat → Node} {r : Nat → Bool} (h : LKf w b (LKS.raw pv g mi mb nd r)) (x : Value) : LKf (w.setCell ⟨b, 4, none⟩ x) b (LKS.raw pv g x mb nd r) := by
  refine (h.setCell 4 x).congr fun i _ => ?_
  rcases i with _ | _ | _ | _ | _ | _ | i
  all_goals first | rfl | (simp only [LKS.raw]; rw [if_neg (by omega), if_neg (by omega), if_neg (by omega)])
theorem raw_mb {w : World} {b : Nat} {pv mi mb : Value} {g : Geo} {nd : Nat → Node} {r : Nat → Bool} (h : LKf w b (LKS.raw pv g mi mb nd r)) (x : Value) : LKf (w.setCell ⟨b, 5, none⟩ x) b (LKS.raw pv g mi x nd r) := by
  refine (h.setCell 5 x).congr fun i _ => ?_
  rcases i with _ | _ | _ | _ | _ | _ | i
  all_goals first | rfl | (simp only [LKS.raw]; rw [if_neg (by omega), if_neg (by omega), if_neg (by omega)])

theorem raw_step {W : World} {b : Nat} {pv mi mb : Value} {g : Geo} {s : VS} {k : Nat} (hk : 1 ≤ k ∧ k < 64) (h : LKf W b (LKS.raw pv g mi mb (ndk s g k) (rtk s g k))) {x : Node} {e : Int} (hx : s.iget g k = (x, e)) :
    LKf ((W.setCells b (6 + k * 10) (nodeL x)).setCell ⟨b, 646 + k, none⟩ (.bool (e == 0))) b (LKS.raw pv g mi mb (ndk s g (k + 1)) (rtk s g (k + 1))) := by
  refine ((LKf.setCells _ _ h).setCell (646 + k) _).congr fun i hi => ?_
  have hl : (nodeL x).length = 10 := rfl
  rw [hl]
  unfold LKS.raw
  by_cases e1 : i = 646 + k
  · subst e1
    rw [if_pos rfl, if_neg (by omega), if_neg (by omega), if_pos (by omega), show 646 + k - 646 = k by omega]
    unfold rtk
    rw [hx]
    refine congrArg Value.bool ?_
    rw [Bool.eq_iff_iff]
    simp only [beq_iff_eq, decide_eq_true_eq]
    exact ⟨fun h => ⟨hk.1, by omega, h⟩, fun h => h.2.2⟩
  rw [if_neg e1]
  by_cases h6 : i < 6
  · rw [if_neg (by omega), if_pos h6, if_pos h6]
  rw [if_neg h6, if_neg h6]
  by_cases e2 : 6 + k * 10 ≤ i ∧ i < 6 + k * 10 + 10
  · rw [if_pos e2, if_pos (by omega), show (i - 6) / 10 = k by omega]
    unfold ndk
    rw [if_pos (by omega), hx]
    obtain ⟨d, rfl⟩ : ∃ d, i = 6 + k * 10 + d := ⟨i - (6 + k * 10), by omega⟩
    rw [show 6 + k * 10 + d - (6 + k * 10) = d by omega, show (6 + k * 10 + d - 6) % 10 = d by omega]
    have hd : d < 10 := by omega
    rcases d with _ | _ | _ | _ | _ | _ | _ | _ | _ | _ | d
    all_goals first | rfl | omega
  rw [if_neg e2]
  by_cases h7 : i < 646
  · rw [if_pos h7, if_pos h7]
    unfold ndk
    by_cases h8 : 1 ≤ (i - 6) / 10 ∧ (i - 6) / 10 < k
    · rw [if_pos h8, if_pos (by omega)]
    · rw [if_neg h8, if_neg (by omega)]
  rw [if_neg h7, if_neg h7]
  by_cases h9 : i < 710
  · rw [if_pos h9, if_pos h9]
    unfold rtk
    refine congrArg Value.bool ?_
    rw [Bool.eq_iff_iff]
    simp only [decide_eq_true_eq]
    constructor
    · rintro ⟨a, c, d⟩; exact ⟨a, by omega, d⟩
    · rintro ⟨a, c, d⟩; exact ⟨a, by omega, d⟩
  · rw [if_neg h9, if_neg h9]

theorem MB.of_heap {W W' : World} {q : Nat} {p : Addr} {a m : Int} (h : W'.heap[q]? = W.heap[q]?) (hm : MB W q p a m) : MB W' q p a m := h.trans hm
theorem setCells_mb {q b : Nat} {p : Addr} {a m : Int} (hq : q ≠ b) : ∀ (vs : List Value) (o : Nat) {W : World}, MB W q p a m → MB (W.setCells b o vs) q p a m
  | [], _, _, h => h
  | v :: r, o, W, h => by rw [World.setCells]; exact setCells_mb hq r (o + 1) (MB.of_heap (Below.heap_setCell W ⟨b, o, none⟩ v q hq) h)
theorem setCells_vw {n b : Nat} {p : Addr} {s : VS} : ∀ (vs : List Value) (o : Nat) {W : World}, VW ΓL (Lb n b) W p s → VW ΓL (Lb n b) (W.setCells b o vs) p s
  | [], _, _, h => h
  | v :: r, o, W, h => by rw [World.setCells]; exact setCells_vw r (o + 1) (h.setCell (a := ⟨b, o, none⟩) (.inl rfl) _)
theorem setCells_below {b B : Nat} {w : World} (hb : B ≤ b) : ∀ (vs : List Value) (o : Nat) {W : World}, Below B w W → Below B w (W.setCells b o vs)
  | [], _, _, h => h
  | v :: r, o, W, h => by rw [World.setCells]; exact setCells_below hb r (o + 1) (h.setCell hb _)
theorem setCells_arr {g : Nat} {t : TypeId} {fr : Nat × Nat} : ∀ (vs : List Value) (o : Nat) {w : World} {old : Array Value}, w.heap[g]? = some (.cells old t fr) →
    ∃ A : Array Value, (w.setCells g o vs).heap[g]? = some (.cells A t fr) ∧ A.size = old.size ∧ ∀ i, i < old.size → A[i]? = if o ≤ i ∧ i < o + vs.length then vs[i - o]? else old[i]?
  | [], o, w, old, h => ⟨old, h, rfl, fun i _ => by rw [if_neg (by simp)]⟩
  | v :: r, o, w, old, h => by
    rw [World.setCells]
    obtain ⟨A, h1, h2, h3⟩ := setCells_arr r (o + 1) (setCell_block w h (i := o) (v := v))
    refine ⟨A, h1, by simpa using h2, fun i hi => ?_⟩
    rw [h3 i (by simpa using hi)]
    by_cases e : i = o
    · subst e
      rw [if_neg (by omega), if_pos (by simp)]
      simp [hi]
    · rw [Array.getElem?_setIfInBounds_ne (Ne.symm e)]
      by_cases e2 : o + 1 ≤ i ∧ i < o + 1 + r.length
      · rw [if_pos e2, if_pos (by simp; omega)]
        obtain ⟨d, rfl⟩ : ∃ d, i = o + 1 + d := ⟨i - (o + 1), by omega⟩
        rw [show o + 1 + d - (o + 1) = d by omega, show o + 1 + d - o = d + 1 by omega]; simp
      · rw [if_neg e2, if_neg (by simp; omega)]
theorem setCells_all {g : Nat} {t : TypeId} {fr : Nat × Nat} {w : World} {old : Array Value} (h : w.heap[g]? = some (.cells old t fr)) (vs : List Value) (hs : old.size = vs.length) :
    (w.setCells g 0 vs).heap[g]? = some (.cells vs.toArray t fr) := by
  obtain ⟨A, h1, h2, h3⟩ := setCells_arr vs 0 h
  have : A = vs.toArray := by
    apply Array.ext_getElem?
    intro i
    by_cases hi : i < old.size
    · rw [h3 i hi, if_pos (by omega)]; simp
    · rw [Array.getElem?_eq_none (by omega), Array.getElem?_eq_none (by simp; omega)]
  rw [h1, this]
theorem setCells_heap {b c : Nat} (hc : c ≠ b) : ∀ (vs : List Value) (o : Nat) (W : World), (W.setCells b o vs).heap[c]? = W.heap[c]?
  | [], _, _ => rfl
  | v :: r, o, W => by rw [World.setCells, setCells_heap hc r]; exact Below.heap_setCell _ _ _ _ hc
theorem begin_step {w W : World} {n0 b B q1 q2 c : Nat} {pv mi mb : Value} {p : Addr} {g : Geo} {s : VS} {k : Nat} {a6 a7 m6 m7 : Int} (hk : 1 ≤ k ∧ k < 64) (h : LKf W b (LKS.raw pv g mi mb (ndk s g k) (rtk s g k))) {x : Node} {e : Int} (hx : s.iget g k = (x, e))
    (hV : VW ΓL (Lb n0 b) W p s) (h1 : MB W q1 p a6 m6) (h2 : MB W q2 p a7 m7) (hq1 : q1 ≠ b) (hq2 : q2 ≠ b) (hc : c ≠ b) (hb : B ≤ b) (hB : Below B w W) :
    LKf ((W.setCells b (6 + k * 10) (nodeL x)).setCell ⟨b, 646 + k, none⟩ (.bool (e == 0))).drew b (LKS.raw pv g mi mb (ndk s g (k + 1)) (rtk s g (k + 1))) ∧
    VW ΓL (Lb n0 b) ((W.setCells b (6 + k * 10) (nodeL x)).setCell ⟨b, 646 + k, none⟩ (.bool (e == 0))).drew p s ∧ MB ((W.setCells b (6 + k * 10) (nodeL x)).setCell ⟨b, 646 + k, none⟩ (.bool (e == 0))).drew q1 p a6 m6 ∧
    MB ((W.setCells b (6 + k * 10) (nodeL x)).setCell ⟨b, 646 + k, none⟩ (.bool (e == 0))).drew q2 p a7 m7 ∧ Below B w ((W.setCells b (6 + k * 10) (nodeL x)).setCell ⟨b, 646 + k, none⟩ (.bool (e == 0))).drew ∧
    ((W.setCells b (6 + k * 10) (nodeL x)).setCell ⟨b, 646 + k, none⟩ (.bool (e == 0))).drew.heap[c]? = W.heap[c]? := by
  have g1 := raw_step hk h hx
  have g2 := setCells_vw (nodeL x) (6 + k * 10) hV
  have g3 := setCells_mb hq1 (nodeL x) (6 + k * 10) h1
  have g4 := setCells_mb hq2 (nodeL x) (6 + k * 10) h2
  have g5 := setCells_below hb (nodeL x) (6 + k * 10) hB
  have g6 := setCells_heap hc (nodeL x) (6 + k * 10) W
  generalize W.setCells b (6 + k * 10) (nodeL x) = V at g1 g2 g3 g4 g5 g6 ⊢
  have e2 := VW.setCell g2 (a := ⟨b, 646 + k, none⟩) (.inl rfl) (.bool (e == 0))
  have e3 := MB.of_heap (Below.heap_setCell V ⟨b, 646 + k, none⟩ (.bool (e == 0)) q1 hq1) g3
  have e4 := MB.of_heap (Below.heap_setCell V ⟨b, 646 + k, none⟩ (.bool (e == 0)) q2 hq2) g4
  have e5 := Below.setCell (p := ⟨b, 646 + k, none⟩) g5 hb (.bool (e == 0))
  have e6 := (Below.heap_setCell V ⟨b, 646 + k, none⟩ (.bool (e == 0)) c hc).trans g6
  generalize V.setCell ⟨b, 646 + k, none⟩ (.bool (e == 0)) = X at g1 e2 e3 e4 e5 e6 ⊢
  exact ⟨LKf.drew g1, VW.drew e2, MB.of_heap (W := X) rfl e3, MB.of_heap (W := X) rfl e4, Below.drew e5, e6⟩

set_option maxRecDepth 1000000 in
theorem look_cells (p : Addr) (g : Geo) : ((((Tryz.zeroCells56.setIfInBounds 0 (.pointer (some p))).setIfInBounds 1 (.int .i64 g.W)).setIfInBounds 2 (.int .i64 g.I)).setIfInBounds 3 (.int .i64 g.B)) = lookNew (.pointer (some p)) g := by kernel_rfl

set_option maxRecDepth 100000 in
set_option maxHeartbeats 20000000 in
theorem begin_ok (h : SL w v I) (hok : ∀ x ∈ I, u64ok x) (hlen : I.length * 8 ≤ 140737488351232) (g : Geo) (h0 : ofG I = some g) (hGl : Glob w)
    (hb60 : VS.bit ⟨I, []⟩ (g.at6 0) g.I 0 = true) (hb61 : VS.bit ⟨I, []⟩ (g.at6 0) g.I 1 = true) (hb70 : VS.bit ⟨I, []⟩ (g.at7 0) g.B 0 = true) (hx0 : (VS.iget ⟨I, []⟩ g 1).2 = 0) (hx1 : (VS.iget ⟨I, []⟩ g 1).1.kind = 2) (hx2 : (VS.iget ⟨I, []⟩ g 1).1.parent = 0) :
    Calls Tryz.prog 24 #[v] w (BGood I g w) := by
  have hof := of_any h hok (by omega)
  rw [h0, ofv_some] at hof
  go_enter Tryz.func24, Tryz.ntmps24
  go_wp2_with (first
    | (go_at_call 5; refine hof.mono ?_; rintro e w1 ⟨rfl, hb1⟩)
    | (go_at_call 36; refine (must_yes _ _ _ _).mono ?_; rintro e w' ⟨rfl, rfl⟩))
  obtain ⟨W1, hW1⟩ : ∃ W1, w1.alloc (.cells #[.int .i64 g.W, .int .i64 g.I, .int .i64 g.B] 25) = W1 := ⟨_, rfl⟩
  rw [hW1]
  have hX1 : W1.heap[w1.heap.size]? = some (.cells #[.int .i64 g.W, .int .i64 g.I, .int .i64 g.B] 25 (0, 0)) := by subst hW1; exact heap_alloc_new _ _
  have hB1 : Below w.heap.size w W1 := by subst hW1; (repeat (first | (with_reducible exact Below.refl _ _) | (with_reducible apply Below.dr) | (with_reducible apply Below.drn) | (with_reducible refine Below.setCell ?_ (by first | omega | (simp only; omega)) _) | (with_reducible apply Below.al) | (refine Below.tr ?_ (by with_reducible assumption))))
  have hGl1 : Glob W1 := hGl.below hB1
  have hsl1 := h.below hB1
  obtain ⟨gm1, gm2, gm3, gm4, gm5, gm6⟩ := (Geo.may_iff g).1 (ofG_geo h0).1
  obtain ⟨f1, f2, f3, f4, f5⟩ := mof_ok (s := ⟨I, []⟩) (ofG_geo h0).1 (by have := (ofG_geo h0).2; show ¬ (I.length : Int) < g.words; omega)
  have ho1 := fun {L : Nat → Prop} {W : World} {p : Addr} (h : VW ΓL L W p ⟨I, []⟩) => mof_any h (g.at6 0) g.I (by omega) (by omega)
  have ho2 := fun {L : Nat → Prop} {W : World} {p : Addr} (h : VW ΓL L W p ⟨I, []⟩) => mof_any h (g.at7 0) g.B (by omega) (by omega)
  simp only [f1] at ho1
  simp only [f2] at ho2
  have hg60 := fun {L : Nat → Prop} {W : World} {p : Addr} {q : Nat} (h : VW ΓL L W p ⟨I, []⟩) (hq : MB W q p (g.at6 0) g.I) => mget_any h hq (by omega) (by omega) 0
  have hg61 := fun {L : Nat → Prop} {W : World} {p : Addr} {q : Nat} (h : VW ΓL L W p ⟨I, []⟩) (hq : MB W q p (g.at6 0) g.I) => mget_any h hq (by omega) (by omega) 1
  have hg70 := fun {L : Nat → Prop} {W : World} {p : Addr} {q : Nat} (h : VW ΓL L W p ⟨I, []⟩) (hq : MB W q p (g.at7 0) g.B) => mget_any h hq (by omega) (by omega) 0
  simp only [hb60] at hg60
  simp only [hb61] at hg61
  simp only [hb70] at hg70
  have HXX : Hid ((VS.iget ⟨I, []⟩ g 1).2 = 0 ∧ (VS.iget ⟨I, []⟩ g 1).1.kind = 2 ∧ (VS.iget ⟨I, []⟩ g 1).1.parent = 0) := ⟨hx0, hx1, hx2⟩
  clear hb60 hb61 hb70 hx0 hx1 hx2
  have hi6 := fun W => inodeMapAt_any g W
  have hi7 := fun W => blockMapAt_any g W
  obtain ⟨a6, ha6⟩ : ∃ a, g.at6 0 = a := ⟨_, rfl⟩
  obtain ⟨a7, ha7⟩ : ∃ a, g.at7 0 = a := ⟨_, rfl⟩
  simp only [ha6] at hi6 ho1 hg60 hg61
  simp only [ha7] at hi7 ho2 hg70
  have HA67 : Hid (g.at6 0 = a6 ∧ g.at7 0 = a7) := ⟨ha6, ha7⟩
  clear f1 f2 f3 f4 f5
  obtain ⟨b0, o0, c0, rfl, hcells⟩ : ∃ b o c, v = .slice (some ⟨b, o, none⟩) I.length c ∧ ∀ i x, I[i]? = some x → W1.cell? ⟨b, o + i, none⟩ = some (.int .u64 x) := by
    obtain ⟨a, c, e, hh⟩ := hsl1
    obtain ⟨b, o, e2, hc⟩ := hh (by intro e; rw [e] at h0; cases h0)
    exact ⟨b, o, c, by rw [e, e2], hc⟩
  have hIn : 0 < I.length := by
    cases hI : I with
    | nil => rw [hI] at h0; cases h0
    | cons x r => simp
  have hnew := fun {W : World} (hb : Below W1.heap.size W1 W) => vnew_any (hGl1.below hb) (c := c0) I hIn hok hlen (fun i x hx => (hb.cell (p := ⟨b0, o0 + i, none⟩) (World.block_lt_of_cell? W1 _ (hcells i x hx))).trans (hcells i x hx))
  have hS : ∀ W, Below W1.heap.size W1 W → (W.cell? ⟨w1.heap.size, 0, none⟩ = some (.int .i64 g.W) ∧ W.cell? ⟨w1.heap.size, 1, none⟩ = some (.int .i64 g.I) ∧ W.cell? ⟨w1.heap.size, 2, none⟩ = some (.int .i64 g.B)) ∧ Below W1.heap.size W1 W := fun W hb => by
    have hX := (hb.block _ (blk_lt hX1)).trans hX1
    exact ⟨⟨by rw [cell_of_row _ _ _ _ _ _ hX]; rfl, by rw [cell_of_row _ _ _ _ _ _ hX]; rfl, by rw [cell_of_row _ _ _ _ _ _ hX]; rfl⟩, hb⟩
  have HS := Lib.hid hS
  have HC := Lib.hid hcells
  clear hW1 hof h0 h hsl1 hcells hS
  go_cut [5] from 6 (fun s5 wc => ∃ b p, s5 = .pointer (some ⟨b, 0, none⟩) ∧ LKf wc b (LKS.raw (.pointer (some p)) g (.pointer none) (.pointer none) (fun _ => Node.zero) (fun _ => false)) ∧ VW ΓL (Lb w.heap.size b) wc p ⟨I, []⟩ ∧ Below W1.heap.size W1 wc ∧ W1.heap.size ≤ b)
  case first =>
    go_region_held3 (fun W => (W.cell? ⟨w1.heap.size, 0, none⟩ = some (.int .i64 g.W) ∧ W.cell? ⟨w1.heap.size, 1, none⟩ = some (.int .i64 g.I) ∧ W.cell? ⟨w1.heap.size, 2, none⟩ = some (.int .i64 g.B)) ∧ Below W1.heap.size W1 W)
      ((refine HS.out _ ?_; (repeat (first | (with_reducible exact Below.refl _ _) | (with_reducible apply Below.dr) | (with_reducible apply Below.drn) | (with_reducible refine Below.setCell ?_ (by first | omega | (simp only; omega)) _) | (with_reducible apply Below.al) | (refine Below.tr ?_ (by with_reducible assumption))))))
      (first | (go_at_call 37; refine (hnew (by (repeat (first | (with_reducible exact Below.refl _ _) | (with_reducible apply Below.dr) | (with_reducible apply Below.drn) | (with_reducible refine Below.setCell ?_ (by first | omega | (simp only; omega)) _) | (with_reducible apply Below.al) | (refine Below.tr ?_ (by with_reducible assumption)))))).mono ?_; rintro e w2 ⟨bv, rfl, hb2, hV2⟩))
    all_goals go_wp2
    all_goals go_meet
    all_goals exact ⟨w2.heap.size, ⟨bv, 0, none⟩, rfl, by rw [look_cells]; exact lookNew_at _ g w2, (hV2.alloc _).mono (fun _ e => e.elim .inr (fun e => .inl ⟨Nat.lt_of_lt_of_le e.1 hB1.size, e.2⟩)), by (repeat (first | (with_reducible exact Below.refl _ _) | (with_reducible apply Below.dr) | (with_reducible apply Below.drn) | (with_reducible refine Below.setCell ?_ (by first | omega | (simp only; omega)) _) | (with_reducible apply Below.al) | (refine Below.tr ?_ (by with_reducible assumption)))), hb2.size⟩
  case rest =>
    obtain ⟨b, p, rfl, hLK, hVb, hBb, hWb⟩ := hcut
    obtain ⟨wb, rfl⟩ : ∃ wb : World, wb = wc := ⟨_, rfl⟩
    have hXb := (hBb.block _ (blk_lt hX1)).trans hX1
    have hBwb : Below w.heap.size w wb := hB1.trans (hBb.mono hB1.size)
    have hbn : w1.heap.size ≠ b := by have := blk_lt hX1; omega
    have hbb : w.heap.size ≤ b := Nat.le_trans hB1.size hWb
    have hS0 : ∀ W : World, W.cell? ⟨b, 0, none⟩ = some (.pointer (some p)) → W.heap[w1.heap.size]? = wb.heap[w1.heap.size]? → (W.cell? ⟨w1.heap.size, 0, none⟩ = some (.int .i64 g.W) ∧ W.cell? ⟨w1.heap.size, 1, none⟩ = some (.int .i64 g.I) ∧ W.cell? ⟨w1.heap.size, 2, none⟩ = some (.int .i64 g.B)) ∧ W.cell? ⟨b, 0, none⟩ = some (.pointer (some p)) := fun W h1 h2 => by
      have hX := h2.trans hXb
      exact ⟨⟨by rw [cell_of_row _ _ _ _ _ _ hX]; rfl, by rw [cell_of_row _ _ _ _ _ _ hX]; rfl, by rw [cell_of_row _ _ _ _ _ _ hX]; rfl⟩, h1⟩
    have hSB : ∀ W : World, Below wb.heap.size wb W → (W.cell? ⟨w1.heap.size, 0, none⟩ = some (.int .i64 g.W) ∧ W.cell? ⟨w1.heap.size, 1, none⟩ = some (.int .i64 g.I) ∧ W.cell? ⟨w1.heap.size, 2, none⟩ = some (.int .i64 g.B)) ∧ W.cell? ⟨b, 0, none⟩ = some (.pointer (some p)) := fun W hb => hS0 W ((hb.cell (p := ⟨b, 0, none⟩) hLK.lt).trans (hLK.cell 0 (by omega))) (hb.block _ (blk_lt hXb))
    have hSC : ∀ (V : World) (o : Nat) (q : Value) (W : World), V.setCell ⟨b, o, none⟩ q = W → 0 < o → Below wb.heap.size wb V → (W.cell? ⟨w1.heap.size, 0, none⟩ = some (.int .i64 g.W) ∧ W.cell? ⟨w1.heap.size, 1, none⟩ = some (.int .i64 g.I) ∧ W.cell? ⟨w1.heap.size, 2, none⟩ = some (.int .i64 g.B)) ∧ W.cell? ⟨b, 0, none⟩ = some (.pointer (some p)) := fun V o q W e ho hb => by
      subst e
      exact hS0 _ (by rw [World.cell?_setCell_other _ _ _ _ (by intro e; injection e with _ e; omega)]; exact ((hb.cell (p := ⟨b, 0, none⟩) hLK.lt).trans (hLK.cell 0 (by omega)))) ((Below.heap_setCell _ _ _ _ hbn).trans (hb.block _ (blk_lt hXb)))
    have HSB := Lib.hid hSB
    have HSC := Lib.hid hSC
    have HLK := Lib.hid hLK
    have hlb := hLK.lt
    have hbf := fun W (hb : Below wb.heap.size wb W) => (hLK.below hb).frozen 4
    have hbf5 := fun W (hb : Below wb.heap.size wb W) => (hLK.below hb).frozen 5
    clear hS0 hSB hSC hLK
    go_wp2
    go_cut [6] from 8 (fun s6 wd => s6 = .int .i64 0 ∧ ∃ mi, LKf wd b (LKS.raw (.pointer (some p)) g (.pointer (some ⟨mi, 0, none⟩)) (.pointer none) (fun _ => Node.zero) (fun _ => false)) ∧ VW ΓL (Lb w.heap.size b) wd p ⟨I, []⟩ ∧ MB wd mi p a6 g.I ∧ mi ≠ b ∧ Below w.heap.size w wd ∧ wd.heap[w1.heap.size]? = wb.heap[w1.heap.size]?)
    case first =>
      go_region_held3 (fun W => (W.cell? ⟨w1.heap.size, 0, none⟩ = some (.int .i64 g.W) ∧ W.cell? ⟨w1.heap.size, 1, none⟩ = some (.int .i64 g.I) ∧ W.cell? ⟨w1.heap.size, 2, none⟩ = some (.int .i64 g.B)) ∧ W.cell? ⟨b, 0, none⟩ = some (.pointer (some p)))
        ((first | (refine HSB.out _ ?_; (repeat (first | (with_reducible exact Below.refl _ _) | (with_reducible apply Below.dr) | (with_reducible apply Below.drn) | (with_reducible refine Below.setCell ?_ (by first | omega | (simp only; omega)) _) | (with_reducible apply Below.al) | (refine Below.tr ?_ (by with_reducible assumption)))); done) | (refine HSC.out _ _ _ _ rfl (by decide) ?_; (repeat (first | (with_reducible exact Below.refl _ _) | (with_reducible apply Below.dr) | (with_reducible apply Below.drn) | (with_reducible refine Below.setCell ?_ (by first | omega | (simp only; omega)) _) | (with_reducible apply Below.al) | (refine Below.tr ?_ (by with_reducible assumption)))); done)))
        (first
          | (go_at_call 39; refine (hi6 _).mono ?_; rintro e w2 ⟨rfl, hb2⟩)
          | (go_at_call 38; refine (ho1 (hVb.below (by (repeat (first | (with_reducible exact Below.refl _ _) | (with_reducible apply Below.dr) | (with_reducible apply Below.drn) | (with_reducible refine Below.setCell ?_ (by first | omega | (simp only; omega)) _) | (with_reducible apply Below.al) | (refine Below.tr ?_ (by with_reducible assumption))))))).mono ?_; rintro e w3 ⟨q3, rfl, hb3, hq3⟩; obtain ⟨b3, rfl, hl3, hM3⟩ := hq3 rfl; have hB3 : Below wb.heap.size wb w3 := (by (repeat (first | (with_reducible exact Below.refl _ _) | (with_reducible apply Below.dr) | (with_reducible apply Below.drn) | (with_reducible refine Below.setCell ?_ (by first | omega | (simp only; omega)) _) | (with_reducible apply Below.al) | (refine Below.tr ?_ (by with_reducible assumption))))); have hf3 := hbf w3 hB3; have hc3 := raw_cells (HLK.out.below hB3); obtain ⟨-, -, -, -, e4, e5⟩ := hc3))
      all_goals go_wp2
      all_goals go_meet
      all_goals
        have hb3b : b3 ≠ b := by have := hb2.size; simp at this; omega
        exact ⟨rfl, b3, raw_mi (HLK.out.below hB3) _, (hVb.below hB3).setCell (a := ⟨b, 4, none⟩) (.inl rfl) _, (Below.heap_setCell _ _ _ _ hb3b).trans hM3, hb3b, (hBwb.trans (hB3.mono hBwb.size)).setCell hbb _, (Below.heap_setCell _ _ _ _ hbn).trans (hB3.block _ (blk_lt hXb))⟩
    case rest =>
      obtain ⟨rfl, mi, hLK, hVd, hMi, hmib, hBwd, hXe⟩ := hcut
      obtain ⟨wd, rfl⟩ : ∃ wd : World, wd = wc := ⟨_, rfl⟩
      have hXd := hXe.trans hXb
      clear HLK HSB HSC hbf hbf5 hVb hXe
      have hS0 : ∀ W : World, W.cell? ⟨b, 0, none⟩ = some (.pointer (some p)) → W.heap[w1.heap.size]? = wd.heap[w1.heap.size]? → (W.cell? ⟨w1.heap.size, 0, none⟩ = some (.int .i64 g.W) ∧ W.cell? ⟨w1.heap.size, 1, none⟩ = some (.int .i64 g.I) ∧ W.cell? ⟨w1.heap.size, 2, none⟩ = some (.int .i64 g.B)) ∧ W.cell? ⟨b, 0, none⟩ = some (.pointer (some p)) := fun W h1 h2 => by
        have hX := h2.trans hXd
        exact ⟨⟨by rw [cell_of_row _ _ _ _ _ _ hX]; rfl, by rw [cell_of_row _ _ _ _ _ _ hX]; rfl, by rw [cell_of_row _ _ _ _ _ _ hX]; rfl⟩, h1⟩
      have hSB : ∀ W : World, Below wd.heap.size wd W → (W.cell? ⟨w1.heap.size, 0, none⟩ = some (.int .i64 g.W) ∧ W.cell? ⟨w1.heap.size, 1, none⟩ = some (.int .i64 g.I) ∧ W.cell? ⟨w1.heap.size, 2, none⟩ = some (.int .i64 g.B)) ∧ W.cell? ⟨b, 0, none⟩ = some (.pointer (some p)) := fun W hb => hS0 W ((hb.cell (p := ⟨b, 0, none⟩) hLK.lt).trans (hLK.cell 0 (by omega))) (hb.block _ (blk_lt hXd))
      have hSC : ∀ (V : World) (o : Nat) (q : Value) (W : World), V.setCell ⟨b, o, none⟩ q = W → 0 < o → Below wd.heap.size wd V → (W.cell? ⟨w1.heap.size, 0, none⟩ = some (.int .i64 g.W) ∧ W.cell? ⟨w1.heap.size, 1, none⟩ = some (.int .i64 g.I) ∧ W.cell? ⟨w1.heap.size, 2, none⟩ = some (.int .i64 g.B)) ∧ W.cell? ⟨b, 0, none⟩ = some (.pointer (some p)) := fun V o q W e ho hb => by
        subst e
        exact hS0 _ (by rw [World.cell?_setCell_other _ _ _ _ (by intro e; injection e with _ e; omega)]; exact ((hb.cell (p := ⟨b, 0, none⟩) hLK.lt).trans (hLK.cell 0 (by omega)))) ((Below.heap_setCell _ _ _ _ hbn).trans (hb.block _ (blk_lt hXd)))
      have HSB := Lib.hid hSB
      have HSC := Lib.hid hSC
      have HLK := Lib.hid hLK
      have hlb := hLK.lt
      have hbf := fun W (hb : Below wd.heap.size wd W) => (hLK.below hb).frozen 4
      have hbf5 := fun W (hb : Below wd.heap.size wd W) => (hLK.below hb).frozen 5
      clear hS0 hSB hSC hLK
      go_wp2
      go_cut [7] from 8 (fun s7 we => s7 = .int .i64 0 ∧ ∃ mb, LKf we b (LKS.raw (.pointer (some p)) g (.pointer (some ⟨mi, 0, none⟩)) (.pointer (some ⟨mb, 0, none⟩)) (fun _ => Node.zero) (fun _ => false)) ∧ VW ΓL (Lb w.heap.size b) we p ⟨I, []⟩ ∧ MB we mb p a7 g.B ∧ mb ≠ b ∧ Below w.heap.size w we ∧ we.heap[w1.heap.size]? = wd.heap[w1.heap.size]? ∧ MB we mi p a6 g.I)
      case first =>
        go_region_held3 (fun W => (W.cell? ⟨w1.heap.size, 0, none⟩ = some (.int .i64 g.W) ∧ W.cell? ⟨w1.heap.size, 1, none⟩ = some (.int .i64 g.I) ∧ W.cell? ⟨w1.heap.size, 2, none⟩ = some (.int .i64 g.B)) ∧ W.cell? ⟨b, 0, none⟩ = some (.pointer (some p)))
          ((first | (refine HSB.out _ ?_; (repeat (first | (with_reducible exact Below.refl _ _) | (with_reducible apply Below.dr) | (with_reducible apply Below.drn) | (with_reducible refine Below.setCell ?_ (by first | omega | (simp only; omega)) _) | (with_reducible apply Below.al) | (refine Below.tr ?_ (by with_reducible assumption)))); done) | (refine HSC.out _ _ _ _ rfl (by decide) ?_; (repeat (first | (with_reducible exact Below.refl _ _) | (with_reducible apply Below.dr) | (with_reducible apply Below.drn) | (with_reducible refine Below.setCell ?_ (by first | omega | (simp only; omega)) _) | (with_reducible apply Below.al) | (refine Below.tr ?_ (by with_reducible assumption)))); done)))
          (first
            | (go_at_call 40; refine (hi7 _).mono ?_; rintro e w2 ⟨rfl, hb2⟩)
            | (go_at_call 38; refine (ho2 (hVd.below (by (repeat (first | (with_reducible exact Below.refl _ _) | (with_reducible apply Below.dr) | (with_reducible apply Below.drn) | (with_reducible refine Below.setCell ?_ (by first | omega | (simp only; omega)) _) | (with_reducible apply Below.al) | (refine Below.tr ?_ (by with_reducible assumption))))))).mono ?_; rintro e w3 ⟨q3, rfl, hb3, hq3⟩; obtain ⟨b3, rfl, hl3, hM3⟩ := hq3 rfl; have hB3 : Below wd.heap.size wd w3 := (by (repeat (first | (with_reducible exact Below.refl _ _) | (with_reducible apply Below.dr) | (with_reducible apply Below.drn) | (with_reducible refine Below.setCell ?_ (by first | omega | (simp only; omega)) _) | (with_reducible apply Below.al) | (refine Below.tr ?_ (by with_reducible assumption))))); have hf3 := hbf5 w3 hB3; have hc3 := raw_cells (HLK.out.below hB3); obtain ⟨-, -, -, -, e4, e5⟩ := hc3))
        all_goals go_wp2
        all_goals go_meet
        all_goals
          have hb3b : b3 ≠ b := by have := hb2.size; simp at this; omega
          exact ⟨rfl, b3, raw_mb (HLK.out.below hB3) _, (hVd.below hB3).setCell (a := ⟨b, 5, none⟩) (.inl rfl) _, (Below.heap_setCell _ _ _ _ hb3b).trans hM3, hb3b, (hBwd.trans (hB3.mono hBwd.size)).setCell hbb _, (Below.heap_setCell _ _ _ _ hbn).trans (hB3.block _ (blk_lt hXd)), (Below.heap_setCell _ _ _ _ hmib).trans (hMi.below hB3)⟩
      case rest =>
        obtain ⟨rfl, mb, hLK, hVe, hMb, hmbb, hBwe, hXe2, hMi2⟩ := hcut
        obtain ⟨we, rfl⟩ : ∃ we : World, we = wc := ⟨_, rfl⟩
        have hXe := hXe2.trans hXd
        have HLK2 := Lib.hid hLK
        clear HLK HSB HSC hbf hbf5 hVd hXe2 hMi hXd hXb hLK
        go_wp2_with (go_at_call 36; refine (must_yes _ _ _ _).mono ?_; rintro e w' ⟨rfl, rfl⟩)
        obtain ⟨N, hN⟩ : ∃ N : Nat, g.I = N := ⟨g.I.toNat, by omega⟩
        have HN := Lib.hid hN
        clear hN
        go_loopw [8] (fun i wr => ∃ k : Nat, 1 ≤ k ∧ k ≤ N ∧ i = .int .i64 k ∧ LKf wr b (LKS.raw (.pointer (some p)) g (.pointer (some ⟨mi, 0, none⟩)) (.pointer (some ⟨mb, 0, none⟩)) (ndk ⟨I, []⟩ g k) (rtk ⟨I, []⟩ g k)) ∧ VW ΓL (Lb w.heap.size b) wr p ⟨I, []⟩ ∧ MB wr mi p a6 g.I ∧ MB wr mb p a7 g.B ∧ Below w.heap.size w wr ∧ wr.heap[w1.heap.size]? = we.heap[w1.heap.size]?) (fun i _ => N - (intOf i).toNat)
        case atStart =>
          refine ⟨1, by omega, by have := HN.out; omega, rfl, HLK2.out.congr fun i _ => ?_, hVe, hMi2, hMb, hBwe, rfl⟩
          have e1 : ndk ⟨I, []⟩ g 1 = fun _ => Node.zero := by funext n; unfold ndk; rw [if_neg (by omega)]
          have e2 : rtk ⟨I, []⟩ g 1 = fun _ => false := by funext n; unfold rtk; rw [decide_eq_false_iff_not]; omega
          rw [e1, e2]
        case round =>
          obtain ⟨k, hk1, hkN, rfl, hLK, hVr, hMir, hMbr, hBr, hXr0⟩ := hrel
          clear hok hlen hGl hX1 hB1 hGl1 ha6 ha7 hi6 hi7 ho1 ho2 hIn hnew HS HC hb1 HLK2 hBwb hBwd hBwe hBb hVe hMi2 hMb
          have hXr := hXr0.trans hXe
          have hgc := (fun i => cell_of_row _ _ i _ _ _ hXr)
          by_cases hlt : k < N
          · have hkI : (k : Int) < g.I := by have := HN.out; omega
            have hSB : ∀ W : World, Below wr.heap.size wr W → (W.cell? ⟨w1.heap.size, 0, none⟩ = some (.int .i64 g.W) ∧ W.cell? ⟨w1.heap.size, 1, none⟩ = some (.int .i64 g.I) ∧ W.cell? ⟨w1.heap.size, 2, none⟩ = some (.int .i64 g.B)) ∧ W.cell? ⟨b, 0, none⟩ = some (.pointer (some p)) := fun W hb => by
              have hX := (hb.block _ (blk_lt hXr)).trans hXr
              exact ⟨⟨by rw [cell_of_row _ _ _ _ _ _ hX]; rfl, by rw [cell_of_row _ _ _ _ _ _ hX]; rfl, by rw [cell_of_row _ _ _ _ _ _ hX]; rfl⟩, (hb.cell (p := ⟨b, 0, none⟩) hLK.lt).trans (hLK.cell 0 (by omega))⟩
            have HSB := Lib.hid hSB
            have HLK := Lib.hid hLK
            have hlb := hLK.lt
            have hig := fun {W : World} (h : VW ΓL (Lb w.heap.size b) W p ⟨I, []⟩) => iget_any h g k
            obtain ⟨⟨x, e⟩, hx⟩ : ∃ x, VS.iget ⟨I, []⟩ g k = x := ⟨_, rfl⟩
            simp only [hx] at hig
            have HX := Lib.hid hx
            clear hSB hLK hx
            go_wp2
            go_region_held3 (fun W => (W.cell? ⟨w1.heap.size, 0, none⟩ = some (.int .i64 g.W) ∧ W.cell? ⟨w1.heap.size, 1, none⟩ = some (.int .i64 g.I) ∧ W.cell? ⟨w1.heap.size, 2, none⟩ = some (.int .i64 g.B)) ∧ W.cell? ⟨b, 0, none⟩ = some (.pointer (some p)))
              ((refine HSB.out _ ?_; (repeat (first | (with_reducible exact Below.refl _ _) | (with_reducible apply Below.dr) | (with_reducible apply Below.drn) | (with_reducible refine Below.setCell ?_ (by first | omega | (simp only; omega)) _) | (with_reducible apply Below.al) | (refine Below.tr ?_ (by with_reducible assumption))))))
              (first | (go_at_call 41; refine (hig (hVr.below (by (repeat (first | (with_reducible exact Below.refl _ _) | (with_reducible apply Below.dr) | (with_reducible apply Below.drn) | (with_reducible refine Below.setCell ?_ (by first | omega | (simp only; omega)) _) | (with_reducible apply Below.al) | (refine Below.tr ?_ (by with_reducible assumption))))))).mono ?_; rintro e w2 ⟨rfl, hb2⟩; (try (have hX2 := (hb2.block wr.heap.size (by simp)).trans (heap_alloc_new _ _); have hxc := (fun i => cell_of_row _ _ i _ _ _ hX2); have hxf := (fun i => frozen_of_row _ _ i _ _ hX2)))))
            all_goals go_wp2
            · obtain ⟨W', hW'⟩ : ∃ W', w2.alloc (.cells #[.int .u64 x.kind, .int .u64 x.links, .int .u64 x.opens, .int .u64 x.size, .int .u64 x.d0, .int .u64 x.d1, .int .u64 x.d2, .int .u64 x.d3, .int .u64 x.chain, .int .u64 x.parent] 49) = W' := ⟨_, rfl⟩
              rw [hW']
              have hXB : W'.heap[w2.heap.size]? = some (.cells #[.int .u64 x.kind, .int .u64 x.links, .int .u64 x.opens, .int .u64 x.size, .int .u64 x.d0, .int .u64 x.d1, .int .u64 x.d2, .int .u64 x.d3, .int .u64 x.chain, .int .u64 x.parent] 49 (0, 0)) := by
                subst hW'; exact heap_alloc_new _ _
              have hBW : Below wr.heap.size wr W' := by subst hW'; (repeat (first | (with_reducible exact Below.refl _ _) | (with_reducible apply Below.dr) | (with_reducible apply Below.drn) | (with_reducible refine Below.setCell ?_ (by first | omega | (simp only; omega)) _) | (with_reducible apply Below.al) | (refine Below.tr ?_ (by with_reducible assumption))))
              clear hW'
              have hyc := (fun i => cell_of_row _ _ i _ _ _ hXB)
              have hLW := HLK.out.below hBW
              have h64 : (k : Int) < 64 := by have := HN.out; omega
              have hbf := fun i => hLW.frozen i
              have hbr := hLW.cell (646 + k) (by omega)
              have hb0 := hLW.cell (6 + k * 10 + 0) (by omega)
              have hb1 := hLW.cell (6 + k * 10 + 1) (by omega)
              have hb2 := hLW.cell (6 + k * 10 + 2) (by omega)
              have hb3 := hLW.cell (6 + k * 10 + 3) (by omega)
              have hb4 := hLW.cell (6 + k * 10 + 4) (by omega)
              have hb5 := hLW.cell (6 + k * 10 + 5) (by omega)
              have hb6 := hLW.cell (6 + k * 10 + 6) (by omega)
              have hb7 := hLW.cell (6 + k * 10 + 7) (by omega)
              have hb8 := hLW.cell (6 + k * 10 + 8) (by omega)
              have hb9 := hLW.cell (6 + k * 10 + 9) (by omega)
              simp only [Nat.add_zero] at hb0
              go_region
              go_wp2
              obtain ⟨z1, z2, z3, z4, z5, z6⟩ := begin_step ⟨hk1, by omega⟩ hLW HX.out (hVr.below hBW) (hMir.below hBW) (hMbr.below hBW) hmib hmbb hbn hbb (hBr.trans (hBW.mono hBr.size))
              exact ⟨⟨k + 1, by omega, by omega, by go_num, z1, z2, z3, z4, z5, (z6.trans (hBW.block _ (blk_lt hXr))).trans hXr0⟩, by simp [intOf]; omega⟩
            · have hch : ((((((((((w2.setCell ⟨wr.heap.size, 0, none⟩ (.int .u64 x.kind)).setCell ⟨wr.heap.size, 1, none⟩ (.int .u64 x.links)).setCell ⟨wr.heap.size, 2, none⟩ (.int .u64 x.opens)).setCell ⟨wr.heap.size, 3, none⟩ (.int .u64 x.size)).setCell ⟨wr.heap.size, 4, none⟩ (.int .u64 x.d0)).setCell ⟨wr.heap.size, 5, none⟩ (.int .u64 x.d1)).setCell ⟨wr.heap.size, 6, none⟩ (.int .u64 x.d2)).setCell ⟨wr.heap.size, 7, none⟩ (.int .u64 x.d3)).setCell ⟨wr.heap.size, 8, none⟩ (.int .u64 x.chain)).setCell ⟨wr.heap.size, 9, none⟩ (.int .u64 x.parent)) = w2.setCells wr.heap.size 0 (nodeL x) := rfl
              rw [hch]
              have hXB : (w2.setCells wr.heap.size 0 (nodeL x)).heap[wr.heap.size]? = some (.cells #[.int .u64 x.kind, .int .u64 x.links, .int .u64 x.opens, .int .u64 x.size, .int .u64 x.d0, .int .u64 x.d1, .int .u64 x.d2, .int .u64 x.d3, .int .u64 x.chain, .int .u64 x.parent] 49 (0, 0)) := setCells_all hX2 (nodeL x) rfl
              have hBW : Below wr.heap.size wr (w2.setCells wr.heap.size 0 (nodeL x)) := setCells_below (Nat.le_refl _) _ _ (by (repeat (first | (with_reducible exact Below.refl _ _) | (with_reducible apply Below.dr) | (with_reducible apply Below.drn) | (with_reducible refine Below.setCell ?_ (by first | omega | (simp only; omega)) _) | (with_reducible apply Below.al) | (refine Below.tr ?_ (by with_reducible assumption)))))
              obtain ⟨W', hW'⟩ : ∃ W', w2.setCells wr.heap.size 0 (nodeL x) = W' := ⟨_, rfl⟩
              rw [hW'] at hXB hBW ⊢
              clear hW' hch hxc hxf hX2
              have hyc := (fun i => cell_of_row _ _ i _ _ _ hXB)
              have hLW := HLK.out.below hBW
              have h64 : (k : Int) < 64 := by have := HN.out; omega
              have hbf := fun i => hLW.frozen i
              have hbr := hLW.cell (646 + k) (by omega)
              have hb0 := hLW.cell (6 + k * 10 + 0) (by omega)
              have hb1 := hLW.cell (6 + k * 10 + 1) (by omega)
              have hb2 := hLW.cell (6 + k * 10 + 2) (by omega)
              have hb3 := hLW.cell (6 + k * 10 + 3) (by omega)
              have hb4 := hLW.cell (6 + k * 10 + 4) (by omega)
              have hb5 := hLW.cell (6 + k * 10 + 5) (by omega)
              have hb6 := hLW.cell (6 + k * 10 + 6) (by omega)
              have hb7 := hLW.cell (6 + k * 10 + 7) (by omega)
              have hb8 := hLW.cell (6 + k * 10 + 8) (by omega)
              have hb9 := hLW.cell (6 + k * 10 + 9) (by omega)
              simp only [Nat.add_zero] at hb0
              go_region
              go_wp2
              obtain ⟨z1, z2, z3, z4, z5, z6⟩ := begin_step ⟨hk1, by omega⟩ hLW HX.out (hVr.below hBW) (hMir.below hBW) (hMbr.below hBW) hmib hmbb hbn hbb (hBr.trans (hBW.mono hBr.size))
              exact ⟨⟨k + 1, by omega, by omega, by go_num, z1, z2, z3, z4, z5, (z6.trans (hBW.block _ (blk_lt hXr))).trans hXr0⟩, by simp [intOf]; omega⟩
          · have hkI : ¬ (k : Int) < g.I := by have := HN.out; omega
            obtain rfl : k = N := by omega
            have hK := raw_done HN.out hLK
            obtain ⟨c0, c1, c2, c3, c4, c5⟩ := raw_cells hLK
            go_wp2_with fail
            refine (hg60 hVr hMir).mono ?_
            rintro e W2 ⟨rfl, hb2⟩
            obtain ⟨-, -, -, -, d4, d5⟩ := raw_cells (hLK.below hb2)
            have hV2 := hVr.below hb2
            have hM2 := hMir.below hb2
            have hN2 := hMbr.below hb2
            have hL2 := hLK.below hb2
            have hB2 : Below w.heap.size w W2 := by (repeat (first | (with_reducible exact Below.refl _ _) | (with_reducible apply Below.dr) | (with_reducible apply Below.drn) | (with_reducible refine Below.setCell ?_ (by first | omega | (simp only; omega)) _) | (with_reducible apply Below.al) | (refine Below.tr ?_ (by with_reducible assumption))))
            go_wp2_with fail
            refine (hg61 hV2 hM2).mono ?_
            rintro e W3 ⟨rfl, hb3⟩
            obtain ⟨-, -, -, -, e4, e5⟩ := raw_cells (hL2.below hb3)
            have hV3 := hV2.below hb3
            have hM3 := hM2.below hb3
            have hN3 := hN2.below hb3
            have hL3 := hL2.below hb3
            have hB3 : Below w.heap.size w W3 := by (repeat (first | (with_reducible exact Below.refl _ _) | (with_reducible apply Below.dr) | (with_reducible apply Below.drn) | (with_reducible refine Below.setCell ?_ (by first | omega | (simp only; omega)) _) | (with_reducible apply Below.al) | (refine Below.tr ?_ (by with_reducible assumption))))
            clear hV2 hM2 hN2 hL2 hB2 hb2 d4 d5 hLK hVr hMir hMbr hBr c0 c1 c2 c3 c4 c5 hb3 hXr0 hXr hgc
            go_wp2_with fail
            refine (hg70 hV3 hN3).mono ?_
            rintro e W4 ⟨rfl, hb4⟩
            have hK4 := raw_done HN.out (hL3.below hb4)
            have hV4 := hV3.below hb4
            have hM4 := hM3.below hb4
            have hN4 := hN3.below hb4
            have hB4 : Below w.heap.size w W4 := by (repeat (first | (with_reducible exact Below.refl _ _) | (with_reducible apply Below.dr) | (with_reducible apply Below.drn) | (with_reducible refine Below.setCell ?_ (by first | omega | (simp only; omega)) _) | (with_reducible apply Below.al) | (refine Below.tr ?_ (by with_reducible assumption))))
            have hR : (FS ⟨I, []⟩ g p mi mb).right 1 = true := decide_eq_true ⟨by omega, by omega, HXX.out.1⟩
            have hNd : (FS ⟨I, []⟩ g p mi mb).node 1 = (VS.iget ⟨I, []⟩ g 1).1 := if_pos ⟨by omega, by omega⟩
            have his := is_yes hK4 hR (by rw [hNd]; exact HXX.out.2.1)
            have hp9 : W4.cell? ⟨b, 25, none⟩ = some (.int .u64 0) := by
              have h9 := hK4.nd 1 9 (by omega) (by omega)
              rw [hNd] at h9
              refine h9.trans ?_
              show some (Value.int .u64 (VS.iget ⟨I, []⟩ g 1).1.parent) = _
              rw [HXX.out.2.2]
            have HK4 := Lib.hid hK4
            clear hK hR hNd hK4 hL3
            go_wp2_with (first
              | (go_at_call 36; refine (must_yes _ _ _ _).mono ?_; rintro e w' ⟨rfl, rfl⟩)
              | (go_at_call 43; refine his.mono ?_; rintro e w' ⟨rfl, rfl⟩))
            go_ret
            exact ⟨b, p, mi, mb, rfl, HK4.out, hV4, by rw [HA67.out.1]; exact hM4, by rw [HA67.out.2]; exact hN4, hmib, hmbb, hB4, hbb⟩
end
end Go.Proofs
