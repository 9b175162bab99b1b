import Derived.Test.YtfoknihgngobfaaGreatDoorLookB
namespace Go.Proofs
open Go Go.RowKit

/-- A device of which the first directory alone is there; l: how many links that says to have. -/
structure Img (I : List Int) (g : Geo) (l : Int) : Prop where
  ok : ∀ x ∈ I, u64ok x
  len : I.length * 8 ≤ 140737488351232
  len2 : 264 ≤ I.length
  geo : ofG I = some g
  zero : ∀ n, 8 ≤ n → n < 264 → VS.get ⟨I, []⟩ n = 0
  b60 : VS.bit ⟨I, []⟩ (g.at6 0) g.I 0 = true
  b70 : VS.bit ⟨I, []⟩ (g.at7 0) g.B 0 = true
  node : VS.iget ⟨I, []⟩ g 1 = (⟨2, l, 0, 0, 0, 0, 0, 0, 0, 0⟩, 0)
  rest : ∀ k : Nat, 2 ≤ k → (k : Int) < g.I → (VS.iget ⟨I, []⟩ g k).2 ≠ 0
  bat : ∀ k : Nat, k < 12 → VS.bat ⟨I, []⟩ g 1 k = (0, 0)
  blk : ∀ k : Nat, 1 ≤ k → (k : Int) < g.B → VS.bit ⟨I, []⟩ (g.at7 0) g.B k = false
  one : VS.bit ⟨I, []⟩ (g.at6 0) g.I 1 = true
  kind : VS.get ⟨I, []⟩ (g.at8 1) = 2

def rowsA (X b : Nat) : Array Value := #[.func (.func 25) #[.pointer (some ⟨b, 0, none⟩)] #[], .func (.func 26) #[.pointer (some ⟨b, 0, none⟩)] #[], .func (.func 27) #[.pointer (some ⟨b, 0, none⟩)] #[],
  .func (.func 28) #[.pointer (some ⟨b, 0, none⟩)] #[], .func (.func 29) #[] #[.pointer (some ⟨X, 0, none⟩)], .func (.func 31) #[.pointer (some ⟨b, 0, none⟩)] #[], .func (.func 32) #[.pointer (some ⟨b, 0, none⟩)] #[],
  .func (.func 33) #[.pointer (some ⟨b, 0, none⟩)] #[], .func (.func 34) #[.pointer (some ⟨b, 0, none⟩)] #[]]
/-- Between two rows of the look. -/
structure St (w : World) (n0 b R : Nat) (F : LKS) (s : VS) (g : Geo) (W : World) : Prop where
  x : W.heap[w.heap.size]? = some (.cells #[.pointer (some ⟨b, 0, none⟩)] 43 (0, 0))
  f : W.heap[w.heap.size + 1]? = some (.cells #[.int .i64 0, .int .i64 0, .int .i64 0] 29 (0, 0))
  i : W.heap[w.heap.size + 1 + 1]? = some (.cells #[.bool false] 4 (0, 0))
  r : W.heap[R]? = some (.cells (rowsA w.heap.size b) 1 (0, 0))
  k : LK W b F
  v : VW ΓL (Lb n0 b) W F.p s
  m1 : MB W F.mi F.p (g.at6 0) g.I
  m2 : MB W F.mb F.p (g.at7 0) g.B
  bl : Below w.heap.size w W
  bx : w.heap.size + 1 + 1 < b
  br : R ≠ b
  b1 : F.mi ≠ b
  b2 : F.mb ≠ b
theorem St.kb {w W W' : World} {n0 b R : Nat} {F : LKS} {s : VS} {g : Geo} (h : St w n0 b R F s g W) (hk : Kb b W.heap.size W W') (F' : LKS) (hF : LK W' b F') (hp : F'.p = F.p) (h1 : F'.mi = F.mi) (h2 : F'.mb = F.mb) : St w n0 b R F' s g W' := by
  have hb := h.bx
  refine ⟨(hk.block _ ⟨blk_lt h.x, by omega⟩).trans h.x, (hk.block _ ⟨blk_lt h.f, by omega⟩).trans h.f, (hk.block _ ⟨blk_lt h.i, by omega⟩).trans h.i, (hk.block _ ⟨blk_lt h.r, h.br⟩).trans h.r, hF, ?_, ?_, ?_, ?_, hb, h.br, by rw [h1]; exact h.b1, by rw [h2]; exact h.b2⟩
  · rw [hp]; exact Kb.vw (.inl rfl) h.v hk
  · rw [hp, h1]; exact Kb.mb h.m1 h.b1 hk
  · rw [hp, h2]; exact Kb.mb h.m2 h.b2 hk
  · have hz := h.bl.size
    exact ⟨hk.os.trans h.bl.os, hk.tape.trans h.bl.tape, hk.output.trans h.bl.output, Nat.le_trans hz hk.size, fun i hi => (hk.block i ⟨by omega, by omega⟩).trans (h.bl.block i hi)⟩
theorem St.below {w W W' : World} {n0 b R : Nat} {F : LKS} {s : VS} {g : Geo} (h : St w n0 b R F s g W) (hk : Below W.heap.size W W') : St w n0 b R F s g W' :=
  h.kb (Kb.of_below hk) F (LKf.below h.k hk) rfl rfl rfl

section
variable {I : List Int} {g : Geo} {l : Int} {p : Addr} {mi mb : Nat}
theorem Img.bd (h : Img I g l) : 1 ≤ g.W ∧ g.W ≤ 4 ∧ 2 ≤ g.I ∧ g.I ≤ 64 ∧ 2 ≤ g.B ∧ g.B ≤ 512 := (Geo.may_iff g).1 (ofG_geo h.geo).1
theorem Img.r1 (h : Img I g l) : (FS ⟨I, []⟩ g p mi mb).right 1 = true := by
  have := h.bd
  exact decide_eq_true ⟨by omega, by omega, by rw [show ((1 : Nat) : Int) = 1 from rfl, h.node]⟩
theorem Img.r2 (h : Img I g l) (k : Nat) (hk : 2 ≤ k) (hlt : (k : Int) < g.I) : (FS ⟨I, []⟩ g p mi mb).right k = false :=
  decide_eq_false (fun e => h.rest k hk hlt e.2.2)
theorem Img.n1 (h : Img I g l) : (FS ⟨I, []⟩ g p mi mb).node 1 = ⟨2, l, 0, 0, 0, 0, 0, 0, 0, 0⟩ := by
  have := h.bd
  refine (if_pos ⟨by omega, by omega⟩).trans ?_
  rw [show ((1 : Nat) : Int) = 1 from rfl, h.node]
theorem Img.at6 {I : List Int} {g : Geo} {l : Int} (h : Img I g l) : 0 ≤ g.at6 0 ∧ g.at6 0 ≤ 1000000 := by
  have := (mof_ok (s := ⟨I, []⟩) (ofG_geo h.geo).1 (by have := (ofG_geo h.geo).2; show ¬ (I.length : Int) < g.words; omega)).2.2.1
  omega
theorem Img.at7 {I : List Int} {g : Geo} {l : Int} (h : Img I g l) : 0 ≤ g.at7 0 ∧ g.at7 0 ≤ 1000000 := by
  have := (mof_ok (s := ⟨I, []⟩) (ofG_geo h.geo).1 (by have := (ofG_geo h.geo).2; show ¬ (I.length : Int) < g.words; omega)).2.2.2.1
  omega
end

section
variable {w : World} {v : Value} {I : List Int} {g : Geo} {l : Int}
/-- looked has found no fault. -/
def LGood (I : List Int) (g : Geo) (w : World) (e : Ending) (w' : World) : Prop :=
  ∃ b F, e = .returned (.tuple #[.pointer (some ⟨b, 0, none⟩), faultv 0 0 0, .bool true]) ∧ LK w' b F ∧ F.g = g ∧ (∀ k : Nat, 1 ≤ k → (k : Int) < g.I → F.right k = decide (k = 1)) ∧ F.names = (fun n => if n = 1 then 1 else 0) ∧ F.opens = (fun _ => 0) ∧ Below w.heap.size w w'
/-- looked has found the fault k of a. -/
def LBad (w : World) (k a : Int) (e : Ending) (w' : World) : Prop :=
  ∃ b, e = .returned (.tuple #[.pointer (some ⟨b, 0, none⟩), faultv k a 0, .bool false]) ∧ Below w.heap.size w w'
set_option maxRecDepth 100000 in
set_option maxHeartbeats 4000000 in
theorem looked_sound (h : SL w v I) (hi : Img I g 1) (hGl : Glob w) (hT : ∀ k : Nat, 1 ≤ k → (k : Int) < g.I → ∀ F : LKS, F.g = g → F.right 1 = true → Bare ⟨I, []⟩ F (g.at6 0) g.I k ∨ Full ⟨I, []⟩ F (g.at6 0) g.I k) :
    Calls Tryz.prog 14 #[v] w (LGood I g w) := by
  have hbe := fun {W : World} (hb : Below w.heap.size w W) => begin_ok (h.below hb) hi.ok hi.len g hi.geo (hGl.below hb) hi.b60 hi.one hi.b70 (by rw [hi.node]) (by rw [hi.node]) (by rw [hi.node])
  have hmf : ∀ (fn : Fn) (first cap : Array Value) (w : World), (Instr.makeFunc fn first cap).run Tryz.prog w = .ok (.func fn first cap) w := fun _ _ _ _ => rfl
  have HI := Lib.hid hi
  have HT := Lib.hid hT
  have HG := Lib.hid hGl
  clear hi h hGl hT
  go_enter_defers Tryz.func14, Tryz.ntmps14
  go_wp2_with fail
  refine (hbe (by (repeat (first | (with_reducible exact Below.refl _ _) | (with_reducible apply Below.dr) | (with_reducible apply Below.drn) | (with_reducible refine Below.setCell ?_ (by first | omega | (simp only; omega)) _) | (with_reducible apply Below.al) | (refine Below.tr ?_ (by with_reducible assumption)))))).mono ?_
  rintro e w1 ⟨b, p, mi, mb, rfl, hK, hV, hM1, hM2, hm1, hm2, hb1, hbb⟩
  have h3 : ∀ (a b c : Obj), (((w.alloc a).alloc b).alloc c).heap[w.heap.size]? = some a ∧ (((w.alloc a).alloc b).alloc c).heap[w.heap.size + 1]? = some b ∧ (((w.alloc a).alloc b).alloc c).heap[w.heap.size + 1 + 1]? = some c := fun a b c =>
    ⟨(Below.heap_alloc _ _ _ (by simp; omega)).trans (heap_alloc2_old _ _ _), (Below.heap_alloc _ _ _ (by simp)).trans (heap_alloc2_new _ _ _), by have := heap_alloc_new ((w.alloc a).alloc b) c; simpa using this⟩
  have hX := (hb1.block (w.heap.size) (by simp; omega)).trans (h3 _ _ _).1
  have hF := (hb1.block (w.heap.size + 1) (by simp)).trans (h3 _ _ _).2.1
  have hI := (hb1.block (w.heap.size + 1 + 1) (by simp)).trans (h3 _ _ _).2.2
  have hB1 : Below w.heap.size w w1 := by (repeat (first | (with_reducible exact Below.refl _ _) | (with_reducible apply Below.dr) | (with_reducible apply Below.drn) | (with_reducible refine Below.setCell ?_ (by first | omega | (simp only; omega)) _) | (with_reducible apply Below.al) | (refine Below.tr ?_ (by with_reducible assumption))))
  simp only [World.size_alloc] at hbb
  have hxc := (fun i => cell_of_row _ _ i _ _ _ hX)
  have hxf := (fun i => frozen_of_row _ _ i _ _ hX)
  clear hb1 h3 hbe
  go_wp2
  obtain ⟨W0, hW0⟩ : ∃ W0, (w1.setCell ⟨w.heap.size, 0, none⟩ (.pointer (some ⟨b, 0, none⟩))).alloc (.cells (rowsA w.heap.size b) 1) = W0 := ⟨_, rfl⟩
  unfold rowsA at hW0
  rw [hW0]
  have hz : w.heap.size + 1 + 1 < w1.heap.size := blk_lt hI
  have hXn : ΓL w.heap.size = none := if_neg (by have := blk_lt HG.out; omega)
  have hV' : VW ΓL (Lb (w.heap.size + 1 + 1 + 1) b) w1 p ⟨I, []⟩ := by simpa only [World.size_alloc] using hV
  have hmx : mi ≠ w.heap.size := fun e => by rw [← e] at hX; unfold MB at hM1; rw [hM1] at hX; cases hX
  have hbx : mb ≠ w.heap.size := fun e => by rw [← e] at hX; unfold MB at hM2; rw [hM2] at hX; cases hX
  have hS0 : St w (w.heap.size + 1 + 1 + 1) b w1.heap.size (FS ⟨I, []⟩ g p mi mb) ⟨I, []⟩ g W0 := by
    subst hW0
    have hbl := LKf.lt hK
    exact { x := (Below.heap_alloc _ _ _ (by simp; omega)).trans (setCell_block _ hX), f := (Below.heap_alloc _ _ _ (by simp; omega)).trans ((Below.heap_setCell _ _ _ _ (by simp only; omega)).trans hF),
            i := (Below.heap_alloc _ _ _ (by simp; omega)).trans ((Below.heap_setCell _ _ _ _ (by simp only; omega)).trans hI),
            r := (by have h := heap_alloc_new (w1.setCell ⟨w.heap.size, 0, none⟩ (.pointer (some ⟨b, 0, none⟩))) (.cells (rowsA w.heap.size b) 1); rw [show (w1.setCell ⟨w.heap.size, 0, none⟩ (.pointer (some ⟨b, 0, none⟩))).heap.size = w1.heap.size by simp] at h; exact h),
            k := LKf.alloc (LKf.other hK (by simp only; omega) _) _, v := VW.mono (VW.alloc (VW.setCell hV' (a := ⟨w.heap.size, 0, none⟩) (.inr ⟨by simp only; omega, hXn⟩) _) _) (fun _ e => .inl e),
            m1 := MB.alloc (MB.of_heap (Below.heap_setCell _ _ _ _ hmx) hM1) _, m2 := MB.alloc (MB.of_heap (Below.heap_setCell _ _ _ _ hbx) hM2) _,
            bl := by (repeat (first | (with_reducible exact Below.refl _ _) | (with_reducible apply Below.dr) | (with_reducible apply Below.drn) | (with_reducible refine Below.setCell ?_ (by first | omega | (simp only; omega)) _) | (with_reducible apply Below.al) | (refine Below.tr ?_ (by with_reducible assumption)))), bx := by omega, br := by omega, b1 := hm1, b2 := hm2 }
  obtain ⟨N, hN⟩ : ∃ N : Nat, g.I = N := ⟨g.I.toNat, by have := HI.out.bd; omega⟩
  have hNb : 2 ≤ N ∧ N ≤ 64 := by have := HI.out.bd; omega
  have HN := Lib.hid hN
  have hr2 : ∀ k, 2 ≤ k → k < N → (FS ⟨I, []⟩ g p mi mb).right k = false := fun k h1 h2 => HI.out.r2 k h1 (by have := HN.out; omega)
  have HR2 := Lib.hid hr2
  clear hW0 hX hF hI hB1 hxc hxf hK hV hV' hM1 hM2 hm1 hm2 hmx hbx hmf hN hr2
  refine wp_loop_rounds 10 ?_
  have rc0 := (fun i => cell_of_row _ _ i _ _ _ hS0.r)
  unfold rowsA at rc0
  rw [rounds_succ]; go_wp2_with fail
  refine (heads_ok ΓL_least hS0.k hS0.v HI.out.len2 HI.out.zero).mono ?_
  rintro e W1 ⟨rfl, hb1⟩
  have hS1 := hS0.below hb1
  clear rc0 hb1
  go_wp2
  have rc1 := (fun i => cell_of_row _ _ i _ _ _ hS1.r)
  unfold rowsA at rc1
  rw [rounds_succ]; go_wp2_with fail
  refine (slots_ok ΓL_least hS1.k hS1.v HI.out.len2 HI.out.zero).mono ?_
  rintro e W2 ⟨rfl, hb2⟩
  have hS2 := hS1.below hb2
  clear rc1 hb2
  go_wp2
  have rc2 := (fun i => cell_of_row _ _ i _ _ _ hS2.r)
  unfold rowsA at rc2
  rw [rounds_succ]; go_wp2_with fail
  refine (descriptors_ok ΓL_least hS2.k hS2.v HI.out.zero).mono ?_
  rintro e W3 ⟨rfl, hb3⟩
  have hS3 := hS2.below hb3
  clear rc2 hb3
  go_wp2
  have rc3 := (fun i => cell_of_row _ _ i _ _ _ hS3.r)
  unfold rowsA at rc3
  rw [rounds_succ]; go_wp2_with fail
  refine (taken_ok hS3.k hS3.v hS3.m1 HI.out.at6 (by have := HI.out.bd; omega) N HN.out hNb.2 N (.inl rfl) (fun k h1 h2 => HT.out k h1 (by have := HN.out; omega) _ rfl (HI.out.r1 (p := p) (mi := mi) (mb := mb)))).mono ?_
  rintro e W4 ⟨rfl, hb4⟩
  rw [if_pos rfl]
  have hS4 := hS3.below hb4
  clear rc3 hb4
  go_wp2
  have rc4 := (fun i => cell_of_row _ _ i _ _ _ hS4.r)
  unfold rowsA at rc4
  rw [rounds_succ]; go_wp2_with fail
  refine (looked2_ok hS4.k hS4.v (by rw [cell_of_row _ _ _ _ _ _ hS4.x]; rfl) (by show (VS.iget ⟨I, []⟩ g 1).2 = 0; rw [HI.out.node]) (by show (VS.iget ⟨I, []⟩ g 1).1.kind = 2; rw [HI.out.node]) HI.out.bat).mono ?_
  rintro e W5 ⟨rfl, hb5⟩
  have hS5 := hS4.below hb5
  clear rc4 hb5
  go_wp2
  have rc5 := (fun i => cell_of_row _ _ i _ _ _ hS5.r)
  unfold rowsA at rc5
  rw [rounds_succ]; go_wp2_with fail
  refine (links_ok hS5.k N HN.out hNb.1 hNb.2 (HI.out.r1 (p := p) (mi := mi) (mb := mb)) HR2.out rfl (by rw [HI.out.n1 (p := p) (mi := mi) (mb := mb)])).mono ?_
  rintro e W6 ⟨rfl, hk6, hb6⟩
  have hS6 := hS5.kb hb6 _ hk6 rfl rfl rfl
  clear rc5 hb6 hk6
  go_wp2
  have rc6 := (fun i => cell_of_row _ _ i _ _ _ hS6.r)
  unfold rowsA at rc6
  rw [rounds_succ]; go_wp2_with fail
  refine (open_ok hS6.k N HN.out hNb.1 hNb.2 (HI.out.r1 (p := p) (mi := mi) (mb := mb)) HR2.out (by show (LKS.node _ 1).links = 1; rw [show (LKS.named (FS ⟨I, []⟩ g p mi mb)).node 1 = _ from HI.out.n1 (p := p) (mi := mi) (mb := mb)]) (by show (LKS.node _ 1).opens = 0; rw [show (LKS.named (FS ⟨I, []⟩ g p mi mb)).node 1 = _ from HI.out.n1 (p := p) (mi := mi) (mb := mb)]) rfl).mono ?_
  rintro e W7 ⟨rfl, hb7⟩
  have hS7 := hS6.below hb7
  clear rc6 hb7
  go_wp2
  have rc7 := (fun i => cell_of_row _ _ i _ _ _ hS7.r)
  unfold rowsA at rc7
  rw [rounds_succ]; go_wp2_with fail
  refine (all_ok hS7.k hS7.v hS7.m2 HI.out.at7 (by have := HI.out.bd; omega) N HN.out hNb.1 hNb.2 (HI.out.r1 (p := p) (mi := mi) (mb := mb)) HR2.out (by rw [show (LKS.named (FS ⟨I, []⟩ g p mi mb)).node 1 = _ from HI.out.n1 (p := p) (mi := mi) (mb := mb)]) (by show (VS.iget ⟨I, []⟩ g 1).2 = 0; rw [HI.out.node]) HI.out.bat ⟨HI.out.bd.2.2.2.2.1, HI.out.bd.2.2.2.2.2⟩ HI.out.blk).mono ?_
  rintro e W8 ⟨rfl, hb8⟩
  have hS8 := hS7.below hb8
  clear rc7 hb8
  go_wp2
  have rc8 := (fun i => cell_of_row _ _ i _ _ _ hS8.r)
  unfold rowsA at rc8
  rw [rounds_succ]; go_wp2_with fail
  refine (tails_ok hS8.k N HN.out hNb.1 hNb.2 (HI.out.r1 (p := p) (mi := mi) (mb := mb)) HR2.out (by rw [show (LKS.named (FS ⟨I, []⟩ g p mi mb)).node 1 = _ from HI.out.n1 (p := p) (mi := mi) (mb := mb)]) (by rw [show (LKS.named (FS ⟨I, []⟩ g p mi mb)).node 1 = _ from HI.out.n1 (p := p) (mi := mi) (mb := mb)])).mono ?_
  rintro e W9 ⟨rfl, hb9⟩
  have hS9 := hS8.below hb9
  clear rc8 hb9
  go_wp2
  have xc := (fun i => cell_of_row _ _ i _ _ _ hS9.x)
  have xf := (fun i => frozen_of_row _ _ i _ _ hS9.x)
  have fc := (fun i => cell_of_row _ _ i _ _ _ hS9.f)
  have ff := (fun i => frozen_of_row _ _ i _ _ hS9.f)
  have ic := (fun i => cell_of_row _ _ i _ _ _ hS9.i)
  have if' := (fun i => frozen_of_row _ _ i _ _ hS9.i)
  rw [rounds_succ]; go_wp2
  obtain ⟨WA, hWA⟩ : ∃ WA, ((((W9.setCell ⟨w.heap.size, 0, none⟩ (.pointer (some ⟨b, 0, none⟩))).setCell ⟨w.heap.size + 1, 0, none⟩ (.int .i64 0)).setCell ⟨w.heap.size + 1, 1, none⟩ (.int .i64 0)).setCell ⟨w.heap.size + 1, 2, none⟩ (.int .i64 0)).setCell ⟨w.heap.size + 1 + 1, 0, none⟩ (.bool true) = WA := ⟨_, rfl⟩
  rw [hWA]
  have hbx := hS9.bx
  have hXA : WA.heap[w.heap.size]? = some (.cells #[.pointer (some ⟨b, 0, none⟩)] 43 (0, 0)) := by
    subst hWA
    exact (Below.heap_setCell _ _ _ _ (by simp only; omega)).trans ((Below.heap_setCell _ _ _ _ (by simp only; omega)).trans ((Below.heap_setCell _ _ _ _ (by simp only; omega)).trans ((Below.heap_setCell _ _ _ _ (by simp only; omega)).trans (setCell_block _ hS9.x))))
  have hFA : WA.heap[w.heap.size + 1]? = some (.cells #[.int .i64 0, .int .i64 0, .int .i64 0] 29 (0, 0)) := by
    subst hWA
    exact (Below.heap_setCell _ _ _ _ (by simp only; omega)).trans (setCell_block _ (setCell_block _ (setCell_block _ ((Below.heap_setCell _ _ _ _ (by simp only; omega)).trans hS9.f))))
  have hIA : WA.heap[w.heap.size + 1 + 1]? = some (.cells #[.bool true] 4 (0, 0)) := by
    subst hWA
    exact setCell_block _ ((Below.heap_setCell _ _ _ _ (by simp only; omega)).trans ((Below.heap_setCell _ _ _ _ (by simp only; omega)).trans ((Below.heap_setCell _ _ _ _ (by simp only; omega)).trans ((Below.heap_setCell _ _ _ _ (by simp only; omega)).trans hS9.i))))
  have hKA : LK WA b (FS ⟨I, []⟩ g p mi mb).named := by
    subst hWA
    exact LKf.other (LKf.other (LKf.other (LKf.other (LKf.other hS9.k (by simp only; omega) _) (by simp only; omega) _) (by simp only; omega) _) (by simp only; omega) _) (by simp only; omega) _
  have hBA : Below w.heap.size w WA := by have hB := hS9.bl; subst hWA; (repeat (first | (with_reducible exact Below.refl _ _) | (with_reducible apply Below.dr) | (with_reducible apply Below.drn) | (with_reducible refine Below.setCell ?_ (by first | omega | (simp only; omega)) _) | (with_reducible apply Below.al) | (refine Below.tr ?_ (by with_reducible assumption))))
  clear hWA xc xf fc ff ic if' hS0 hS1 hS2 hS3 hS4 hS5 hS6 hS7 hS8 hS9
  refine leaves_cons (f := 23) (args := #[.pointer (some ⟨w.heap.size + 1, 0, none⟩), .pointer (some ⟨w.heap.size + 1 + 1, 0, none⟩)]) (by simp) (by simp [go_sem]) ?_
  refine (catch_none (w.heap.size + 1) (w.heap.size + 1 + 1) WA).mono ?_
  rintro e u' w'' ⟨rfl, rfl, rfl⟩
  have xc := (fun i => cell_of_row _ _ i _ _ _ hXA)
  have fc := (fun i => cell_of_row _ _ i _ _ _ hFA)
  have ic := (fun i => cell_of_row _ _ i _ _ _ hIA)
  refine ⟨.tuple #[.pointer (some ⟨b, 0, none⟩), faultv 0 0 0, .bool true], ?_, b, _, rfl, hKA, rfl, ?_, rfl, rfl, hBA⟩
  · simp [results, Tryz.results14, go_sem, xc, fc, ic]
  · intro k h1 h2
    by_cases hk : k = 1
    · subst hk; exact (HI.out.r1 (p := p) (mi := mi) (mb := mb)).trans (decide_eq_true rfl).symm
    · exact (HI.out.r2 (p := p) (mi := mi) (mb := mb) k (by omega) h2).trans (decide_eq_false hk).symm
end
end Go.Proofs
