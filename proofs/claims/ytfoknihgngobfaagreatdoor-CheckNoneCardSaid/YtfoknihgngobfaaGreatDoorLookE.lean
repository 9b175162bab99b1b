import Derived.Test.YtfoknihgngobfaaGreatDoorLookC
namespace Go.Proofs
open Go Go.RowKit

section
variable {w : World} {v : Value} {I : List Int} {g : Geo} {l : Int}
set_option maxRecDepth 100000 in
set_option maxHeartbeats 4000000 in
theorem looked_links (h : SL w v I) (hi : Img I g l) (hGl : Glob w) (hl1 : l ≠ 1) (hT : ∀ k : Nat, 1 ≤ k → (k : Int) < g.I → ∀ F : LKS, F.g = g → F.right 1 = true → Bare ⟨I, []⟩ F (g.at6 0) g.I k ∨ Full ⟨I, []⟩ F (g.at6 0) g.I k) :
    Calls Tryz.prog 14 #[v] w (LBad w 7 1) := by
  have hbe := fun {W : World} (hb : Below w.heap.size w W) => begin_ok (h.below hb) hi.ok hi.len g hi.geo (hGl.below hb) hi.b60 hi.one hi.b70 (by rw [hi.node]) (by rw [hi.node]) (by rw [hi.node])
  have hmf : ∀ (fn : Fn) (first cap : Array Value) (w : World), (Instr.makeFunc fn first cap).run Tryz.prog w = .ok (.func fn first cap) w := fun _ _ _ _ => rfl
  have HI := Lib.hid hi
  have HT := Lib.hid hT
  have HG := Lib.hid hGl
  clear hi h hGl hT
  go_enter_defers Tryz.func14, Tryz.ntmps14
  go_wp2_with fail
  refine (hbe (by (repeat (first | (with_reducible exact Below.refl _ _) | (with_reducible apply Below.dr) | (with_reducible apply Below.drn) | (with_reducible refine Below.setCell ?_ (by first | omega | (simp only; omega)) _) | (with_reducible apply Below.al) | (refine Below.tr ?_ (by with_reducible assumption)))))).mono ?_
  rintro e w1 ⟨b, p, mi, mb, rfl, hK, hV, hM1, hM2, hm1, hm2, hb1, hbb⟩
  have h3 : ∀ (a b c : Obj), (((w.alloc a).alloc b).alloc c).heap[w.heap.size]? = some a ∧ (((w.alloc a).alloc b).alloc c).heap[w.heap.size + 1]? = some b ∧ (((w.alloc a).alloc b).alloc c).heap[w.heap.size + 1 + 1]? = some c := fun a b c =>
    ⟨(Below.heap_alloc _ _ _ (by simp; omega)).trans (heap_alloc2_old _ _ _), (Below.heap_alloc _ _ _ (by simp)).trans (heap_alloc2_new _ _ _), by have := heap_alloc_new ((w.alloc a).alloc b) c; simpa using this⟩
  have hX := (hb1.block (w.heap.size) (by simp; omega)).trans (h3 _ _ _).1
  have hF := (hb1.block (w.heap.size + 1) (by simp)).trans (h3 _ _ _).2.1
  have hI := (hb1.block (w.heap.size + 1 + 1) (by simp)).trans (h3 _ _ _).2.2
  have hB1 : Below w.heap.size w w1 := by (repeat (first | (with_reducible exact Below.refl _ _) | (with_reducible apply Below.dr) | (with_reducible apply Below.drn) | (with_reducible refine Below.setCell ?_ (by first | omega | (simp only; omega)) _) | (with_reducible apply Below.al) | (refine Below.tr ?_ (by with_reducible assumption))))
  simp only [World.size_alloc] at hbb
  have hxc := (fun i => cell_of_row _ _ i _ _ _ hX)
  have hxf := (fun i => frozen_of_row _ _ i _ _ hX)
  clear hb1 h3 hbe
  go_wp2
  obtain ⟨W0, hW0⟩ : ∃ W0, (w1.setCell ⟨w.heap.size, 0, none⟩ (.pointer (some ⟨b, 0, none⟩))).alloc (.cells (rowsA w.heap.size b) 1) = W0 := ⟨_, rfl⟩
  unfold rowsA at hW0
  rw [hW0]
  have hz : w.heap.size + 1 + 1 < w1.heap.size := blk_lt hI
  have hXn : ΓL w.heap.size = none := if_neg (by have := blk_lt HG.out; omega)
  have hV' : VW ΓL (Lb (w.heap.size + 1 + 1 + 1) b) w1 p ⟨I, []⟩ := by simpa only [World.size_alloc] using hV
  have hmx : mi ≠ w.heap.size := fun e => by rw [← e] at hX; unfold MB at hM1; rw [hM1] at hX; cases hX
  have hbx : mb ≠ w.heap.size := fun e => by rw [← e] at hX; unfold MB at hM2; rw [hM2] at hX; cases hX
  have hS0 : St w (w.heap.size + 1 + 1 + 1) b w1.heap.size (FS ⟨I, []⟩ g p mi mb) ⟨I, []⟩ g W0 := by
    subst hW0
    have hbl := LKf.lt hK
    exact { x := (Below.heap_alloc _ _ _ (by simp; omega)).trans (setCell_block _ hX), f := (Below.heap_alloc _ _ _ (by simp; omega)).trans ((Below.heap_setCell _ _ _ _ (by simp only; omega)).trans hF),
            i := (Below.heap_alloc _ _ _ (by simp; omega)).trans ((Below.heap_setCell _ _ _ _ (by simp only; omega)).trans hI),
            r := (by have h := heap_alloc_new (w1.setCell ⟨w.heap.size, 0, none⟩ (.pointer (some ⟨b, 0, none⟩))) (.cells (rowsA w.heap.size b) 1); rw [show (w1.setCell ⟨w.heap.size, 0, none⟩ (.pointer (some ⟨b, 0, none⟩))).heap.size = w1.heap.size by simp] at h; exact h),
            k := LKf.alloc (LKf.other hK (by simp only; omega) _) _, v := VW.mono (VW.alloc (VW.setCell hV' (a := ⟨w.heap.size, 0, none⟩) (.inr ⟨by simp only; omega, hXn⟩) _) _) (fun _ e => .inl e),
            m1 := MB.alloc (MB.of_heap (Below.heap_setCell _ _ _ _ hmx) hM1) _, m2 := MB.alloc (MB.of_heap (Below.heap_setCell _ _ _ _ hbx) hM2) _,
            bl := by (repeat (first | (with_reducible exact Below.refl _ _) | (with_reducible apply Below.dr) | (with_reducible apply Below.drn) | (with_reducible refine Below.setCell ?_ (by first | omega | (simp only; omega)) _) | (with_reducible apply Below.al) | (refine Below.tr ?_ (by with_reducible assumption)))), bx := by omega, br := by omega, b1 := hm1, b2 := hm2 }
  obtain ⟨N, hN⟩ : ∃ N : Nat, g.I = N := ⟨g.I.toNat, by have := HI.out.bd; omega⟩
  have hNb : 2 ≤ N ∧ N ≤ 64 := by have := HI.out.bd; omega
  have HN := Lib.hid hN
  have hr2 : ∀ k, 2 ≤ k → k < N → (FS ⟨I, []⟩ g p mi mb).right k = false := fun k h1 h2 => HI.out.r2 k h1 (by have := HN.out; omega)
  have HR2 := Lib.hid hr2
  clear hW0 hX hF hI hB1 hxc hxf hK hV hV' hM1 hM2 hm1 hm2 hmx hbx hmf hN hr2
  refine wp_loop_rounds 10 ?_
  have rc0 := (fun i => cell_of_row _ _ i _ _ _ hS0.r)
  unfold rowsA at rc0
  rw [rounds_succ]; go_wp2_with fail
  refine (heads_ok ΓL_least hS0.k hS0.v HI.out.len2 HI.out.zero).mono ?_
  rintro e W1 ⟨rfl, hb1⟩
  have hS1 := hS0.below hb1
  clear rc0 hb1
  go_wp2
  have rc1 := (fun i => cell_of_row _ _ i _ _ _ hS1.r)
  unfold rowsA at rc1
  rw [rounds_succ]; go_wp2_with fail
  refine (slots_ok ΓL_least hS1.k hS1.v HI.out.len2 HI.out.zero).mono ?_
  rintro e W2 ⟨rfl, hb2⟩
  have hS2 := hS1.below hb2
  clear rc1 hb2
  go_wp2
  have rc2 := (fun i => cell_of_row _ _ i _ _ _ hS2.r)
  unfold rowsA at rc2
  rw [rounds_succ]; go_wp2_with fail
  refine (descriptors_ok ΓL_least hS2.k hS2.v HI.out.zero).mono ?_
  rintro e W3 ⟨rfl, hb3⟩
  have hS3 := hS2.below hb3
  clear rc2 hb3
  go_wp2
  have rc3 := (fun i => cell_of_row _ _ i _ _ _ hS3.r)
  unfold rowsA at rc3
  rw [rounds_succ]; go_wp2_with fail
  refine (taken_ok hS3.k hS3.v hS3.m1 HI.out.at6 (by have := HI.out.bd; omega) N HN.out hNb.2 N (.inl rfl) (fun k h1 h2 => HT.out k h1 (by have := HN.out; omega) _ rfl (HI.out.r1 (p := p) (mi := mi) (mb := mb)))).mono ?_
  rintro e W4 ⟨rfl, hb4⟩
  rw [if_pos rfl]
  have hS4 := hS3.below hb4
  clear rc3 hb4
  go_wp2
  have rc4 := (fun i => cell_of_row _ _ i _ _ _ hS4.r)
  unfold rowsA at rc4
  rw [rounds_succ]; go_wp2_with fail
  refine (looked2_ok hS4.k hS4.v (by rw [cell_of_row _ _ _ _ _ _ hS4.x]; rfl) (by show (VS.iget ⟨I, []⟩ g 1).2 = 0; rw [HI.out.node]) (by show (VS.iget ⟨I, []⟩ g 1).1.kind = 2; rw [HI.out.node]) HI.out.bat).mono ?_
  rintro e W5 ⟨rfl, hb5⟩
  have hS5 := hS4.below hb5
  clear rc4 hb5
  go_wp2
  have rc5 := (fun i => cell_of_row _ _ i _ _ _ hS5.r)
  unfold rowsA at rc5
  rw [rounds_succ]; go_wp2_with fail
  refine (links_bad hS5.k N HN.out hNb.1 hNb.2 (HI.out.r1 (p := p) (mi := mi) (mb := mb)) HR2.out rfl (by rw [HI.out.n1 (p := p) (mi := mi) (mb := mb)]; exact hl1)).mono ?_
  rintro e W6 ⟨rfl, hk6, hb6⟩
  have hS6 := hS5.kb hb6 _ hk6 rfl rfl rfl
  clear rc5 hb6 hk6
  go_wp2
  have xc := (fun i => cell_of_row _ _ i _ _ _ hS6.x)
  obtain ⟨WA, hWA⟩ : ∃ WA, (((W6.setCell ⟨w.heap.size + 1, 0, none⟩ (.int .i64 7)).setCell ⟨w.heap.size + 1, 1, none⟩ (.int .i64 1)).setCell ⟨w.heap.size + 1, 2, none⟩ (.int .i64 0)).setCell ⟨w.heap.size + 1 + 1, 0, none⟩ (.bool false) = WA := ⟨_, rfl⟩
  have hbx := hS6.bx
  have hXA : WA.heap[w.heap.size]? = some (.cells #[.pointer (some ⟨b, 0, none⟩)] 43 (0, 0)) := by
    subst hWA
    exact (Below.heap_setCell _ _ _ _ (by simp only; omega)).trans ((Below.heap_setCell _ _ _ _ (by simp only; omega)).trans ((Below.heap_setCell _ _ _ _ (by simp only; omega)).trans ((Below.heap_setCell _ _ _ _ (by simp only; omega)).trans hS6.x)))
  have hFA : WA.heap[w.heap.size + 1]? = some (.cells #[.int .i64 7, .int .i64 1, .int .i64 0] 29 (0, 0)) := by
    subst hWA
    exact (Below.heap_setCell _ _ _ _ (by simp only; omega)).trans (setCell_block _ (setCell_block _ (setCell_block _ hS6.f)))
  have hIA : WA.heap[w.heap.size + 1 + 1]? = some (.cells #[.bool false] 4 (0, 0)) := by
    subst hWA
    exact setCell_block _ ((Below.heap_setCell _ _ _ _ (by simp only; omega)).trans ((Below.heap_setCell _ _ _ _ (by simp only; omega)).trans ((Below.heap_setCell _ _ _ _ (by simp only; omega)).trans hS6.i)))
  have hBA : Below w.heap.size w WA := by have hB := hS6.bl; subst hWA; (repeat (first | (with_reducible exact Below.refl _ _) | (with_reducible apply Below.dr) | (with_reducible apply Below.drn) | (with_reducible refine Below.setCell ?_ (by first | omega | (simp only; omega)) _) | (with_reducible apply Below.al) | (refine Below.tr ?_ (by with_reducible assumption))))
  refine leaves_cons (f := 23) (args := #[.pointer (some ⟨w.heap.size + 1, 0, none⟩), .pointer (some ⟨w.heap.size + 1 + 1, 0, none⟩)]) (by simp) (by simp [go_sem]) ?_
  refine (catch_fault (w.heap.size + 1) (w.heap.size + 1 + 1) 7 1 0 [] W6 (.int .i64 0) (.int .i64 0) (.int .i64 0) (.bool false) (by rw [cell_of_row _ _ _ _ _ _ hS6.f]; rfl) (by rw [cell_of_row _ _ _ _ _ _ hS6.f]; rfl) (by rw [cell_of_row _ _ _ _ _ _ hS6.f]; rfl) (by rw [cell_of_row _ _ _ _ _ _ hS6.i]; rfl) (frozen_of_row _ _ _ _ _ hS6.f) (frozen_of_row _ _ _ _ _ hS6.f) (frozen_of_row _ _ _ _ _ hS6.f) (frozen_of_row _ _ _ _ _ hS6.i) (by omega)).mono ?_
  rintro e u' w'' ⟨rfl, rfl, rfl⟩
  rw [hWA]
  have xc := (fun i => cell_of_row _ _ i _ _ _ hXA)
  have fc := (fun i => cell_of_row _ _ i _ _ _ hFA)
  have ic := (fun i => cell_of_row _ _ i _ _ _ hIA)
  refine ⟨.tuple #[.pointer (some ⟨b, 0, none⟩), faultv 7 1 0, .bool false], ?_, b, rfl, hBA⟩
  simp [results, Tryz.results14, go_sem, xc, fc, ic]
end
end Go.Proofs
