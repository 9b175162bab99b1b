import Derived.Test.YtfoknihgngobfaaGreatDoorBitmap
namespace Go.Proofs
open Go Go.RowKit

/-- A map of an inode's blocks lies at q. -/
def BM (w : World) (q : Nat) (p : Addr) (g : Geo) (n : Int) : Prop := w.heap[q]? = some (.cells #[.pointer (some p), .int .i64 g.W, .int .i64 g.I, .int .i64 g.B, .int .i64 n] 143 (0, 0))
section
variable {Γ : Nat → Option Obj} {L : Nat → Prop} {w w' : World} {p : Addr} {s : VS} {q : Nat} {g : Geo} {n : Int}
theorem BM.cells (h : BM w q p g n) : w.cell? ⟨q, 0, none⟩ = some (.pointer (some p)) ∧ w.cell? ⟨q, 1, none⟩ = some (.int .i64 g.W) ∧ w.cell? ⟨q, 2, none⟩ = some (.int .i64 g.I) ∧ w.cell? ⟨q, 3, none⟩ = some (.int .i64 g.B) ∧ w.cell? ⟨q, 4, none⟩ = some (.int .i64 n) := by
  unfold BM at h
  simp [World.cell?, h]
theorem BM.below (h : BM w q p g n) (hb : Below w.heap.size w w') : BM w' q p g n := (hb.block _ (blk_lt h)).trans h
theorem BM.alloc (h : BM w q p g n) (o : Obj) : BM (w.alloc o) q p g n := (Below.heap_alloc _ _ _ (blk_lt h)).trans h
theorem BM.lt (h : BM w q p g n) : q < w.heap.size := blk_lt h

def VS.chain (s : VS) (g : Geo) (n : Int) : Int := IntKind.i64.wrap (s.get (g.at8 n + 8))
def VS.word (s : VS) (g : Geo) (n k : Int) : Int × Bool := if k < 4 then (g.at8 n + (4 + k), true) else (g.at9 (s.chain g n) + k - 4, s.chain g n != 0)
def VS.bat (s : VS) (g : Geo) (n k : Int) : Int × Int :=
  if k < 0 ∨ k ≥ 12 then (0, 1) else if (s.iget g n).2 ≠ 0 then (0, (s.iget g n).2) else if (s.word g n k).2 = false then (0, 0) else if s.get (s.word g n k).1 ≥ g.B then (0, 4) else (s.get (s.word g n k).1, 0)

set_option maxHeartbeats 1000000 in
theorem own_any (h : BM w q p g n) (k : Int) (hk : -1000 ≤ k ∧ k ≤ 1000) : Calls Tryz.prog 91 #[.pointer (some ⟨q, 0, none⟩), .int .i64 k] w (SRet (.int .i64 (g.at8 n + k)) w) := by
  obtain ⟨k0, k1⟩ := hk
  obtain ⟨c0, c1, c2, c3, c4⟩ := h.cells
  have hlt := h.lt
  have hia := fun W => inodeAt_any g n W
  obtain ⟨b0, b1⟩ := at8_bd g n
  obtain ⟨a, ha⟩ : ∃ a, g.at8 n = a := ⟨_, rfl⟩
  rw [ha] at hia b0 b1 ⊢
  have hw : IntKind.i64.wrap (a + k) = a + k := IntWalk.i64_in _ (by omega)
  clear ha h
  go_enter Tryz.func91, Tryz.ntmps91
  go_wp2
  go_region_with (go_at_call 48; refine (hia _).mono ?_; rintro e w2 ⟨rfl, hb2⟩; have hc2 : ∀ b o, b < w.heap.size → w2.cell? ⟨b, o, none⟩ = w.cell? ⟨b, o, none⟩ := (fun b o hb => (bcell hb2).1 b o hb); have hz2 : w.heap.size ≤ w2.heap.size := hb2.size)
  all_goals go_wp2
  all_goals go_ret
  all_goals exact SRet.mk (by simp [Act.put, hw]) (by (repeat (first | exact Below.refl _ _ | apply Below.al | apply Below.dr | apply Below.drn | refine Below.tr ?_ (by assumption))))

set_option maxHeartbeats 1000000 in
theorem chain_any (hV : VW Γ L w p s) (h : BM w q p g n) : Calls Tryz.prog 92 #[.pointer (some ⟨q, 0, none⟩)] w (SRet (.int .i64 (s.chain g n)) w) := by
  obtain ⟨c0, c1, c2, c3, c4⟩ := h.cells
  have hlt := h.lt
  have hown := fun {W : World} (h : BM W q p g n) => own_any h 8 (by omega)
  have hget := fun {W : World} (h : VW Γ L W p s) => get_any h (g.at8 n + 8)
  unfold VS.chain
  obtain ⟨a, ha⟩ : ∃ a, g.at8 n + 8 = a := ⟨_, rfl⟩
  rw [ha] at hget ⊢
  simp only [ha] at hown
  obtain ⟨x, hx⟩ : ∃ x, s.get a = x := ⟨_, rfl⟩
  rw [hx] at hget ⊢
  clear ha hx
  go_enter Tryz.func92, Tryz.ntmps92
  go_wp2
  go_region_with (first
    | (go_at_call 91; refine (hown (h.below (by (repeat (first | exact Below.refl _ _ | apply Below.al | apply Below.dr | apply Below.drn | refine Below.tr ?_ (by assumption)))))).mono ?_; rintro e w2 ⟨rfl, hb2⟩; have hc2 : ∀ b o, b < w.heap.size → w2.cell? ⟨b, o, none⟩ = w.cell? ⟨b, o, none⟩ := (fun b o hb => (bcell hb2).1 b o hb); have hz2 : w.heap.size ≤ w2.heap.size := hb2.size)
    | (go_at_call 49; refine (hget (hV.below (by (repeat (first | exact Below.refl _ _ | apply Below.al | apply Below.dr | apply Below.drn | refine Below.tr ?_ (by assumption)))))).mono ?_; rintro e w' ⟨rfl, rfl⟩))
  all_goals go_wp2
  all_goals go_ret
  all_goals exact SRet.mk (by simp [Act.put]) (by (repeat (first | exact Below.refl _ _ | apply Below.al | apply Below.dr | apply Below.drn | refine Below.tr ?_ (by assumption))))

theorem direct_any (h : BM w q p g n) (k : Int) (hk : 0 ≤ k ∧ k < 12) : Calls Tryz.prog 88 #[.pointer (some ⟨q, 0, none⟩), .int .i64 k] w (SRet (.tuple #[.int .i64 (g.at8 n + (4 + k)), .bool true]) w) := by
  have hown := own_any h (4 + k) (by omega)
  obtain ⟨k0, k1⟩ := hk
  go_enter Tryz.func88, Tryz.ntmps88
  go_wp2_with (go_at_call 91; refine hown.mono ?_; rintro e w2 ⟨rfl, hb2⟩)
  go_ret2
  exact SRet.mk rfl (by (repeat (first | exact Below.refl _ _ | apply Below.al | apply Below.dr | apply Below.drn | refine Below.tr ?_ (by assumption))))

theorem at9_bd (g : Geo) (n : Int) : -1 ≤ g.at9 n ∧ g.at9 n ≤ 10000 := by
  unfold Geo.at9 Geo.maps
  split
  · rename_i h
    obtain ⟨h1, h2, h3⟩ := h
    rw [Geo.may_iff] at h1
    omega
  · omega
set_option maxHeartbeats 1000000 in
theorem chained_any (hV : VW Γ L w p s) (h : BM w q p g n) (k : Int) (hk : 0 ≤ k ∧ k < 12) :
    Calls Tryz.prog 89 #[.pointer (some ⟨q, 0, none⟩), .int .i64 k] w (SRet (.tuple #[.int .i64 (g.at9 (s.chain g n) + k - 4), .bool (s.chain g n != 0)]) w) := by
  have hch := chain_any hV h
  obtain ⟨k0, k1⟩ := hk
  obtain ⟨c, hc⟩ : ∃ c, s.chain g n = c := ⟨_, rfl⟩
  rw [hc] at hch ⊢
  obtain ⟨b0, b1⟩ := at9_bd g c
  have hba := fun W => blockAt_any g c W
  obtain ⟨a, ha⟩ : ∃ a, g.at9 c = a := ⟨_, rfl⟩
  rw [ha] at b0 b1 hba ⊢
  clear hc ha
  go_enter Tryz.func89, Tryz.ntmps89
  go_wp2_with (first
    | (go_at_call 92; refine hch.mono ?_; rintro e w2 ⟨rfl, hb2⟩; obtain ⟨c0, c1, c2, c3, c4⟩ := (h.below hb2).cells)
    | (go_at_call 79; refine (hba _).mono ?_; rintro e w3 ⟨rfl, hb3⟩))
  go_ret2
  exact SRet.mk rfl (by (repeat (first | exact Below.refl _ _ | apply Below.al | apply Below.dr | apply Below.drn | refine Below.tr ?_ (by assumption))))

theorem bword_any (hV : VW Γ L w p s) (h : BM w q p g n) (k : Int) (hk : 0 ≤ k ∧ k < 12) :
    Calls Tryz.prog 86 #[.pointer (some ⟨q, 0, none⟩), .int .i64 k] w (SRet (.tuple #[.int .i64 (s.word g n k).1, .bool (s.word g n k).2]) w) := by
  have hd := direct_any h k hk
  have hc := chained_any hV h k hk
  unfold VS.word
  obtain ⟨k0, k1⟩ := hk
  by_cases h4 : k < 4
  · rw [if_pos h4]
    go_enter Tryz.func86, Tryz.ntmps86
    go_wp2_with (go_at_call 88; refine hd.mono ?_; rintro e w2 ⟨rfl, hb2⟩)
    go_ret2
    exact SRet.mk rfl (by (repeat (first | exact Below.refl _ _ | apply Below.al | apply Below.dr | apply Below.drn | refine Below.tr ?_ (by assumption))))
  · rw [if_neg h4]
    go_enter Tryz.func86, Tryz.ntmps86
    go_wp2_with (go_at_call 89; refine hc.mono ?_; rintro e w2 ⟨rfl, hb2⟩)
    go_ret2
    exact SRet.mk rfl (by (repeat (first | exact Below.refl _ _ | apply Below.al | apply Below.dr | apply Below.drn | refine Below.tr ?_ (by assumption))))
end
end Go.Proofs
