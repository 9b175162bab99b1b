import Derived.WalkKit
import Derived.Lib.Hide
import Derived.Maps.OwnSet
import Derived.WalkLawsBesides
import Derived.WalkSpells
import Derived.Maps.AppendAt
import Derived.Laws.CopyOwn
import Derived.RangeFuncNested
import Derived.RangeFuncBound
import Derived.RangeFuncLeaves
import Derived.Shelf.Abstract
import Derived.OwnWalkIn
import Derived.TacticsInMore
import Derived.LoopNIn
import Derived.LoopIn
import Derived.Deep.QuietTactic
import Derived.BigQuiet
import Derived.Deep.RegionWith
import Derived.Deep.LoopGhost
import Derived.Handy
import Derived.PlainAid
import Derived.Deep.Cut
import Derived.StillTailTactics
import Derived.Deep.DeepFit
namespace Go.Proofs
open Go Go.RowKit

/-- What a view says: the image's words, and what was put, in the order of the first puts. -/
structure VS where
  I : List Int
  L : List (Int × Int)

def u64ok (x : Int) : Prop := 0 ≤ x ∧ x < 18446744073709551616

def VS.ok (s : VS) : Prop :=
  (∀ x ∈ s.I, u64ok x) ∧ (∀ x ∈ s.L, 0 ≤ x.1 ∧ x.1 < s.I.length ∧ u64ok x.2) ∧ s.L.length ≤ 96 ∧ (s.L.map (·.1)).Nodup ∧ s.I.length * 8 ≤ 140737488351232

def ents (es : Array MapEntry) : List (Value × Value) := es.toList.map fun e => (e.key, e.val)
def kvs (l : List (Int × Int)) : List (Value × Value) := l.map fun x => (Value.int .i64 x.1, Value.int .u64 x.2)

/-- Blocks that L names lie as they lay; nothing has gone. -/
structure Keep (L : Nat → Prop) (w w' : World) : Prop where
  os : w'.os = w.os
  tape : w'.tape = w.tape
  output : w'.output = w.output
  size : w.heap.size ≤ w'.heap.size
  block : ∀ b, L b → w'.heap[b]? = w.heap[b]?

theorem blk_lt {w : World} {b : Nat} {o : Obj} (h : w.heap[b]? = some o) : b < w.heap.size := (Array.getElem?_eq_some_iff.1 h).1
/-- layout.least, as it lies. -/
def leastObj : Obj := .cells #[.int .i64 1, .int .i64 2, .int .i64 2] 25 (0, 0)
def Glob (w : World) : Prop := w.heap[(0 : Nat)]? = some leastObj

structure VW0 (Γ : Nat → Option Obj) (L : Nat → Prop) (w : World) (p : Addr) (s : VS) (bv bm : Nat) (ia : Option Addr) (ic : Nat) (ord : Value) : Prop where
  hp : p = ⟨bv, 0, none⟩
  ok : s.ok
  hv : w.heap[bv]? = some (.cells #[.slice ia s.I.length ic, .map (some bm), ord] 106 (0, 0))
  hm : ∃ es c, w.heap[bm]? = some (.map es c) ∧ ents es = kvs s.L
  ho : w.ownsRow 0 3 1 ord s.L.length (s.L.map fun x => Value.int .i64 x.1)
  hi : s.I ≠ [] → ∃ bi oi, ia = some ⟨bi, oi, none⟩ ∧ ¬ L bi ∧ bi ≠ bv ∧ bi ≠ bm ∧ ord.ownBlock ≠ some bi ∧ ∀ i x, s.I[i]? = some x → w.cell? ⟨bi, oi + i, none⟩ = some (.int .u64 x)
  Lv : ¬ L bv
  Lm : ¬ L bm
  Lo : ∀ b, ord.ownBlock = some b → ¬ L b
  dvo : ord.ownBlock ≠ some bv
  dmo : ord.ownBlock ≠ some bm
  lt : ∀ b, L b → b < w.heap.size
  gl : ∀ b o, Γ b = some o → w.heap[b]? = some o
  Lg : ∀ b o, Γ b = some o → ¬ L b
  dg : Γ bv = none ∧ Γ bm = none ∧ ∀ b, ord.ownBlock = some b → Γ b = none

/-- THE WORLD HOLDS A VIEW AT p THAT SAYS s, none of whose blocks L names. -/
def VW (Γ : Nat → Option Obj) (L : Nat → Prop) (w : World) (p : Addr) (s : VS) : Prop := ∃ bv bm ia ic ord, VW0 Γ L w p s bv bm ia ic ord

theorem Keep.refl (L : Nat → Prop) (w : World) : Keep L w w := ⟨rfl, rfl, rfl, Nat.le_refl _, fun _ _ => rfl⟩
theorem Keep.trans {L : Nat → Prop} {a b c : World} (h : Keep L a b) (k : Keep L b c) : Keep L a c :=
  ⟨k.os.trans h.os, k.tape.trans h.tape, k.output.trans h.output, Nat.le_trans h.size k.size, fun i hi => (k.block i hi).trans (h.block i hi)⟩
theorem Keep.mono {L L' : Nat → Prop} {a b : World} (h : Keep L a b) (hl : ∀ i, L' i → L i) : Keep L' a b := ⟨h.os, h.tape, h.output, h.size, fun i hi => h.block i (hl i hi)⟩
theorem Keep.drew {L : Nat → Prop} {a b : World} (h : Keep L a b) : Keep L a b.drew := ⟨h.os, h.tape, h.output, h.size, h.block⟩
theorem Keep.alloc {L : Nat → Prop} {a b : World} (h : Keep L a b) (hl : ∀ i, L i → i < a.heap.size) (o : Obj) : Keep L a (b.alloc o) :=
  ⟨h.os, h.tape, h.output, by have := h.size; simp; omega, fun i hi => (Below.heap_alloc _ _ _ (by have := h.size; have := hl i hi; omega)).trans (h.block i hi)⟩
theorem Keep.setCell {L : Nat → Prop} {a b : World} (h : Keep L a b) {p : Addr} (hp : ¬ L p.block) (u : Value) : Keep L a (b.setCell p u) :=
  ⟨h.os, h.tape, h.output, by have := h.size; simp; omega, fun i hi => (Below.heap_setCell _ _ _ _ (fun e => hp (e ▸ hi))).trans (h.block i hi)⟩
theorem setCell_block (w : World) {b i : Nat} {cs : Array Value} {t : TypeId} {f : Nat × Nat} {v : Value} (h : w.heap[b]? = some (.cells cs t f)) : (w.setCell ⟨b, i, none⟩ v).heap[b]? = some (.cells (cs.setIfInBounds i v) t f) := by
  obtain ⟨hlt, h'⟩ := Array.getElem?_eq_some_iff.1 h
  show (w.heap.modify b _)[b]? = _
  rw [Array.getElem?_eq_getElem (by simpa using hlt), Array.getElem_modify_self, h']
  rfl
theorem Keep.cell {L : Nat → Prop} {w w' : World} (h : Keep L w w') : ∀ b o, L b → w'.cell? ⟨b, o, none⟩ = w.cell? ⟨b, o, none⟩ := fun b _ hb => World.cell?_of_block (h.block b hb)
theorem Keep.frozen {L : Nat → Prop} {w w' : World} (h : Keep L w w') : ∀ b o, L b → w'.frozen? ⟨b, o, none⟩ = w.frozen? ⟨b, o, none⟩ := fun b _ hb => World.frozen?_of_block (h.block b hb)
theorem Below.keep {L : Nat → Prop} {w w' : World} (h : Below w.heap.size w w') (hl : ∀ i, L i → i < w.heap.size) : Keep L w w' := ⟨h.os, h.tape, h.output, h.size, fun i hi => h.block i (hl i hi)⟩

section
variable {Γ : Nat → Option Obj} {L : Nat → Prop} {w w' : World} {p : Addr} {s : VS}

theorem VW.glob (h : VW Γ L w p s) (hG : Γ 0 = some leastObj) : Glob w := by obtain ⟨_, _, _, _, _, h⟩ := h; exact h.gl _ _ hG
theorem VW.gl (h : VW Γ L w p s) {b : Nat} {o : Obj} (hG : Γ b = some o) : w.heap[b]? = some o := by obtain ⟨_, _, _, _, _, h⟩ := h; exact h.gl _ _ hG
theorem VW.lt (h : VW Γ L w p s) : ∀ b, L b → b < w.heap.size := by obtain ⟨_, _, _, _, _, h⟩ := h; exact h.lt
theorem VW.okv (h : VW Γ L w p s) : s.ok := by obtain ⟨_, _, _, _, _, h⟩ := h; exact h.ok


theorem Glob.cells {w : World} (h : Glob w) : w.cell? ⟨0, 0, none⟩ = some (.int .i64 1) ∧ w.cell? ⟨0, 1, none⟩ = some (.int .i64 2) ∧ w.cell? ⟨0, 2, none⟩ = some (.int .i64 2) := by
  unfold Glob leastObj at h
  simp [World.cell?, h]
theorem Glob.below {w w' : World} (h : Glob w) (hb : Below w.heap.size w w') : Glob w' := (hb.block _ (blk_lt h)).trans h

/-- Whatever leaves the view's own blocks as they were leaves the view. -/
theorem VW.same {L' : Nat → Prop} (h : VW Γ L w p s) (_hs : w.heap.size ≤ w'.heap.size) (hb : ∀ b, ¬ L b → b < w.heap.size → w'.heap[b]? = w.heap[b]?)
    (hL : ∀ b, L' b → L b ∨ w.heap.size ≤ b) (hlt : ∀ b, L' b → b < w'.heap.size) : VW Γ L' w' p s := by
  obtain ⟨bv, bm, ia, ic, ord, h⟩ := h
  have own : ∀ b, ord.ownBlock = some b → b < w.heap.size := fun b hb' => (h.ho.lt b hb').2
  have no : ∀ b, ¬ L b → b < w.heap.size → ¬ L' b := fun b h1 h2 h3 => (hL b h3).elim h1 (fun h4 => by omega)
  refine ⟨bv, bm, ia, ic, ord, h.hp, h.ok, (hb _ h.Lv (blk_lt h.hv)).trans h.hv, ?_, ?_, ?_, no _ h.Lv (blk_lt h.hv), ?_, fun b hbo => no _ (h.Lo b hbo) (own b hbo), h.dvo, h.dmo, hlt, fun b o hg => (hb b (h.Lg b o hg) (blk_lt (h.gl b o hg))).trans (h.gl b o hg), fun b o hg => no b (h.Lg b o hg) (blk_lt (h.gl b o hg)), h.dg⟩
  · obtain ⟨es, c, hm, he⟩ := h.hm
    exact ⟨es, c, (hb _ h.Lm (blk_lt hm)).trans hm, he⟩
  · obtain ⟨h1, h2⟩ := h.ho
    refine ⟨h1, h2.imp id ?_⟩
    rintro ⟨g, cap, cur, rfl, hg, hh, r⟩
    exact ⟨g, cap, cur, rfl, hg, (hb _ (h.Lo g rfl) (blk_lt hh)).trans hh, r⟩
  · intro hne
    obtain ⟨bi, oi, e1, e2, e3, e4, e5, e6⟩ := h.hi hne
    have hl : bi < w.heap.size := by
      cases hI : s.I with
      | nil => exact absurd hI hne
      | cons x xs => exact World.block_lt_of_cell? w _ (e6 0 x (by simp [hI]))
    exact ⟨bi, oi, e1, no _ e2 hl, e3, e4, e5, fun i x hx => (World.cell?_of_block (hb _ e2 hl)).trans (e6 i x hx)⟩
  · obtain ⟨es, c, hm, he⟩ := h.hm
    exact no _ h.Lm (blk_lt hm)

theorem VW.alloc (h : VW Γ L w p s) (o : Obj) : VW Γ (fun b => L b ∨ b = w.heap.size) (w.alloc o) p s :=
  h.same (by simp) (fun b _ hb => Below.heap_alloc _ _ _ hb) (fun b hb => hb.imp id (fun e => by omega)) (fun b hb => by have := h.lt b; simp; rcases hb with hb | hb <;> (try have := this hb) <;> omega)
theorem VW.drew (h : VW Γ L w p s) : VW Γ L w.drew p s := h.same (Nat.le_refl _) (fun _ _ _ => rfl) (fun _ hb => .inl hb) h.lt
theorem VW.drewN (h : VW Γ L w p s) (n : Nat) : VW Γ L (w.drewN n) p s := h.same (Nat.le_refl _) (fun _ _ _ => rfl) (fun _ hb => .inl hb) h.lt
theorem VW.setCell (h : VW Γ L w p s) {a : Addr} (ha : L a.block) (u : Value) : VW Γ L (w.setCell a u) p s :=
  h.same (by simp) (fun b hb _ => Below.heap_setCell _ _ _ _ (fun e => hb (e ▸ ha))) (fun _ hb => .inl hb) (fun b hb => by have := h.lt b hb; simpa using this)
theorem VW.below (h : VW Γ L w p s) (hb : Below w.heap.size w w') : VW Γ L w' p s :=
  h.same hb.size (fun b _ hl => hb.block b hl) (fun _ hb => .inl hb) (fun b hl => Nat.lt_of_lt_of_le (h.lt b hl) hb.size)
theorem VW.mono {L' : Nat → Prop} (h : VW Γ L w p s) (hl : ∀ b, L' b → L b) : VW Γ L' w p s :=
  h.same (Nat.le_refl _) (fun _ _ _ => rfl) (fun b hb => .inl (hl b hb)) (fun b hb => h.lt b (hl b hb))
end
section
variable {P : Program} (w : World)
/-- append onto a slice that is owned: beside what the library's law says, WHERE the new slice lies: where the old one lay, or in the new block. -/
theorem run_append_at (base : Nat) (t ty e : TypeId) (i : TypeInfo) (z : Value) (size bytes : Nat) (ht : P.underlying t = some (.slice e)) (hi : P.info? e = some i) (hz : i.zero = some z)
    (hsize : i.size = size) (hby : i.bytes = bytes) (hzs : z.cells.size = size) (hsz : 0 < size)
    (v : Value) (n : Nat) (xs : List Value) (hown : w.ownsRow base e size v n xs)
    (a : Addr) (m c : Nat) (news : List Value) (hl : news.length = m * size) (hnews : ∀ j u, news[j]? = some u → w.cell? (a.add j) = some u) (h1 : ∀ u ∈ news, u.oneCell' = true)
    (h63 : n + m ≤ maxLen) (hbytes : (n + m) * bytes ≤ 140737488355328) (hbase : base ≤ w.heap.size) :
    ∃ v' w', (Builtin.append_ #[t, t] ty #[v, .slice (some a) m c]).run P w = .ok v' w' ∧ w'.ownsRow base e size v' (n + m) (xs ++ news) ∧ w.grownBy w' v.ownBlock ∧
      (∀ k, v'.ownBlock = some k → v.ownBlock = some k ∨ k = w.heap.size) ∧ (v' = .slice none 0 0 ↔ v = .slice none 0 0 ∧ m = 0) := by
  obtain ⟨v', w', hr, h2, h3, h4⟩ := run_append_own (P := P) w base t ty e i z size bytes ht hi hz hsize hby hzs hsz v n xs hown a m c news hl hnews h1 h63 hbytes hbase
  refine ⟨v', w', hr, h2, h3, ?_, h4⟩
  subst hsize; subst hby
  have hsmall : n + m ≤ 9223372036854775807 := by simp only [maxLen] at h63; omega
  intro k hk
  rcases hown.2 with ⟨rfl, rfl⟩ | ⟨g, cap, cur, rfl, hbg, hg, hnc, hcm, hcs, htake⟩
  · by_cases hm : m = 0
    · rw [h4.2 ⟨rfl, hm⟩] at hk; simp [Value.ownBlock] at hk
    · have := run_append_nil (P := P) w t ty e i z ht hi hz a m c news hl hnews (by omega) (by omega) (by have hb := hbytes; simp only [Nat.zero_add] at hb; omega)
      rw [this] at hr
      cases hr
      right; simpa [Value.ownBlock] using hk.symm
  · by_cases hroom : n + m ≤ cap
    · have := run_append_room (P := P) w t ty e i ht hi g n cap cur hg a m c news hl hnews h1 hroom (by rw [hl, hcs, ← Nat.add_mul]; exact Nat.mul_le_mul_right _ hroom)
      rw [this] at hr
      cases hr
      left; exact hk
    · have := run_append_grow (P := P) w t ty e i z ht hi hz ⟨g, 0, none⟩ n cap xs hown.1 (hown.cells (g := g) rfl) a m c news hl hnews (by omega) (by omega) (growslice_fits (by omega) hbytes)
      rw [this] at hr
      cases hr
      right; simpa [Value.ownBlock] using hk.symm

theorem wpList_append_at {ops : Array Oper} {rest : List Oper} {o : Oper} {a : Act} {Q : Exit → Act → World → Prop} (hgd : o.guard = none) (s x : Operand) (t : TypeId)
    (ho : o.op = .call { callee := .builtin .append, args := #[s, x], argTypes := #[t, t] })
    (base : Nat) (e : TypeId) (i : TypeInfo) (z : Value) (size bytes : Nat) (ht : P.underlying t = some (.slice e)) (hi : P.info? e = some i) (hz : i.zero = some z)
    (hsize : i.size = size) (hby : i.bytes = bytes) (hzs : z.cells.size = size) (hsz : 0 < size)
    (v : Value) (n : Nat) (xs : List Value) (hs : a.eval s = v) (hown : w.ownsRow base e size v n xs)
    (ad : Addr) (m c : Nat) (news : List Value) (hx : a.eval x = .slice (some ad) m c) (hl : news.length = m * size) (hnews : ∀ j u, news[j]? = some u → w.cell? (ad.add j) = some u) (h1 : ∀ u ∈ news, u.oneCell' = true)
    (h63 : n + m ≤ maxLen) (hbytes : (n + m) * bytes ≤ 140737488355328) (hbase : base ≤ w.heap.size)
    (h : ∀ v' w', w'.ownsRow base e size v' (n + m) (xs ++ news) → w.grownBy w' v.ownBlock → (∀ k, v'.ownBlock = some k → v.ownBlock = some k ∨ k = w.heap.size) → (v' = .slice none 0 0 ↔ v = .slice none 0 0 ∧ m = 0) →
      wpList P ops Q rest (a.put o.dst v') w') : wpList P ops Q (o :: rest) a w := by
  refine wpList_plain hgd fun K hK => ?_
  obtain ⟨v', w', hr, h2, h3, h4, h5⟩ := run_append_at (P := P) w base t o.type e i z size bytes ht hi hz hsize hby hzs hsz v n xs hown ad m c news hl hnews h1 h63 hbytes hbase
  unfold Oper.wp execOp
  simp only [ho, resolve, invoke, builtin, Sem.run_bind, Sem.run_pure, Result.andThen_ok, List.map_toArray, List.map_cons, List.map_nil, hs, hx, hr]
  exact hK _ _ (h v' w' h2 h3 h4 h5)
end
theorem alloc_setRow (w : World) (old cs : Array Value) (t : TypeId) : (w.alloc (.cells old t)).setRow w.heap.size cs = w.alloc (.cells cs t) := by
  unfold World.setRow World.alloc
  congr 1
  apply Array.ext_getElem?
  intro k
  simp only [Array.getElem?_modify, Array.getElem?_push]
  by_cases hk : k = w.heap.size
  · subst hk; simp
  · simp [hk, Ne.symm hk]
theorem Below.al {a w : World} (h : Below a.heap.size a w) (o : Obj) : Below a.heap.size a (w.alloc o) := h.alloc h.size o
theorem Below.dr {a w : World} (h : Below a.heap.size a w) : Below a.heap.size a w.drew := h.drew
theorem Below.drn {a w : World} (h : Below a.heap.size a w) (n : Nat) : Below a.heap.size a (w.drewN n) := ⟨h.os, h.tape, h.output, h.size, h.block⟩
theorem Below.tr {a b c : World} (h : Below a.heap.size a b) (k : Below b.heap.size b c) : Below a.heap.size a c := h.trans (k.mono h.size)
end Go.Proofs
