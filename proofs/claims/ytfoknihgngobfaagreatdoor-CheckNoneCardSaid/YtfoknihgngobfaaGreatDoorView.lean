import Derived.Test.YtfoknihgngobfaaGreatDoorBase
import Derived.Test.YtfoknihgngobfaaGreatDoorProg
namespace Go.Proofs
open Go Go.RowKit

theorem VW0.c0 {Γ : Nat → Option Obj} {L : Nat → Prop} {w : World} {s : VS} {bv bm ia ic ord} (h : VW0 Γ L w ⟨bv, 0, none⟩ s bv bm ia ic ord) :
    w.cell? ⟨bv, 0, none⟩ = some (.slice ia s.I.length ic) ∧ w.cell? ⟨bv, 1, none⟩ = some (.map (some bm)) ∧ w.cell? ⟨bv, 2, none⟩ = some ord := by
  have hc : ∀ i, w.cell? ⟨bv, i, none⟩ = (#[Value.slice ia s.I.length ic, .map (some bm), ord])[i]? := fun i => by simp [World.cell?, h.hv]
  exact ⟨by rw [hc]; rfl, by rw [hc]; rfl, by rw [hc]; rfl⟩
theorem VW0.f0 {Γ : Nat → Option Obj} {L : Nat → Prop} {w : World} {s : VS} {bv bm ia ic ord} (h : VW0 Γ L w ⟨bv, 0, none⟩ s bv bm ia ic ord) (o : Nat) : w.frozen? ⟨bv, o, none⟩ = false := by
  simp [World.frozen?, h.hv]

theorem ret_int {k : IntKind} {a b : Int} (h : a = b) : Ending.returned (.int k a) = .returned (.int k b) := by rw [h]
theorem ret_bool {a b : Bool} (h : a = b) : Ending.returned (.bool a) = .returned (.bool b) := by rw [h]

theorem len_any {Γ : Nat → Option Obj} {L : Nat → Prop} {w : World} {p : Addr} {s : VS} (h : VW Γ L w p s) :
    Calls Tryz.prog 61 #[.pointer (some p)] w fun e w' => e = .returned (.int .i64 s.I.length) ∧ w = w' := by
  obtain ⟨bv, bm, ia, ic, ord, h⟩ := h
  obtain rfl := h.hp
  have h0 := h.c0.1
  clear h
  go_enter Tryz.func61, Tryz.ntmps61
  go_wp2
  go_ret
  exact ⟨rfl, rfl⟩

/-- has says whether there is a word. -/
def VS.has (s : VS) (at' : Int) : Bool := decide (0 ≤ at') && decide (at' < s.I.length)

theorem has_any {Γ : Nat → Option Obj} {L : Nat → Prop} {w : World} {p : Addr} {s : VS} (h : VW Γ L w p s) (n : Int) :
    Calls Tryz.prog 73 #[.pointer (some p), .int .i64 n] w fun e w' => e = .returned (.bool (s.has n)) ∧ w = w' := by
  go_enter Tryz.func73, Tryz.ntmps73
  go_wp2_with (go_at_call 61; refine (len_any h).mono ?_; rintro e w' ⟨rfl, rfl⟩)
  all_goals go_ret
  all_goals refine ⟨ret_bool ?_, rfl⟩
  all_goals (unfold VS.has; simp; try omega)

/-- What is put at a place, if it is. -/
def VS.put? (s : VS) (n : Int) : Option Int := (s.L.find? (fun x => x.1 == n)).map (·.2)
def VS.get (s : VS) (n : Int) : Int := if s.has n then (s.put? n).getD (s.I[n.toNat]?.getD 0) else 0

theorem find_kvs (l : List (Int × Int)) (n : Int) : ∀ (es : List MapEntry) (i : Nat), (es.map fun e => (e.key, e.val)) = kvs l →
    ∃ r, Instr.findNow (.int .i64) (.int .i64 n) es i = some r ∧ r.map (·.2) = ((l.find? (fun x => x.1 == n)).map fun x => Value.int .u64 x.2) ∧
      ∀ j v, r = some (j, v) → i ≤ j ∧ ∃ e, es[j - i]? = some e ∧ e.key = .int .i64 n ∧ e.val = v := by
  induction l with
  | nil => intro es i h; cases es with
    | nil => exact ⟨none, rfl, rfl, fun _ _ h => by cases h⟩
    | cons e es => simp [kvs] at h
  | cons x l ih => intro es i h; cases es with
    | nil => simp [kvs] at h
    | cons e es =>
      simp only [kvs, List.map_cons, List.cons.injEq, Prod.mk.injEq] at h
      obtain ⟨⟨hk, hv⟩, ht⟩ := h
      by_cases hx : x.1 = n
      · refine ⟨some (i, e.val), ?_, ?_, ?_⟩
        · simp [Instr.findNow, Instr.sameNow, hk, hx]
        · simp [List.find?, hx, hv]
        · rintro j v h; simp at h; obtain ⟨rfl, rfl⟩ := h; exact ⟨Nat.le_refl _, e, by simp, by rw [hk, hx], rfl⟩
      · obtain ⟨r, h1, h2, h3⟩ := ih es (i + 1) ht
        refine ⟨r, ?_, ?_, ?_⟩
        · have hx' : (n == x.1) = false := by rw [beq_eq_false_iff_ne]; exact fun e => hx e.symm
          simp [Instr.findNow, Instr.sameNow, hk, hx', h1]
        · have hx' : (x.1 == n) = false := by rw [beq_eq_false_iff_ne]; exact hx
          rw [h2, List.find?_cons, hx']
        · intro j v hr
          obtain ⟨ha, e', hb, hc⟩ := h3 j v hr
          refine ⟨by omega, e', ?_, hc⟩
          obtain ⟨m, rfl⟩ : ∃ m, j = i + 1 + m := ⟨j - (i + 1), by omega⟩
          rw [show i + 1 + m - i = m + 1 from by omega]
          rw [show i + 1 + m - (i + 1) = m from by omega] at hb
          simpa using hb

theorem run_lookup {w : World} {bm : Nat} {es : Array MapEntry} {c : Nat} {l : List (Int × Int)} (hm : w.heap[bm]? = some (.map es c)) (he : ents es = kvs l) (n : Int) :
    (Instr.lookup 104 (.map (some bm)) (.int .i64 n) true).run Tryz.prog w =
      .ok (.tuple #[.int .u64 (((l.find? (fun x => x.1 == n)).map (·.2)).getD 0), .bool (l.find? (fun x => x.1 == n)).isSome]) w := by
  obtain ⟨r, h1, h2, _⟩ := find_kvs l n es.toList 0 he
  have hz : ∀ w, (zeroValue 37).run Tryz.prog w = .ok (.int .u64 0) w := fun w => by kernel_rfl
  have hck : ∀ b w, (Instr.checkKey b 10000 3 (.int .i64 n)).run Tryz.prog w = .ok () w := fun b w => by kernel_rfl
  have hu : ∀ w, (underlying 104).run Tryz.prog w = .ok (.map 3 37) w := fun w => by kernel_rfl
  have hu3 : ∀ w, (underlying 3).run Tryz.prog w = .ok (.int .i64) w := fun w => by kernel_rfl
  have hg : (getObj bm).run Tryz.prog w = .ok (.map es c) w := by simp [getObj, Sem.run, hm]
  simp only [Instr.lookup, Sem.run_bind, hu, hg, Result.andThen, hck, Instr.findKey, hu3, h1, Sem.run_pure]
  cases r with
  | none =>
    have : l.find? (fun x => x.1 == n) = none := by simpa using h2.symm
    simp [hz, this, Result.andThen]
  | some r =>
    obtain ⟨x, hx, hv⟩ : ∃ x, l.find? (fun x => x.1 == n) = some x ∧ r.2 = .int .u64 x.2 := by
      cases hf : l.find? (fun x => x.1 == n) with
      | none => simp [hf] at h2
      | some x => exact ⟨x, rfl, by simpa [hf] using h2⟩
    simp [hx, hv]

theorem get_any {Γ : Nat → Option Obj} {L : Nat → Prop} {w : World} {p : Addr} {s : VS} (h : VW Γ L w p s) (n : Int) :
    Calls Tryz.prog 49 #[.pointer (some p), .int .i64 n] w fun e w' => e = .returned (.int .u64 (s.get n)) ∧ w = w' := by
  have H := h
  obtain ⟨bv, bm, ia, ic, ord, h⟩ := h
  obtain rfl := h.hp
  obtain ⟨h0, h1, -⟩ := h.c0
  obtain ⟨es, c, hm, he⟩ := h.hm
  have hr := run_lookup hm he n
  obtain ⟨o, ho⟩ : ∃ o, s.L.find? (fun x => x.1 == n) = o := ⟨_, rfl⟩
  rw [ho] at hr
  have HO := Lib.hid ho
  clear ho
  have hi := h.hi
  clear h he
  cases hs : s.has n with
  | false =>
    go_enter Tryz.func49, Tryz.ntmps49
    go_wp2_with (go_at_call 73; refine (has_any H n).mono ?_; rintro e w' ⟨rfl, rfl⟩)
    go_ret
    exact ⟨ret_int (by simp [VS.get, hs]), rfl⟩
  | true =>
    have hn : 0 ≤ n ∧ n < s.I.length := by simpa [VS.has] using hs
    cases o with
    | none =>
      obtain ⟨bi, oi, rfl, -, -, -, -, hcell⟩ := hi (by intro e; rw [e] at hn; simp at hn; omega)
      obtain ⟨k, rfl⟩ := Int.eq_ofNat_of_zero_le hn.1
      have hk : k < s.I.length := by omega
      have hcell := hcell k (s.I[k]'hk) (by simp [hk])
      clear hi hm
      go_enter Tryz.func49, Tryz.ntmps49
      go_wp2_with (go_at_call 73; refine (has_any H _).mono ?_; rintro e w' ⟨rfl, rfl⟩)
      go_ret
      refine ⟨ret_int ?_, rfl⟩
      simp [VS.get, hs, VS.put?, HO.out, hk]
    | some x =>
      clear hi hm
      go_enter Tryz.func49, Tryz.ntmps49
      go_wp2_with (go_at_call 73; refine (has_any H n).mono ?_; rintro e w' ⟨rfl, rfl⟩)
      go_ret
      exact ⟨ret_int (by simp [VS.get, hs, VS.put?, HO.out]), rfl⟩
/-- What a put makes of the writes. -/
def VS.upd (l : List (Int × Int)) (n v : Int) : List (Int × Int) := l.map fun x => if x.1 == n then (n, v) else x
def VS.put (s : VS) (n v : Int) : Int × VS :=
  if s.has n then
    if (s.L.find? (fun x => x.1 == n)).isSome then (0, ⟨s.I, VS.upd s.L n v⟩)
    else if 96 ≤ s.L.length then (5, s) else (0, ⟨s.I, s.L ++ [(n, v)]⟩)
  else (8, s)

theorem set_kvs (l : List (Int × Int)) (n v : Int) (hd : (l.map (·.1)).Nodup) : ∀ (es : List MapEntry) (j : Nat) (e : MapEntry), (es.map fun e => (e.key, e.val)) = kvs l → es[j]? = some e → e.key = .int .i64 n →
    ((es.modify j fun e => { e with key := .int .i64 n, val := .int .u64 v }).map fun e => (e.key, e.val)) = kvs (VS.upd l n v) := by
  induction l with
  | nil => intro es j e h hj; cases es with
    | nil => simp at hj
    | cons e es => simp [kvs] at h
  | cons x l ih => intro es j e h hj hk; cases es with
    | nil => simp [kvs] at h
    | cons e0 es =>
      simp only [kvs, List.map_cons, List.cons.injEq, Prod.mk.injEq] at h
      obtain ⟨⟨hk0, hv0⟩, ht⟩ := h
      simp only [List.map_cons, List.nodup_cons] at hd
      cases j with
      | zero =>
        simp at hj; subst hj
        have hx : x.1 = n := by rw [hk0] at hk; simpa using hk
        have hl : VS.upd l n v = l := by
          unfold VS.upd
          rw [List.map_congr_left (g := id)]
          · simp
          · intro y hy
            have : y.1 ≠ n := fun e => hd.1 (by rw [hx, ← e]; exact List.mem_map_of_mem hy)
            simp [this]
        simp only [List.modify_zero_cons, List.map_cons, kvs]
        rw [ht]
        have hx' : (x.1 == n) = true := by simp [hx]
        have : VS.upd (x :: l) n v = (n, v) :: VS.upd l n v := by simp [VS.upd, hx]
        rw [this, hl]
        rfl
      | succ j =>
        have hx : x.1 ≠ n := by
          intro e'
          obtain ⟨y, hy, hye⟩ : ∃ y ∈ l, y.1 = n := by
            have h1 : (es.map fun e => (e.key, e.val))[j]? = some (e.key, e.val) := by simp at hj; simp [hj]
            rw [ht] at h1
            simp at h1
            obtain ⟨a, b, h2, h3, -⟩ := h1
            refine ⟨(a, b), List.mem_of_getElem? h2, ?_⟩
            rw [hk] at h3
            simpa using h3
          exact hd.1 (by rw [e', ← hye]; exact List.mem_map_of_mem hy)
        have := ih hd.2 es j e ht (by simpa using hj) hk
        simp only [List.modify_succ_cons, List.map_cons]
        rw [this]
        have hx' : (x.1 == n) = false := by rw [beq_eq_false_iff_ne]; exact hx
        simp [kvs, VS.upd, hk0, hv0, hx]

theorem run_mapUpdate {w : World} {bm : Nat} {es : Array MapEntry} {c : Nat} {l : List (Int × Int)} (hm : w.heap[bm]? = some (.map es c)) (he : ents es = kvs l) (hd : (l.map (·.1)).Nodup) (n v : Int) :
    ∃ es' c', (Instr.mapUpdate 104 (.map (some bm)) (.int .i64 n) (.int .u64 v)).run Tryz.prog w = .ok () { w with heap := w.heap.setIfInBounds bm (.map es' c') } ∧
      ents es' = kvs (if (l.find? (fun x => x.1 == n)).isSome then VS.upd l n v else l ++ [(n, v)]) := by
  obtain ⟨r, h1, h2, h3⟩ := find_kvs l n es.toList 0 he
  have hck : ∀ b w, (Instr.checkKey b 10000 3 (.int .i64 n)).run Tryz.prog w = .ok () w := fun b w => by kernel_rfl
  have hu : ∀ w, (underlying 104).run Tryz.prog w = .ok (.map 3 37) w := fun w => by kernel_rfl
  have hu3 : ∀ w, (underlying 3).run Tryz.prog w = .ok (.int .i64) w := fun w => by kernel_rfl
  have hg : (getObj bm).run Tryz.prog w = .ok (.map es c) w := by simp [getObj, Sem.run, hm]
  have hs : ∀ es' c', (setObj bm (.map es' c')).run Tryz.prog w = .ok () { w with heap := w.heap.setIfInBounds bm (.map es' c') } := fun es' c' => by simp [setObj, Sem.run, hm]
  cases r with
  | none =>
    have h4 : (l.find? (fun x => x.1 == n)).isSome = false := by
      cases hf : l.find? (fun x => x.1 == n) with
      | none => rfl
      | some x => simp [hf] at h2
    refine ⟨es.push { key := .int .i64 n, val := .int .u64 v, born := c }, c + 1, ?_, ?_⟩
    · simp only [Instr.mapUpdate, Sem.run_bind, hu, hg, Result.andThen, hck, Instr.findKey, hu3, h1, Sem.run_pure, hs]
    · have he' : List.map (fun e => (e.key, e.val)) es.toList = kvs l := he
      rw [h4]
      simp [ents, kvs, he']
  | some r =>
    obtain ⟨i, u⟩ := r
    have h4 : (l.find? (fun x => x.1 == n)).isSome = true := by
      cases hf : l.find? (fun x => x.1 == n) with
      | none => simp [hf] at h2
      | some x => rfl
    obtain ⟨-, e, h5, h6, -⟩ := h3 i u rfl
    have h7 : es[i]? = some e := by simpa using h5
    have hkt : ∀ w, (Instr.keyThatStays (((es[i]?).map (·.key)).getD (.int .i64 n)) (.int .i64 n)).run Tryz.prog w = .ok (.int .i64 n) w := by
      intro w
      simp [h7, h6, Instr.keyThatStays, Instr.sameBits]
    refine ⟨es.modify i fun e => { e with key := .int .i64 n, val := .int .u64 v }, c, ?_, ?_⟩
    · simp only [Instr.mapUpdate, Sem.run_bind, hu, hg, Result.andThen, hck, Instr.findKey, hu3, h1, Sem.run_pure, hs, hkt]
    · rw [if_pos h4]
      have := set_kvs l n v hd es.toList i e he (by simpa using h7) h6
      unfold ents
      rw [Array.toList_modify]
      exact this

theorem Tryz.info3 : (Tryz.prog.info? 3).map (fun i => (i.zero, i.size, i.bytes)) = some (some (.int .i64 0), 1, 8) := by kernel_rfl

theorem find_upd_iff (l : List (Int × Int)) (n : Int) : (l.find? (fun x => x.1 == n)).isSome = true ↔ n ∈ l.map (·.1) := by
  simp [List.find?_isSome]

theorem put_ok {s : VS} (h : s.ok) (n v : Int) (hv : u64ok v) : (s.put n v).2.ok := by
  obtain ⟨h1, h2, h3, h4, h5⟩ := h
  unfold VS.put
  split
  · rename_i hh
    have hn : 0 ≤ n ∧ n < s.I.length := by simpa [VS.has] using hh
    split
    · refine ⟨h1, ?_, by simpa [VS.upd] using h3, ?_, h5⟩
      · intro x hx
        simp only [VS.upd, List.mem_map] at hx
        obtain ⟨y, hy, rfl⟩ := hx
        split
        · exact ⟨hn.1, hn.2, hv⟩
        · exact h2 y hy
      · have : (VS.upd s.L n v).map (·.1) = s.L.map (·.1) := by
          simp only [VS.upd, List.map_map]
          apply List.map_congr_left
          intro y _
          simp only [Function.comp]
          split
          · rename_i e; simpa using (by simpa using e : y.1 = n).symm
          · rfl
        show ((VS.upd s.L n v).map (·.1)).Nodup
        rw [this]; exact h4
    · rename_i hf
      split
      · exact ⟨h1, h2, h3, h4, h5⟩
      · rename_i hl
        refine ⟨h1, ?_, by simp; omega, ?_, h5⟩
        · intro x hx
          rcases List.mem_append.1 hx with hx | hx
          · exact h2 x hx
          · simp at hx; subst hx; exact ⟨hn.1, hn.2, hv⟩
        · show ((s.L ++ [(n, v)]).map (·.1)).Nodup
          rw [List.map_append, List.nodup_append]
          refine ⟨h4, by simp, ?_⟩
          intro a ha b hb
          simp at hb; subst hb
          intro e
          exact hf ((find_upd_iff s.L b).2 (e ▸ ha))
  · exact ⟨h1, h2, h3, h4, h5⟩

def SPut (Γ : Nat → Option Obj) (L : Nat → Prop) (w : World) (p : Addr) (r : Int × VS) (e : Ending) (w' : World) : Prop := e = .returned (.int .i64 r.1) ∧ VW Γ L w' p r.2 ∧ Keep L w w'


theorem VW0.after {Γ : Nat → Option Obj} {L : Nat → Prop} {w w' : World} {s s' : VS} {bv bm ia ic ord ord'} (h : VW0 Γ L w ⟨bv, 0, none⟩ s bv bm ia ic ord) (hI : s'.I = s.I) (hok : s'.ok)
    (hv : w'.heap[bv]? = some (.cells #[.slice ia s.I.length ic, .map (some bm), ord'] 106 (0, 0))) (hm : ∃ es c, w'.heap[bm]? = some (.map es c) ∧ ents es = kvs s'.L)
    (ho : w'.ownsRow 0 3 1 ord' s'.L.length (s'.L.map fun x => Value.int .i64 x.1)) (hob : ∀ b, ord'.ownBlock = some b → ord.ownBlock = some b ∨ w.heap.size ≤ b)
    (hk : ∀ b, b < w.heap.size → b ≠ bv → b ≠ bm → ord.ownBlock ≠ some b → w'.heap[b]? = w.heap[b]?) (hsz : w.heap.size ≤ w'.heap.size)
    (hgb : ∀ b, ord'.ownBlock = some b → Γ b = none) (hos : w'.os = w.os) (htp : w'.tape = w.tape) (hout : w'.output = w.output) : VW Γ L w' ⟨bv, 0, none⟩ s' ∧ Keep L w w' := by
  have hbv := blk_lt h.hv
  have hbm : bm < w.heap.size := by obtain ⟨_, _, hm, _⟩ := h.hm; exact blk_lt hm
  have hLk : ∀ b, L b → w'.heap[b]? = w.heap[b]? := fun b hb => hk b (h.lt b hb) (fun e => h.Lv (e ▸ hb)) (fun e => h.Lm (e ▸ hb)) (fun e => h.Lo b e hb)
  refine ⟨⟨bv, bm, ia, ic, ord', rfl, hok, by rw [hI]; exact hv, hm, ho, ?_, h.Lv, h.Lm, ?_, ?_, ?_, fun b hb => Nat.lt_of_lt_of_le (h.lt b hb) hsz, fun b o hg => (hk b (blk_lt (h.gl b o hg)) (fun e => by rw [e, h.dg.1] at hg; cases hg) (fun e => by rw [e, h.dg.2.1] at hg; cases hg) (fun e => by rw [h.dg.2.2 b e] at hg; cases hg)).trans (h.gl b o hg), h.Lg, h.dg.1, h.dg.2.1, hgb⟩, ⟨hos, htp, hout, hsz, hLk⟩⟩
  · intro hne
    rw [hI] at hne
    obtain ⟨bi, oi, e1, e2, e3, e4, e5, e6⟩ := h.hi hne
    have hl : bi < w.heap.size := by
      cases hI : s.I with
      | nil => exact absurd hI hne
      | cons x xs => exact World.block_lt_of_cell? w _ (e6 0 x (by simp [hI]))
    refine ⟨bi, oi, e1, e2, e3, e4, ?_, ?_⟩
    · intro e
      rcases hob bi e with e | e
      · exact e5 e
      · omega
    · intro i x hx
      rw [hI] at hx
      exact (World.cell?_of_block (hk bi hl e3 e4 e5)).trans (e6 i x hx)
  · intro b hb hL
    rcases hob b hb with e | e
    · exact h.Lo b e hL
    · have := h.lt b hL; omega
  · intro e
    rcases hob bv e with e | e
    · exact h.dvo e
    · omega
  · intro e
    rcases hob bm e with e | e
    · exact h.dmo e
    · omega

theorem VW0.bmv {Γ : Nat → Option Obj} {L : Nat → Prop} {w : World} {s : VS} {bv bm ia ic ord} (h : VW0 Γ L w ⟨bv, 0, none⟩ s bv bm ia ic ord) : bm ≠ bv := by
  obtain ⟨_, _, hm, _⟩ := h.hm
  intro e
  rw [e, h.hv] at hm
  cases hm

theorem upd_keys (l : List (Int × Int)) (n v : Int) : (VS.upd l n v).map (·.1) = l.map (·.1) := by
  simp only [VS.upd, List.map_map]
  apply List.map_congr_left
  intro y _
  simp only [Function.comp]
  split
  · rename_i e; exact (by simpa using e : y.1 = n).symm
  · rfl

theorem map_fst (l : List (Int × Int)) : (l.map fun x => Value.int .i64 x.1) = (l.map (·.1)).map (Value.int .i64) := by simp

end Go.Proofs
