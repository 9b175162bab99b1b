/-
  THE CARD OF CheckNone (law 25): for every slice of words, if the layout does not take it for a device, check.Look answers the fault 1 and no device and check.Reach answers no inode (and the anchor's three images answer as the chapter says); the argument reads as before.
  Conditions: layout.least reads as the program's text lays it (the row's own 'laid', tied by the card); none besides.
-/
import Derived.Test.YtfoknihgngobfaaGreatDoorNone
import Derived.Test.YtfoknihgngobfaaGreatDoorTie
import Derived.Test.YtfoknihgngobfaaGreatDoorCards
import Derived.ProofKit
import Derived.LaidMore
import Derived.OpenShut
import Derived.ChangeBears2
import Derived.MakeChecks
import Derived.Carry
import Derived.Deep.Strs
import Derived.Stop.Joined
import Derived.SevenTiedAt
namespace Go.Proofs.YtfoknihgngobfaaGreatDoor
open Go Go.Proofs Go.ChangeShapes Go.WideShapes Go.ChangeAt Go.WideMaps Go.WideElems Go.RowKit

theorem own : ownKnob Tryz.prog.godebug = none := by kernel_rfl
theorem laidOut : laidOutB Tryz.prog = true := by kernel_rfl
theorem gLeast : Tryz.prog.globalNamed "grommet/layout.least" = some 0 := by kernel_rfl
theorem tLeast : (Tryz.prog.globals[(0 : Nat)]?).map (·.type) = some 25 := by kernel_rfl
theorem shape0 : ((begin Tryz.prog (fun _ _ => 0) default).world.heap[(0 : Nat)]?).bind Obj.row? = some (#[.int .i64 0, .int .i64 0, .int .i64 0], 25) := by kernel_rfl
theorem nglob : (0 : Nat) < Tryz.prog.globals.size := of_decide_eq_true (by kernel_rfl)
theorem cInt : Tryz.prog.cellsOf 3 = 1 := by kernel_rfl
theorem cU64 : Tryz.prog.cellsOf 37 = 1 := by kernel_rfl
theorem cGeo : Tryz.prog.cellsOf 25 = 3 := by kernel_rfl

set_option maxRecDepth 100000 in
theorem glob_of {W : World} (hs : W.ShapedOpen Tryz.prog) (hL : laidMetH Tryz.prog Rows.checkNoneRow.laid W) : Glob W := by
  rw [MakeChecks.laidMetH_plain _ _ _ (by kernel_rfl)] at hL
  obtain ⟨ps, ⟨g0, t0, cs0, f0, p0, q0, hg0, ht0, hv0, hd0, _, _⟩, _, _⟩ := hL
  obtain rfl := Option.some.inj (gLeast.symm.trans hg0)
  obtain rfl := Option.some.inj (tLeast.symm.trans ht0)
  obtain ⟨cs, h1, h2, _⟩ := hs.1 _ _ _ nglob shape0
  have hcs : cs = cs0 := by
    unfold World.var? at hv0
    rw [gLeast] at hv0
    simp only [Option.bind_some, h1] at hv0
    exact Option.some.inj hv0
  subst hcs
  obtain ⟨y0, y1, y2, n, hx, hl, e0, e1, e2⟩ := Deep.trod_struct3 Tryz.underlying25 hd0
  obtain ⟨k0, a0, b0, _⟩ := DataW.trod_int Tryz.underlying3 e0
  obtain ⟨k1, a1, b1, _⟩ := DataW.trod_int Tryz.underlying3 e1
  obtain ⟨k2, a2, b2, _⟩ := DataW.trod_int Tryz.underlying3 e2
  simp only [cInt] at a0 a1 a2
  rw [cGeo] at hl
  obtain ⟨l⟩ := cs
  match l, hl with
  | [x, y, z], _ =>
    simp at a0 a1 a2
    subst a0 a1 a2 b0 b1 b2
    simp [Rows.laid_grommet_layout_least] at hx
    obtain ⟨⟨rfl, rfl, rfl⟩, _⟩ := hx
    exact h1

/-- The start that the witness stands in meets the condition on the listed variable. -/
theorem door_met (os : Os) (args : Array Value) : laidMetH Tryz.prog Rows.checkNoneRow.laid ((World.doorLaid Tryz.prog 400 os).forCall (fun _ _ => 0) ⟨#[], args, []⟩).memory :=
  laidMetH_of_parts3 (fuel := 8) (laidMet_of_run' 8 (by kernel_rfl) (by kernel_rfl)) (by kernel_rfl) (by kernel_rfl)

set_option maxRecDepth 100000 in
/-- A slice of words that can be read lies as the walk wants it. -/
theorem sl_of {H : Type} {enc : TypeId × Value → H} {W : World} {base : Nat} {v : Value} {d : DataW H} {p : List MemPlace} (hv : Value.okWide Tryz.prog W .any base 22 v) (h : DataW.Trod enc Tryz.prog W 0 (fun _ => true) true 22 v d p) :
    ∃ I, SL W v I ∧ ∀ x ∈ I, u64ok x := by
  obtain ⟨a0, len, cap, rfl⟩ := okWide_slice Tryz.underlying22 hv
  obtain ⟨fuel, hf⟩ := h
  rcases open_ints Tryz.underlying22 Tryz.underlying37 cU64 hf with ⟨hcs, -⟩ | ⟨a, len', cap', zs, hcs, _, hl, hm, hz, hx, hcell, hwz⟩
  · simp [Value.cells] at hcs
    obtain ⟨rfl, rfl, rfl⟩ := hcs
    exact ⟨[], ⟨none, 0, rfl, fun h => absurd rfl h⟩, fun x hx => by cases hx⟩
  · simp [Value.cells] at hcs
    obtain ⟨rfl, rfl, rfl⟩ := hcs
    simp only [if_true] at hz
    have hlen : (zs.take len).length = len := by rw [List.length_take]; omega
    refine ⟨zs.take len, ⟨some a, cap, by rw [hlen], fun hne => ?_⟩, fun x hx => ?_⟩
    · have h0 : 0 < len := by
        rcases Nat.eq_zero_or_pos len with h | h
        · subst h; exact absurd rfl hne
        · exact h
      obtain ⟨b, off, spot⟩ := a
      have hspot : spot = none := by simpa [Addr.add] using World.cell?_spot (hcell 0 (by omega))
      subst hspot
      refine ⟨b, off, rfl, fun i x hi => ?_⟩
      have hil : i < len := by have := (List.getElem?_eq_some_iff.1 hi).1; rwa [hlen] at this
      have hc := hcell i (by omega)
      rw [List.getElem?_take_of_lt hil] at hi
      have hg : zs.getD i 0 = x := by rw [List.getD_eq_getElem?_getD, hi]; rfl
      rw [hg] at hc
      have ha : (⟨b, off, none⟩ : Addr).add i = ⟨b, off + i, none⟩ := by
        unfold Addr.add
        by_cases h : i = 0 <;> simp [h]
      rw [ha] at hc
      exact hc
    · have hw := hwz x (List.mem_of_mem_take hx)
      have hw2 : IntKind.u64.min ≤ x ∧ x ≤ IntKind.u64.max := by simpa [Lit.wf] using hw
      have e1 : IntKind.u64.min = 0 := by rfl
      have e2 : IntKind.u64.max = 18446744073709551615 := by rfl
      rw [e1, e2] at hw2
      exact ⟨by omega, by omega⟩

set_option maxRecDepth 100000 in
set_option maxHeartbeats 1600000 in
theorem lifted (os : Os) (started : os.Started) (H : Type) (enc : TypeId × Value → H) :
    ReturnsInHanded {} Tryz.checked os 3 .any (fun w args => (Rows.checkNoneSpec.pre enc Tryz.prog Tryz.f3 [] false w args ∧ laidMetH Tryz.prog Rows.checkNoneRow.laid w) ∧ sizedMet enc Tryz.prog Tryz.f3 (OpenSpec.ofChange Rows.checkNoneSpec) false w args)
      (Rows.checkNoneSpec.post enc Tryz.prog Tryz.f3 false true false false) := by
  refine returnsInHanded_of_calls (C := Tryz.checked) own started (by kernel_rfl) (ChangeSpec.witness_shaped (enc := enc) (C := Tryz.checked) (os := os) (f := 3) (fn := Tryz.f3) (s := Rows.checkNoneSpec) (conds := []) (apart := false) (X := fun w _ => laidMetH Tryz.prog Rows.checkNoneRow.laid w) false (World.doorLaid Tryz.prog 400 os) #[.slice none 0 0] 8 rfl (World.shaped_of_RefB (by kernel_rfl) (by kernel_rfl)) (by kernel_rfl) (by kernel_rfl) (by kernel_rfl) (door_met os _)) ?_
  intro w tape i _ hsh _ hok hpre _
  obtain ⟨_, _, _, fn', hfn', _, _, _, _, hval0⟩ := hok
  obtain rfl : Tryz.f3 = fn' := Option.some.inj (Tryz.func3.symm.trans hfn')
  obtain ⟨⟨⟨ds, gs, before, hw, -⟩, hx⟩, -⟩ := hpre
  have hW : DataW.Whole enc Tryz.prog Tryz.f3.params.toList Rows.checkNoneSpec.vars false (w.forCall tape i) i.args.toList ds gs before := DataW.Whole.of_heap (w' := w.forCall tape i) (by rfl) hw
  have hG := glob_of hsh (hx.of_heap (w' := w.forCall tape i) (by rfl))
  obtain ⟨base, hbase⟩ : ∃ n, w.heap.size = n := ⟨_, rfl⟩
  rw [hbase] at hval0
  suffices hs : Calls Tryz.prog 3 i.args (w.forCall tape i) fun e W' => ∃ v, e = .returned v ∧ Rows.checkNoneSpec.post enc Tryz.prog Tryz.f3 false true false false (w.forCall tape i) i.args v W' by
    refine hs.mono fun e W' ⟨v, he, hp⟩ => ?_
    subst he
    exact ChangeSpec.post_blind hp
  obtain ⟨W, hWe⟩ : ∃ W, w.forCall tape i = W := ⟨_, rfl⟩
  obtain ⟨args, hargs0⟩ : ∃ args, i.args = args := ⟨_, rfl⟩
  rw [hWe, hargs0] at hW
  rw [hWe] at hG
  rw [hWe, hargs0]
  have hval : ∀ (j : Nat) t v, Tryz.f3.params[j]? = some t → args[j]? = some v → Value.okWide Tryz.prog W .any base t v := fun j t v h1 h2 => by
    have := hval0 j t v h1 (by rw [hargs0]; exact h2)
    rwa [hWe] at this
  clear hval0 hw hx hsh hWe hargs0
  have hW' := hW
  obtain ⟨p, q, hA0, hV, rfl, hfz, hnd⟩ := hW
  have hA : DataW.TrodAll enc Tryz.prog W 0 (fun _ => true) true Tryz.f3.params.toList args.toList ds p := hA0
  rw [Tryz.params3] at hA hval
  obtain ⟨v0, d0, rfl, rfl, h0⟩ := trodAll_one hA
  obtain ⟨rfl, rfl⟩ := trodVars_none hV
  obtain ⟨I, hSL, hI⟩ := sl_of (hval 0 _ v0 rfl rfl) h0
  simp only [List.append_nil] at hW'
  have hlt : ∀ x ∈ p, x.block < W.heap.size := fun x hx => by simpa using hW'.lt x hx
  refine (none_ok hSL hI hG).mono fun e W' ⟨he, hB⟩ => ?_
  subst he
  refine ⟨_, rfl, _, _, _, [], p, [], hW', ?_, ?_, ?_, hB.frame _, fun h => by cases h⟩
  · exact trodAll_mk1 (shut_bool Tryz.underlying4 true)
  · exact trodAll_mk1 (Below.trod laidOut (by kernel_rfl) (of_decide_eq_true (by kernel_rfl)) h0 hB hlt)
  · rfl

theorem checkNone_holds : Rows.CheckNoneSaid :=
  OpenClaim.holds_of_wide 3 Tryz.f3 rfl rfl rfl rfl rfl rfl rfl ⟨rfl, rfl, rfl, rfl, rfl⟩ rfl rfl rfl rfl rfl (by kernel_rfl) Tryz.func3 (by kernel_rfl)
    (of_decide_eq_true (by kernel_rfl)) (by unfold Func.isWrapper; first | (rw [if_pos (by decide +kernel)]; kernel_rfl) | (rw [if_neg (by decide +kernel)]; exact ⟨rfl, rfl⟩))
    (fun os started H enc _ => lifted os started H enc)

set_option maxRecDepth 100000 in
theorem checkNoneCard_holds : Rows.CheckNoneCardSaid :=
  Claim7.holds_tied_plain_at .later [] [.data] true (true, "2410a4c61887397ee036a014291172726911a8abf2960c948b1719128b57764a") true
    checkNone_holds (fun _ h => by cases h) (by kernel_rfl) (fun _ h => by cases h) checkNone_row_tie rfl ⟨rfl, rfl⟩ (by kernel_rfl) rfl
    (fun f fn hf hfn => by
      obtain rfl : f = 3 := Option.some.inj ((show Tryz.prog.funcNamed "grommet/grommetlaw25.CheckNone" = some 3 by kernel_rfl).symm.trans hf) |>.symm
      obtain rfl : fn = Tryz.f3 := (Option.some.inj (Tryz.func3.symm.trans hfn)).symm
      exact ⟨by kernel_rfl, fun j t ht => by
        rw [Tryz.params3] at ht
        have hm : t ∈ [(22 : Nat)] := by simpa using Array.mem_of_getElem? ht
        have hall : ([(22 : Nat)].all fun u => !Tryz.prog.wantsStandIn u) = true := by kernel_rfl
        exact (show Tryz.prog.wantsStandIn t = false by simpa using List.all_eq_true.1 hall t hm)⟩)
    (by kernel_rfl)
#print axioms checkNoneCard_holds
end Go.Proofs.YtfoknihgngobfaaGreatDoor
