/-
  The law 'covenant/covenantlaw12.RankParts' holds: for every input of bulk at most 1048576 the call returns true, and each argument reads behind the call as it read before.
  Conditions: the arguments together are of bulk at most 1048576 (the statement's own second form).
-/
import Derived.Test.YtakhcfemakapbaaGreatDoorRows
import Derived.Test.YtakhcfemakapbaaGreatDoorRjR
import Derived.WalkKit
import Derived.ProofKit
import Derived.OpenShut
import Derived.ShutString
import Derived.SizedLaws
import Derived.ChangeOld
import Derived.Below
import Derived.JoinedCond
import Derived.Test.YtakhcfemakapbaaGreatDoorLawR
import Derived.Test.YtakhcfemakapbaaGreatDoorLawL
import Derived.Test.YtakhcfemakapbaaGreatDoorCards
import Derived.Test.YtakhcfemakapbaaGreatDoorTie
import Derived.Deep.DeepHandedRow
import Derived.Lay
import Derived.MakeChecks
set_option maxRecDepth 100000
namespace Go.Proofs.YtakhcfemakapbaaGreatDoor.lawRankParts
open Go.ChangeShapes Go.WideShapes Go.ChangeAt Go.RowKit
open Go.ChangeMaps (open_string shut_string)
set_option linter.unusedVariables false
set_option linter.unusedSimpArgs false

theorem one_51 {H : Type} {enc : TypeId × Value → H} {W : World} {held : Bool} {base : Nat} (n : Nat) (cs : List Value) (y : DataW H × List MemPlace) (h : DataW.trod enc Tryz.prog W base (fun _ => true) held n 51 cs = some y) : ∃ x : ByteArray × Int, cs = RjM.scF x ∧ RjM.scM x ≤ Rows.uptoBulk y.1 ∧ RjM.scOK x := by
  have hc : Tryz.prog.cellsOf 51 = 2 := by kernel_rfl
  have hc3 : Tryz.prog.cellsOf 3 = 1 := by kernel_rfl
  have hc9 : Tryz.prog.cellsOf 9 = 1 := by kernel_rfl
  obtain ⟨xs, n, _, rfl, hl, hlen, hf⟩ := DataW.trod_struct Tryz.underlying51 h
  rw [hc] at hl
  match cs, hl, xs, hlen with
  | [c0, c1], _, [y0, y1], _ =>
    have f0 := hf 0 _ rfl
    have f1 := hf 1 _ rfl
    simp [hc3, hc9] at f0 f1
    obtain ⟨z0, e0, rfl, w0⟩ := DataW.trod_string Tryz.underlying9 f0
    obtain ⟨z1, e1, rfl, w1⟩ := DataW.trod_int Tryz.underlying3 f1
    simp at e0 e1
    subst e0 e1
    have h0 : z0.data.toList.length = z0.size := by rw [Array.length_toList]; rfl
    refine ⟨⟨z0, z1⟩, rfl, ?_, ⟨w0, (LawR.wf_range w1)⟩⟩
    simp only [List.map_cons, List.map_nil]
    rw [Rows.uptoBulk]
    simp only [Rows.uptoBulkAll, Rows.uptoBulk, Nat.add_zero]
    try unfold RjM.scM
    try dsimp only
    try omega

theorem one_39 {H : Type} {enc : TypeId × Value → H} {W : World} {held : Bool} {base : Nat} (n : Nat) (cs : List Value) (y : DataW H × List MemPlace) (h : DataW.trod enc Tryz.prog W base (fun _ => true) held n 39 cs = some y) : ∃ x : RkC.Bd, cs = RjM.bdF x ∧ RjM.bdM x ≤ Rows.uptoBulk y.1 ∧ RjM.bdOK x := by
  have hc : Tryz.prog.cellsOf 39 = 4 := by kernel_rfl
  have hc3 : Tryz.prog.cellsOf 3 = 1 := by kernel_rfl
  have hc4 : Tryz.prog.cellsOf 4 = 1 := by kernel_rfl
  have hc9 : Tryz.prog.cellsOf 9 = 1 := by kernel_rfl
  obtain ⟨xs, n, _, rfl, hl, hlen, hf⟩ := DataW.trod_struct Tryz.underlying39 h
  rw [hc] at hl
  match cs, hl, xs, hlen with
  | [c0, c1, c2, c3], _, [y0, y1, y2, y3], _ =>
    have f0 := hf 0 _ rfl
    have f1 := hf 1 _ rfl
    have f2 := hf 2 _ rfl
    have f3 := hf 3 _ rfl
    simp [hc3, hc4, hc9] at f0 f1 f2 f3
    obtain ⟨z0, e0, rfl, w0⟩ := DataW.trod_int Tryz.underlying3 f0
    obtain ⟨z1, e1, rfl⟩ := DataW.trod_bool Tryz.underlying4 f1
    obtain ⟨z2, e2, rfl, w2⟩ := DataW.trod_int Tryz.underlying3 f2
    obtain ⟨z3, e3, rfl, w3⟩ := DataW.trod_string Tryz.underlying9 f3
    simp at e0 e1 e2 e3
    subst e0 e1 e2 e3
    have h3 : z3.data.toList.length = z3.size := by rw [Array.length_toList]; rfl
    refine ⟨⟨z0, z1, z2, z3⟩, rfl, ?_, ⟨(LawR.wf_range w0), (LawR.wf_range w2), w3⟩⟩
    simp only [List.map_cons, List.map_nil]
    rw [Rows.uptoBulk]
    simp only [Rows.uptoBulkAll, Rows.uptoBulk, Nat.add_zero]
    try unfold RjM.bdM
    try dsimp only
    try omega

theorem own : ownKnob Tryz.prog.godebug = none := by kernel_rfl

theorem laidOut : laidOutB Tryz.prog = true := by kernel_rfl

theorem contract (H : Type) (enc : TypeId × Value → H) (W : World) (base : Nat) (args : Array Value) (ds gs : List (DataW H)) (before : List MemPlace)
    (hval : ∀ (j : Nat) t v, Tryz.f7.params[j]? = some t → args[j]? = some v → Value.okWide Tryz.prog W .any base t v)
    (hW : DataW.Whole enc Tryz.prog Tryz.f7.params.toList Rows.rankPartsSpec.vars false W args.toList ds gs before) (hk : Rows.uptoSmall H (ds ++ gs) = true) (hL : laidMetH Tryz.prog Rows.rankPartsUptoRow.laid W) :
    Calls Tryz.prog 7 args W fun e W' => ∃ v, e = .returned v ∧ Rows.rankPartsSpec.post enc Tryz.prog Tryz.f7 false true false false W args v W' := by
  have hW' := hW
  obtain ⟨p, q, hA0, hV, rfl, hfz, hnd⟩ := hW
  have hA : DataW.TrodAll enc Tryz.prog W 0 (fun _ => true) true Tryz.f7.params.toList args.toList ds p := hA0
  rw [Tryz.params7] at hA hval
  obtain ⟨v0, vs0, d0, ds0, p0, q0, hargs, rfl, rfl, h0, r0⟩ := trodAll_cons hA
  obtain ⟨v1, vs1, d1, ds1, p1, q1, rfl, rfl, rfl, h1, r1⟩ := trodAll_cons r0
  obtain ⟨v2, vs2, d2, ds2, p2, q2, rfl, rfl, rfl, h2, r2⟩ := trodAll_cons r1
  obtain ⟨rfl, rfl, rfl⟩ := trodAll_nil r2
  obtain rfl : args = #[v0, v1, v2] := by cases args; simp_all
  obtain ⟨rfl, rfl⟩ := trodVars_none hV
  have hb0 : Rows.uptoBulkAll (_ ++ _) ≤ 1048576 := of_decide_eq_true hk
  simp only [List.cons_append, List.nil_append, Rows.uptoBulkAll] at hb0
  obtain ⟨a0, len0, cap0, rfl⟩ := okWide_slice Tryz.underlying22 (hval 0 22 v0 rfl rfl)
  have k0 := h0
  have lt0 : ∀ x ∈ p0, x.block < W.heap.size := by obtain ⟨m, hm⟩ := k0; exact DataW.trod_lt m _ _ _ hm
  obtain ⟨z0, R0, B0, L0, K0⟩ : ∃ l : List (ByteArray × Int), Mem.Rd W 2 a0 len0 cap0 (l.flatMap (RjM.scF)) ∧ (l.map (RjM.scM)).sum ≤ Rows.uptoBulk d0 ∧ l.length = len0 ∧ ∀ x ∈ l, RjM.scOK x := by
    obtain ⟨fuel, hf⟩ := h0
    obtain ⟨l, h1, h2, h3, h4⟩ := LawR.opened_row (RjM.scF) 2 (RjM.scM) (RjM.scOK) (fun _ => rfl) Tryz.underlying22 (by kernel_rfl) one_51 hf
    exact ⟨l, h1, by omega, h3, h4⟩
  obtain ⟨a1, rfl, _⟩ := okWide_struct Tryz.underlying39 (hval 1 39 v1 rfl rfl)
  have k1 := h1
  have lt1 : ∀ x ∈ p1, x.block < W.heap.size := by obtain ⟨m, hm⟩ := k1; exact DataW.trod_lt m _ _ _ hm
  obtain ⟨z1, Z1, B1, K1⟩ : ∃ x : RkC.Bd, a1.toList = (RjM.bdF) x ∧ (RjM.bdM) x ≤ Rows.uptoBulk d1 ∧ RjM.bdOK x := by
    obtain ⟨fuel, hf⟩ := h1
    exact one_39 fuel _ _ hf
  have e1 : a1 = ((RjM.bdF) z1).toArray := by rw [← Z1]
  subst e1
  obtain ⟨a2, rfl, _⟩ := okWide_struct Tryz.underlying39 (hval 2 39 v2 rfl rfl)
  have k2 := h2
  have lt2 : ∀ x ∈ p2, x.block < W.heap.size := by obtain ⟨m, hm⟩ := k2; exact DataW.trod_lt m _ _ _ hm
  obtain ⟨z2, Z2, B2, K2⟩ : ∃ x : RkC.Bd, a2.toList = (RjM.bdF) x ∧ (RjM.bdM) x ≤ Rows.uptoBulk d2 ∧ RjM.bdOK x := by
    obtain ⟨fuel, hf⟩ := h2
    exact one_39 fuel _ _ hf
  have e2 : a2 = ((RjM.bdF) z2).toArray := by rw [← Z2]
  subst e2
  rw [MakeChecks.laidMetH_plain _ _ _ (by kernel_rfl)] at hL
  have hLd := LawL.laid_of hL (List.mem_of_getElem? (i := 2) rfl) (List.mem_of_getElem? (i := 3) rfl) (List.mem_of_getElem? (i := 4) rfl)
  clear hA0
  refine (RjR.parts_law a0 len0 cap0 z0 z1 z2 W R0 L0 K0 (by omega) K1 (by omega) K2 (by omega) hLd).mono fun e W' ⟨he, bel⟩ => ?_
  subst he
  exact ⟨_, rfl, _, _, _, [], _, [], hW', trodAll_mk1 (shut_bool Tryz.underlying4 _), (trodAll_cons_mk (Below.trod laidOut (by kernel_rfl) (of_decide_eq_true (by kernel_rfl)) k0 bel lt0) (trodAll_cons_mk (Below.trod laidOut (by kernel_rfl) (of_decide_eq_true (by kernel_rfl)) k1 bel lt1) (trodAll_cons_mk (Below.trod laidOut (by kernel_rfl) (of_decide_eq_true (by kernel_rfl)) k2 bel lt2) trodAll_mk0))), rfl, bel.frame _, fun h => by cases h⟩

theorem laid_met (os : Os) : laidMet Tryz.prog Rows.rankPartsUptoRow.laid ((World.laidAll Tryz.prog os Rows.rankPartsUptoRow.laid).forCall (fun _ _ => 0) ⟨#[], #[.slice none 0 0, .agg #[.int .i64 0, .bool false, .int .i64 0, .string ByteArray.empty], .agg #[.int .i64 0, .bool false, .int .i64 0, .string ByteArray.empty]], []⟩).memory :=
  laidMet_laidAll _ (by kernel_rfl) (by kernel_rfl)

theorem reads (os : Os) {H : Type} (enc : TypeId × Value → H) : ∃ places, DataW.whole enc Tryz.prog ((World.laidAll Tryz.prog os Rows.rankPartsUptoRow.laid).forCall (fun _ _ => 0) ⟨#[], #[.slice none 0 0, .agg #[.int .i64 0, .bool false, .int .i64 0, .string ByteArray.empty], .agg #[.int .i64 0, .bool false, .int .i64 0, .string ByteArray.empty]], []⟩).memory Tryz.f7.params.toList Rows.rankPartsSpec.vars false (#[.slice none 0 0, .agg #[.int .i64 0, .bool false, .int .i64 0, .string ByteArray.empty], .agg #[.int .i64 0, .bool false, .int .i64 0, .string ByteArray.empty]] : Array Value).toList 8 = some ([.nil, .agg [.lit (.int .i64 0), .lit (.bool false), .lit (.int .i64 0), .lit (.string [])], .agg [.lit (.int .i64 0), .lit (.bool false), .lit (.int .i64 0), .lit (.string [])]], [], places) :=
  ⟨[], by kernel_rfl⟩

theorem lifted (os : Os) (started : os.Started) (H : Type) (enc : TypeId × Value → H) (F : Stop.Interp) :
    ReturnsInHanded {} Tryz.checked os 7 .any ((Rows.OpenSpec.upto Rows.rankPartsSpec).preRow enc Tryz.prog Tryz.f7 Rows.rankPartsUptoRow.domain false Rows.rankPartsUptoRow.laid) (((Rows.OpenSpec.upto Rows.rankPartsSpec).at F).post enc Tryz.prog Tryz.f7 false true false false) := by
  obtain ⟨places, hx⟩ := reads os enc
  refine returnsInHanded_of_row (C := Tryz.checked) (s := Rows.OpenSpec.upto Rows.rankPartsSpec) own started (by kernel_rfl) Tryz.func7
    (witness_row_at (enc := enc) (C := Tryz.checked) false (World.laidAll Tryz.prog os Rows.rankPartsUptoRow.laid) #[.slice none 0 0, .agg #[.int .i64 0, .bool false, .int .i64 0, .string ByteArray.empty], .agg #[.int .i64 0, .bool false, .int .i64 0, .string ByteArray.empty]] (World.laidAll_os _ _ _) (by kernel_rfl) (by kernel_rfl) (by kernel_rfl)
      (OpenSpec.preRow_of_cond 8 hx (by kernel_rfl) (fun k hk => by cases hk; kernel_rfl) (by kernel_rfl) (by rw [MakeChecks.laidMetH_plain _ _ _ (by kernel_rfl)]; exact laid_met os))) ?_
  intro W base args ds gs before hval hW _ hk _ hL _ _
  exact contract H enc W base args ds gs before hval hW (hk _ rfl) hL

theorem saidUpto : Rows.RankPartsUptoSaid :=
  OpenClaim.holds_of_cond 7 Tryz.f7 rfl rfl rfl rfl rfl rfl rfl ⟨rfl, rfl, rfl, rfl, rfl⟩ rfl rfl rfl rfl rfl (by kernel_rfl) Tryz.func7 (by kernel_rfl)
    (of_decide_eq_true (by kernel_rfl)) (by unfold Func.isWrapper; first | (rw [if_pos (by decide +kernel)]; kernel_rfl) | (rw [if_neg (by decide +kernel)]; exact ⟨rfl, rfl⟩))
    (fun os started H enc _ F => by rw [OpenClaim.pre_eq_preRow]; exact lifted os started H enc F)

theorem plain (f : FuncId) (fn : Func) (hf : Tryz.pinned.checked.prog.funcNamed "covenant/covenantlaw12.RankParts" = some f) (hfn : Tryz.pinned.checked.prog.funcs[f]? = some fn) :
    true = Tryz.pinned.checked.prog.looks [] ∧ ∀ (j : Nat) t, fn.params[j]? = some t → Tryz.pinned.checked.prog.wantsStandIn t = false := by
  obtain rfl : f = 7 := Option.some.inj ((show Tryz.prog.funcNamed "covenant/covenantlaw12.RankParts" = some 7 by kernel_rfl).symm.trans hf) |>.symm
  obtain rfl : fn = Tryz.f7 := (Option.some.inj (Tryz.func7.symm.trans hfn)).symm
  refine ⟨by kernel_rfl, fun j t ht => ?_⟩
  rw [Tryz.params7] at ht
  have hm := Array.mem_of_getElem? ht
  simp at hm
  rcases hm with rfl | rfl
  · exact (show Tryz.prog.wantsStandIn 22 = false by kernel_rfl)
  · exact (show Tryz.prog.wantsStandIn 39 = false by kernel_rfl)

theorem proved : Rows.RankPartsUptoCardSaid :=
  Claim7.holds_tied_plain_at .later [] _ _ _ _ saidUpto (fun _ h => by cases h) (by kernel_rfl) (fun _ h => by cases h) rankPartsUpto_row_tie rfl ⟨rfl, rfl⟩ (by kernel_rfl) rfl plain (by kernel_rfl)

end Go.Proofs.YtakhcfemakapbaaGreatDoor.lawRankParts
