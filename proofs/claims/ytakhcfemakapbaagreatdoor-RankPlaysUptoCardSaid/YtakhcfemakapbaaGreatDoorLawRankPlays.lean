/-
  The law 'covenant/covenantlaw12.RankPlays' holds: for every input of bulk at most 1048576 the call returns true, and each argument reads behind the call as it read before.
  Conditions: the arguments together are of bulk at most 1048576 (the statement's own second form).
-/
import Derived.Test.YtakhcfemakapbaaGreatDoorRows
import Derived.Test.YtakhcfemakapbaaGreatDoorRjO
import Derived.WalkKit
import Derived.ProofKit
import Derived.OpenShut
import Derived.ShutString
import Derived.SizedLaws
import Derived.ChangeOld
import Derived.Below
import Derived.JoinedCond
import Derived.Test.YtakhcfemakapbaaGreatDoorLawR
import Derived.Test.YtakhcfemakapbaaGreatDoorLawL
import Derived.Test.YtakhcfemakapbaaGreatDoorCards
import Derived.Test.YtakhcfemakapbaaGreatDoorTie
import Derived.Deep.DeepHandedRow
import Derived.Lay
import Derived.MakeChecks
set_option maxRecDepth 100000
namespace Go.Proofs.YtakhcfemakapbaaGreatDoor.lawRankPlays
open Go.ChangeShapes Go.WideShapes Go.ChangeAt Go.RowKit
open Go.ChangeMaps (open_string shut_string)
set_option linter.unusedVariables false
set_option linter.unusedSimpArgs false

theorem one_51 {H : Type} {enc : TypeId × Value → H} {W : World} {held : Bool} {base : Nat} (n : Nat) (cs : List Value) (y : DataW H × List MemPlace) (h : DataW.trod enc Tryz.prog W base (fun _ => true) held n 51 cs = some y) : ∃ x : ByteArray × Int, cs = RjM.scF x ∧ RjM.scM x ≤ Rows.uptoBulk y.1 ∧ RjM.scOK x := by
  have hc : Tryz.prog.cellsOf 51 = 2 := by kernel_rfl
  have hc3 : Tryz.prog.cellsOf 3 = 1 := by kernel_rfl
  have hc9 : Tryz.prog.cellsOf 9 = 1 := by kernel_rfl
  obtain ⟨xs, n, _, rfl, hl, hlen, hf⟩ := DataW.trod_struct Tryz.underlying51 h
  rw [hc] at hl
  match cs, hl, xs, hlen with
  | [c0, c1], _, [y0, y1], _ =>
    have f0 := hf 0 _ rfl
    have f1 := hf 1 _ rfl
    simp [hc3, hc9] at f0 f1
    obtain ⟨z0, e0, rfl, w0⟩ := DataW.trod_string Tryz.underlying9 f0
    obtain ⟨z1, e1, rfl, w1⟩ := DataW.trod_int Tryz.underlying3 f1
    simp at e0 e1
    subst e0 e1
    have h0 : z0.data.toList.length = z0.size := by rw [Array.length_toList]; rfl
    refine ⟨⟨z0, z1⟩, rfl, ?_, ⟨w0, (LawR.wf_range w1)⟩⟩
    simp only [List.map_cons, List.map_nil]
    rw [Rows.uptoBulk]
    simp only [Rows.uptoBulkAll, Rows.uptoBulk, Nat.add_zero]
    try unfold RjM.scM
    try dsimp only
    try omega

theorem one_39 {H : Type} {enc : TypeId × Value → H} {W : World} {held : Bool} {base : Nat} (n : Nat) (cs : List Value) (y : DataW H × List MemPlace) (h : DataW.trod enc Tryz.prog W base (fun _ => true) held n 39 cs = some y) : ∃ x : RkC.Bd, cs = RjM.bdF x ∧ RjM.bdM x ≤ Rows.uptoBulk y.1 ∧ RjM.bdOK x := by
  have hc : Tryz.prog.cellsOf 39 = 4 := by kernel_rfl
  have hc3 : Tryz.prog.cellsOf 3 = 1 := by kernel_rfl
  have hc4 : Tryz.prog.cellsOf 4 = 1 := by kernel_rfl
  have hc9 : Tryz.prog.cellsOf 9 = 1 := by kernel_rfl
  obtain ⟨xs, n, _, rfl, hl, hlen, hf⟩ := DataW.trod_struct Tryz.underlying39 h
  rw [hc] at hl
  match cs, hl, xs, hlen with
  | [c0, c1, c2, c3], _, [y0, y1, y2, y3], _ =>
    have f0 := hf 0 _ rfl
    have f1 := hf 1 _ rfl
    have f2 := hf 2 _ rfl
    have f3 := hf 3 _ rfl
    simp [hc3, hc4, hc9] at f0 f1 f2 f3
    obtain ⟨z0, e0, rfl, w0⟩ := DataW.trod_int Tryz.underlying3 f0
    obtain ⟨z1, e1, rfl⟩ := DataW.trod_bool Tryz.underlying4 f1
    obtain ⟨z2, e2, rfl, w2⟩ := DataW.trod_int Tryz.underlying3 f2
    obtain ⟨z3, e3, rfl, w3⟩ := DataW.trod_string Tryz.underlying9 f3
    simp at e0 e1 e2 e3
    subst e0 e1 e2 e3
    have h3 : z3.data.toList.length = z3.size := by rw [Array.length_toList]; rfl
    refine ⟨⟨z0, z1, z2, z3⟩, rfl, ?_, ⟨(LawR.wf_range w0), (LawR.wf_range w2), w3⟩⟩
    simp only [List.map_cons, List.map_nil]
    rw [Rows.uptoBulk]
    simp only [Rows.uptoBulkAll, Rows.uptoBulk, Nat.add_zero]
    try unfold RjM.bdM
    try dsimp only
    try omega

theorem one_41 {H : Type} {enc : TypeId × Value → H} {W : World} {held : Bool} {base : Nat} (n : Nat) (cs : List Value) (y : DataW H × List MemPlace) (h : DataW.trod enc Tryz.prog W base (fun _ => true) held n 41 cs = some y) : ∃ x : RjM.Op, cs = RjM.opF x ∧ RjM.opM x ≤ Rows.uptoBulk y.1 ∧ RjM.opOK x := by
  have hc : Tryz.prog.cellsOf 41 = 13 := by kernel_rfl
  have hc3 : Tryz.prog.cellsOf 3 = 1 := by kernel_rfl
  have hc4 : Tryz.prog.cellsOf 4 = 1 := by kernel_rfl
  have hc9 : Tryz.prog.cellsOf 9 = 1 := by kernel_rfl
  have hc39 : Tryz.prog.cellsOf 39 = 4 := by kernel_rfl
  obtain ⟨xs, n, _, rfl, hl, hlen, hf⟩ := DataW.trod_struct Tryz.underlying41 h
  rw [hc] at hl
  match cs, hl, xs, hlen with
  | [c0, c1, c2, c3, c4, c5, c6, c7, c8, c9, c10, c11, c12], _, [y0, y1, y2, y3, y4, y5, y6], _ =>
    have f0 := hf 0 _ rfl
    have f1 := hf 1 _ rfl
    have f2 := hf 2 _ rfl
    have f3 := hf 3 _ rfl
    have f4 := hf 4 _ rfl
    have f5 := hf 5 _ rfl
    have f6 := hf 6 _ rfl
    simp [hc3, hc4, hc9, hc39] at f0 f1 f2 f3 f4 f5 f6
    obtain ⟨z0, e0, rfl, w0⟩ := DataW.trod_int Tryz.underlying3 f0
    obtain ⟨z1, e1, rfl, w1⟩ := DataW.trod_string Tryz.underlying9 f1
    obtain ⟨z2, e2, rfl, w2⟩ := DataW.trod_int Tryz.underlying3 f2
    obtain ⟨z3, e3, rfl, w3⟩ := DataW.trod_int Tryz.underlying3 f3
    obtain ⟨z4, e4, m4, w4⟩ := one_39 _ _ _ f4
    simp [RjM.bdF] at e4
    obtain ⟨rfl, rfl, rfl, rfl⟩ := e4
    unfold RjM.bdM at m4
    obtain ⟨z5, e5, m5, w5⟩ := one_39 _ _ _ f5
    simp [RjM.bdF] at e5
    obtain ⟨rfl, rfl, rfl, rfl⟩ := e5
    unfold RjM.bdM at m5
    obtain ⟨z6, e6, rfl⟩ := DataW.trod_bool Tryz.underlying4 f6
    simp at e0 e1 e2 e3 e6
    subst e0 e1 e2 e3 e6
    have h1 : z1.data.toList.length = z1.size := by rw [Array.length_toList]; rfl
    refine ⟨⟨z0, z1, z2, z3, z4, z5, z6⟩, rfl, ?_, ⟨(LawR.wf_range w2), (LawR.wf_range w3), w4, w5⟩⟩
    simp only [List.map_cons, List.map_nil]
    rw [Rows.uptoBulk]
    simp only [Rows.uptoBulkAll, Rows.uptoBulk, Nat.add_zero]
    try unfold RjM.opM
    try dsimp only
    try omega

theorem own : ownKnob Tryz.prog.godebug = none := by kernel_rfl

theorem laidOut : laidOutB Tryz.prog = true := by kernel_rfl

theorem contract (H : Type) (enc : TypeId × Value → H) (W : World) (base : Nat) (args : Array Value) (ds gs : List (DataW H)) (before : List MemPlace)
    (hval : ∀ (j : Nat) t v, Tryz.f4.params[j]? = some t → args[j]? = some v → Value.okWide Tryz.prog W .any base t v)
    (hW : DataW.Whole enc Tryz.prog Tryz.f4.params.toList Rows.rankPlaysSpec.vars false W args.toList ds gs before) (hk : Rows.uptoSmall H (ds ++ gs) = true) (hL : laidMetH Tryz.prog Rows.rankPlaysUptoRow.laid W) :
    Calls Tryz.prog 4 args W fun e W' => ∃ v, e = .returned v ∧ Rows.rankPlaysSpec.post enc Tryz.prog Tryz.f4 false true false false W args v W' := by
  have hW' := hW
  obtain ⟨p, q, hA0, hV, rfl, hfz, hnd⟩ := hW
  have hA : DataW.TrodAll enc Tryz.prog W 0 (fun _ => true) true Tryz.f4.params.toList args.toList ds p := hA0
  rw [Tryz.params4] at hA hval
  obtain ⟨v0, vs0, d0, ds0, p0, q0, hargs, rfl, rfl, h0, r0⟩ := trodAll_cons hA
  obtain ⟨v1, vs1, d1, ds1, p1, q1, rfl, rfl, rfl, h1, r1⟩ := trodAll_cons r0
  obtain ⟨rfl, rfl, rfl⟩ := trodAll_nil r1
  obtain rfl : args = #[v0, v1] := by cases args; simp_all
  obtain ⟨rfl, rfl⟩ := trodVars_none hV
  have hb0 : Rows.uptoBulkAll (_ ++ _) ≤ 1048576 := of_decide_eq_true hk
  simp only [List.cons_append, List.nil_append, Rows.uptoBulkAll] at hb0
  obtain ⟨a0, len0, cap0, rfl⟩ := okWide_slice Tryz.underlying22 (hval 0 22 v0 rfl rfl)
  have k0 := h0
  have lt0 : ∀ x ∈ p0, x.block < W.heap.size := by obtain ⟨m, hm⟩ := k0; exact DataW.trod_lt m _ _ _ hm
  obtain ⟨z0, R0, B0, L0, K0⟩ : ∃ l : List (ByteArray × Int), Mem.Rd W 2 a0 len0 cap0 (l.flatMap (RjM.scF)) ∧ (l.map (RjM.scM)).sum ≤ Rows.uptoBulk d0 ∧ l.length = len0 ∧ ∀ x ∈ l, RjM.scOK x := by
    obtain ⟨fuel, hf⟩ := h0
    obtain ⟨l, h1, h2, h3, h4⟩ := LawR.opened_row (RjM.scF) 2 (RjM.scM) (RjM.scOK) (fun _ => rfl) Tryz.underlying22 (by kernel_rfl) one_51 hf
    exact ⟨l, h1, by omega, h3, h4⟩
  obtain ⟨a1, len1, cap1, rfl⟩ := okWide_slice Tryz.underlying35 (hval 1 35 v1 rfl rfl)
  have k1 := h1
  have lt1 : ∀ x ∈ p1, x.block < W.heap.size := by obtain ⟨m, hm⟩ := k1; exact DataW.trod_lt m _ _ _ hm
  obtain ⟨z1, R1, B1, L1, K1⟩ : ∃ l : List (RjM.Op), Mem.Rd W 13 a1 len1 cap1 (l.flatMap (RjM.opF)) ∧ (l.map (RjM.opM)).sum ≤ Rows.uptoBulk d1 ∧ l.length = len1 ∧ ∀ x ∈ l, RjM.opOK x := by
    obtain ⟨fuel, hf⟩ := h1
    obtain ⟨l, h1, h2, h3, h4⟩ := LawR.opened_row (RjM.opF) 13 (RjM.opM) (RjM.opOK) (fun _ => rfl) Tryz.underlying35 (by kernel_rfl) one_41 hf
    exact ⟨l, h1, by omega, h3, h4⟩
  rw [MakeChecks.laidMetH_plain _ _ _ (by kernel_rfl)] at hL
  have hLd := LawL.laid_of hL (List.mem_of_getElem? (i := 2) rfl) (List.mem_of_getElem? (i := 3) rfl) (List.mem_of_getElem? (i := 4) rfl)
  clear hA0
  refine (RjO.plays_law a0 len0 cap0 z0 a1 len1 cap1 z1 W R0 L0 K0 (by omega) R1 L1 K1 (by omega) hLd).mono fun e W' ⟨he, bel⟩ => ?_
  subst he
  exact ⟨_, rfl, _, _, _, [], _, [], hW', trodAll_mk1 (shut_bool Tryz.underlying4 _), (trodAll_cons_mk (Below.trod laidOut (by kernel_rfl) (of_decide_eq_true (by kernel_rfl)) k0 bel lt0) (trodAll_cons_mk (Below.trod laidOut (by kernel_rfl) (of_decide_eq_true (by kernel_rfl)) k1 bel lt1) trodAll_mk0)), rfl, bel.frame _, fun h => by cases h⟩

theorem laid_met (os : Os) : laidMet Tryz.prog Rows.rankPlaysUptoRow.laid ((World.laidAll Tryz.prog os Rows.rankPlaysUptoRow.laid).forCall (fun _ _ => 0) ⟨#[], #[.slice none 0 0, .slice none 0 0], []⟩).memory :=
  laidMet_laidAll _ (by kernel_rfl) (by kernel_rfl)

theorem reads (os : Os) {H : Type} (enc : TypeId × Value → H) : ∃ places, DataW.whole enc Tryz.prog ((World.laidAll Tryz.prog os Rows.rankPlaysUptoRow.laid).forCall (fun _ _ => 0) ⟨#[], #[.slice none 0 0, .slice none 0 0], []⟩).memory Tryz.f4.params.toList Rows.rankPlaysSpec.vars false (#[.slice none 0 0, .slice none 0 0] : Array Value).toList 8 = some ([.nil, .nil], [], places) :=
  ⟨[], by kernel_rfl⟩

theorem lifted (os : Os) (started : os.Started) (H : Type) (enc : TypeId × Value → H) (F : Stop.Interp) :
    ReturnsInHanded {} Tryz.checked os 4 .any ((Rows.OpenSpec.upto Rows.rankPlaysSpec).preRow enc Tryz.prog Tryz.f4 Rows.rankPlaysUptoRow.domain false Rows.rankPlaysUptoRow.laid) (((Rows.OpenSpec.upto Rows.rankPlaysSpec).at F).post enc Tryz.prog Tryz.f4 false true false false) := by
  obtain ⟨places, hx⟩ := reads os enc
  refine returnsInHanded_of_row (C := Tryz.checked) (s := Rows.OpenSpec.upto Rows.rankPlaysSpec) own started (by kernel_rfl) Tryz.func4
    (witness_row_at (enc := enc) (C := Tryz.checked) false (World.laidAll Tryz.prog os Rows.rankPlaysUptoRow.laid) #[.slice none 0 0, .slice none 0 0] (World.laidAll_os _ _ _) (by kernel_rfl) (by kernel_rfl) (by kernel_rfl)
      (OpenSpec.preRow_of_cond 8 hx (by kernel_rfl) (fun k hk => by cases hk; kernel_rfl) (by kernel_rfl) (by rw [MakeChecks.laidMetH_plain _ _ _ (by kernel_rfl)]; exact laid_met os))) ?_
  intro W base args ds gs before hval hW _ hk _ hL _ _
  exact contract H enc W base args ds gs before hval hW (hk _ rfl) hL

theorem saidUpto : Rows.RankPlaysUptoSaid :=
  OpenClaim.holds_of_cond 4 Tryz.f4 rfl rfl rfl rfl rfl rfl rfl ⟨rfl, rfl, rfl, rfl, rfl⟩ rfl rfl rfl rfl rfl (by kernel_rfl) Tryz.func4 (by kernel_rfl)
    (of_decide_eq_true (by kernel_rfl)) (by unfold Func.isWrapper; first | (rw [if_pos (by decide +kernel)]; kernel_rfl) | (rw [if_neg (by decide +kernel)]; exact ⟨rfl, rfl⟩))
    (fun os started H enc _ F => by rw [OpenClaim.pre_eq_preRow]; exact lifted os started H enc F)

theorem plain (f : FuncId) (fn : Func) (hf : Tryz.pinned.checked.prog.funcNamed "covenant/covenantlaw12.RankPlays" = some f) (hfn : Tryz.pinned.checked.prog.funcs[f]? = some fn) :
    true = Tryz.pinned.checked.prog.looks [] ∧ ∀ (j : Nat) t, fn.params[j]? = some t → Tryz.pinned.checked.prog.wantsStandIn t = false := by
  obtain rfl : f = 4 := Option.some.inj ((show Tryz.prog.funcNamed "covenant/covenantlaw12.RankPlays" = some 4 by kernel_rfl).symm.trans hf) |>.symm
  obtain rfl : fn = Tryz.f4 := (Option.some.inj (Tryz.func4.symm.trans hfn)).symm
  refine ⟨by kernel_rfl, fun j t ht => ?_⟩
  rw [Tryz.params4] at ht
  have hm := Array.mem_of_getElem? ht
  simp at hm
  rcases hm with rfl | rfl
  · exact (show Tryz.prog.wantsStandIn 22 = false by kernel_rfl)
  · exact (show Tryz.prog.wantsStandIn 35 = false by kernel_rfl)

theorem proved : Rows.RankPlaysUptoCardSaid :=
  Claim7.holds_tied_plain_at .later [] _ _ _ _ saidUpto (fun _ h => by cases h) (by kernel_rfl) (fun _ h => by cases h) rankPlaysUpto_row_tie rfl ⟨rfl, rfl⟩ (by kernel_rfl) rfl plain (by kernel_rfl)

end Go.Proofs.YtakhcfemakapbaaGreatDoor.lawRankPlays
