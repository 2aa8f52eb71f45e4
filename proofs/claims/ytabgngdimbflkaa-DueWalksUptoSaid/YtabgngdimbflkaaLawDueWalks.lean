/-
  The law 'covenant/covenantlaw07.DueWalks' holds: for every input of bulk at most 1048576 the call returns true, and each argument reads behind the call as it read before.
  Conditions: the arguments together are of bulk at most 1048576 (the statement's own second form).
-/
import Derived.Test.YtabgngdimbflkaaRows
import Derived.Test.YtabgngdimbflkaaDwB
import Derived.WalkKit
import Derived.ProofKit
import Derived.OpenShut
import Derived.ShutString
import Derived.SizedLaws
import Derived.ChangeOld
import Derived.Below
import Derived.JoinedCond
import Derived.Test.YtabgngdimbflkaaLawR
set_option maxRecDepth 100000
namespace Go.Proofs.Ytabgngdimbflkaa.lawDueWalks
open Go.ChangeShapes Go.WideShapes Go.ChangeAt Go.RowKit
open Go.ChangeMaps (open_string shut_string)
set_option linter.unusedVariables false
set_option linter.unusedSimpArgs false

theorem one_32 {H : Type} {enc : TypeId × Value → H} {W : World} {held : Bool} {base : Nat} (n : Nat) (cs : List Value) (y : DataW H × List MemPlace) (h : DataW.trod enc Try.prog W base (fun _ => true) held n 32 cs = some y) : ∃ x : DvA.De, cs = DvA.De.cells x ∧ DvA.De.wt x ≤ Rows.uptoBulk y.1 ∧ DvA.De.good x := by
  have hc : Try.prog.cellsOf 32 = 4 := by kernel_rfl
  have hc3 : Try.prog.cellsOf 3 = 1 := by kernel_rfl
  have hc9 : Try.prog.cellsOf 9 = 1 := by kernel_rfl
  obtain ⟨xs, n, _, rfl, hl, hlen, hf⟩ := DataW.trod_struct Try.underlying32 h
  rw [hc] at hl
  match cs, hl, xs, hlen with
  | [c0, c1, c2, c3], _, [y0, y1, y2, y3], _ =>
    have f0 := hf 0 _ rfl
    have f1 := hf 1 _ rfl
    have f2 := hf 2 _ rfl
    have f3 := hf 3 _ rfl
    simp [hc3, hc9] at f0 f1 f2 f3
    obtain ⟨z0, e0, rfl, w0⟩ := DataW.trod_int Try.underlying3 f0
    obtain ⟨z1, e1, rfl, w1⟩ := DataW.trod_string Try.underlying9 f1
    obtain ⟨z2, e2, rfl, w2⟩ := DataW.trod_int Try.underlying3 f2
    obtain ⟨z3, e3, rfl, w3⟩ := DataW.trod_int Try.underlying3 f3
    simp at e0 e1 e2 e3
    subst e0 e1 e2 e3
    have h1 : z1.data.toList.length = z1.size := by rw [Array.length_toList]; rfl
    refine ⟨⟨z0, z1, z2, z3⟩, rfl, ?_, w1⟩
    simp only [List.map_cons, List.map_nil]
    rw [Rows.uptoBulk]
    simp only [Rows.uptoBulkAll, Rows.uptoBulk, Nat.add_zero]
    try unfold DvA.De.wt
    try dsimp only
    try omega

theorem own : ownKnob Try.prog.godebug = none := by kernel_rfl

theorem laidOut : laidOutB Try.prog = true := by kernel_rfl

theorem contract (H : Type) (enc : TypeId × Value → H) (W : World) (base : Nat) (args : Array Value) (ds gs : List (DataW H)) (before : List MemPlace)
    (hval : ∀ (j : Nat) t v, Try.f4.params[j]? = some t → args[j]? = some v → Value.okWide Try.prog W .any base t v)
    (hW : DataW.Whole enc Try.prog Try.f4.params.toList Rows.dueWalksSpec.vars false W args.toList ds gs before) (hk : Rows.uptoSmall H (ds ++ gs) = true) :
    Calls Try.prog 4 args W fun e W' => ∃ v, e = .returned v ∧ Rows.dueWalksSpec.post enc Try.prog Try.f4 false true false false W args v W' := by
  have hW' := hW
  obtain ⟨p, q, hA0, hV, rfl, hfz, hnd⟩ := hW
  have hA : DataW.TrodAll enc Try.prog W 0 (fun _ => true) true Try.f4.params.toList args.toList ds p := hA0
  rw [Try.params4] at hA hval
  obtain ⟨v0, vs0, d0, ds0, p0, q0, hargs, rfl, rfl, h0, r0⟩ := trodAll_cons hA
  obtain ⟨v1, vs1, d1, ds1, p1, q1, rfl, rfl, rfl, h1, r1⟩ := trodAll_cons r0
  obtain ⟨rfl, rfl, rfl⟩ := trodAll_nil r1
  obtain rfl : args = #[v0, v1] := by cases args; simp_all
  obtain ⟨rfl, rfl⟩ := trodVars_none hV
  have hb0 : Rows.uptoBulkAll (_ ++ _) ≤ 1048576 := of_decide_eq_true hk
  simp only [List.cons_append, List.nil_append, Rows.uptoBulkAll] at hb0
  obtain ⟨a0, len0, cap0, rfl⟩ := okWide_slice Try.underlying22 (hval 0 22 v0 rfl rfl)
  have k0 := h0
  have lt0 : ∀ x ∈ p0, x.block < W.heap.size := by obtain ⟨m, hm⟩ := k0; exact DataW.trod_lt m _ _ _ hm
  obtain ⟨z0, R0, B0, L0, K0⟩ : ∃ l : List (DvA.De), Mem.Rd W 4 a0 len0 cap0 (l.flatMap (DvA.De.cells)) ∧ (l.map (DvA.De.wt)).sum ≤ Rows.uptoBulk d0 ∧ l.length = len0 ∧ ∀ x ∈ l, DvA.De.good x := by
    obtain ⟨fuel, hf⟩ := h0
    obtain ⟨l, h1, h2, h3, h4⟩ := LawR.opened_row (DvA.De.cells) 4 (DvA.De.wt) (DvA.De.good) (fun _ => rfl) Try.underlying22 (by kernel_rfl) one_32 hf
    exact ⟨l, h1, by omega, h3, h4⟩
  obtain ⟨a1, len1, cap1, rfl⟩ := okWide_slice Try.underlying22 (hval 1 22 v1 rfl rfl)
  have k1 := h1
  have lt1 : ∀ x ∈ p1, x.block < W.heap.size := by obtain ⟨m, hm⟩ := k1; exact DataW.trod_lt m _ _ _ hm
  obtain ⟨z1, R1, B1, L1, K1⟩ : ∃ l : List (DvA.De), Mem.Rd W 4 a1 len1 cap1 (l.flatMap (DvA.De.cells)) ∧ (l.map (DvA.De.wt)).sum ≤ Rows.uptoBulk d1 ∧ l.length = len1 ∧ ∀ x ∈ l, DvA.De.good x := by
    obtain ⟨fuel, hf⟩ := h1
    obtain ⟨l, h1, h2, h3, h4⟩ := LawR.opened_row (DvA.De.cells) 4 (DvA.De.wt) (DvA.De.good) (fun _ => rfl) Try.underlying22 (by kernel_rfl) one_32 hf
    exact ⟨l, h1, by omega, h3, h4⟩
  clear hA0
  refine (DwB.walks_law a0 len0 cap0 z0 a1 len1 cap1 z1 W R0 L0 K0 (by omega) R1 L1 K1 (by omega)).mono fun e W' ⟨he, bel⟩ => ?_
  subst he
  exact ⟨_, rfl, _, _, _, [], _, [], hW', trodAll_mk1 (shut_bool Try.underlying4 _), (trodAll_cons_mk (Below.trod laidOut (by kernel_rfl) (of_decide_eq_true (by kernel_rfl)) k0 bel lt0) (trodAll_cons_mk (Below.trod laidOut (by kernel_rfl) (of_decide_eq_true (by kernel_rfl)) k1 bel lt1) trodAll_mk0)), rfl, bel.frame _, fun h => by cases h⟩

theorem lifted (os : Os) (started : os.Started) (H : Type) (enc : TypeId × Value → H) (F : Stop.Interp) :
    ReturnsInHanded {} Try.checked os 4 .any ((Rows.OpenSpec.upto Rows.dueWalksSpec).pre6 enc Try.prog Try.f4 Rows.dueWalksUptoRow.domain false) (((Rows.OpenSpec.upto Rows.dueWalksSpec).at F).post enc Try.prog Try.f4 false true false false) := by
  refine returnsInHanded_of_cond (C := Try.checked) (s := Rows.OpenSpec.upto Rows.dueWalksSpec) (k := Rows.uptoSmall) rfl own started (by kernel_rfl) Try.func4
    (OpenSpec.witness (enc := enc) (C := Try.checked) (s := Rows.OpenSpec.upto Rows.dueWalksSpec) (k := Rows.uptoSmall) rfl false ⟨#[], #[.slice none 0 0, .slice none 0 0], []⟩ 8 (by kernel_rfl) (by kernel_rfl) (by kernel_rfl)
      (x := ([.nil, .nil], [], [])) (by kernel_rfl) rfl (by kernel_rfl)) ?_
  intro W base args ds gs before hval hW _ hk _
  exact contract H enc W base args ds gs before hval hW hk

theorem proved : Rows.DueWalksUptoSaid :=
  OpenClaim.holds_of_cond 4 Try.f4 rfl rfl rfl rfl rfl rfl rfl ⟨rfl, rfl, rfl, rfl, rfl⟩ rfl rfl rfl rfl rfl (by kernel_rfl) Try.func4 (by kernel_rfl)
    (of_decide_eq_true (by kernel_rfl)) (by unfold Func.isWrapper; first | (rw [if_pos (by decide +kernel)]; kernel_rfl) | (rw [if_neg (by decide +kernel)]; exact ⟨rfl, rfl⟩))
    (fun os started H enc _ F => lifted os started H enc F)
end Go.Proofs.Ytabgngdimbflkaa.lawDueWalks
