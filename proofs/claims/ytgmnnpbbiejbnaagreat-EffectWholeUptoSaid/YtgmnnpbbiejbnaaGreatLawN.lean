/-
  What a law's frame wants of an argument that is a row of entries. Conditions: as stated.
-/
import Derived.Test.YtgmnnpbbiejbnaaGreatLawR
set_option maxRecDepth 100000
set_option linter.unusedSimpArgs false
set_option linter.unusedVariables false
namespace Go.Proofs.YtgmnnpbbiejbnaaGreat.LawS
open Go.RowKit Go.ChangeShapes Go.Proofs.YtgmnnpbbiejbnaaGreat.Mem Go.Proofs.YtgmnnpbbiejbnaaGreat.VaC Go.Proofs.YtgmnnpbbiejbnaaGreat.VaH Go.Proofs.YtgmnnpbbiejbnaaGreat.VaI Go.Proofs.YtgmnnpbbiejbnaaGreat.LawV Go.Proofs.YtgmnnpbbiejbnaaGreat.SpC Go.Proofs.YtgmnnpbbiejbnaaGreat.SpD Go.Proofs.YtgmnnpbbiejbnaaGreat.SpO

instance : Inhabited EN := ⟨⟨⟨#[]⟩, vv0, 0, 0⟩⟩
def wtN (e : EN) : Nat := e.key.size + 1 + (encV e.x).length / 8
structure okN (W : World) (e : EN) : Prop where
  rd : RdV W e.x
  sm : Sm e.x
  key : e.key.size ≤ 1048576
  due : -9223372036854775808 ≤ e.due ∧ e.due ≤ 9223372036854775807
section
variable {H : Type} {enc : TypeId × Value → H} {W : World} {held : Bool} {base fuel : Nat}
theorem one_en (n : Nat) (cs : List Value) (y : DataW H × List MemPlace) (h : DataW.trod enc Tryz.prog W base (fun _ => true) held n 92 cs = some y) (hB : Rows.uptoBulk y.1 ≤ 1048576) :
    ∃ o : EN, cs = o.cells ∧ wtN o ≤ Rows.uptoBulk y.1 ∧ okN W o := by
  have hc : Tryz.prog.cellsOf 92 = 8 := by kernel_rfl
  have hc3 : Tryz.prog.cellsOf 3 = 1 := by kernel_rfl
  have hc9 : Tryz.prog.cellsOf 9 = 1 := by kernel_rfl
  have hcU : Tryz.prog.cellsOf 58 = 1 := by kernel_rfl
  have hcV : Tryz.prog.cellsOf 42 = 5 := by kernel_rfl
  obtain ⟨xs, n, _, rfl, hl, hlen, hf⟩ := DataW.trod_struct Tryz.underlying92 h
  rw [hc] at hl
  match cs, hl, xs, hlen with
  | [c0, c1, c2, c3, c4, c5, c6, c7], _, [y0, y1, y2, y3], _ =>
    have f0 := hf 0 _ rfl
    have f1 := hf 1 _ rfl
    have f2 := hf 2 _ rfl
    have f3 := hf 3 _ rfl
    simp [hc3, hc9, hcU, hcV] at f0 f1 f2 f3
    obtain ⟨s0, e0, rfl, w0⟩ := DataW.trod_string Tryz.underlying9 f0
    obtain ⟨z2, e2, rfl, w2⟩ := DataW.trod_int Tryz.underlying3 f2
    obtain ⟨z3, e3, rfl, w3⟩ := DataW.trod_int Tryz.underlying58 f3
    simp at e0 e2 e3
    subst e0 e2 e3
    have hz3 : 0 ≤ z3 := by
      have hmin : IntKind.u64.min = 0 := rfl
      simp only [Lit.wf, Bool.and_eq_true, decide_eq_true_eq] at w3; omega
    obtain ⟨v, rfl⟩ : ∃ v : Nat, z3 = (v : Int) := ⟨z3.toNat, by omega⟩
    simp only [List.map_cons, List.map_nil] at hB ⊢
    rw [Rows.uptoBulk] at hB ⊢
    simp only [Rows.uptoBulkAll] at hB ⊢
    have h1 := bulk_s (H := H) s0
    obtain ⟨x, hx, ha, he⟩ := openedV (cs := #[c1, c2, c3, c4, c5]) (d := y1.1) (p := y1.2) f1 (by omega)
    have hx' : [c1, c2, c3, c4, c5] = [.int .i64 x.kind, .string x.text, .slice x.LA x.ln x.lc, .slice x.FA x.fn x.fc, .slice x.KA x.kn x.kc] := congrArg Array.toList hx
    injection hx' with q2 hx'; injection hx' with q3 hx'; injection hx' with q4 hx'; injection hx' with q5 hx'; injection hx' with q6 hx'
    subst q2 q3 q4 q5 q6
    refine ⟨⟨s0, x, z2, v⟩, rfl, ?_, ha.rd, ha.sm, by dsimp only; omega, wf_range w2⟩
    unfold wtN
    dsimp only
    omega
end
end Go.Proofs.YtgmnnpbbiejbnaaGreat.LawS
