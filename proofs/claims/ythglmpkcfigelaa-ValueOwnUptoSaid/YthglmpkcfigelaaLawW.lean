/-
  What a law's frame wants of an argument that is a value: as LawV, its bytes counted too. Conditions: as stated.
-/
import Derived.Test.YthglmpkcfigelaaLawV
set_option maxRecDepth 100000
set_option linter.unusedSimpArgs false
set_option linter.unusedVariables false
namespace Go.Proofs.Ythglmpkcfigelaa.LawW
open Go.RowKit Go.ChangeShapes Go.Proofs.Ythglmpkcfigelaa.Mem Go.Proofs.Ythglmpkcfigelaa.VaA Go.Proofs.Ythglmpkcfigelaa.VaC Go.Proofs.Ythglmpkcfigelaa.VaH Go.Proofs.Ythglmpkcfigelaa.VaI Go.Proofs.Ythglmpkcfigelaa.LawV

theorem wf_range {x : Int} (w : (Lit.int .i64 x).wf = true) : -9223372036854775808 ≤ x ∧ x ≤ 9223372036854775807 := LawV.wf_range w
theorem enc_len (x : VV) (h1 : x.text.size ≤ 7000000) (h2 : (encS x.list).length ≤ 7500000) (h3 : (encF x.flds).length ≤ 7500000) (h4 : (encK x.rank).length ≤ 7500000) : (encV x).length ≤ 8000000 := by
  unfold encV
  split
  · rw [List.length_cons]
    unfold bodyV
    repeat' split
    all_goals (simp only [List.length_append, le_len, putL_len]; omega)
  · simp
/-- What a law's argument that is a value is. -/
structure Arg (W : World) (x : VV) : Prop where
  a : LawV.Arg W x
  e : (encV x).length ≤ 8000000

theorem opened {H : Type} {enc : TypeId × Value → H} {W : World} {held : Bool} {base fuel : Nat} {cs : Array Value} {d : DataW H} {p : List MemPlace}
    (h : DataW.trod enc Try.prog W base (fun _ => true) held fuel 26 cs.toList = some (d, p)) (hb : Rows.uptoBulk d ≤ 1048576) :
    ∃ x : VV, (.agg cs : Value) = x.val ∧ LawW.Arg W x := by
  have hc5 : Try.prog.cellsOf 26 = 5 := by kernel_rfl
  have hc3 : Try.prog.cellsOf 3 = 1 := by kernel_rfl
  have hc9 : Try.prog.cellsOf 9 = 1 := by kernel_rfl
  have hcS : Try.prog.cellsOf 22 = 1 := by kernel_rfl
  have hcF : Try.prog.cellsOf 23 = 1 := by kernel_rfl
  have hcK : Try.prog.cellsOf 24 = 1 := by kernel_rfl
  obtain ⟨xs, n, _, hd, hl, hlen, hf⟩ := DataW.trod_struct Try.underlying26 h
  rw [hc5] at hl
  obtain ⟨cs⟩ := cs
  match cs, hl, xs, hlen, hd, hf with
  | [c0, c1, c2, c3, c4], _, [y0, y1, y2, y3, y4], _, hd, hf =>
    injection hd with hd1 hd2
    subst hd1
    have f0 := hf 0 _ rfl
    have f1 := hf 1 _ rfl
    have f2 := hf 2 _ rfl
    have f3 := hf 3 _ rfl
    have f4 := hf 4 _ rfl
    simp [hc3, hc9, hcS, hcF, hcK] at f0 f1 f2 f3 f4
    obtain ⟨z0, e0, rfl, w0⟩ := DataW.trod_int Try.underlying3 f0
    obtain ⟨s1, e1, rfl, w1⟩ := DataW.trod_string Try.underlying9 f1
    simp at e0 e1
    subst e0 e1
    have hs : ∀ (t e : TypeId) (c : Value) (y : DataW H × List MemPlace), Try.prog.underlying t = some (.slice e) → DataW.trod enc Try.prog W base (fun _ => true) held n t [c] = some y → ∃ A l k, c = .slice A l k := by
      intro t e c y ht h
      rcases DataW.trod_slice ht h with ⟨hc, _⟩ | ⟨a, len, cap, _, _, _, _, hc, _⟩
      · simp at hc; exact ⟨none, 0, 0, hc⟩
      · simp at hc; exact ⟨some a, len, cap, hc⟩
    obtain ⟨A2, l2, k2, rfl⟩ := hs _ _ _ _ Try.underlying22 f2
    obtain ⟨A3, l3, k3, rfl⟩ := hs _ _ _ _ Try.underlying23 f3
    obtain ⟨A4, l4, k4, rfl⟩ := hs _ _ _ _ Try.underlying24 f4
    obtain ⟨L, rL, bL, nL, -⟩ := opened_row (fun x : ByteArray => [Value.string x]) 1 (fun x => x.size + 1) (fun x => x.size ≤ maxLen) (fun _ => rfl) Try.underlying22 hc9 one_s (d := y2.1) (p := y2.2) f2
    obtain ⟨F, rF, bF, nF, -⟩ := opened_row (fun x : ByteArray × ByteArray => [Value.string x.1, Value.string x.2]) 2 (fun x => x.1.size + x.2.size + 2) (fun x => x.1.size ≤ maxLen) (fun _ => rfl) Try.underlying23 (by kernel_rfl) one_f (d := y3.1) (p := y3.2) f3
    obtain ⟨K, rK, bK, nK, oK⟩ := opened_row (fun x : ByteArray × Int => [Value.string x.1, Value.int .i64 x.2]) 2 (fun x => x.1.size + 2) (fun x => x.1.size ≤ maxLen ∧ -9223372036854775808 ≤ x.2 ∧ x.2 ≤ 9223372036854775807) (fun _ => rfl) Try.underlying24 (by kernel_rfl) one_k (d := y4.1) (p := y4.2) f4
    rw [flat_s] at rL
    have h1 := bulk_s (H := H) s1
    simp only [List.map_cons, List.map_nil] at hb
    rw [Rows.uptoBulk] at hb
    simp only [Rows.uptoBulkAll] at hb
    have hS := sum_S L
    have hF := sum_F F
    have hK := sum_K K
    refine ⟨⟨z0, s1, A2, l2, k2, L, A3, l3, k3, F, A4, l4, k4, K⟩, rfl, ⟨⟨rL, rF, rK⟩, ⟨?_, ?_, ?_, ?_, ?_, ?_, ?_, fun y hy => (oK y hy).1⟩, wf_range w0, ?_, fun y hy => (oK y hy).2⟩, enc_len _ ?_ ?_ ?_ ?_⟩
    all_goals (dsimp only; omega)
end Go.Proofs.Ythglmpkcfigelaa.LawW
