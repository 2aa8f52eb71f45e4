/-
  What a law's frame wants of an argument that is a slice of integers: it reads as a list, within the form's own reach. Conditions: none.
-/
import Derived.Test.YtadjgbhbeamdbaaDqA
import Derived.ChangeOld
import Derived.ChangeSlices
import Derived.SizedLaws
set_option linter.unusedSimpArgs false
set_option linter.unusedVariables false
namespace Go.Proofs.Ytadjgbhbeamdbaa.LawI
open Go.RowKit Go.ChangeShapes Go.Proofs.Ytadjgbhbeamdbaa.Mem Go.Proofs.Ytadjgbhbeamdbaa.DqA

theorem ints_map (zs : List Int) (n : Nat) (j : Nat) (x : Value) (h : (ints (zs.take n))[j]? = some x) : j < zs.length ∧ x = .int .i64 (zs.getD j 0) := by
  unfold ints at h
  rw [List.getElem?_map, Option.map_eq_some_iff] at h
  obtain ⟨y, hy, rfl⟩ := h
  rw [List.getElem?_take] at hy
  split at hy
  · obtain ⟨h1, h2⟩ := List.getElem?_eq_some_iff.1 hy
    exact ⟨h1, by rw [List.getD_eq_getElem?_getD, hy]; rfl⟩
  · cases hy

theorem opened {H : Type} {enc : TypeId × Value → H} {P : Program} {W : World} {held : Bool} {t e : TypeId} {fuel : Nat} {base : Nat} {a : Option Addr} {len cap : Nat} {d : DataW H} {p : List MemPlace}
    (ht : P.underlying t = some (.slice e)) (he : P.underlying e = some (.int .i64)) (hc : P.cellsOf e = 1)
    (h : DataW.trod enc P W base (fun _ => true) held fuel t (Value.slice a len cap).cells.toList = some (d, p)) :
    ∃ l, RdI W a len cap l ∧ (len = 0 ∨ ∃ el sp, d = .slice el sp ∧ el.length + sp.length = cap) := by
  rcases open_ints ht he hc h with ⟨hcs, _⟩ | ⟨x, l, c, zs, hcs, _, hl, hm, hz, hd, hcell, hwz⟩
  · simp [Value.cells] at hcs
    obtain ⟨rfl, rfl, rfl⟩ := hcs
    exact ⟨[], Rd.nil _ _, .inl rfl⟩
  · simp [Value.cells] at hcs
    obtain ⟨rfl, rfl, rfl⟩ := hcs
    have hz' : zs.length = cap := by simpa using hz
    refine ⟨zs.take len, ⟨by simp [ints, hz']; omega, hl, hm, fun j x hx => ?_⟩, .inr ?_⟩
    · obtain ⟨h1, rfl⟩ := ints_map _ _ _ _ hx
      exact ⟨_, rfl, hcell j h1⟩
    · injection hd with h1 h2
      subst h1
      exact ⟨_, _, rfl, by simp [lits, hz']; omega⟩

theorem reach44 {n : Nat} (h : n * 8 ≤ reachBytes) : n < 17592186044416 := by
  have := reachBytes_lt
  have e : (2 : Nat) ^ 47 = 140737488355328 := by decide
  omega

theorem wf_range {x : Int} (w : (Lit.int .i64 x).wf = true) : -9223372036854775808 ≤ x ∧ x ≤ 9223372036854775807 := by
  have hmin : IntKind.i64.min = -9223372036854775808 := rfl
  have hmax : IntKind.i64.max = 9223372036854775807 := rfl
  simp only [Lit.wf, Bool.and_eq_true, decide_eq_true_eq] at w; omega
end Go.Proofs.Ytadjgbhbeamdbaa.LawI
