/-
  Check as a whole; Keys. Conditions: as stated.
-/
import Derived.Test.YtiffdkagmnpjiaaTbQ
set_option maxRecDepth 100000
set_option linter.unusedSimpArgs false
set_option linter.unusedVariables false
namespace Go.Proofs.Ytiffdkagmnpjiaa.TbR
open Go.RowKit Go.Proofs.Ytiffdkagmnpjiaa.Mem Go.Proofs.Ytiffdkagmnpjiaa.TbA Go.Proofs.Ytiffdkagmnpjiaa.TbB Go.Proofs.Ytiffdkagmnpjiaa.Bytes Go.Proofs.Ytiffdkagmnpjiaa.TbI Go.Proofs.Ytiffdkagmnpjiaa.TbJ Go.Proofs.Ytiffdkagmnpjiaa.TbL Go.Proofs.Ytiffdkagmnpjiaa.TbN Go.Proofs.Ytiffdkagmnpjiaa.TbO Go.Proofs.Ytiffdkagmnpjiaa.TbP Go.Proofs.Ytiffdkagmnpjiaa.TbQ

def Small (l : List ByteArray) : Prop := l.length ≤ 100000000 ∧ ∀ s ∈ l, s.size ≤ 281474976710656
theorem check_calls (A : Option Addr) (n c : Nat) (l : List ByteArray) (w : World) (hr : RdS w A n c l) (hs : Small l) :
    Calls Try.prog 15 #[.slice A n c] w fun e w' => e = .returned (.string (checkD l)) ∧ Below w.heap.size w w' := by
  match l, hr, hs with
  | [], hr, hs =>
    obtain rfl : n = 0 := by have := hr.len; simp [strs] at this; omega
    refine (check_none A c w).mono ?_
    rintro e w' ⟨rfl, rfl⟩
    exact ⟨rfl, Below.refl _ _⟩
  | s :: l, hr, hs =>
    have h1 := hs.2 s (by simp)
    rcases hf : findD s with _ | x
    · exact check_unknown A n c s l w hr h1 hf
    · exact check_known A n c s l x w hr h1 hf
theorem checkR_calls (A : Option Addr) (n c : Nat) (l : List ByteArray) (w : World) (hr : RdS w A n c l) (hs : Small l) :
    Calls Try.prog 16 #[.slice A n c] w fun e w' => e = .returned (.string (checkD l)) ∧ Below w.heap.size w w' := by
  match l, hr, hs with
  | [], hr, hs =>
    obtain rfl : n = 0 := by have := hr.len; simp [strs] at this; omega
    refine (checkR_unknown A 0 c ⟨#[]⟩ [] w (.inl ⟨rfl, rfl⟩) (by decide) find_empty).mono ?_
    rintro e w' ⟨rfl, h⟩
    exact ⟨rfl, h⟩
  | s :: l, hr, hs =>
    have h1 := hs.2 s (by simp)
    rcases hf : findD s with _ | x
    · refine (checkR_unknown A n c s l w (.inr hr) h1 hf).mono ?_
      rintro e w' ⟨rfl, h⟩
      exact ⟨by unfold checkD; simp only [hf], h⟩
    · exact checkR_known A n c s l x w hr h1 hf

def keysFrom (l : List ByteArray) (last st : Int) : Nat → Int → List ByteArray
  | 0, _ => []
  | f + 1, i => if i ≤ last ∧ i < l.length then l.getD i.toNat ⟨#[]⟩ :: keysFrom l last st f (i + st) else []
def lastD (l : List ByteArray) (r : Sp) : Int := if r.la < 0 then r.la + l.length else r.la
def keysD (l : List ByteArray) : List ByteArray := if checkD l = ⟨#[]⟩ then (match findD (l.headD ⟨#[]⟩) with
  | none => []
  | some r => if r.fi = 0 then [] else keysFrom l (lastD l r) r.st l.length r.fi) else []
theorem rowsL_keys : (rowsL.all fun r => decide (-1 ≤ r.la ∧ r.la ≤ 2 ∧ (r.fi = 0 ∨ 1 ≤ r.fi ∧ r.fi ≤ 2 ∧ 1 ≤ r.st ∧ r.st ≤ 2))) = true := by kernel_rfl
theorem find_keys {s : ByteArray} {r : Sp} (h : findD s = some r) : -1 ≤ r.la ∧ r.la ≤ 2 ∧ (r.fi = 0 ∨ 1 ≤ r.fi ∧ r.fi ≤ 2 ∧ 1 ≤ r.st ∧ r.st ≤ 2) := by
  have hm := List.mem_of_find?_eq_some h
  simpa using List.all_eq_true.1 rowsL_keys r hm
end Go.Proofs.Ytiffdkagmnpjiaa.TbR
