/-
  table.Check. Conditions: as stated.
-/
import Derived.Test.YtiffdkagmnpjiaaTbL
set_option maxRecDepth 100000
set_option linter.unusedSimpArgs false
set_option linter.unusedVariables false
namespace Go.Proofs.Ytiffdkagmnpjiaa.TbN
open Go.RowKit Go.Proofs.Ytiffdkagmnpjiaa.Mem Go.Proofs.Ytiffdkagmnpjiaa.TbA Go.Proofs.Ytiffdkagmnpjiaa.TbB Go.Proofs.Ytiffdkagmnpjiaa.Bytes Go.Proofs.Ytiffdkagmnpjiaa.TbI Go.Proofs.Ytiffdkagmnpjiaa.TbL

abbrev strs (l : List ByteArray) : List Value := l.map .string
abbrev RdS (w : World) (A : Option Addr) (n c : Nat) (l : List ByteArray) : Prop := Rd w 1 A n c (strs l)
def shownD (s : ByteArray) : ByteArray := ⟨((s.data.toList.take 32).map shB).toArray⟩
def unkn : ByteArray := ⟨#[69, 82, 82, 32, 117, 110, 107, 110, 111, 119, 110, 32, 99, 111, 109, 109, 97, 110, 100, 32]⟩
set_option maxHeartbeats 2000000 in
theorem check_none (A : Option Addr) (c : Nat) (w : World) :
    Calls Try.prog 15 #[.slice A 0 c] w fun e w' => e = .returned (.string unkn) ∧ w' = w := by
  go_enter Try.func15, Try.ntmps15
  go_wp2_with fail
  go_ret
  exact ⟨rfl, rfl⟩
def ariP : ByteArray := ⟨#[69, 82, 82, 32, 119, 114, 111, 110, 103, 32, 110, 117, 109, 98, 101, 114, 32, 111, 102, 32, 97, 114, 103, 117, 109, 101, 110, 116, 115, 58, 32]⟩
def bad (n : Nat) (a : Int) : Bool := decide (a ≥ 0 ∧ (n : Int) ≠ a ∨ a < 0 ∧ (n : Int) < -a)
def checkD (l : List ByteArray) : ByteArray := match l with
  | [] => unkn
  | s :: _ => match findD s with
    | none => unkn ++ shownD s
    | some r => if bad l.length r.ar then ariP ++ r.name else ⟨#[]⟩
theorem shown_size (s : ByteArray) : (shownD s).size ≤ 32 := by
  show ((s.data.toList.take 32).map shB).toArray.size ≤ 32
  simp; omega
set_option maxHeartbeats 2000000 in
theorem check_unknown (A : Option Addr) (n c : Nat) (s : ByteArray) (l : List ByteArray) (w : World) (hr : RdS w A n c (s :: l)) (hs : s.size ≤ 281474976710656) (hf : findD s = none) :
    Calls Try.prog 15 #[.slice A n c] w fun e w' => e = .returned (.string (checkD (s :: l))) ∧ Below w.heap.size w w' := by
  obtain ⟨p, rfl, x0⟩ := hr.get 0 (.string s) rfl
  rw [show p.add 0 = p from rfl] at x0
  have hn : n = l.length + 1 := by have := hr.len; simp [strs] at this; omega
  have Hr := Lib.hid hr
  have hfind : Hid (∀ W, Calls Try.prog 8 #[.string s] W fun e w' => e = .returned (.tuple #[.agg #[.string ⟨#[]⟩, .int .i64 0, .bool false, .bool false, .int .i64 0, .int .i64 0, .int .i64 0], .bool false]) ∧ Below W.heap.size W w') := fun W => by have := find_calls s W hs; rw [hf] at this; exact this
  clear hr
  go_enter Try.func15, Try.ntmps15
  go_wp2_with fail
  refine (hfind.out _).mono ?_
  rintro e w1 ⟨rfl, b1⟩
  have x1 : (w1.alloc (.cells #[.string ⟨#[]⟩, .int .i64 0, .bool false, .bool false, .int .i64 0, .int .i64 0, .int .i64 0] 23)).cell? p = some (.string s) := by
    have h := (Hr.out.below b1).below (al w1 (.cells #[.string ⟨#[]⟩, .int .i64 0, .bool false, .bool false, .int .i64 0, .int .i64 0, .int .i64 0] 23))
    obtain ⟨q, e, h2⟩ := h.get 0 (.string s) rfl
    injection e with e; subst e; exact h2
  clear Hr hfind
  go_wp2_with fail
  have hsh : ∀ W, Calls Try.prog 33 #[.string s] W fun e w' => e = .returned (.string (shownD s)) ∧ Below W.heap.size W w' := fun W => shown_calls s W hs
  refine (hsh _).mono ?_
  rintro e w2 ⟨rfl, b2⟩
  have B2 : Below w.heap.size w w2 := (b1.alloc b1.size _).trans (b2.mono (b1.alloc b1.size _).size)
  have hc : checkD (s :: l) = unkn ++ shownD s := by unfold checkD; simp only [hf]
  have Hc := Lib.hid hc
  have hss := shown_size s
  clear hc
  go_wp2_with fail
  go_ret
  exact ⟨by rw [Hc.out]; rfl, B2⟩
end Go.Proofs.Ytiffdkagmnpjiaa.TbN
