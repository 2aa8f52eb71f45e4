/-
  What a value has, laid down: texts, lists, sets. Conditions: as stated.
-/
import Derived.Test.YtjofbagaobdmoaaGreatVaB
set_option maxRecDepth 100000
set_option linter.unusedSimpArgs false
set_option linter.unusedVariables false
namespace Go.Proofs.YtjofbagaobdmoaaGreat.VaC
open Go.RowKit Go.Proofs.YtjofbagaobdmoaaGreat.Mem Go.Proofs.YtjofbagaobdmoaaGreat.VaA Go.Proofs.YtjofbagaobdmoaaGreat.VaB

/-- A text behind its length. -/
def putL (s : ByteArray) : List UInt8 := le s.size 4 ++ s.data.toList
theorem putL_len (s : ByteArray) : (putL s).length = 4 + s.size := by simp [putL, le_len]
def encS (l : List ByteArray) : List UInt8 := l.flatMap putL
def encF (l : List (ByteArray × ByteArray)) : List UInt8 := l.flatMap fun f => putL f.1 ++ putL f.2
/-- A number as the machine's word has it. -/
def w64 (n : Int) : Nat := (n % 18446744073709551616).toNat
theorem w64_lt (n : Int) : w64 n < 2 ^ (8 * 8) := by unfold w64; have : (2 : Nat) ^ (8 * 8) = 18446744073709551616 := rfl; omega
def encK (l : List (ByteArray × Int)) : List UInt8 := l.flatMap fun x => le (w64 x.2) 8 ++ putL x.1
def strs (l : List ByteArray) : List Value := l.map .string
def flds (l : List (ByteArray × ByteArray)) : List Value := l.flatMap fun f => [.string f.1, .string f.2]
def rnks (l : List (ByteArray × Int)) : List Value := l.flatMap fun x => [.string x.1, .int .i64 x.2]
abbrev RdS (w : World) (A : Option Addr) (n c : Nat) (l : List ByteArray) : Prop := Rd w 1 A n c (strs l)
abbrev RdF (w : World) (A : Option Addr) (n c : Nat) (l : List (ByteArray × ByteArray)) : Prop := Rd w 2 A n c (flds l)
abbrev RdK (w : World) (A : Option Addr) (n c : Nat) (l : List (ByteArray × Int)) : Prop := Rd w 2 A n c (rnks l)
theorem strs_len (l : List ByteArray) : (strs l).length = l.length := by simp [strs]
theorem two_len {α : Type} (u v : α → Value) (l : List α) : (l.flatMap fun f => [u f, v f]).length = l.length * 2 := by
  induction l with
  | nil => rfl
  | cons x r ih => rw [List.flatMap_cons, List.length_append, ih]; simp; omega
theorem two_get {α : Type} (u v : α → Value) : ∀ (l : List α) (i : Nat) (f : α), l[i]? = some f → (l.flatMap fun f => [u f, v f])[i * 2]? = some (u f) ∧ (l.flatMap fun f => [u f, v f])[i * 2 + 1]? = some (v f)
  | [], i, f, h => by simp at h
  | x :: r, 0, f, h => by simp at h; subst h; simp
  | x :: r, i + 1, f, h => by
    have := two_get u v r i f (by simpa using h)
    rw [List.flatMap_cons, show (i + 1) * 2 = i * 2 + 2 by omega]
    exact this
theorem rds_len {w : World} {A : Option Addr} {n c : Nat} {l : List ByteArray} (h : RdS w A n c l) : l.length = n := by have := h.len; rw [strs_len] at this; omega
theorem rdf_len {w : World} {A : Option Addr} {n c : Nat} {l : List (ByteArray × ByteArray)} (h : RdF w A n c l) : l.length = n := by have := h.len; rw [flds, two_len] at this; omega
theorem rdk_len {w : World} {A : Option Addr} {n c : Nat} {l : List (ByteArray × Int)} (h : RdK w A n c l) : l.length = n := by have := h.len; rw [rnks, two_len] at this; omega
theorem rds_get {w : World} {A : Option Addr} {n c : Nat} {l : List ByteArray} (h : RdS w A n c l) {i : Nat} {s : ByteArray} (hs : l[i]? = some s) : ∃ p, A = some p ∧ w.cell? (p.add i) = some (.string s) := h.get i _ (by simp [strs, hs])
theorem add_one (p : Addr) (j : Nat) : p.add (j + 1) = ⟨(p.add j).block, (p.add j).off + 1, none⟩ ∨ True := .inr trivial
theorem rdf_get {w : World} {A : Option Addr} {n c : Nat} {l : List (ByteArray × ByteArray)} (h : RdF w A n c l) {i : Nat} {f : ByteArray × ByteArray} (hs : l[i]? = some f) :
    ∃ p, A = some p ∧ w.cell? ((p.add (i * 2)).add 0) = some (.string f.1) ∧ w.cell? ((p.add (i * 2)).add 1) = some (.string f.2) := by
  obtain ⟨h1, h2⟩ := two_get (fun f : ByteArray × ByteArray => Value.string f.1) (fun f => Value.string f.2) l i f hs
  obtain ⟨p, rfl, c1⟩ := h.get _ _ h1
  obtain ⟨p', e, c2⟩ := h.get _ _ h2
  injection e with e; subst e
  exact ⟨_, rfl, by rw [add_add]; exact c1, by rw [add_add]; exact c2⟩
theorem rdk_get {w : World} {A : Option Addr} {n c : Nat} {l : List (ByteArray × Int)} (h : RdK w A n c l) {i : Nat} {f : ByteArray × Int} (hs : l[i]? = some f) :
    ∃ p, A = some p ∧ w.cell? ((p.add (i * 2)).add 0) = some (.string f.1) ∧ w.cell? ((p.add (i * 2)).add 1) = some (.int .i64 f.2) := by
  obtain ⟨h1, h2⟩ := two_get (fun f : ByteArray × Int => Value.string f.1) (fun f => Value.int .i64 f.2) l i f hs
  obtain ⟨p, rfl, c1⟩ := h.get _ _ h1
  obtain ⟨p', e, c2⟩ := h.get _ _ h2
  injection e with e; subst e
  exact ⟨_, rfl, by rw [add_add]; exact c1, by rw [add_add]; exact c2⟩
theorem encS_take {l : List ByteArray} {k : Nat} {s : ByteArray} (h : l[k]? = some s) : encS (l.take (k + 1)) = encS (l.take k) ++ putL s := by
  obtain ⟨hk, e⟩ := List.getElem?_eq_some_iff.1 h
  rw [List.take_succ_eq_append_getElem hk, e]; simp [encS]
theorem encF_take {l : List (ByteArray × ByteArray)} {k : Nat} {f : ByteArray × ByteArray} (h : l[k]? = some f) : encF (l.take (k + 1)) = encF (l.take k) ++ (putL f.1 ++ putL f.2) := by
  obtain ⟨hk, e⟩ := List.getElem?_eq_some_iff.1 h
  rw [List.take_succ_eq_append_getElem hk, e]; simp [encF]
theorem encK_take {l : List (ByteArray × Int)} {k : Nat} {f : ByteArray × Int} (h : l[k]? = some f) : encK (l.take (k + 1)) = encK (l.take k) ++ (le (w64 f.2) 8 ++ putL f.1) := by
  obtain ⟨hk, e⟩ := List.getElem?_eq_some_iff.1 h
  rw [List.take_succ_eq_append_getElem hk, e]; simp [encK]
theorem flat_le {α : Type} (f : α → List UInt8) (l : List α) (k : Nat) : ((l.take k).flatMap f).length ≤ (l.flatMap f).length := by
  conv => rhs; rw [← List.take_append_drop k l, List.flatMap_append, List.length_append]
  omega

set_option maxHeartbeats 1000000 in
theorem put_calls (B : Nat) (v : Value) (l : List UInt8) (s : ByteArray) (w : World) (ho : OwnY w B v l) (hB : B ≤ w.heap.size) (hs : s.size ≤ 100000000) (hl : l.length ≤ 10000000000) :
    Calls Tryz.prog 148 #[v, .string s] w fun e w' => ∃ v', e = .returned v' ∧ OwnY w' B v' (l ++ putL s) ∧ Fr B w w' := by
  obtain ⟨A, c, rfl⟩ := own_form ho
  go_enter Tryz.func148, Tryz.ntmps148
  go_wp2_with fail
  refine (number_calls B _ l s.size 4 w ho (by decide) (by decide) (by have : (2 : Nat) ^ (8 * 4) = 4294967296 := rfl; omega) hB (by omega)).mono ?_
  rintro e w1 ⟨v1, rfl, o1, b1⟩
  have hln := le_len s.size 4
  go_wp2_with (at_builtin; refine wpList_appS rfl (.tmp 9) (.tmp 10) rfl B _ _ rfl o1 s rfl (by rw [List.length_append]; omega) (Nat.le_trans hB b1.size) ?_; intro v' w' o' b')
  go_ret
  exact ⟨_, rfl, by rw [putL, ← List.append_assoc]; exact o', b1.trans b'⟩

end Go.Proofs.YtjofbagaobdmoaaGreat.VaC
