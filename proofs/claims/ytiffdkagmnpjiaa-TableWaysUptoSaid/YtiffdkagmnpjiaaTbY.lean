/-
  Plain law for TableWays: a row's name in other letters; what Check and Keys tell of a row's request. Conditions: as stated.
-/
import Derived.Test.YtiffdkagmnpjiaaTbX
set_option maxRecDepth 100000
set_option linter.unusedSimpArgs false
set_option linter.unusedVariables false
namespace Go.Proofs.Ytiffdkagmnpjiaa.TbY
open Go.RowKit Go.Proofs.Ytiffdkagmnpjiaa.Mem Go.Proofs.Ytiffdkagmnpjiaa.TbA Go.Proofs.Ytiffdkagmnpjiaa.TbB Go.Proofs.Ytiffdkagmnpjiaa.Bytes Go.Proofs.Ytiffdkagmnpjiaa.TbI Go.Proofs.Ytiffdkagmnpjiaa.TbN Go.Proofs.Ytiffdkagmnpjiaa.TbO Go.Proofs.Ytiffdkagmnpjiaa.TbR Go.Proofs.Ytiffdkagmnpjiaa.TbS

def upB (i : Nat) (x : UInt8) : UInt8 := if i % 2 = 0 then x - 32 else x
def upTo (l : List UInt8) (j : Nat) : List UInt8 := l.mapIdx fun i x => if i < j then upB i x else x
def upL (l : List UInt8) : List UInt8 := l.mapIdx upB
theorem upTo_len (l : List UInt8) (j : Nat) : (upTo l j).length = l.length := by simp [upTo]
theorem upTo_zero (l : List UInt8) : upTo l 0 = l := by
  apply List.ext_getElem?
  intro i
  simp [upTo]
theorem upTo_get {l : List UInt8} {j : Nat} {x : UInt8} (h : l[j]? = some x) : (upTo l j)[j]? = some x := by
  simp [upTo, h]
theorem upTo_set {l : List UInt8} {j : Nat} {x : UInt8} (he : j % 2 = 0) (h : l[j]? = some x) : (upTo l j).set j (x - 32) = upTo l (j + 2) := by
  apply List.ext_getElem?
  intro i
  obtain ⟨hj, _⟩ := List.getElem?_eq_some_iff.1 h
  by_cases hij : j = i
  · subst hij
    rw [List.getElem?_set_self (by rw [upTo_len]; exact hj)]
    simp [upTo, h, upB, he]
  · rw [List.getElem?_set_ne hij]
    simp only [upTo, List.getElem?_mapIdx]
    rcases l[i]? with _ | y
    · rfl
    · simp only [Option.map_some]
      by_cases h1 : i < j
      · rw [if_pos h1, if_pos (by omega)]
      · rw [if_neg h1]
        by_cases h2 : i < j + 2
        · rw [if_pos h2]
          unfold upB
          rw [if_neg (by omega)]
        · rw [if_neg h2]
theorem upTo_all {l : List UInt8} {j : Nat} (h : l.length ≤ j) : upTo l j = upL l := by
  apply List.ext_getElem?
  intro i
  simp only [upTo, upL, List.getElem?_mapIdx]
  rcases hl : l[i]? with _ | y
  · rfl
  · have := (List.getElem?_eq_some_iff.1 hl).1
    simp only [Option.map_some]
    rw [if_pos (by omega)]
def spEq (q r : Sp) : Bool := q.name.toList == r.name.toList && q.ar == r.ar && q.wr == r.wr && q.ct == r.ct && q.fi == r.fi && q.la == r.la && q.st == r.st
theorem spEq_eq {q r : Sp} (h : spEq q r = true) : q = r := by
  obtain ⟨a, b, c, d, e, f, g⟩ := q
  obtain ⟨a', b', c', d', e', f', g'⟩ := r
  simp [spEq] at h
  obtain ⟨⟨⟨⟨⟨⟨h1, h2⟩, h3⟩, h4⟩, h5⟩, h6⟩, h7⟩ := h
  obtain rfl := toL_inj h1
  subst h2 h3 h4 h5 h6 h7
  rfl
theorem rows_self : (rowsL.all fun r => match findD r.name with | some q => spEq q r | none => false) = true := by kernel_rfl
theorem rows_letters : (rowsL.all fun r => r.name.data.toList.all fun x => decide (97 ≤ x.toNat ∧ x.toNat ≤ 122)) = true := by kernel_rfl
theorem rows_up : (rowsL.all fun r => lowL (upL r.name.data.toList) == r.name.data.toList) = true := by kernel_rfl
theorem rows_low : (rowsL.all fun r => lowL r.name.data.toList == r.name.data.toList) = true := by kernel_rfl
theorem rows_keys : (rowsL.all fun r => decide (1 ≤ r.ar.natAbs ∧ r.ar.natAbs ≤ 5 ∧ (r.fi = 0 ∨ 1 ≤ r.fi ∧ r.fi < r.ar.natAbs ∧ r.fi ≤ (if r.la < 0 then r.la + r.ar.natAbs else r.la) ∧ 1 ≤ r.st ∧ r.st ≤ 2))) = true := by kernel_rfl
section
variable {r : Sp} (hm : r ∈ rowsL)
include hm
theorem find_self : findD r.name = some r := by
  have := List.all_eq_true.1 rows_self r hm
  split at this
  · rename_i q hq; rw [hq, spEq_eq this]
  · cases this
theorem letters {x : UInt8} (hx : x ∈ r.name.data.toList) : 97 ≤ x.toNat ∧ x.toNat ≤ 122 := by
  have := List.all_eq_true.1 rows_letters r hm
  simpa using List.all_eq_true.1 this x hx
theorem low_up : lowL (upL r.name.data.toList) = r.name.data.toList := by
  have := List.all_eq_true.1 rows_up r hm
  exact eq_of_beq this
theorem low_self : lowL r.name.data.toList = r.name.data.toList := by
  have := List.all_eq_true.1 rows_low r hm
  exact eq_of_beq this
theorem row_keys : 1 ≤ r.ar.natAbs ∧ r.ar.natAbs ≤ 5 ∧ (r.fi = 0 ∨ 1 ≤ r.fi ∧ r.fi < r.ar.natAbs ∧ r.fi ≤ (if r.la < 0 then r.la + r.ar.natAbs else r.la) ∧ 1 ≤ r.st ∧ r.st ≤ 2) := by
  simpa using List.all_eq_true.1 rows_keys r hm
theorem find_up : findD ⟨(upL r.name.data.toList).toArray⟩ = some r := by
  have e : low ⟨(upL r.name.data.toList).toArray⟩ = low r.name := by
    show (⟨(lowL (upL r.name.data.toList)).toArray⟩ : ByteArray) = ⟨(lowL r.name.data.toList).toArray⟩
    rw [low_up hm, low_self hm]
  rw [← find_self hm]
  unfold findD
  rw [e]
theorem lower_up : (⟨(lowL (upL r.name.data.toList)).toArray⟩ : ByteArray) = r.name := by
  rw [low_up hm]
end
theorem check_of {s : ByteArray} {l : List ByteArray} {r : Sp} (hf : findD s = some r) : checkD (s :: l) = if bad (l.length + 1) r.ar then ariP ++ r.name else ⟨#[]⟩ := by
  unfold checkD; simp only [hf]; rfl
theorem check_ok {s : ByteArray} {l : List ByteArray} {r : Sp} (hf : findD s = some r) (hl : l.length + 1 = r.ar.natAbs) : checkD (s :: l) = ⟨#[]⟩ := by
  rw [check_of hf, if_neg]
  simp [bad]; omega
theorem check_less {s : ByteArray} {l : List ByteArray} {r : Sp} (hf : findD s = some r) (hl : l.length + 2 = r.ar.natAbs) : checkD (s :: l) = ariP ++ r.name := by
  rw [check_of hf, if_pos]
  simp [bad]; omega
theorem ari_ne (s : ByteArray) : ariP ++ s ≠ ⟨#[]⟩ := by
  intro h
  have := congrArg ByteArray.size h
  rw [ByteArray.size_append] at this
  have h2 : ariP.size = 31 := rfl
  have h3 : (⟨#[]⟩ : ByteArray).size = 0 := rfl
  omega
theorem keys_less {s : ByteArray} {l : List ByteArray} {r : Sp} (hf : findD s = some r) (hl : l.length + 2 = r.ar.natAbs) : keysD (s :: l) = [] := by
  unfold keysD
  rw [if_neg (by rw [check_less hf hl]; exact ari_ne _)]
theorem from_eq {s t : ByteArray} {l : List ByteArray} {last st : Int} (hst : 1 ≤ st) : ∀ (f : Nat) (i : Int), 1 ≤ i → keysFrom (s :: l) last st f i = keysFrom (t :: l) last st f i := by
  intro f
  induction f with
  | zero => intros; rfl
  | succ f ih =>
    intro i hi
    show (if _ then _ else _) = (if _ then _ else _)
    rw [ih (i + st) (by omega)]
    obtain ⟨k, hk⟩ : ∃ k : Nat, i.toNat = k + 1 := ⟨i.toNat - 1, by omega⟩
    simp only [hk, List.getD_cons_succ, List.length_cons]
theorem from_mem {s : ByteArray} {l : List ByteArray} {last st : Int} (hst : 1 ≤ st) : ∀ (f : Nat) (i : Int), 1 ≤ i → ∀ k ∈ keysFrom (s :: l) last st f i, k ∈ l := by
  intro f
  induction f with
  | zero => intro i hi k hk; cases hk
  | succ f ih =>
    intro i hi k hk
    change k ∈ (if _ then _ else _) at hk
    split at hk
    · rename_i h
      rcases List.mem_cons.1 hk with rfl | hk
      · obtain ⟨j, hj⟩ : ∃ j : Nat, i.toNat = j + 1 := ⟨i.toNat - 1, by omega⟩
        have h2 := h.2
        rw [List.length_cons] at h2
        rw [hj, List.getD_cons_succ]
        have hjl : j < l.length := by omega
        rw [List.getD_eq_getElem?_getD, List.getElem?_eq_getElem hjl]
        exact List.getElem_mem hjl
      · exact ih (i + st) (by omega) k hk
    · cases hk
theorem keys_of {r : Sp} {s : ByteArray} {l : List ByteArray} (hf : findD s = some r) (hl : l.length + 1 = r.ar.natAbs) : keysD (s :: l) = if r.fi = 0 then [] else keysFrom (s :: l) (lastD (s :: l) r) r.st (s :: l).length r.fi := keys_first (check_ok hf hl) hf
section
variable {r : Sp} (hm : r ∈ rowsL) {s : ByteArray} {l : List ByteArray} (hf : findD s = some r) (hl : l.length + 1 = r.ar.natAbs)
include hm hf hl
theorem keys_mem : ∀ k ∈ keysD (s :: l), k ∈ l := by
  rw [keys_of hf hl]
  obtain ⟨_, _, h⟩ := row_keys hm
  split
  · intro k hk; cases hk
  · rcases h with h | h
    · contradiction
    · exact from_mem h.2.2.2.1 _ _ h.1
theorem keys_pos : (0 < (keysD (s :: l)).length) ↔ 0 < r.fi := by
  rw [keys_of hf hl]
  obtain ⟨h1, h2, h⟩ := row_keys hm
  split
  · rename_i h0; rw [h0]; simp
  · rcases h with h | ⟨ha, hb, hc, hd, he⟩
    · contradiction
    · have e : ∃ f, (s :: l).length = f + 1 := ⟨l.length, rfl⟩
      obtain ⟨f, hf'⟩ := e
      rw [hf']
      have : keysFrom (s :: l) (lastD (s :: l) r) r.st (f + 1) r.fi = (s :: l).getD r.fi.toNat ⟨#[]⟩ :: keysFrom (s :: l) (lastD (s :: l) r) r.st f (r.fi + r.st) := by
        show (if _ then _ else _) = _
        rw [if_pos]
        have hlen : (s :: l).length = r.ar.natAbs := hl
        refine ⟨?_, by omega⟩
        unfold lastD
        rw [hlen]
        exact hc
      rw [this]
      simp
      omega
theorem keys_same {t : ByteArray} (hg : findD t = some r) : keysD (t :: l) = keysD (s :: l) := by
  rw [keys_of hf hl, keys_of hg hl]
  obtain ⟨_, _, h⟩ := row_keys hm
  split
  · rfl
  · rcases h with h | h
    · contradiction
    · exact from_eq h.2.2.2.1 _ _ h.1
end
/-- The request: the row's name and k words. -/
def argsD (name : ByteArray) (words : List ByteArray) (k : Nat) : List ByteArray := name :: (List.range k).map fun i => words.getD i ⟨#[119]⟩
theorem args_len (name : ByteArray) (words : List ByteArray) (k : Nat) : (argsD name words k).length = k + 1 := by simp [argsD]
theorem args_succ (name : ByteArray) (words : List ByteArray) (k : Nat) : argsD name words (k + 1) = argsD name words k ++ [words.getD k ⟨#[119]⟩] := by simp [argsD, List.range_succ]
end Go.Proofs.Ytiffdkagmnpjiaa.TbY
