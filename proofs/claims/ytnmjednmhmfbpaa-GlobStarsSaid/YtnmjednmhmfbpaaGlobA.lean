/- Plain facts on patterns. -/
import Derived.WalkKit
namespace Go.Proofs.Ytnmjednmhmfbpaa.GlobA

/-- The items of a class: what is left behind it, and whether the byte is named. -/
def cls (c : UInt8) : List UInt8 → Bool → List UInt8 × Bool
  | [], nm => ([], nm)
  | [a], nm => if a = 93 then ([], nm) else ([], nm || a == c)
  | [a, b], nm => if a = 92 then ([], nm || b == c) else if a = 93 then ([b], nm) else cls c [b] (nm || a == c)
  | a :: b :: d :: r, nm => if a = 92 then cls c (d :: r) (nm || b == c) else if a = 93 then (b :: d :: r, nm)
      else if b = 45 then cls c r (nm || (min a d ≤ c && c ≤ max a d)) else cls c (b :: d :: r) (nm || a == c)

section
variable {l : List UInt8} {c a b d : UInt8} {k : Nat} {nm : Bool}
theorem drop1 (h : l[k]? = some a) : l.drop k = a :: l.drop (k + 1) := by
  obtain ⟨hk, e⟩ := List.getElem?_eq_some_iff.1 h
  rw [List.drop_eq_getElem_cons hk, e]
theorem drop0 (h : l.length ≤ k) : l.drop k = [] := List.drop_eq_nil_of_le h

theorem cls_end (h : l.length ≤ k) : cls c (l.drop k) nm = (l.drop k, nm) := by rw [drop0 h]; rfl
theorem cls_esc (h : l[k]? = some 92) (h1 : l[k + 1]? = some b) : cls c (l.drop k) nm = cls c (l.drop (k + 2)) (nm || b == c) := by
  rw [drop1 h, drop1 h1]
  rcases hr : l.drop (k + 1 + 1) with _ | ⟨d, r⟩ <;> simp [cls]
theorem cls_shut (h : l[k]? = some 93) : cls c (l.drop k) nm = (l.drop (k + 1), nm) := by
  rw [drop1 h]
  rcases hr : l.drop (k + 1) with _ | ⟨b, _ | ⟨d, r⟩⟩ <;> simp [cls]
theorem cls_range (h : l[k]? = some a) (h1 : l[k + 1]? = some 45) (h2 : l[k + 2]? = some d) (n1 : a ≠ 92) (n2 : a ≠ 93) :
    cls c (l.drop k) nm = cls c (l.drop (k + 3)) (nm || (min a d ≤ c && c ≤ max a d)) := by
  rw [drop1 h, drop1 h1, drop1 h2]
  simp [cls, n1, n2]
theorem cls_one (h : l[k]? = some a) (n1 : a = 92 → l.length ≤ k + 1) (n2 : a ≠ 93) (n3 : l[k + 1]? = some 45 → l.length ≤ k + 2) :
    cls c (l.drop k) nm = cls c (l.drop (k + 1)) (nm || a == c) := by
  rw [drop1 h]
  rcases hr : l.drop (k + 1) with _ | ⟨b, _ | ⟨d, r⟩⟩
  · simp [cls, n2]
  · have hl : k + 1 < l.length := by
      rcases Nat.lt_or_ge (k + 1) l.length with h | h
      · exact h
      · rw [drop0 h] at hr; cases hr
    have : a ≠ 92 := fun e => by have := n1 e; omega
    simp [cls, n2, this]
  · have hl : k + 2 < l.length := by
      have := congrArg List.length hr
      simp at this; omega
    have : a ≠ 92 := fun e => by have := n1 e; omega
    have hb : b ≠ 45 := fun e => by
      have h1 : l[k + 1]? = some 45 := by
        have := congrArg (·[0]?) hr
        simpa [e] using this
      have := n3 h1; omega
    simp [cls, n2, this, hb]

theorem bytes_at (s : ByteArray) (k : Nat) (h : k < s.size) : s.data.toList[k]? = some s[k] := by
  rw [List.getElem?_eq_getElem (by simpa using h)]; rfl
theorem bytes_len (s : ByteArray) : s.data.toList.length = s.size := by simp
theorem u8_beq (a b : UInt8) : ((a.toNat : Int) == (b.toNat : Int)) = (a == b) := by
  rw [Bool.eq_iff_iff]; simp [← UInt8.toNat_inj]; omega
theorem u8_leb (a b : UInt8) : decide ((a.toNat : Int) ≤ (b.toNat : Int)) = decide (a ≤ b) := by
  simp [UInt8.le_iff_toNat_le]
theorem u8_is {a : UInt8} {n : Nat} (h : (a.toNat : Int) = (n : Int)) : a = UInt8.ofNat n := by
  have h' : a.toNat = n := by omega
  subst h'; simp
theorem u8_isnt {a : UInt8} {n : Nat} (hn : n < 256) (h : ¬ (a.toNat : Int) = (n : Int)) : a ≠ UInt8.ofNat n := by
  rintro rfl
  have : (UInt8.ofNat n).toNat = n := by simp; omega
  exact h (by rw [this])
theorem u8_min (a b : UInt8) : ((min a b).toNat : Int) = min (a.toNat : Int) (b.toNat : Int) := by
  show ((if a ≤ b then a else b).toNat : Int) = _; split <;> rename_i h <;> rw [UInt8.le_iff_toNat_le] at h <;> omega
theorem u8_max (a b : UInt8) : ((max a b).toNat : Int) = max (a.toNat : Int) (b.toNat : Int) := by
  show ((if a ≤ b then b else a).toNat : Int) = _; split <;> rename_i h <;> rw [UInt8.le_iff_toNat_le] at h <;> omega
theorem at_is {s : ByteArray} {k n : Nat} (h : k < s.size) (e : (s[k].toNat : Int) = (n : Int)) : s.data.toList[k]? = some (UInt8.ofNat n) := by
  rw [bytes_at s k h, u8_is e]
theorem rng (a d c : UInt8) : (decide (min a d ≤ c) && decide (c ≤ max a d)) = (decide (min a.toNat d.toNat ≤ c.toNat) && decide (c.toNat ≤ max a.toNat d.toNat)) := by
  have h1 := u8_min a d
  have h2 := u8_max a d
  rw [Bool.eq_iff_iff]; simp only [Bool.and_eq_true, decide_eq_true_eq, UInt8.le_iff_toNat_le]; omega
theorem or_t {x y : Bool} (h : x = true) : (x || y) = true := by rw [h]; rfl
theorem or_f {x y : Bool} (h : ¬ x = true) : (x || y) = y := by cases x <;> simp_all
theorem is_of {x n : Int} (h : (x == n) = true) : x = n := by simpa using h
theorem isnt_of {x n : Int} (h : (x == n) = false) : ¬ x = n := by simpa using h
theorem at_isnt {s : ByteArray} {k n : Nat} (hn : n < 256) (h : k < s.size) (e : ¬ (s[k].toNat : Int) = (n : Int)) : ¬ s.data.toList[k]? = some (UInt8.ofNat n) := by
  rw [bytes_at s k h]
  exact fun x => u8_isnt hn e (by injection x)
end

/-- A class whose items (and the mark ^) begin here. -/
def clsT (c : UInt8) (r : List UInt8) : List UInt8 × Bool :=
  if r.head? = some 94 then ((cls c r.tail false).1, (cls c r.tail false).2 != true) else ((cls c r false).1, (cls c r false).2 != false)

/-- The piece at the head of a pattern held against a byte: what is left, and whether it means it. -/
def piece (c : UInt8) : List UInt8 → List UInt8 × Bool
  | [] => ([], false)
  | a :: r => if a = 63 then (r, true) else if a = 91 then clsT c r else if a = 92 ∧ r ≠ [] then (r.tail, r.head? == some c) else (r, a == c)

section
variable {l : List UInt8} {c a b d : UInt8} {k : Nat} {nm : Bool}
theorem clsT_plain {q : List UInt8} (h : ¬ l[k]? = some 94) (e : cls c (l.drop k) false = (q, nm)) : clsT c (l.drop k) = (q, nm != false) := by
  unfold clsT; rw [if_neg (by simpa using h), e]
theorem clsT_turned {q : List UInt8} (h : l[k]? = some 94) (e : cls c (l.drop (k + 1)) false = (q, nm)) : clsT c (l.drop k) = (q, nm != true) := by
  unfold clsT; rw [if_pos (by simpa using h)]; simp [List.tail_drop, e]
theorem piece_any (h : l[k]? = some 63) : piece c (l.drop k) = (l.drop (k + 1), true) := by rw [drop1 h]; rfl
theorem piece_cls (h : l[k]? = some 91) : piece c (l.drop k) = clsT c (l.drop (k + 1)) := by rw [drop1 h]; rfl
theorem piece_esc (h : l[k]? = some 92) (h1 : l[k + 1]? = some b) : piece c (l.drop k) = (l.drop (k + 2), b == c) := by
  rw [drop1 h, drop1 h1]; simp [piece]
theorem piece_one (h : l[k]? = some a) (n1 : a ≠ 63) (n2 : a ≠ 91) (n3 : a = 92 → l.length ≤ k + 1) : piece c (l.drop k) = (l.drop (k + 1), a == c) := by
  rw [drop1 h]; simp only [piece, n1, n2, if_false]
  rw [if_neg]
  rintro ⟨e, hne⟩
  exact hne (drop0 (n3 e))
end
end Go.Proofs.Ytnmjednmhmfbpaa.GlobA
