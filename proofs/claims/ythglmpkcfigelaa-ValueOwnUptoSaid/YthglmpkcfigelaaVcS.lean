/-
  The decoder told by the plain laws. Conditions: as stated.
-/
import Derived.Test.YthglmpkcfigelaaVcL
import Derived.Test.YthglmpkcfigelaaVcR
import Derived.Test.YthglmpkcfigelaaVcP
set_option maxRecDepth 100000
set_option linter.unusedSimpArgs false
set_option linter.unusedVariables false
namespace Go.Proofs.Ythglmpkcfigelaa.VcS
open Go Go.RowKit Go.Proofs.Ythglmpkcfigelaa.Mem Go.Proofs.Ythglmpkcfigelaa.VaA Go.Proofs.Ythglmpkcfigelaa.VaC Go.Proofs.Ythglmpkcfigelaa.VaH Go.Proofs.Ythglmpkcfigelaa.VaI Go.Proofs.Ythglmpkcfigelaa.VaT Go.Proofs.Ythglmpkcfigelaa.VaX Go.Proofs.Ythglmpkcfigelaa.VbA Go.Proofs.Ythglmpkcfigelaa.VbB Go.Proofs.Ythglmpkcfigelaa.VcL Go.Proofs.Ythglmpkcfigelaa.VcQ Go.Proofs.Ythglmpkcfigelaa.VcR

theorem len_S : ∀ l : List ByteArray, l.length ≤ (encS l).length
  | [] => by simp
  | t :: l => by have := len_S l; simp only [encS, List.flatMap_cons, List.length_append, List.length_cons, putL_len] at this ⊢; omega
theorem len_F : ∀ l : List (ByteArray × ByteArray), l.length ≤ (encF l).length
  | [] => by simp
  | t :: l => by have := len_F l; simp only [encF, List.flatMap_cons, List.length_append, List.length_cons, putL_len] at this ⊢; omega
theorem len_K : ∀ l : List (ByteArray × Int), l.length ≤ (encK l).length
  | [] => by simp
  | t :: l => by have := len_K l; simp only [encK, List.flatMap_cons, List.length_append, List.length_cons, putL_len] at this ⊢; omega
theorem sm_of {x : VV} (h : chk x = 0) (hl : Len x) (he : (encV x).length ≤ 100000000) : Sm x := by
  have e : encV x = kindB x :: bodyV x := by unfold encV; rw [if_pos h]
  rw [e, List.length_cons] at he
  have hS := len_S x.list
  have hF := len_F x.flds
  have hK := len_K x.rank
  obtain ⟨l1, l2, l3⟩ := hl
  rcases kinds h ⟨l1, l2, l3⟩ with ⟨k, l0, f0, r0, ht⟩ | ⟨k, t0, f0, r0, ht⟩ | ⟨k, t0, l0, r0, ht⟩ | ⟨k, t0, l0, f0, ht⟩
  · rw [l0] at l1; rw [f0] at l2; rw [r0] at l3
    simp only [List.length_nil] at l1 l2 l3
    exact ⟨by omega, by omega, by omega, by omega, by rw [l0]; decide, by rw [f0]; decide, by rw [r0]; decide, by rw [r0]; exact fun y h => by cases h⟩
  · have hb : bodyV x = le x.ln 4 ++ encS x.list := by
      unfold bodyV
      rcases k with k | k
      · rw [if_neg (by omega), if_pos k]
      · rw [if_neg (by omega), if_neg (by omega), if_neg (by omega), if_pos k]
    rw [hb, List.length_append] at he
    rw [f0] at l2; rw [r0] at l3
    simp only [List.length_nil] at l2 l3
    exact ⟨by rw [t0]; decide, by omega, by omega, by omega, by omega, by rw [f0]; decide, by rw [r0]; decide, by rw [r0]; exact fun y h => by cases h⟩
  · have hb : bodyV x = le x.fn 4 ++ encF x.flds := by
      unfold bodyV
      rw [if_neg (by omega), if_neg (by omega), if_pos k]
    rw [hb, List.length_append] at he
    rw [l0] at l1; rw [r0] at l3
    simp only [List.length_nil] at l1 l3
    exact ⟨by rw [t0]; decide, by omega, by omega, by omega, by rw [l0]; decide, by omega, by rw [r0]; decide, by rw [r0]; exact fun y h => by cases h⟩
  · have hb : bodyV x = le x.kn 4 ++ encK x.rank := by
      unfold bodyV
      rw [if_neg (by omega), if_neg (by omega), if_neg (by omega), if_neg (by omega)]
    rw [hb, List.length_append] at he
    rw [l0] at l1; rw [f0] at l2
    simp only [List.length_nil] at l1 l2
    exact ⟨by rw [t0]; decide, by omega, by omega, by omega, by rw [l0]; decide, by rw [f0]; decide, by omega, fun y hy => by have := (ht y hy).1; unfold maxLen; omega⟩

def zeroV : VV := ⟨0, ⟨#[]⟩, none, 0, 0, [], none, 0, 0, [], none, 0, 0, []⟩
/-- A value was read. -/
def Got (s : ByteArray) (w : World) (y : VV) (k : Nat) (w' : World) : Prop :=
  k ≤ s.size ∧ chk y = 0 ∧ encV y = s.data.toList.take k ∧ RdV w' y ∧ Sm y ∧ NwW w.heap.size w' y ∧ Below w.heap.size w w'
theorem got_calls (s : ByteArray) (w : World) (hs : s.size ≤ 100000000) (h : (decD s).ok = true) : Calls Try.prog 15 #[.string s] w fun e w' => ∃ y, e = .returned (.tuple #[y.val, .int .i64 (decD s).st.k, .int .i64 0]) ∧ Got s w y (decD s).st.k w' := by
  refine (dec_calls s w hs).mono ?_
  rintro e w' ⟨y, rfl, ⟨p1, p2, p3, p4, p5⟩, hr, nw, hb⟩
  rw [h] at p1 p2 p3 p4 p5 ⊢
  simp only [if_pos] at p1 p2 p3 p4 p5 ⊢
  obtain ⟨q1, q2, q3⟩ := dec_is h
  have hl := len_of hr
  have al : VbE.Alike y (decD s).v := ⟨p1, p2, p3, p4, p5, by rw [← hl.l, p3]; rfl, by rw [← hl.f, p4]; rfl, by rw [← hl.r, p5]; rfl⟩
  have hc : chk y = 0 := (VbE.chk_alike al).trans q1
  have he : encV y = s.data.toList.take (decD s).st.k := (VbE.enc_alike al).trans q3.symm
  have hln : (encV y).length ≤ 100000000 := by rw [he, List.length_take, size_list]; omega
  exact ⟨y, rfl, q2, hc, he, hr, sm_of hc hl hln, nw, hb⟩
theorem none_calls (s : ByteArray) (w : World) (hs : s.size ≤ 100000000) (h : (decD s).ok = false) : Calls Try.prog 15 #[.string s] w fun e w' => ∃ y, e = .returned (.tuple #[y.val, .int .i64 0, .int .i64 132]) ∧ sameV y zeroV = true ∧ RdV w' y ∧ Below w.heap.size w w' := by
  refine (dec_calls s w hs).mono ?_
  rintro e w' ⟨y, rfl, ⟨p1, p2, p3, p4, p5⟩, hr, nw, hb⟩
  rw [h] at p1 p2 p3 p4 p5 ⊢
  exact ⟨y, rfl, decide_eq_true ⟨p1, p2, p3, p4, p5⟩, hr, hb⟩
theorem back_calls (x : VV) (Z : List UInt8) (s : ByteArray) (w : World) (hs : s.size ≤ 100000000) (h : chk x = 0) (hl : Len x) (hm : Sm x) (hz : s.data.toList = encV x ++ Z) :
    Calls Try.prog 15 #[.string s] w fun e w' => ∃ y, e = .returned (.tuple #[y.val, .int .i64 ((encV x).length : Nat), .int .i64 0]) ∧ sameV x y = true ∧ Got s w y (encV x).length w' := by
  have b1 := hm.ln
  have b2 := hm.fn
  have b3 := hm.kn
  obtain ⟨h1, h2⟩ := dec_enc h hl (by omega) (by omega) (by omega) hz
  have hk : (decD s).st.k = (encV x).length := by rw [h1]
  have hkn := isK_of h
  refine (dec_calls s w hs).mono ?_
  rintro e w' ⟨y, rfl, ⟨p1, p2, p3, p4, p5⟩, hr, nw, hb⟩
  rw [h2] at p1 p2 p3 p4 p5 ⊢
  simp only [if_pos] at p1 p2 p3 p4 p5 ⊢
  obtain ⟨q1, q2, q3⟩ := dec_is h2
  rw [hk] at q2 q3 ⊢
  have hl' := len_of hr
  have al : VbE.Alike y (decD s).v := ⟨p1, p2, p3, p4, p5, by rw [← hl'.l, p3]; rfl, by rw [← hl'.f, p4]; rfl, by rw [← hl'.r, p5]; rfl⟩
  have hc : chk y = 0 := (VbE.chk_alike al).trans q1
  have he : encV y = s.data.toList.take (encV x).length := (VbE.enc_alike al).trans q3.symm
  have hln : (encV y).length ≤ 100000000 := by rw [he, List.length_take, size_list]; omega
  rw [h1] at p1 p2 p3 p4 p5
  exact ⟨y, rfl, decide_eq_true ⟨by rw [p1]; show x.kind = ((x.kind.toNat : Nat) : Int); omega, p2.symm, p3.symm, p4.symm, p5.symm⟩, q2, hc, he, hr, sm_of hc hl' hln, nw, hb⟩
end Go.Proofs.Ythglmpkcfigelaa.VcS
