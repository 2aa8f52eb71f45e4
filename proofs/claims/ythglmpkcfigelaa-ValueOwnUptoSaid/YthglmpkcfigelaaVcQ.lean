/-
  Plain laws: what is written is read as it was; what is read was written so. Conditions: as stated.
-/
import Derived.Test.YthglmpkcfigelaaVbA
import Derived.Test.YthglmpkcfigelaaVbE
set_option maxRecDepth 100000
set_option linter.unusedSimpArgs false
set_option linter.unusedVariables false
namespace Go.Proofs.Ythglmpkcfigelaa.VcQ
open Go Go.RowKit Go.Proofs.Ythglmpkcfigelaa.Mem Go.Proofs.Ythglmpkcfigelaa.VaA Go.Proofs.Ythglmpkcfigelaa.VaC Go.Proofs.Ythglmpkcfigelaa.VaE Go.Proofs.Ythglmpkcfigelaa.VaF Go.Proofs.Ythglmpkcfigelaa.VaG Go.Proofs.Ythglmpkcfigelaa.VaH Go.Proofs.Ythglmpkcfigelaa.VaI Go.Proofs.Ythglmpkcfigelaa.VaP Go.Proofs.Ythglmpkcfigelaa.VbA

theorem le_cons (n w : Nat) : le n (w + 1) = UInt8.ofNat n :: le (n / 256) w := by
  unfold le
  rw [List.range_succ_eq_map, List.map_cons, List.map_map]
  congr 1
  · simp
  · apply List.map_congr_left
    intro i _
    show UInt8.ofNat (n / 2 ^ (8 * (i + 1))) = UInt8.ofNat (n / 256 / 2 ^ (8 * i))
    rw [Nat.div_div_eq_div_mul, show 8 * (i + 1) = 8 + 8 * i by omega, Nat.pow_add]
theorem le_unle : ∀ l : List UInt8, le (unle l) l.length = l
  | [] => rfl
  | b :: r => by
    have hb := b.toNat_lt
    have h1 : (b.toNat + 256 * unle r) / 256 = unle r := by omega
    rw [List.length_cons, le_cons, unle, h1, le_unle r]
    congr 1
    apply UInt8.toNat_inj.1
    rw [UInt8.toNat_ofNat']
    omega
theorem unle_le : ∀ (w n : Nat), n < 256 ^ w → unle (le n w) = n
  | 0, n, h => by have : n = 0 := by simpa using h
                  subst this; rfl
  | w + 1, n, h => by
    rw [le_cons, unle, unle_le w (n / 256) (by rw [Nat.pow_succ] at h; omega), UInt8.toNat_ofNat']
    omega
theorem ext_list (s : ByteArray) (a b : Nat) : (s.extract a b).data.toList = (s.data.toList.drop a).take (b - a) := by
  simp [ByteArray.data_extract, Array.toList_extract, List.extract]
theorem size_list (s : ByteArray) : s.data.toList.length = s.size := by rw [Array.length_toList]; rfl
theorem ba_eq {s t : ByteArray} (h : s.data.toList = t.data.toList) : s = t := by
  cases s; cases t; congr 1; exact Array.ext' h

/-- What lies between two places. -/
def seg (D : List UInt8) (a b : Nat) : List UInt8 := (D.drop a).take (b - a)
theorem seg_self (D : List UInt8) (a : Nat) : seg D a a = [] := by simp [seg]
theorem seg_add {D : List UInt8} {a b c : Nat} (h1 : a ≤ b) (h2 : b ≤ c) : seg D a b ++ seg D b c = seg D a c := by
  unfold seg
  rw [show c - a = (b - a) + (c - b) by omega, List.take_add, List.drop_drop, show a + (b - a) = b by omega]

theorem rnum_at {s : ByteArray} {A Z : List UInt8} {n W : Nat} (h : s.data.toList = A ++ (le n W ++ Z)) (hn : n < 256 ^ W) : rnum s W (A.length, false) = (n, (A.length + W, false)) := by
  have hs := size_list s
  rw [h] at hs
  simp only [List.length_append, le_len] at hs
  unfold rnum
  rw [if_neg (by simp; omega)]
  dsimp only
  rw [h, List.drop_left, List.take_left' (le_len n W), unle_le W n hn]
theorem rtxt_at {s : ByteArray} {A Z : List UInt8} {t : ByteArray} (h : s.data.toList = A ++ (putL t ++ Z)) (ht : t.size < 4294967296) : rtxt s (A.length, false) = (t, (A.length + (4 + t.size), false)) := by
  have hs := size_list s
  have ht' := size_list t
  have h1 : rnum s 4 (A.length, false) = (t.size, (A.length + 4, false)) := rnum_at (Z := t.data.toList ++ Z) (by rw [h, putL, List.append_assoc]) (by simpa using ht)
  rw [h] at hs
  simp only [List.length_append, putL_len] at hs
  unfold rtxt
  rw [h1, if_neg (by simp; omega)]
  dsimp only
  congr 1
  · apply ba_eq
    rw [ext_list, h, putL, show A.length + 4 + t.size - (A.length + 4) = t.size by omega, ← List.drop_drop, List.drop_left, List.append_assoc, List.drop_left' (le_len _ _), List.take_left' ht']
  · congr 1; omega
theorem rnum_is {s : ByteArray} {W k n k' : Nat} {b : Bool} (h : rnum s W (k, b) = (n, (k', false))) (hk : k ≤ s.size) : b = false ∧ k' = k + W ∧ k' ≤ s.size ∧ seg s.data.toList k k' = le n W := by
  unfold rnum at h
  split at h
  · injection h with h1 h2; injection h2 with h2 h3; cases h3
  · rename_i hc
    have h0 : ¬ s.size - k < W := fun h => hc (.inr h)
    have hb : b = false := by cases b with | false => rfl | true => exact absurd (.inl rfl) hc
    injection h with h1 h2
    injection h2 with h2 h3
    dsimp only at h1 h2 h0
    subst h1 h2
    refine ⟨hb, rfl, by omega, ?_⟩
    have hs := size_list s
    unfold seg
    rw [Nat.add_sub_cancel_left]
    have hl : ((s.data.toList.drop k).take W).length = W := by rw [List.length_take, List.length_drop]; omega
    have := le_unle ((s.data.toList.drop k).take W)
    rw [hl] at this
    exact this.symm
theorem rtxt_is {s : ByteArray} {k k' : Nat} {b : Bool} {t : ByteArray} (h : rtxt s (k, b) = (t, (k', false))) (hk : k ≤ s.size) : b = false ∧ k ≤ k' ∧ k' ≤ s.size ∧ seg s.data.toList k k' = putL t := by
  obtain ⟨n, k1, b1, h1⟩ : ∃ n k1 b1, rnum s 4 (k, b) = (n, (k1, b1)) := ⟨_, _, _, rfl⟩
  unfold rtxt at h
  rw [h1] at h
  dsimp only at h
  split at h
  · injection h with _ h; injection h with _ h; cases h
  · rename_i hc
    have h0 : ¬ s.size - k1 < n := fun h => hc (.inr h)
    have hb1 : b1 = false := by cases b1 with | false => rfl | true => exact absurd (.inl rfl) hc
    subst hb1
    obtain ⟨hb, e1, e2, e3⟩ := rnum_is h1 hk
    injection h with h3 h4
    injection h4 with h4 h5
    subst h3 h4
    have hs := size_list s
    have hsz : (s.extract k1 (k1 + n)).size = n := by rw [ByteArray.size_extract]; omega
    refine ⟨hb, by omega, by omega, ?_⟩
    rw [← seg_add (b := k1) (by omega) (by omega), e3, putL, hsz, ext_list]
    rfl

/-- Texts. -/
theorem up_S {s : ByteArray} {kind : Nat} (hk : kind = 2 ∨ kind = 4) : ∀ (l : List ByteArray) (A Z : List UInt8) (L : List ByteArray), s.data.toList = A ++ (encS l ++ Z) → (∀ t ∈ l, t.size < 4294967296) →
    rdN s kind l.length ⟨A.length, false, L, [], []⟩ = ⟨A.length + (encS l).length, false, L ++ l, [], []⟩
  | [], A, Z, L, h, _ => by simp [rdN, encS]
  | t :: l, A, Z, L, h, hb => by
    have h1 := rtxt_at (s := s) (A := A) (t := t) (Z := encS l ++ Z) (by rw [h]; simp [encS]) (hb t (List.mem_cons_self ..))
    rw [List.length_cons, rdN, if_neg (by simp)]
    unfold rd1
    rw [if_pos hk]
    dsimp only
    rw [h1]
    dsimp only
    have ih := up_S hk l (A ++ putL t) Z (L ++ [t]) (by rw [h]; simp [encS]) (fun t ht => hb t (List.mem_cons_of_mem _ ht))
    rw [List.length_append, putL_len] at ih
    rw [ih]
    simp only [DS.mk.injEq, encS, List.flatMap_cons, List.length_append, putL_len, List.append_assoc, List.singleton_append, and_true, true_and]
    omega
theorem dn_S {s : ByteArray} {kind : Nat} (hk : kind = 2 ∨ kind = 4) : ∀ (n k : Nat) (L : List ByteArray), k ≤ s.size → (rdN s kind n ⟨k, false, L, [], []⟩).bad = false →
    ∃ l k', rdN s kind n ⟨k, false, L, [], []⟩ = ⟨k', false, L ++ l, [], []⟩ ∧ l.length = n ∧ k ≤ k' ∧ k' ≤ s.size ∧ seg s.data.toList k k' = encS l
  | 0, k, L, hks, _ => ⟨[], k, by simp [rdN], rfl, Nat.le_refl _, hks, seg_self _ _⟩
  | n + 1, k, L, hks, h => by
    obtain ⟨t, k1, b1, h1⟩ : ∃ t k1 b1, rtxt s (k, false) = (t, (k1, b1)) := ⟨_, _, _, rfl⟩
    have hr : rdN s kind (n + 1) ⟨k, false, L, [], []⟩ = rdN s kind n ⟨k1, b1, L ++ [t], [], []⟩ := by
      rw [rdN, if_neg (by simp)]
      unfold rd1
      rw [if_pos hk]
      dsimp only
      rw [h1]
    rw [hr] at h ⊢
    cases b1
    · obtain ⟨-, e1, e2, e3⟩ := rtxt_is h1 hks
      obtain ⟨l, k', q1, q2, q3, q4, q5⟩ := dn_S hk n k1 (L ++ [t]) e2 h
      refine ⟨t :: l, k', by rw [q1]; simp, by simp [q2], by omega, q4, ?_⟩
      rw [← seg_add e1 q3, e3, q5]; simp [encS]
    · rw [rdN_bad rfl] at h; cases h
/-- Fields. -/
theorem up_F {s : ByteArray} : ∀ (l : List (ByteArray × ByteArray)) (A Z : List UInt8) (L : List (ByteArray × ByteArray)), s.data.toList = A ++ (encF l ++ Z) → (∀ t ∈ l, t.1.size < 4294967296 ∧ t.2.size < 4294967296) →
    rdN s 3 l.length ⟨A.length, false, [], L, []⟩ = ⟨A.length + (encF l).length, false, [], L ++ l, []⟩
  | [], A, Z, L, h, _ => by simp [rdN, encF]
  | (t, u) :: l, A, Z, L, h, hb => by
    obtain ⟨b1, b2⟩ := hb (t, u) (List.mem_cons_self ..)
    have h1 := rtxt_at (s := s) (A := A) (t := t) (Z := putL u ++ (encF l ++ Z)) (by rw [h]; simp [encF]) b1
    have h2 := rtxt_at (s := s) (A := A ++ putL t) (t := u) (Z := encF l ++ Z) (by rw [h]; simp [encF]) b2
    rw [List.length_append, putL_len] at h2
    rw [List.length_cons, rdN, if_neg (by simp)]
    unfold rd1
    rw [if_neg (by decide), if_pos rfl]
    dsimp only
    rw [h1]
    dsimp only
    rw [h2]
    dsimp only
    have ih := up_F l (A ++ (putL t ++ putL u)) Z (L ++ [(t, u)]) (by rw [h]; simp [encF]) (fun t ht => hb t (List.mem_cons_of_mem _ ht))
    rw [List.length_append, List.length_append, putL_len, putL_len, ← Nat.add_assoc] at ih
    rw [ih]
    simp only [DS.mk.injEq, encF, List.flatMap_cons, List.length_append, putL_len, List.append_assoc, List.singleton_append, and_true, true_and]
    omega
theorem dn_F {s : ByteArray} : ∀ (n k : Nat) (L : List (ByteArray × ByteArray)), k ≤ s.size → (rdN s 3 n ⟨k, false, [], L, []⟩).bad = false →
    ∃ l k', rdN s 3 n ⟨k, false, [], L, []⟩ = ⟨k', false, [], L ++ l, []⟩ ∧ l.length = n ∧ k ≤ k' ∧ k' ≤ s.size ∧ seg s.data.toList k k' = encF l
  | 0, k, L, hks, _ => ⟨[], k, by simp [rdN], rfl, Nat.le_refl _, hks, seg_self _ _⟩
  | n + 1, k, L, hks, h => by
    obtain ⟨t, k1, b1, h1⟩ : ∃ t k1 b1, rtxt s (k, false) = (t, (k1, b1)) := ⟨_, _, _, rfl⟩
    obtain ⟨u, k2, b2, h2⟩ : ∃ t k2 b2, rtxt s (k1, b1) = (t, (k2, b2)) := ⟨_, _, _, rfl⟩
    have hr : rdN s 3 (n + 1) ⟨k, false, [], L, []⟩ = rdN s 3 n ⟨k2, b2, [], L ++ [(t, u)], []⟩ := by
      rw [rdN, if_neg (by simp)]
      unfold rd1
      rw [if_neg (by decide), if_pos rfl]
      dsimp only
      rw [h1]
      dsimp only
      rw [h2]
    rw [hr] at h ⊢
    have hk1 : k1 ≤ s.size := by have := rtxt_le s (k, false) hks; rwa [h1] at this
    cases b2
    · obtain ⟨e0, e1, e2, e3⟩ := rtxt_is h2 hk1
      subst e0
      obtain ⟨-, f1, f2, f3⟩ := rtxt_is h1 hks
      obtain ⟨l, k', q1, q2, q3, q4, q5⟩ := dn_F n k2 (L ++ [(t, u)]) e2 h
      refine ⟨(t, u) :: l, k', by rw [q1]; simp, by simp [q2], by omega, q4, ?_⟩
      rw [← seg_add f1 (by omega : k1 ≤ k'), ← seg_add e1 q3, e3, f3, q5]; simp [encF]
    · rw [rdN_bad rfl] at h; cases h
/-- Entries of a rank. -/
theorem wrap_w64 {n : Int} (h1 : -9223372036854775808 ≤ n) (h2 : n ≤ 9223372036854775807) : IntKind.i64.wrap ((w64 n : Nat) : Int) = n := by
  unfold w64
  rw [Int.toNat_of_nonneg (by omega), IntKind.wrap_i64]
  omega
theorem w64_wrap {n : Nat} (h : n < 18446744073709551616) : w64 (IntKind.i64.wrap (n : Int)) = n := by
  unfold w64
  rw [IntKind.wrap_i64]
  omega
theorem up_K {s : ByteArray} : ∀ (l : List (ByteArray × Int)) (A Z : List UInt8) (L : List (ByteArray × Int)), s.data.toList = A ++ (encK l ++ Z) → (∀ t ∈ l, t.1.size < 4294967296 ∧ -9223372036854775808 ≤ t.2 ∧ t.2 ≤ 9223372036854775807) →
    rdN s 5 l.length ⟨A.length, false, [], [], L⟩ = ⟨A.length + (encK l).length, false, [], [], L ++ l⟩
  | [], A, Z, L, h, _ => by simp [rdN, encK]
  | (t, u) :: l, A, Z, L, h, hb => by
    obtain ⟨b1, b2, b3⟩ := hb (t, u) (List.mem_cons_self ..)
    have h1 := rnum_at (s := s) (A := A) (n := w64 u) (W := 8) (Z := putL t ++ (encK l ++ Z)) (by rw [h]; simp [encK]) (w64_lt u)
    have h2 := rtxt_at (s := s) (A := A ++ le (w64 u) 8) (t := t) (Z := encK l ++ Z) (by rw [h]; simp [encK]) b1
    rw [List.length_append, le_len] at h2
    rw [List.length_cons, rdN, if_neg (by simp)]
    unfold rd1
    rw [if_neg (by decide), if_neg (by decide), if_pos rfl]
    dsimp only
    rw [h1]
    dsimp only
    rw [h2]
    dsimp only
    rw [wrap_w64 b2 b3]
    have ih := up_K l (A ++ (le (w64 u) 8 ++ putL t)) Z (L ++ [(t, u)]) (by rw [h]; simp [encK]) (fun t ht => hb t (List.mem_cons_of_mem _ ht))
    rw [List.length_append, List.length_append, putL_len, le_len, ← Nat.add_assoc] at ih
    rw [ih]
    simp only [DS.mk.injEq, encK, List.flatMap_cons, List.length_append, putL_len, le_len, List.append_assoc, List.singleton_append, and_true, true_and]
    omega
theorem dn_K {s : ByteArray} : ∀ (n k : Nat) (L : List (ByteArray × Int)), k ≤ s.size → (rdN s 5 n ⟨k, false, [], [], L⟩).bad = false →
    ∃ l k', rdN s 5 n ⟨k, false, [], [], L⟩ = ⟨k', false, [], [], L ++ l⟩ ∧ l.length = n ∧ k ≤ k' ∧ k' ≤ s.size ∧ seg s.data.toList k k' = encK l
  | 0, k, L, hks, _ => ⟨[], k, by simp [rdN], rfl, Nat.le_refl _, hks, seg_self _ _⟩
  | n + 1, k, L, hks, h => by
    obtain ⟨u, k1, b1, h1⟩ : ∃ t k1 b1, rnum s 8 (k, false) = (t, (k1, b1)) := ⟨_, _, _, rfl⟩
    obtain ⟨t, k2, b2, h2⟩ : ∃ t k2 b2, rtxt s (k1, b1) = (t, (k2, b2)) := ⟨_, _, _, rfl⟩
    have hu : u < 18446744073709551616 := by
      have : u = (rnum s 8 (k, false)).1 := by rw [h1]
      rw [this]
      unfold rnum
      split
      · exact Nat.zero_lt_of_lt (show (0 : Nat) < 18446744073709551616 from by decide)
      · have hl := unle_lt ((s.data.toList.drop k).take 8)
        refine Nat.lt_of_lt_of_le hl (Nat.le_trans (Nat.pow_le_pow_right (by decide) (by rw [List.length_take]; exact Nat.min_le_left _ _)) (by decide))
    have hr : rdN s 5 (n + 1) ⟨k, false, [], [], L⟩ = rdN s 5 n ⟨k2, b2, [], [], L ++ [(t, IntKind.i64.wrap (u : Int))]⟩ := by
      rw [rdN, if_neg (by simp)]
      unfold rd1
      rw [if_neg (by decide), if_neg (by decide), if_pos rfl]
      dsimp only
      rw [h1]
      dsimp only
      rw [h2]
    rw [hr] at h ⊢
    have hk1 : k1 ≤ s.size := by have := rnum_le s 8 (k, false) hks; rwa [h1] at this
    cases b2
    · obtain ⟨e0, e1, e2, e3⟩ := rtxt_is h2 hk1
      subst e0
      obtain ⟨-, f1, f2, f3⟩ := rnum_is h1 hks
      obtain ⟨l, k', q1, q2, q3, q4, q5⟩ := dn_K n k2 (L ++ [(t, IntKind.i64.wrap (u : Int))]) e2 h
      refine ⟨(t, IntKind.i64.wrap (u : Int)) :: l, k', by rw [q1]; simp, by simp [q2], by omega, q4, ?_⟩
      rw [← seg_add (by omega : k ≤ k1) (by omega : k1 ≤ k'), ← seg_add e1 q3, e3, f3, q5]; simp [encK, w64_wrap hu]
    · rw [rdN_bad rfl] at h; cases h
end Go.Proofs.Ythglmpkcfigelaa.VcQ
