/-
  The law's example; the walk of ValueEncodes. Conditions: as stated.
  Plain laws: what is written is read as it was; what is read was written so. Conditions: as stated.
  Plain laws: a value's bytes are read as the value; what is read has been written so. Conditions: as stated.
  The decoder told by the plain laws. Conditions: as stated.
-/
import Derived.Test.YtgmnnpbbiejbnaaGreatMgF
import Derived.Test.YtgmnnpbbiejbnaaGreatMgE
import Derived.Test.YtgmnnpbbiejbnaaGreatVaZ
import Derived.Test.YtgmnnpbbiejbnaaGreatMgD
import Derived.Test.YtgmnnpbbiejbnaaGreatMgI
import Derived.Test.YtgmnnpbbiejbnaaGreatVaX
set_option maxRecDepth 100000
set_option linter.unusedSimpArgs false
set_option linter.unusedVariables false
namespace Go.Proofs.YtgmnnpbbiejbnaaGreat.VbE
open Go.RowKit Go.Proofs.YtgmnnpbbiejbnaaGreat.Mem Go.Proofs.YtgmnnpbbiejbnaaGreat.VaA Go.Proofs.YtgmnnpbbiejbnaaGreat.VaC Go.Proofs.YtgmnnpbbiejbnaaGreat.VaH Go.Proofs.YtgmnnpbbiejbnaaGreat.VaI Go.Proofs.YtgmnnpbbiejbnaaGreat.VaL Go.Proofs.YtgmnnpbbiejbnaaGreat.VaT Go.Proofs.YtgmnnpbbiejbnaaGreat.VaW Go.Proofs.YtgmnnpbbiejbnaaGreat.VaZ Go.Proofs.YtgmnnpbbiejbnaaGreat.VbA Go.Proofs.YtgmnnpbbiejbnaaGreat.VbB Go.Proofs.YtgmnnpbbiejbnaaGreat.VbD

/-- Values of the same parts. -/
structure Alike (y x : VV) : Prop where
  kind : y.kind = x.kind
  text : y.text = x.text
  list : y.list = x.list
  flds : y.flds = x.flds
  rank : y.rank = x.rank
  ln : y.ln = x.ln
  fn : y.fn = x.fn
  kn : y.kn = x.kn
theorem chk_alike {y x : VV} (h : Alike y x) : chk y = chk x := by
  obtain ⟨h1, h2, h3, h4, h5, h6, h7, h8⟩ := h
  unfold chk isK strayV emptyV rightV
  simp only [h1, h2, h3, h4, h5, h6, h7, h8]
theorem enc_alike {y x : VV} (h : Alike y x) : encV y = encV x := by
  have hc := chk_alike h
  obtain ⟨h1, h2, h3, h4, h5, h6, h7, h8⟩ := h
  unfold encV
  rw [hc]
  unfold bodyV kindB
  simp only [h1, h2, h3, h4, h5, h6, h7, h8]
end Go.Proofs.YtgmnnpbbiejbnaaGreat.VbE
set_option maxRecDepth 100000
set_option linter.unusedSimpArgs false
set_option linter.unusedVariables false
namespace Go.Proofs.YtgmnnpbbiejbnaaGreat.VcQ
open Go Go.RowKit Go.Proofs.YtgmnnpbbiejbnaaGreat.Mem Go.Proofs.YtgmnnpbbiejbnaaGreat.VaA Go.Proofs.YtgmnnpbbiejbnaaGreat.VaC Go.Proofs.YtgmnnpbbiejbnaaGreat.VaE Go.Proofs.YtgmnnpbbiejbnaaGreat.VaF Go.Proofs.YtgmnnpbbiejbnaaGreat.VaG Go.Proofs.YtgmnnpbbiejbnaaGreat.VaH Go.Proofs.YtgmnnpbbiejbnaaGreat.VaI Go.Proofs.YtgmnnpbbiejbnaaGreat.VaP Go.Proofs.YtgmnnpbbiejbnaaGreat.VbA

theorem le_cons (n w : Nat) : le n (w + 1) = UInt8.ofNat n :: le (n / 256) w := by
  unfold le
  rw [List.range_succ_eq_map, List.map_cons, List.map_map]
  congr 1
  · simp
  · apply List.map_congr_left
    intro i _
    show UInt8.ofNat (n / 2 ^ (8 * (i + 1))) = UInt8.ofNat (n / 256 / 2 ^ (8 * i))
    rw [Nat.div_div_eq_div_mul, show 8 * (i + 1) = 8 + 8 * i by omega, Nat.pow_add]
theorem le_unle : ∀ l : List UInt8, le (unle l) l.length = l
  | [] => rfl
  | b :: r => by
    have hb := b.toNat_lt
    have h1 : (b.toNat + 256 * unle r) / 256 = unle r := by omega
    rw [List.length_cons, le_cons, unle, h1, le_unle r]
    congr 1
    apply UInt8.toNat_inj.1
    rw [UInt8.toNat_ofNat']
    omega
theorem unle_le : ∀ (w n : Nat), n < 256 ^ w → unle (le n w) = n
  | 0, n, h => by have : n = 0 := by simpa using h
                  subst this; rfl
  | w + 1, n, h => by
    rw [le_cons, unle, unle_le w (n / 256) (by rw [Nat.pow_succ] at h; omega), UInt8.toNat_ofNat']
    omega
theorem ext_list (s : ByteArray) (a b : Nat) : (s.extract a b).data.toList = (s.data.toList.drop a).take (b - a) := by
  simp [ByteArray.data_extract, Array.toList_extract, List.extract]
theorem size_list (s : ByteArray) : s.data.toList.length = s.size := by rw [Array.length_toList]; rfl
theorem ba_eq {s t : ByteArray} (h : s.data.toList = t.data.toList) : s = t := by
  cases s; cases t; congr 1; exact Array.ext' h

/-- What lies between two places. -/
def seg (D : List UInt8) (a b : Nat) : List UInt8 := (D.drop a).take (b - a)
theorem seg_self (D : List UInt8) (a : Nat) : seg D a a = [] := by simp [seg]
theorem seg_add {D : List UInt8} {a b c : Nat} (h1 : a ≤ b) (h2 : b ≤ c) : seg D a b ++ seg D b c = seg D a c := by
  unfold seg
  rw [show c - a = (b - a) + (c - b) by omega, List.take_add, List.drop_drop, show a + (b - a) = b by omega]

theorem rnum_at {s : ByteArray} {A Z : List UInt8} {n W : Nat} (h : s.data.toList = A ++ (le n W ++ Z)) (hn : n < 256 ^ W) : rnum s W (A.length, false) = (n, (A.length + W, false)) := by
  have hs := size_list s
  rw [h] at hs
  simp only [List.length_append, le_len] at hs
  unfold rnum
  rw [if_neg (by simp; omega)]
  dsimp only
  rw [h, List.drop_left, List.take_left' (le_len n W), unle_le W n hn]
theorem rtxt_at {s : ByteArray} {A Z : List UInt8} {t : ByteArray} (h : s.data.toList = A ++ (putL t ++ Z)) (ht : t.size < 4294967296) : rtxt s (A.length, false) = (t, (A.length + (4 + t.size), false)) := by
  have hs := size_list s
  have ht' := size_list t
  have h1 : rnum s 4 (A.length, false) = (t.size, (A.length + 4, false)) := rnum_at (Z := t.data.toList ++ Z) (by rw [h, putL, List.append_assoc]) (by simpa using ht)
  rw [h] at hs
  simp only [List.length_append, putL_len] at hs
  unfold rtxt
  rw [h1, if_neg (by simp; omega)]
  dsimp only
  congr 1
  · apply ba_eq
    rw [ext_list, h, putL, show A.length + 4 + t.size - (A.length + 4) = t.size by omega, ← List.drop_drop, List.drop_left, List.append_assoc, List.drop_left' (le_len _ _), List.take_left' ht']
  · congr 1; omega
theorem rnum_is {s : ByteArray} {W k n k' : Nat} {b : Bool} (h : rnum s W (k, b) = (n, (k', false))) (hk : k ≤ s.size) : b = false ∧ k' = k + W ∧ k' ≤ s.size ∧ seg s.data.toList k k' = le n W := by
  unfold rnum at h
  split at h
  · injection h with h1 h2; injection h2 with h2 h3; cases h3
  · rename_i hc
    have h0 : ¬ s.size - k < W := fun h => hc (.inr h)
    have hb : b = false := by cases b with | false => rfl | true => exact absurd (.inl rfl) hc
    injection h with h1 h2
    injection h2 with h2 h3
    dsimp only at h1 h2 h0
    subst h1 h2
    refine ⟨hb, rfl, by omega, ?_⟩
    have hs := size_list s
    unfold seg
    rw [Nat.add_sub_cancel_left]
    have hl : ((s.data.toList.drop k).take W).length = W := by rw [List.length_take, List.length_drop]; omega
    have := le_unle ((s.data.toList.drop k).take W)
    rw [hl] at this
    exact this.symm
theorem rtxt_is {s : ByteArray} {k k' : Nat} {b : Bool} {t : ByteArray} (h : rtxt s (k, b) = (t, (k', false))) (hk : k ≤ s.size) : b = false ∧ k ≤ k' ∧ k' ≤ s.size ∧ seg s.data.toList k k' = putL t := by
  obtain ⟨n, k1, b1, h1⟩ : ∃ n k1 b1, rnum s 4 (k, b) = (n, (k1, b1)) := ⟨_, _, _, rfl⟩
  unfold rtxt at h
  rw [h1] at h
  dsimp only at h
  split at h
  · injection h with _ h; injection h with _ h; cases h
  · rename_i hc
    have h0 : ¬ s.size - k1 < n := fun h => hc (.inr h)
    have hb1 : b1 = false := by cases b1 with | false => rfl | true => exact absurd (.inl rfl) hc
    subst hb1
    obtain ⟨hb, e1, e2, e3⟩ := rnum_is h1 hk
    injection h with h3 h4
    injection h4 with h4 h5
    subst h3 h4
    have hs := size_list s
    have hsz : (s.extract k1 (k1 + n)).size = n := by rw [ByteArray.size_extract]; omega
    refine ⟨hb, by omega, by omega, ?_⟩
    rw [← seg_add (b := k1) (by omega) (by omega), e3, putL, hsz, ext_list]
    rfl

/-- Texts. -/
theorem up_S {s : ByteArray} {kind : Nat} (hk : kind = 2 ∨ kind = 4) : ∀ (l : List ByteArray) (A Z : List UInt8) (L : List ByteArray), s.data.toList = A ++ (encS l ++ Z) → (∀ t ∈ l, t.size < 4294967296) →
    rdN s kind l.length ⟨A.length, false, L, [], []⟩ = ⟨A.length + (encS l).length, false, L ++ l, [], []⟩
  | [], A, Z, L, h, _ => by simp [rdN, encS]
  | t :: l, A, Z, L, h, hb => by
    have h1 := rtxt_at (s := s) (A := A) (t := t) (Z := encS l ++ Z) (by rw [h]; simp [encS]) (hb t (List.mem_cons_self ..))
    rw [List.length_cons, rdN, if_neg (by simp)]
    unfold rd1
    rw [if_pos hk]
    dsimp only
    rw [h1]
    dsimp only
    have ih := up_S hk l (A ++ putL t) Z (L ++ [t]) (by rw [h]; simp [encS]) (fun t ht => hb t (List.mem_cons_of_mem _ ht))
    rw [List.length_append, putL_len] at ih
    rw [ih]
    simp only [DS.mk.injEq, encS, List.flatMap_cons, List.length_append, putL_len, List.append_assoc, List.singleton_append, and_true, true_and]
    omega
theorem dn_S {s : ByteArray} {kind : Nat} (hk : kind = 2 ∨ kind = 4) : ∀ (n k : Nat) (L : List ByteArray), k ≤ s.size → (rdN s kind n ⟨k, false, L, [], []⟩).bad = false →
    ∃ l k', rdN s kind n ⟨k, false, L, [], []⟩ = ⟨k', false, L ++ l, [], []⟩ ∧ l.length = n ∧ k ≤ k' ∧ k' ≤ s.size ∧ seg s.data.toList k k' = encS l
  | 0, k, L, hks, _ => ⟨[], k, by simp [rdN], rfl, Nat.le_refl _, hks, seg_self _ _⟩
  | n + 1, k, L, hks, h => by
    obtain ⟨t, k1, b1, h1⟩ : ∃ t k1 b1, rtxt s (k, false) = (t, (k1, b1)) := ⟨_, _, _, rfl⟩
    have hr : rdN s kind (n + 1) ⟨k, false, L, [], []⟩ = rdN s kind n ⟨k1, b1, L ++ [t], [], []⟩ := by
      rw [rdN, if_neg (by simp)]
      unfold rd1
      rw [if_pos hk]
      dsimp only
      rw [h1]
    rw [hr] at h ⊢
    cases b1
    · obtain ⟨-, e1, e2, e3⟩ := rtxt_is h1 hks
      obtain ⟨l, k', q1, q2, q3, q4, q5⟩ := dn_S hk n k1 (L ++ [t]) e2 h
      refine ⟨t :: l, k', by rw [q1]; simp, by simp [q2], by omega, q4, ?_⟩
      rw [← seg_add e1 q3, e3, q5]; simp [encS]
    · rw [rdN_bad rfl] at h; cases h
/-- Fields. -/
theorem up_F {s : ByteArray} : ∀ (l : List (ByteArray × ByteArray)) (A Z : List UInt8) (L : List (ByteArray × ByteArray)), s.data.toList = A ++ (encF l ++ Z) → (∀ t ∈ l, t.1.size < 4294967296 ∧ t.2.size < 4294967296) →
    rdN s 3 l.length ⟨A.length, false, [], L, []⟩ = ⟨A.length + (encF l).length, false, [], L ++ l, []⟩
  | [], A, Z, L, h, _ => by simp [rdN, encF]
  | (t, u) :: l, A, Z, L, h, hb => by
    obtain ⟨b1, b2⟩ := hb (t, u) (List.mem_cons_self ..)
    have h1 := rtxt_at (s := s) (A := A) (t := t) (Z := putL u ++ (encF l ++ Z)) (by rw [h]; simp [encF]) b1
    have h2 := rtxt_at (s := s) (A := A ++ putL t) (t := u) (Z := encF l ++ Z) (by rw [h]; simp [encF]) b2
    rw [List.length_append, putL_len] at h2
    rw [List.length_cons, rdN, if_neg (by simp)]
    unfold rd1
    rw [if_neg (by decide), if_pos rfl]
    dsimp only
    rw [h1]
    dsimp only
    rw [h2]
    dsimp only
    have ih := up_F l (A ++ (putL t ++ putL u)) Z (L ++ [(t, u)]) (by rw [h]; simp [encF]) (fun t ht => hb t (List.mem_cons_of_mem _ ht))
    rw [List.length_append, List.length_append, putL_len, putL_len, ← Nat.add_assoc] at ih
    rw [ih]
    simp only [DS.mk.injEq, encF, List.flatMap_cons, List.length_append, putL_len, List.append_assoc, List.singleton_append, and_true, true_and]
    omega
theorem dn_F {s : ByteArray} : ∀ (n k : Nat) (L : List (ByteArray × ByteArray)), k ≤ s.size → (rdN s 3 n ⟨k, false, [], L, []⟩).bad = false →
    ∃ l k', rdN s 3 n ⟨k, false, [], L, []⟩ = ⟨k', false, [], L ++ l, []⟩ ∧ l.length = n ∧ k ≤ k' ∧ k' ≤ s.size ∧ seg s.data.toList k k' = encF l
  | 0, k, L, hks, _ => ⟨[], k, by simp [rdN], rfl, Nat.le_refl _, hks, seg_self _ _⟩
  | n + 1, k, L, hks, h => by
    obtain ⟨t, k1, b1, h1⟩ : ∃ t k1 b1, rtxt s (k, false) = (t, (k1, b1)) := ⟨_, _, _, rfl⟩
    obtain ⟨u, k2, b2, h2⟩ : ∃ t k2 b2, rtxt s (k1, b1) = (t, (k2, b2)) := ⟨_, _, _, rfl⟩
    have hr : rdN s 3 (n + 1) ⟨k, false, [], L, []⟩ = rdN s 3 n ⟨k2, b2, [], L ++ [(t, u)], []⟩ := by
      rw [rdN, if_neg (by simp)]
      unfold rd1
      rw [if_neg (by decide), if_pos rfl]
      dsimp only
      rw [h1]
      dsimp only
      rw [h2]
    rw [hr] at h ⊢
    have hk1 : k1 ≤ s.size := by have := rtxt_le s (k, false) hks; rwa [h1] at this
    cases b2
    · obtain ⟨e0, e1, e2, e3⟩ := rtxt_is h2 hk1
      subst e0
      obtain ⟨-, f1, f2, f3⟩ := rtxt_is h1 hks
      obtain ⟨l, k', q1, q2, q3, q4, q5⟩ := dn_F n k2 (L ++ [(t, u)]) e2 h
      refine ⟨(t, u) :: l, k', by rw [q1]; simp, by simp [q2], by omega, q4, ?_⟩
      rw [← seg_add f1 (by omega : k1 ≤ k'), ← seg_add e1 q3, e3, f3, q5]; simp [encF]
    · rw [rdN_bad rfl] at h; cases h
/-- Entries of a rank. -/
theorem wrap_w64 {n : Int} (h1 : -9223372036854775808 ≤ n) (h2 : n ≤ 9223372036854775807) : IntKind.i64.wrap ((w64 n : Nat) : Int) = n := by
  unfold w64
  rw [Int.toNat_of_nonneg (by omega), IntKind.wrap_i64]
  omega
theorem w64_wrap {n : Nat} (h : n < 18446744073709551616) : w64 (IntKind.i64.wrap (n : Int)) = n := by
  unfold w64
  rw [IntKind.wrap_i64]
  omega
theorem up_K {s : ByteArray} : ∀ (l : List (ByteArray × Int)) (A Z : List UInt8) (L : List (ByteArray × Int)), s.data.toList = A ++ (encK l ++ Z) → (∀ t ∈ l, t.1.size < 4294967296 ∧ -9223372036854775808 ≤ t.2 ∧ t.2 ≤ 9223372036854775807) →
    rdN s 5 l.length ⟨A.length, false, [], [], L⟩ = ⟨A.length + (encK l).length, false, [], [], L ++ l⟩
  | [], A, Z, L, h, _ => by simp [rdN, encK]
  | (t, u) :: l, A, Z, L, h, hb => by
    obtain ⟨b1, b2, b3⟩ := hb (t, u) (List.mem_cons_self ..)
    have h1 := rnum_at (s := s) (A := A) (n := w64 u) (W := 8) (Z := putL t ++ (encK l ++ Z)) (by rw [h]; simp [encK]) (w64_lt u)
    have h2 := rtxt_at (s := s) (A := A ++ le (w64 u) 8) (t := t) (Z := encK l ++ Z) (by rw [h]; simp [encK]) b1
    rw [List.length_append, le_len] at h2
    rw [List.length_cons, rdN, if_neg (by simp)]
    unfold rd1
    rw [if_neg (by decide), if_neg (by decide), if_pos rfl]
    dsimp only
    rw [h1]
    dsimp only
    rw [h2]
    dsimp only
    rw [wrap_w64 b2 b3]
    have ih := up_K l (A ++ (le (w64 u) 8 ++ putL t)) Z (L ++ [(t, u)]) (by rw [h]; simp [encK]) (fun t ht => hb t (List.mem_cons_of_mem _ ht))
    rw [List.length_append, List.length_append, putL_len, le_len, ← Nat.add_assoc] at ih
    rw [ih]
    simp only [DS.mk.injEq, encK, List.flatMap_cons, List.length_append, putL_len, le_len, List.append_assoc, List.singleton_append, and_true, true_and]
    omega
theorem dn_K {s : ByteArray} : ∀ (n k : Nat) (L : List (ByteArray × Int)), k ≤ s.size → (rdN s 5 n ⟨k, false, [], [], L⟩).bad = false →
    ∃ l k', rdN s 5 n ⟨k, false, [], [], L⟩ = ⟨k', false, [], [], L ++ l⟩ ∧ l.length = n ∧ k ≤ k' ∧ k' ≤ s.size ∧ seg s.data.toList k k' = encK l
  | 0, k, L, hks, _ => ⟨[], k, by simp [rdN], rfl, Nat.le_refl _, hks, seg_self _ _⟩
  | n + 1, k, L, hks, h => by
    obtain ⟨u, k1, b1, h1⟩ : ∃ t k1 b1, rnum s 8 (k, false) = (t, (k1, b1)) := ⟨_, _, _, rfl⟩
    obtain ⟨t, k2, b2, h2⟩ : ∃ t k2 b2, rtxt s (k1, b1) = (t, (k2, b2)) := ⟨_, _, _, rfl⟩
    have hu : u < 18446744073709551616 := by
      have : u = (rnum s 8 (k, false)).1 := by rw [h1]
      rw [this]
      unfold rnum
      split
      · exact Nat.zero_lt_of_lt (show (0 : Nat) < 18446744073709551616 from by decide)
      · have hl := unle_lt ((s.data.toList.drop k).take 8)
        refine Nat.lt_of_lt_of_le hl (Nat.le_trans (Nat.pow_le_pow_right (by decide) (by rw [List.length_take]; exact Nat.min_le_left _ _)) (by decide))
    have hr : rdN s 5 (n + 1) ⟨k, false, [], [], L⟩ = rdN s 5 n ⟨k2, b2, [], [], L ++ [(t, IntKind.i64.wrap (u : Int))]⟩ := by
      rw [rdN, if_neg (by simp)]
      unfold rd1
      rw [if_neg (by decide), if_neg (by decide), if_pos rfl]
      dsimp only
      rw [h1]
      dsimp only
      rw [h2]
    rw [hr] at h ⊢
    have hk1 : k1 ≤ s.size := by have := rnum_le s 8 (k, false) hks; rwa [h1] at this
    cases b2
    · obtain ⟨e0, e1, e2, e3⟩ := rtxt_is h2 hk1
      subst e0
      obtain ⟨-, f1, f2, f3⟩ := rnum_is h1 hks
      obtain ⟨l, k', q1, q2, q3, q4, q5⟩ := dn_K n k2 (L ++ [(t, IntKind.i64.wrap (u : Int))]) e2 h
      refine ⟨(t, IntKind.i64.wrap (u : Int)) :: l, k', by rw [q1]; simp, by simp [q2], by omega, q4, ?_⟩
      rw [← seg_add (by omega : k ≤ k1) (by omega : k1 ≤ k'), ← seg_add e1 q3, e3, f3, q5]; simp [encK, w64_wrap hu]
    · rw [rdN_bad rfl] at h; cases h
end Go.Proofs.YtgmnnpbbiejbnaaGreat.VcQ
set_option maxRecDepth 100000
set_option linter.unusedSimpArgs false
set_option linter.unusedVariables false
namespace Go.Proofs.YtgmnnpbbiejbnaaGreat.VcR
open Go Go.RowKit Go.Proofs.YtgmnnpbbiejbnaaGreat.Mem Go.Proofs.YtgmnnpbbiejbnaaGreat.VaA Go.Proofs.YtgmnnpbbiejbnaaGreat.VaC Go.Proofs.YtgmnnpbbiejbnaaGreat.VaE Go.Proofs.YtgmnnpbbiejbnaaGreat.VaF Go.Proofs.YtgmnnpbbiejbnaaGreat.VaG Go.Proofs.YtgmnnpbbiejbnaaGreat.VaH Go.Proofs.YtgmnnpbbiejbnaaGreat.VaI Go.Proofs.YtgmnnpbbiejbnaaGreat.VaP Go.Proofs.YtgmnnpbbiejbnaaGreat.VbA Go.Proofs.YtgmnnpbbiejbnaaGreat.VcQ

theorem chk0 {x : VV} (h : chk x = 0) : isK x = true ∧ strayV x = false ∧ emptyV x = false ∧ rightV x = true := by
  unfold chk at h
  split at h
  · rename_i h1
    split at h
    · cases h
    · rename_i h2
      split at h
      · cases h
      · rename_i h3
        refine ⟨h1, by simpa using h2, ?_, ?_⟩ <;> cases h4 : emptyV x <;> cases h5 : rightV x <;> simp_all
  · cases h
/-- What the parts of a right value are. -/
structure Len (x : VV) : Prop where
  l : x.list.length = x.ln
  f : x.flds.length = x.fn
  r : x.rank.length = x.kn
theorem len_of {w : World} {x : VV} (h : RdV w x) : Len x := ⟨rds_len h.l, rdf_len h.f, rdk_len h.k⟩
theorem nil_of {α : Type} {l : List α} {n : Nat} (h : l.length = n) (h0 : decide (0 < n) = false) : l = [] := by
  have : ¬ 0 < n := by simpa using h0
  exact List.length_eq_zero_iff.1 (by omega)
theorem txt_nil {t : ByteArray} (h : t.toList = []) : t = ⟨#[]⟩ := by
  rw [ByteArray.toList_eq] at h
  exact ba_eq (by rw [h])
theorem short_of {t : ByteArray} (h : shortB t = true) : t.size ≤ 1048576 := by simpa [shortB] using h

/-- A right value, by its kind. -/
theorem kinds {x : VV} (h : chk x = 0) (hl : Len x) :
    (x.kind = 1 ∧ x.list = [] ∧ x.flds = [] ∧ x.rank = [] ∧ x.text.size ≤ 1048576) ∨
    ((x.kind = 2 ∨ x.kind = 4) ∧ x.text = ⟨#[]⟩ ∧ x.flds = [] ∧ x.rank = [] ∧ ∀ t ∈ x.list, t.size ≤ 1048576) ∨
    (x.kind = 3 ∧ x.text = ⟨#[]⟩ ∧ x.list = [] ∧ x.rank = [] ∧ ∀ t ∈ x.flds, t.1.size ≤ 1048576 ∧ t.2.size ≤ 1048576) ∨
    (x.kind = 5 ∧ x.text = ⟨#[]⟩ ∧ x.list = [] ∧ x.flds = [] ∧ ∀ t ∈ x.rank, t.1.size ≤ 1048576 ∧ -9223372036854775808 ≤ t.2 ∧ t.2 ≤ 9223372036854775807) := by
  obtain ⟨h1, h2, -, h4⟩ := chk0 h
  have hk := isK_of h
  unfold strayV at h2
  simp only [Bool.or_eq_false_iff, Bool.and_eq_false_iff] at h2
  obtain ⟨⟨⟨a1, a2⟩, a3⟩, a4⟩ := h2
  have tx : x.kind ≠ 1 → x.text = ⟨#[]⟩ := fun hne => by
    rcases a1 with a | a
    · exact absurd (by simpa using a) hne
    · exact txt_nil (by simpa using a)
  have ls : x.kind ≠ 2 → x.kind ≠ 4 → x.list = [] := fun n2 n4 => by
    rcases a2 with (a | a) | a
    · exact absurd (by simpa using a) n2
    · exact absurd (by simpa using a) n4
    · exact nil_of hl.l a
  have fl : x.kind ≠ 3 → x.flds = [] := fun n => by
    rcases a3 with a | a
    · exact absurd (by simpa using a) n
    · exact nil_of hl.f a
  have rk : x.kind ≠ 5 → x.rank = [] := fun n => by
    rcases a4 with a | a
    · exact absurd (by simpa using a) n
    · exact nil_of hl.r a
  rcases hk with k | k | k | k | k
  · refine .inl ⟨k, ls (by omega) (by omega), fl (by omega), rk (by omega), ?_⟩
    unfold rightV at h4
    rw [if_pos k] at h4
    exact short_of h4
  · refine .inr (.inl ⟨.inl k, tx (by omega), fl (by omega), rk (by omega), fun t ht => ?_⟩)
    unfold rightV at h4
    rw [if_neg (by omega), if_pos k] at h4
    exact short_of (List.all_eq_true.1 h4 t ht)
  · refine .inr (.inr (.inl ⟨k, tx (by omega), ls (by omega) (by omega), rk (by omega), fun t ht => ?_⟩))
    unfold rightV at h4
    rw [if_neg (by omega), if_neg (by omega), if_pos k] at h4
    unfold okH at h4
    rw [Bool.and_eq_true] at h4
    have := List.all_eq_true.1 h4.1 t ht
    rw [Bool.and_eq_true] at this
    exact ⟨short_of this.1, short_of this.2⟩
  · refine .inr (.inl ⟨.inr k, tx (by omega), fl (by omega), rk (by omega), fun t ht => ?_⟩)
    unfold rightV at h4
    rw [if_neg (by omega), if_neg (by omega), if_neg (by omega), if_pos k, Bool.and_eq_true] at h4
    exact short_of (List.all_eq_true.1 h4.1 t ht)
  · refine .inr (.inr (.inr ⟨k, tx (by omega), ls (by omega) (by omega), fl (by omega), fun t ht => ?_⟩))
    unfold rightV at h4
    rw [if_neg (by omega), if_neg (by omega), if_neg (by omega), if_neg (by omega)] at h4
    unfold okK at h4
    rw [Bool.and_eq_true] at h4
    have := List.all_eq_true.1 h4.1 t ht
    unfold okK1 at this
    simp only [Bool.and_eq_true, decide_eq_true_eq] at this
    exact ⟨short_of this.1.1, by omega, by omega⟩

theorem chk_b {x : VV} (hl : Len x) : chk (bare x.kind x.text x.list x.flds x.rank) = chk x :=
  VbE.chk_alike ⟨rfl, rfl, rfl, rfl, rfl, hl.l, hl.f, hl.r⟩

/-- What is written is read as it was, whatever stands behind. -/
theorem dec_enc {x : VV} (h : chk x = 0) (hl : Len x) (b1 : x.ln < 4294967296) (b2 : x.fn < 4294967296) (b3 : x.kn < 4294967296) {s : ByteArray} {Z : List UInt8} (hs : s.data.toList = encV x ++ Z) :
    decD s = ⟨x.kind.toNat, x.text, ⟨(encV x).length, false, x.list, x.flds, x.rank⟩⟩ ∧ (decD s).ok = true := by
  have main : decD s = ⟨x.kind.toNat, x.text, ⟨(encV x).length, false, x.list, x.flds, x.rank⟩⟩ := by
    have he : encV x = kindB x :: bodyV x := by unfold encV; rw [if_pos h]
    rw [he] at hs ⊢
    rw [List.length_cons]
    have h0 : ∀ K : Nat, K < 256 → [kindB x] = le K 1 → rnum s 1 (0, false) = (K, (1, false)) := fun K hK e => by
      have := rnum_at (s := s) (A := []) (n := K) (W := 1) (Z := bodyV x ++ Z) (by rw [hs, ← e]; rfl) (by simpa using hK)
      simpa using this
    have hn : ∀ n : Nat, n < 4294967296 → ∀ B, bodyV x = le n 4 ++ B → rnum s 4 (1, false) = (n, (5, false)) := fun n hb B e => by
      have := rnum_at (s := s) (A := [kindB x]) (n := n) (W := 4) (Z := B ++ Z) (by rw [hs, e]; simp) (by simpa using hb)
      simpa using this
    rcases kinds h hl with ⟨k, l0, f0, r0, ht⟩ | ⟨k, t0, f0, r0, ht⟩ | ⟨k, t0, l0, r0, ht⟩ | ⟨k, t0, l0, f0, ht⟩
    · have hb : bodyV x = putL x.text := by unfold bodyV; rw [if_pos k]
      have h1 := h0 1 (by decide) (by unfold kindB; rw [if_pos k]; rfl)
      have h2 := rtxt_at (s := s) (A := [kindB x]) (t := x.text) (Z := Z) (by rw [hs, hb]; rfl) (by omega)
      have hkt : x.kind.toNat = 1 := by omega
      unfold decD
      rw [h1]
      dsimp only
      rw [if_pos rfl, show (1 : Nat) = [kindB x].length from rfl, h2, l0, f0, r0, hkt, hb, putL_len]
      simp only [Dc.mk.injEq, DS.mk.injEq, List.length_cons, List.length_nil, true_and, and_true]
      omega
    · have hb : bodyV x = le x.ln 4 ++ encS x.list := by
        unfold bodyV
        rcases k with k | k
        · rw [if_neg (by omega), if_pos k]
        · rw [if_neg (by omega), if_neg (by omega), if_neg (by omega), if_pos k]
      have h1 : rnum s 1 (0, false) = (x.kind.toNat, (1, false)) := by
        rcases k with k | k
        · rw [show x.kind.toNat = 2 by omega]; exact h0 2 (by decide) (by unfold kindB; rw [if_neg (by omega), if_pos k]; rfl)
        · rw [show x.kind.toNat = 4 by omega]; exact h0 4 (by decide) (by unfold kindB; rw [if_neg (by omega), if_neg (by omega), if_neg (by omega), if_pos k]; rfl)
      have h2 := hn x.ln b1 _ hb
      have h3 := up_S (s := s) (kind := x.kind.toNat) (by omega) x.list (kindB x :: le x.ln 4) Z [] (by rw [hs, hb]; simp) (fun t h => by have := ht t h; omega)
      rw [List.length_cons, le_len, hl.l] at h3
      unfold decD
      rw [h1]
      dsimp only
      rw [if_neg (by omega), h2]
      dsimp only
      rw [show (5 : Nat) = 4 + 1 from rfl, h3, t0, f0, r0, hb, List.length_append, le_len]
      simp only [Dc.mk.injEq, DS.mk.injEq, List.nil_append, true_and, and_true]
      omega
    · have hb : bodyV x = le x.fn 4 ++ encF x.flds := by
        unfold bodyV
        rw [if_neg (by omega), if_neg (by omega), if_pos k]
      have h1 := h0 3 (by decide) (by unfold kindB; rw [if_neg (by omega), if_neg (by omega), if_pos k]; rfl)
      have h2 := hn x.fn b2 _ hb
      have h3 := up_F (s := s) x.flds (kindB x :: le x.fn 4) Z [] (by rw [hs, hb]; simp) (fun t h => by have := ht t h; omega)
      rw [List.length_cons, le_len, hl.f] at h3
      have hkt : x.kind.toNat = 3 := by omega
      unfold decD
      rw [h1]
      dsimp only
      rw [if_neg (by decide), h2]
      dsimp only
      rw [show (5 : Nat) = 4 + 1 from rfl, h3, t0, l0, r0, hb, hkt, List.length_append, le_len]
      simp only [Dc.mk.injEq, DS.mk.injEq, List.nil_append, true_and, and_true]
      omega
    · have hb : bodyV x = le x.kn 4 ++ encK x.rank := by
        unfold bodyV
        rw [if_neg (by omega), if_neg (by omega), if_neg (by omega), if_neg (by omega)]
      have h1 := h0 5 (by decide) (by unfold kindB; rw [if_neg (by omega), if_neg (by omega), if_neg (by omega), if_neg (by omega)]; rfl)
      have h2 := hn x.kn b3 _ hb
      have h3 := up_K (s := s) x.rank (kindB x :: le x.kn 4) Z [] (by rw [hs, hb]; simp) (fun t h => by have := ht t h; omega)
      rw [List.length_cons, le_len, hl.r] at h3
      have hkt : x.kind.toNat = 5 := by omega
      unfold decD
      rw [h1]
      dsimp only
      rw [if_neg (by decide), h2]
      dsimp only
      rw [show (5 : Nat) = 4 + 1 from rfl, h3, t0, l0, f0, hb, hkt, List.length_append, le_len]
      simp only [Dc.mk.injEq, DS.mk.injEq, List.nil_append, true_and, and_true]
      omega
  refine ⟨main, ?_⟩
  rw [main]
  unfold Dc.ok Dc.v
  have hk := isK_of h
  have hkk : ((x.kind.toNat : Nat) : Int) = x.kind := by omega
  dsimp only
  rw [hkk, chk_b hl, h]
  rfl

theorem isK_bare {k : Int} {t : ByteArray} {l : List ByteArray} {f : List (ByteArray × ByteArray)} {r : List (ByteArray × Int)} (h : chk (bare k t l f r) = 0) : k = 1 ∨ k = 2 ∨ k = 3 ∨ k = 4 ∨ k = 5 := isK_of h
theorem bare_len (k : Int) (t : ByteArray) (l : List ByteArray) (f : List (ByteArray × ByteArray)) (r : List (ByteArray × Int)) : Len (bare k t l f r) := ⟨rfl, rfl, rfl⟩
theorem seg_zero (D : List UInt8) (k : Nat) : seg D 0 k = D.take k := by simp [seg]

/-- What is read was written as it stands. -/
theorem dec_is {s : ByteArray} (h : (decD s).ok = true) : chk (decD s).v = 0 ∧ (decD s).st.k ≤ s.size ∧ s.data.toList.take (decD s).st.k = encV (decD s).v := by
  have hok : (decD s).st.bad = false ∧ chk (decD s).v = 0 := by
    unfold Dc.ok at h
    simpa using h
  obtain ⟨hbad, hc⟩ := hok
  refine ⟨hc, ?_⟩
  have he : encV (decD s).v = kindB (decD s).v :: bodyV (decD s).v := by unfold encV; rw [if_pos hc]
  rw [he]
  clear he h
  obtain ⟨K, k0, b0, h0⟩ : ∃ K k0 b0, rnum s 1 (0, false) = (K, (k0, b0)) := ⟨_, _, _, rfl⟩
  by_cases hK : K = 1
  · subst hK
    obtain ⟨t, k1, b1, h1⟩ : ∃ t k1 b1, rtxt s (k0, b0) = (t, (k1, b1)) := ⟨_, _, _, rfl⟩
    have hd : decD s = ⟨1, t, ⟨k1, b1, [], [], []⟩⟩ := by unfold decD; rw [h0]; dsimp only; rw [if_pos rfl, h1]
    rw [hd] at hbad hc ⊢
    have hb1 : b1 = false := hbad
    subst hb1
    have hk0 : k0 ≤ s.size := by have := rnum_le s 1 (0, false) (Nat.zero_le _); rwa [h0] at this
    obtain ⟨e0, e1, e2, e3⟩ := rtxt_is h1 hk0
    subst e0
    obtain ⟨-, f1, f2, f3⟩ := rnum_is h0 (Nat.zero_le _)
    refine ⟨e2, ?_⟩
    rw [← seg_zero, ← seg_add (Nat.zero_le k0) e1, e3, f3]
    rfl
  · obtain ⟨N, k1, b1, h1⟩ : ∃ N k1 b1, rnum s 4 (k0, b0) = (N, (k1, b1)) := ⟨_, _, _, rfl⟩
    have hd : decD s = ⟨K, ⟨#[]⟩, rdN s K N ⟨k1, b1, [], [], []⟩⟩ := by unfold decD; rw [h0]; dsimp only; rw [if_neg hK, h1]
    rw [hd] at hbad hc ⊢
    dsimp only at hbad
    have hk0 : k0 ≤ s.size := by have := rnum_le s 1 (0, false) (Nat.zero_le _); rwa [h0] at this
    have hk1 : k1 ≤ s.size := by have := rnum_le s 4 (k0, b0) hk0; rwa [h1] at this
    cases b1
    rotate_left
    · rw [rdN_bad rfl] at hbad; cases hbad
    obtain ⟨e0, e1, e2, e3⟩ := rnum_is h1 hk0
    subst e0
    obtain ⟨-, f1, f2, f3⟩ := rnum_is h0 (Nat.zero_le _)
    have hki : (K : Int) = 2 ∨ (K : Int) = 3 ∨ (K : Int) = 4 ∨ (K : Int) = 5 := by
      have hcc : chk (bare (K : Int) ⟨#[]⟩ (rdN s K N ⟨k1, false, [], [], []⟩).l (rdN s K N ⟨k1, false, [], [], []⟩).f (rdN s K N ⟨k1, false, [], [], []⟩).r) = 0 := hc
      rcases isK_bare hcc with h | h | h | h | h <;> omega
    have hpre : ∀ k', k1 ≤ k' → s.data.toList.take k' = le K 1 ++ (le N 4 ++ seg s.data.toList k1 k') := fun k' hk' => by
      rw [← seg_zero, ← seg_add (Nat.zero_le k0) (by omega : k0 ≤ k'), ← seg_add (by omega : k0 ≤ k1) hk', e3, f3]
    by_cases h24 : K = 2 ∨ K = 4
    · obtain ⟨l, k', q1, q2, q3, q4, q5⟩ := dn_S h24 N k1 [] hk1 hbad
      rw [q1] at hc ⊢
      refine ⟨q4, ?_⟩
      show s.data.toList.take k' = _
      rw [hpre k' q3, q5]
      rcases h24 with rfl | rfl
      · show _ = kindB _ :: (le l.length 4 ++ encS l)
        rw [q2]; rfl
      · show _ = kindB _ :: (le l.length 4 ++ encS l)
        rw [q2]; rfl
    · by_cases h3 : K = 3
      · subst h3
        obtain ⟨l, k', q1, q2, q3, q4, q5⟩ := dn_F N k1 [] hk1 hbad
        rw [q1] at hc ⊢
        refine ⟨q4, ?_⟩
        show s.data.toList.take k' = _
        rw [hpre k' q3, q5]
        show _ = kindB _ :: (le l.length 4 ++ encF l)
        rw [q2]; rfl
      · have h5 : K = 5 := by omega
        subst h5
        obtain ⟨l, k', q1, q2, q3, q4, q5⟩ := dn_K N k1 [] hk1 hbad
        rw [q1] at hc ⊢
        refine ⟨q4, ?_⟩
        show s.data.toList.take k' = _
        rw [hpre k' q3, q5]
        show _ = kindB _ :: (le l.length 4 ++ encK l)
        rw [q2]; rfl
end Go.Proofs.YtgmnnpbbiejbnaaGreat.VcR
set_option maxRecDepth 100000
set_option linter.unusedSimpArgs false
set_option linter.unusedVariables false
namespace Go.Proofs.YtgmnnpbbiejbnaaGreat.VcS
open Go Go.RowKit Go.Proofs.YtgmnnpbbiejbnaaGreat.Mem Go.Proofs.YtgmnnpbbiejbnaaGreat.VaA Go.Proofs.YtgmnnpbbiejbnaaGreat.VaC Go.Proofs.YtgmnnpbbiejbnaaGreat.VaH Go.Proofs.YtgmnnpbbiejbnaaGreat.VaI Go.Proofs.YtgmnnpbbiejbnaaGreat.VaT Go.Proofs.YtgmnnpbbiejbnaaGreat.VaX Go.Proofs.YtgmnnpbbiejbnaaGreat.VbA Go.Proofs.YtgmnnpbbiejbnaaGreat.VbB Go.Proofs.YtgmnnpbbiejbnaaGreat.VcL Go.Proofs.YtgmnnpbbiejbnaaGreat.VcQ Go.Proofs.YtgmnnpbbiejbnaaGreat.VcR

theorem len_S : ∀ l : List ByteArray, l.length ≤ (encS l).length
  | [] => by simp
  | t :: l => by have := len_S l; simp only [encS, List.flatMap_cons, List.length_append, List.length_cons, putL_len] at this ⊢; omega
theorem len_F : ∀ l : List (ByteArray × ByteArray), l.length ≤ (encF l).length
  | [] => by simp
  | t :: l => by have := len_F l; simp only [encF, List.flatMap_cons, List.length_append, List.length_cons, putL_len] at this ⊢; omega
theorem len_K : ∀ l : List (ByteArray × Int), l.length ≤ (encK l).length
  | [] => by simp
  | t :: l => by have := len_K l; simp only [encK, List.flatMap_cons, List.length_append, List.length_cons, putL_len] at this ⊢; omega
theorem sm_of {x : VV} (h : chk x = 0) (hl : Len x) (he : (encV x).length ≤ 100000000) : Sm x := by
  have e : encV x = kindB x :: bodyV x := by unfold encV; rw [if_pos h]
  rw [e, List.length_cons] at he
  have hS := len_S x.list
  have hF := len_F x.flds
  have hK := len_K x.rank
  obtain ⟨l1, l2, l3⟩ := hl
  rcases kinds h ⟨l1, l2, l3⟩ with ⟨k, l0, f0, r0, ht⟩ | ⟨k, t0, f0, r0, ht⟩ | ⟨k, t0, l0, r0, ht⟩ | ⟨k, t0, l0, f0, ht⟩
  · rw [l0] at l1; rw [f0] at l2; rw [r0] at l3
    simp only [List.length_nil] at l1 l2 l3
    exact ⟨by omega, by omega, by omega, by omega, by rw [l0]; decide, by rw [f0]; decide, by rw [r0]; decide, by rw [r0]; exact fun y h => by cases h⟩
  · have hb : bodyV x = le x.ln 4 ++ encS x.list := by
      unfold bodyV
      rcases k with k | k
      · rw [if_neg (by omega), if_pos k]
      · rw [if_neg (by omega), if_neg (by omega), if_neg (by omega), if_pos k]
    rw [hb, List.length_append] at he
    rw [f0] at l2; rw [r0] at l3
    simp only [List.length_nil] at l2 l3
    exact ⟨by rw [t0]; decide, by omega, by omega, by omega, by omega, by rw [f0]; decide, by rw [r0]; decide, by rw [r0]; exact fun y h => by cases h⟩
  · have hb : bodyV x = le x.fn 4 ++ encF x.flds := by
      unfold bodyV
      rw [if_neg (by omega), if_neg (by omega), if_pos k]
    rw [hb, List.length_append] at he
    rw [l0] at l1; rw [r0] at l3
    simp only [List.length_nil] at l1 l3
    exact ⟨by rw [t0]; decide, by omega, by omega, by omega, by rw [l0]; decide, by omega, by rw [r0]; decide, by rw [r0]; exact fun y h => by cases h⟩
  · have hb : bodyV x = le x.kn 4 ++ encK x.rank := by
      unfold bodyV
      rw [if_neg (by omega), if_neg (by omega), if_neg (by omega), if_neg (by omega)]
    rw [hb, List.length_append] at he
    rw [l0] at l1; rw [f0] at l2
    simp only [List.length_nil] at l1 l2
    exact ⟨by rw [t0]; decide, by omega, by omega, by omega, by rw [l0]; decide, by rw [f0]; decide, by omega, fun y hy => by have := (ht y hy).1; unfold maxLen; omega⟩

/-- A value was read. -/
def Got (s : ByteArray) (w : World) (y : VV) (k : Nat) (w' : World) : Prop :=
  k ≤ s.size ∧ chk y = 0 ∧ encV y = s.data.toList.take k ∧ RdV w' y ∧ Sm y ∧ NwW w.heap.size w' y ∧ Below w.heap.size w w'
end Go.Proofs.YtgmnnpbbiejbnaaGreat.VcS
