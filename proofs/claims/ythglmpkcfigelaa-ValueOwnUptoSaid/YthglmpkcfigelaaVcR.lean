/-
  Plain laws: a value's bytes are read as the value; what is read has been written so. Conditions: as stated.
-/
import Derived.Test.YthglmpkcfigelaaVcQ
set_option maxRecDepth 100000
set_option linter.unusedSimpArgs false
set_option linter.unusedVariables false
namespace Go.Proofs.Ythglmpkcfigelaa.VcR
open Go Go.RowKit Go.Proofs.Ythglmpkcfigelaa.Mem Go.Proofs.Ythglmpkcfigelaa.VaA Go.Proofs.Ythglmpkcfigelaa.VaC Go.Proofs.Ythglmpkcfigelaa.VaE Go.Proofs.Ythglmpkcfigelaa.VaF Go.Proofs.Ythglmpkcfigelaa.VaG Go.Proofs.Ythglmpkcfigelaa.VaH Go.Proofs.Ythglmpkcfigelaa.VaI Go.Proofs.Ythglmpkcfigelaa.VaP Go.Proofs.Ythglmpkcfigelaa.VbA Go.Proofs.Ythglmpkcfigelaa.VcQ

theorem chk0 {x : VV} (h : chk x = 0) : isK x = true ∧ strayV x = false ∧ emptyV x = false ∧ rightV x = true := by
  unfold chk at h
  split at h
  · rename_i h1
    split at h
    · cases h
    · rename_i h2
      split at h
      · cases h
      · rename_i h3
        refine ⟨h1, by simpa using h2, ?_, ?_⟩ <;> cases h4 : emptyV x <;> cases h5 : rightV x <;> simp_all
  · cases h
/-- What the parts of a right value are. -/
structure Len (x : VV) : Prop where
  l : x.list.length = x.ln
  f : x.flds.length = x.fn
  r : x.rank.length = x.kn
theorem len_of {w : World} {x : VV} (h : RdV w x) : Len x := ⟨rds_len h.l, rdf_len h.f, rdk_len h.k⟩
theorem nil_of {α : Type} {l : List α} {n : Nat} (h : l.length = n) (h0 : decide (0 < n) = false) : l = [] := by
  have : ¬ 0 < n := by simpa using h0
  exact List.length_eq_zero_iff.1 (by omega)
theorem txt_nil {t : ByteArray} (h : t.toList = []) : t = ⟨#[]⟩ := by
  rw [ByteArray.toList_eq] at h
  exact ba_eq (by rw [h])
theorem short_of {t : ByteArray} (h : shortB t = true) : t.size ≤ 1048576 := by simpa [shortB] using h

/-- A right value, by its kind. -/
theorem kinds {x : VV} (h : chk x = 0) (hl : Len x) :
    (x.kind = 1 ∧ x.list = [] ∧ x.flds = [] ∧ x.rank = [] ∧ x.text.size ≤ 1048576) ∨
    ((x.kind = 2 ∨ x.kind = 4) ∧ x.text = ⟨#[]⟩ ∧ x.flds = [] ∧ x.rank = [] ∧ ∀ t ∈ x.list, t.size ≤ 1048576) ∨
    (x.kind = 3 ∧ x.text = ⟨#[]⟩ ∧ x.list = [] ∧ x.rank = [] ∧ ∀ t ∈ x.flds, t.1.size ≤ 1048576 ∧ t.2.size ≤ 1048576) ∨
    (x.kind = 5 ∧ x.text = ⟨#[]⟩ ∧ x.list = [] ∧ x.flds = [] ∧ ∀ t ∈ x.rank, t.1.size ≤ 1048576 ∧ -9223372036854775808 ≤ t.2 ∧ t.2 ≤ 9223372036854775807) := by
  obtain ⟨h1, h2, -, h4⟩ := chk0 h
  have hk := isK_of h
  unfold strayV at h2
  simp only [Bool.or_eq_false_iff, Bool.and_eq_false_iff] at h2
  obtain ⟨⟨⟨a1, a2⟩, a3⟩, a4⟩ := h2
  have tx : x.kind ≠ 1 → x.text = ⟨#[]⟩ := fun hne => by
    rcases a1 with a | a
    · exact absurd (by simpa using a) hne
    · exact txt_nil (by simpa using a)
  have ls : x.kind ≠ 2 → x.kind ≠ 4 → x.list = [] := fun n2 n4 => by
    rcases a2 with (a | a) | a
    · exact absurd (by simpa using a) n2
    · exact absurd (by simpa using a) n4
    · exact nil_of hl.l a
  have fl : x.kind ≠ 3 → x.flds = [] := fun n => by
    rcases a3 with a | a
    · exact absurd (by simpa using a) n
    · exact nil_of hl.f a
  have rk : x.kind ≠ 5 → x.rank = [] := fun n => by
    rcases a4 with a | a
    · exact absurd (by simpa using a) n
    · exact nil_of hl.r a
  rcases hk with k | k | k | k | k
  · refine .inl ⟨k, ls (by omega) (by omega), fl (by omega), rk (by omega), ?_⟩
    unfold rightV at h4
    rw [if_pos k] at h4
    exact short_of h4
  · refine .inr (.inl ⟨.inl k, tx (by omega), fl (by omega), rk (by omega), fun t ht => ?_⟩)
    unfold rightV at h4
    rw [if_neg (by omega), if_pos k] at h4
    exact short_of (List.all_eq_true.1 h4 t ht)
  · refine .inr (.inr (.inl ⟨k, tx (by omega), ls (by omega) (by omega), rk (by omega), fun t ht => ?_⟩))
    unfold rightV at h4
    rw [if_neg (by omega), if_neg (by omega), if_pos k] at h4
    unfold okH at h4
    rw [Bool.and_eq_true] at h4
    have := List.all_eq_true.1 h4.1 t ht
    rw [Bool.and_eq_true] at this
    exact ⟨short_of this.1, short_of this.2⟩
  · refine .inr (.inl ⟨.inr k, tx (by omega), fl (by omega), rk (by omega), fun t ht => ?_⟩)
    unfold rightV at h4
    rw [if_neg (by omega), if_neg (by omega), if_neg (by omega), if_pos k, Bool.and_eq_true] at h4
    exact short_of (List.all_eq_true.1 h4.1 t ht)
  · refine .inr (.inr (.inr ⟨k, tx (by omega), ls (by omega) (by omega), fl (by omega), fun t ht => ?_⟩))
    unfold rightV at h4
    rw [if_neg (by omega), if_neg (by omega), if_neg (by omega), if_neg (by omega)] at h4
    unfold okK at h4
    rw [Bool.and_eq_true] at h4
    have := List.all_eq_true.1 h4.1 t ht
    unfold okK1 at this
    simp only [Bool.and_eq_true, decide_eq_true_eq] at this
    exact ⟨short_of this.1.1, by omega, by omega⟩

theorem chk_b {x : VV} (hl : Len x) : chk (bare x.kind x.text x.list x.flds x.rank) = chk x :=
  VbE.chk_alike ⟨rfl, rfl, rfl, rfl, rfl, hl.l, hl.f, hl.r⟩

/-- What is written is read as it was, whatever stands behind. -/
theorem dec_enc {x : VV} (h : chk x = 0) (hl : Len x) (b1 : x.ln < 4294967296) (b2 : x.fn < 4294967296) (b3 : x.kn < 4294967296) {s : ByteArray} {Z : List UInt8} (hs : s.data.toList = encV x ++ Z) :
    decD s = ⟨x.kind.toNat, x.text, ⟨(encV x).length, false, x.list, x.flds, x.rank⟩⟩ ∧ (decD s).ok = true := by
  have main : decD s = ⟨x.kind.toNat, x.text, ⟨(encV x).length, false, x.list, x.flds, x.rank⟩⟩ := by
    have he : encV x = kindB x :: bodyV x := by unfold encV; rw [if_pos h]
    rw [he] at hs ⊢
    rw [List.length_cons]
    have h0 : ∀ K : Nat, K < 256 → [kindB x] = le K 1 → rnum s 1 (0, false) = (K, (1, false)) := fun K hK e => by
      have := rnum_at (s := s) (A := []) (n := K) (W := 1) (Z := bodyV x ++ Z) (by rw [hs, ← e]; rfl) (by simpa using hK)
      simpa using this
    have hn : ∀ n : Nat, n < 4294967296 → ∀ B, bodyV x = le n 4 ++ B → rnum s 4 (1, false) = (n, (5, false)) := fun n hb B e => by
      have := rnum_at (s := s) (A := [kindB x]) (n := n) (W := 4) (Z := B ++ Z) (by rw [hs, e]; simp) (by simpa using hb)
      simpa using this
    rcases kinds h hl with ⟨k, l0, f0, r0, ht⟩ | ⟨k, t0, f0, r0, ht⟩ | ⟨k, t0, l0, r0, ht⟩ | ⟨k, t0, l0, f0, ht⟩
    · have hb : bodyV x = putL x.text := by unfold bodyV; rw [if_pos k]
      have h1 := h0 1 (by decide) (by unfold kindB; rw [if_pos k]; rfl)
      have h2 := rtxt_at (s := s) (A := [kindB x]) (t := x.text) (Z := Z) (by rw [hs, hb]; rfl) (by omega)
      have hkt : x.kind.toNat = 1 := by omega
      unfold decD
      rw [h1]
      dsimp only
      rw [if_pos rfl, show (1 : Nat) = [kindB x].length from rfl, h2, l0, f0, r0, hkt, hb, putL_len]
      simp only [Dc.mk.injEq, DS.mk.injEq, List.length_cons, List.length_nil, true_and, and_true]
      omega
    · have hb : bodyV x = le x.ln 4 ++ encS x.list := by
        unfold bodyV
        rcases k with k | k
        · rw [if_neg (by omega), if_pos k]
        · rw [if_neg (by omega), if_neg (by omega), if_neg (by omega), if_pos k]
      have h1 : rnum s 1 (0, false) = (x.kind.toNat, (1, false)) := by
        rcases k with k | k
        · rw [show x.kind.toNat = 2 by omega]; exact h0 2 (by decide) (by unfold kindB; rw [if_neg (by omega), if_pos k]; rfl)
        · rw [show x.kind.toNat = 4 by omega]; exact h0 4 (by decide) (by unfold kindB; rw [if_neg (by omega), if_neg (by omega), if_neg (by omega), if_pos k]; rfl)
      have h2 := hn x.ln b1 _ hb
      have h3 := up_S (s := s) (kind := x.kind.toNat) (by omega) x.list (kindB x :: le x.ln 4) Z [] (by rw [hs, hb]; simp) (fun t h => by have := ht t h; omega)
      rw [List.length_cons, le_len, hl.l] at h3
      unfold decD
      rw [h1]
      dsimp only
      rw [if_neg (by omega), h2]
      dsimp only
      rw [show (5 : Nat) = 4 + 1 from rfl, h3, t0, f0, r0, hb, List.length_append, le_len]
      simp only [Dc.mk.injEq, DS.mk.injEq, List.nil_append, true_and, and_true]
      omega
    · have hb : bodyV x = le x.fn 4 ++ encF x.flds := by
        unfold bodyV
        rw [if_neg (by omega), if_neg (by omega), if_pos k]
      have h1 := h0 3 (by decide) (by unfold kindB; rw [if_neg (by omega), if_neg (by omega), if_pos k]; rfl)
      have h2 := hn x.fn b2 _ hb
      have h3 := up_F (s := s) x.flds (kindB x :: le x.fn 4) Z [] (by rw [hs, hb]; simp) (fun t h => by have := ht t h; omega)
      rw [List.length_cons, le_len, hl.f] at h3
      have hkt : x.kind.toNat = 3 := by omega
      unfold decD
      rw [h1]
      dsimp only
      rw [if_neg (by decide), h2]
      dsimp only
      rw [show (5 : Nat) = 4 + 1 from rfl, h3, t0, l0, r0, hb, hkt, List.length_append, le_len]
      simp only [Dc.mk.injEq, DS.mk.injEq, List.nil_append, true_and, and_true]
      omega
    · have hb : bodyV x = le x.kn 4 ++ encK x.rank := by
        unfold bodyV
        rw [if_neg (by omega), if_neg (by omega), if_neg (by omega), if_neg (by omega)]
      have h1 := h0 5 (by decide) (by unfold kindB; rw [if_neg (by omega), if_neg (by omega), if_neg (by omega), if_neg (by omega)]; rfl)
      have h2 := hn x.kn b3 _ hb
      have h3 := up_K (s := s) x.rank (kindB x :: le x.kn 4) Z [] (by rw [hs, hb]; simp) (fun t h => by have := ht t h; omega)
      rw [List.length_cons, le_len, hl.r] at h3
      have hkt : x.kind.toNat = 5 := by omega
      unfold decD
      rw [h1]
      dsimp only
      rw [if_neg (by decide), h2]
      dsimp only
      rw [show (5 : Nat) = 4 + 1 from rfl, h3, t0, l0, f0, hb, hkt, List.length_append, le_len]
      simp only [Dc.mk.injEq, DS.mk.injEq, List.nil_append, true_and, and_true]
      omega
  refine ⟨main, ?_⟩
  rw [main]
  unfold Dc.ok Dc.v
  have hk := isK_of h
  have hkk : ((x.kind.toNat : Nat) : Int) = x.kind := by omega
  dsimp only
  rw [hkk, chk_b hl, h]
  rfl

theorem isK_bare {k : Int} {t : ByteArray} {l : List ByteArray} {f : List (ByteArray × ByteArray)} {r : List (ByteArray × Int)} (h : chk (bare k t l f r) = 0) : k = 1 ∨ k = 2 ∨ k = 3 ∨ k = 4 ∨ k = 5 := isK_of h
theorem bare_len (k : Int) (t : ByteArray) (l : List ByteArray) (f : List (ByteArray × ByteArray)) (r : List (ByteArray × Int)) : Len (bare k t l f r) := ⟨rfl, rfl, rfl⟩
theorem seg_zero (D : List UInt8) (k : Nat) : seg D 0 k = D.take k := by simp [seg]

/-- What is read was written as it stands. -/
theorem dec_is {s : ByteArray} (h : (decD s).ok = true) : chk (decD s).v = 0 ∧ (decD s).st.k ≤ s.size ∧ s.data.toList.take (decD s).st.k = encV (decD s).v := by
  have hok : (decD s).st.bad = false ∧ chk (decD s).v = 0 := by
    unfold Dc.ok at h
    simpa using h
  obtain ⟨hbad, hc⟩ := hok
  refine ⟨hc, ?_⟩
  have he : encV (decD s).v = kindB (decD s).v :: bodyV (decD s).v := by unfold encV; rw [if_pos hc]
  rw [he]
  clear he h
  obtain ⟨K, k0, b0, h0⟩ : ∃ K k0 b0, rnum s 1 (0, false) = (K, (k0, b0)) := ⟨_, _, _, rfl⟩
  by_cases hK : K = 1
  · subst hK
    obtain ⟨t, k1, b1, h1⟩ : ∃ t k1 b1, rtxt s (k0, b0) = (t, (k1, b1)) := ⟨_, _, _, rfl⟩
    have hd : decD s = ⟨1, t, ⟨k1, b1, [], [], []⟩⟩ := by unfold decD; rw [h0]; dsimp only; rw [if_pos rfl, h1]
    rw [hd] at hbad hc ⊢
    have hb1 : b1 = false := hbad
    subst hb1
    have hk0 : k0 ≤ s.size := by have := rnum_le s 1 (0, false) (Nat.zero_le _); rwa [h0] at this
    obtain ⟨e0, e1, e2, e3⟩ := rtxt_is h1 hk0
    subst e0
    obtain ⟨-, f1, f2, f3⟩ := rnum_is h0 (Nat.zero_le _)
    refine ⟨e2, ?_⟩
    rw [← seg_zero, ← seg_add (Nat.zero_le k0) e1, e3, f3]
    rfl
  · obtain ⟨N, k1, b1, h1⟩ : ∃ N k1 b1, rnum s 4 (k0, b0) = (N, (k1, b1)) := ⟨_, _, _, rfl⟩
    have hd : decD s = ⟨K, ⟨#[]⟩, rdN s K N ⟨k1, b1, [], [], []⟩⟩ := by unfold decD; rw [h0]; dsimp only; rw [if_neg hK, h1]
    rw [hd] at hbad hc ⊢
    dsimp only at hbad
    have hk0 : k0 ≤ s.size := by have := rnum_le s 1 (0, false) (Nat.zero_le _); rwa [h0] at this
    have hk1 : k1 ≤ s.size := by have := rnum_le s 4 (k0, b0) hk0; rwa [h1] at this
    cases b1
    rotate_left
    · rw [rdN_bad rfl] at hbad; cases hbad
    obtain ⟨e0, e1, e2, e3⟩ := rnum_is h1 hk0
    subst e0
    obtain ⟨-, f1, f2, f3⟩ := rnum_is h0 (Nat.zero_le _)
    have hki : (K : Int) = 2 ∨ (K : Int) = 3 ∨ (K : Int) = 4 ∨ (K : Int) = 5 := by
      have hcc : chk (bare (K : Int) ⟨#[]⟩ (rdN s K N ⟨k1, false, [], [], []⟩).l (rdN s K N ⟨k1, false, [], [], []⟩).f (rdN s K N ⟨k1, false, [], [], []⟩).r) = 0 := hc
      rcases isK_bare hcc with h | h | h | h | h <;> omega
    have hpre : ∀ k', k1 ≤ k' → s.data.toList.take k' = le K 1 ++ (le N 4 ++ seg s.data.toList k1 k') := fun k' hk' => by
      rw [← seg_zero, ← seg_add (Nat.zero_le k0) (by omega : k0 ≤ k'), ← seg_add (by omega : k0 ≤ k1) hk', e3, f3]
    by_cases h24 : K = 2 ∨ K = 4
    · obtain ⟨l, k', q1, q2, q3, q4, q5⟩ := dn_S h24 N k1 [] hk1 hbad
      rw [q1] at hc ⊢
      refine ⟨q4, ?_⟩
      show s.data.toList.take k' = _
      rw [hpre k' q3, q5]
      rcases h24 with rfl | rfl
      · show _ = kindB _ :: (le l.length 4 ++ encS l)
        rw [q2]; rfl
      · show _ = kindB _ :: (le l.length 4 ++ encS l)
        rw [q2]; rfl
    · by_cases h3 : K = 3
      · subst h3
        obtain ⟨l, k', q1, q2, q3, q4, q5⟩ := dn_F N k1 [] hk1 hbad
        rw [q1] at hc ⊢
        refine ⟨q4, ?_⟩
        show s.data.toList.take k' = _
        rw [hpre k' q3, q5]
        show _ = kindB _ :: (le l.length 4 ++ encF l)
        rw [q2]; rfl
      · have h5 : K = 5 := by omega
        subst h5
        obtain ⟨l, k', q1, q2, q3, q4, q5⟩ := dn_K N k1 [] hk1 hbad
        rw [q1] at hc ⊢
        refine ⟨q4, ?_⟩
        show s.data.toList.take k' = _
        rw [hpre k' q3, q5]
        show _ = kindB _ :: (le l.length 4 ++ encK l)
        rw [q2]; rfl
end Go.Proofs.Ythglmpkcfigelaa.VcR
