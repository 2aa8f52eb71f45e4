/-
  The walk of ValueApart. Conditions: as stated.
-/
import Derived.Test.YthglmpkcfigelaaVcS
import Derived.Test.YthglmpkcfigelaaLawW
set_option maxRecDepth 100000
set_option linter.unusedSimpArgs false
set_option linter.unusedVariables false
namespace Go.Proofs.Ythglmpkcfigelaa.VcU
open Go Go.RowKit Go.Proofs.Ythglmpkcfigelaa.Mem Go.Proofs.Ythglmpkcfigelaa.VaA Go.Proofs.Ythglmpkcfigelaa.VaC Go.Proofs.Ythglmpkcfigelaa.VaH Go.Proofs.Ythglmpkcfigelaa.VaI Go.Proofs.Ythglmpkcfigelaa.VaT Go.Proofs.Ythglmpkcfigelaa.VaW Go.Proofs.Ythglmpkcfigelaa.VaX Go.Proofs.Ythglmpkcfigelaa.VbA Go.Proofs.Ythglmpkcfigelaa.VbB Go.Proofs.Ythglmpkcfigelaa.VbE Go.Proofs.Ythglmpkcfigelaa.VcL Go.Proofs.Ythglmpkcfigelaa.VcO Go.Proofs.Ythglmpkcfigelaa.VcQ Go.Proofs.Ythglmpkcfigelaa.VcR Go.Proofs.Ythglmpkcfigelaa.VcS

theorem enc_size (x : VV) : (⟨(encV x).toArray⟩ : ByteArray).size = (encV x).length := by simp [ByteArray.size]
theorem enc_list (x : VV) : (⟨(encV x).toArray⟩ : ByteArray).data.toList = encV x := rfl

/-- Sizes within a word. -/
structure In32 (x : VV) : Prop where
  l : x.ln < 4294967296
  f : x.fn < 4294967296
  k : x.kn < 4294967296
theorem in32 {x : VV} (h : Sm x) : In32 x := ⟨by have := h.ln; omega, by have := h.fn; omega, by have := h.kn; omega⟩
theorem no_begin {a b : VV} (ha : chk a = 0) (la : Len a) (sa : In32 a) (hb : chk b = 0) (lb : Len b) (sb : In32 b) {Z : List UInt8} (h : encV b = encV a ++ Z) : Z = [] := by
  have h1 := (dec_enc (s := ⟨(encV b).toArray⟩) hb lb sb.l sb.f sb.k (Z := []) (by simp)).1
  have h2 := (dec_enc (s := ⟨(encV b).toArray⟩) ha la sa.l sa.f sa.k (Z := Z) (by rw [← h])).1
  rw [h1] at h2
  injection h2 with _ _ h2
  injection h2 with h2
  rw [h, List.length_append] at h2
  exact List.length_eq_zero_iff.1 (by omega)
theorem same_iff {a b : VV} (ha : chk a = 0) (la : Len a) (sa : In32 a) (hb : chk b = 0) (lb : Len b) (sb : In32 b) : sameV a b = decide (encV a = encV b) := by
  rw [Bool.eq_iff_iff]
  unfold sameV
  rw [decide_eq_true_iff, decide_eq_true_iff]
  constructor
  · rintro ⟨h1, h2, h3, h4, h5⟩
    exact enc_alike ⟨h1, h2, h3, h4, h5, by rw [← la.l, ← lb.l, h3], by rw [← la.f, ← lb.f, h4], by rw [← la.r, ← lb.r, h5]⟩
  · intro h
    have h1 := (dec_enc (s := ⟨(encV b).toArray⟩) hb lb sb.l sb.f sb.k (Z := []) (by simp)).1
    have h2 := (dec_enc (s := ⟨(encV b).toArray⟩) ha la sa.l sa.f sa.k (Z := []) (by rw [h]; simp)).1
    rw [h1] at h2
    injection h2 with e1 e2 e3
    injection e3 with e3 e4 e5 e6 e7
    have k1 := isK_of ha
    have k2 := isK_of hb
    exact ⟨by omega, e2.symm, e5.symm, e6.symm, e7.symm⟩
theorem part_none {a : VV} (ha : chk a = 0) (la : Len a) (sa : In32 a) {m : Nat} (hm : m < (encV a).length) (hb : (encV a).length ≤ 100000000) : (decD ((⟨(encV a).toArray⟩ : ByteArray).extract 0 m)).ok = false := by
  cases hok : (decD ((⟨(encV a).toArray⟩ : ByteArray).extract 0 m)).ok with
  | false => rfl
  | true =>
    obtain ⟨h1, h2, h3⟩ := dec_is hok
    rw [ext_list, enc_list] at h3
    simp only [List.drop_zero, Nat.sub_zero] at h3
    rw [List.take_take] at h3
    have hlen : (encV (decD ((⟨(encV a).toArray⟩ : ByteArray).extract 0 m)).v).length ≤ m := by rw [← h3, List.length_take]; omega
    have lv := bare_len (decD ((⟨(encV a).toArray⟩ : ByteArray).extract 0 m)).kind (decD ((⟨(encV a).toArray⟩ : ByteArray).extract 0 m)).text (decD ((⟨(encV a).toArray⟩ : ByteArray).extract 0 m)).st.l (decD ((⟨(encV a).toArray⟩ : ByteArray).extract 0 m)).st.f (decD ((⟨(encV a).toArray⟩ : ByteArray).extract 0 m)).st.r
    have hz := no_begin (a := (decD ((⟨(encV a).toArray⟩ : ByteArray).extract 0 m)).v) (b := a) h1 lv (in32 (sm_of h1 lv (by omega))) ha la sa (Z := (encV a).drop (min (decD ((⟨(encV a).toArray⟩ : ByteArray).extract 0 m)).st.k m)) (by rw [← h3, List.take_append_drop])
    have hd := List.take_append_drop (min (decD ((⟨(encV a).toArray⟩ : ByteArray).extract 0 m)).st.k m) (encV a)
    rw [hz, List.append_nil, h3] at hd
    have := congrArg List.length hd
    omega
theorem not_part {a b : VV} (ha : chk a = 0) (la : Len a) (sa : In32 a) (hb : chk b = 0) (lb : Len b) (sb : In32 b) (hne : ¬ encV a = encV b) :
    ¬ (⟨(encV b).toArray⟩ : ByteArray).extract 0 (⟨(encV a).toArray⟩ : ByteArray).size = ⟨(encV a).toArray⟩ := fun h => by
  have h1 := congrArg (fun s : ByteArray => s.data.toList) h
  dsimp only at h1
  rw [ext_list, enc_list, enc_size] at h1
  simp only [List.drop_zero, Nat.sub_zero] at h1
  have hz := no_begin ha la sa hb lb sb (Z := (encV b).drop (encV a).length) (by conv => lhs; rw [← List.take_append_drop (encV a).length (encV b), h1])
  have := List.take_append_drop (encV a).length (encV b)
  rw [hz, List.append_nil, h1] at this
  exact hne this
theorem enc_pos {a : VV} (h : chk a = 0) : 0 < (encV a).length := by unfold encV; rw [if_pos h]; simp

theorem dec_empty : (decD ByteArray.empty).ok = false := by decide +kernel

set_option maxHeartbeats 8000000 in
theorem aparts_calls (x z : VV) (n : Int) (w : World) (ha : LawW.Arg w x) (hz : LawW.Arg w z) (n1 : -9223372036854775808 ≤ n) (n2 : n ≤ 9223372036854775807) : Calls Try.prog 6 #[x.val, z.val, .int .i64 n] w fun e w' => e = .returned (.bool true) ∧ Below w.heap.size w w' := by
  have hv : x.val = .agg #[.int .i64 x.kind, .string x.text, .slice x.LA x.ln x.lc, .slice x.FA x.fn x.fc, .slice x.KA x.kn x.kc] := rfl
  have hvz : z.val = .agg #[.int .i64 z.kind, .string z.text, .slice z.LA z.ln z.lc, .slice z.FA z.fn z.fc, .slice z.KA z.kn z.kc] := rfl
  have hex := fun w' (h : Below w.heap.size w w') => encode_calls x w' (ha.a.rd.below h) ha.a.sm
  have hez := fun w' (h : Below w.heap.size w w') => encode_calls z w' (hz.a.rd.below h) hz.a.sm
  have hsm := fun w' (h : Below w.heap.size w w') => sameP_calls x z w' (ha.a.rd.below h) (hz.a.rd.below h)
  have lx := len_of ha.a.rd
  have lz := len_of hz.a.rd
  have ix := in32 ha.a.sm
  have iz := in32 hz.a.sm
  have sx := ha.e
  have sz := hz.e
  obtain ⟨E, hE⟩ : ∃ E : ByteArray, (⟨(encV x).toArray⟩ : ByteArray) = E := ⟨_, rfl⟩
  obtain ⟨G, hG⟩ : ∃ G : ByteArray, (⟨(encV z).toArray⟩ : ByteArray) = G := ⟨_, rfl⟩
  rw [hE] at hex
  rw [hG] at hez
  rw [hv] at hex hsm ⊢
  rw [hvz] at hez hsm ⊢
  obtain ⟨W0, hW0⟩ : ∃ W0, (w.alloc (.cells #[.int .i64 x.kind, .string x.text, .slice x.LA x.ln x.lc, .slice x.FA x.fn x.fc, .slice x.KA x.kn x.kc] 26)).alloc (.cells #[.int .i64 z.kind, .string z.text, .slice z.LA z.ln z.lc, .slice z.FA z.fn z.fc, .slice z.KA z.kn z.kc] 26) = W0 := ⟨_, rfl⟩
  have B0 : Below w.heap.size w W0 := by rw [← hW0]; exact ((Below.refl _ w).alloc (Nat.le_refl _) _).alloc (by simp) _
  have p0 : Bv W0 w.heap.size x.kind x.text (.slice x.LA x.ln x.lc) (.slice x.FA x.fn x.fc) (.slice x.KA x.kn x.kc) := by
    rw [← hW0]
    exact ((Only.refl (fun _ => False) (w.alloc _)).alloc _).heap (heap_alloc_new w _) id
  have q0 : Bv W0 (w.heap.size + 1) z.kind z.text (.slice z.LA z.ln z.lc) (.slice z.FA z.fn z.fc) (.slice z.KA z.kn z.kc) := by
    rw [← hW0]
    have h := heap_alloc_new (w.alloc (.cells #[.int .i64 x.kind, .string x.text, .slice x.LA x.ln x.lc, .slice x.FA x.fn x.fc, .slice x.KA x.kn x.kc] 26)) (.cells #[.int .i64 z.kind, .string z.text, .slice z.LA z.ln z.lc, .slice z.FA z.fn z.fc, .slice z.KA z.kn z.kc] 26)
    rw [World.size_alloc] at h
    exact h
  subst hW0
  have H := Lib.hid (And.intro hE (And.intro hG (And.intro lx (And.intro lz (And.intro ix (And.intro iz (And.intro sx sz)))))))
  clear hE hG lx lz ix iz sx sz ha hz
  obtain ⟨x0, x1, x2, x3, x4⟩ := p0.cells
  go_enter Try.func6, Try.ntmps6
  go_wp2_with fail
  refine (hex _ B0).mono ?_
  rintro e w1 ⟨rfl, b1⟩
  have B1 := B0.trans (b1.mono B0.size)
  have p1 := Bv.below p0 b1
  have q1 := Bv.below q0 b1
  clear x0 x1 x2 x3 x4 p0 q0 b1 B0
  obtain ⟨x0, x1, x2, x3, x4⟩ := q1.cells
  go_wp2_with fail
  refine (hez _ B1).mono ?_
  rintro e w2 ⟨rfl, b2⟩
  have B2 := B1.trans (b2.mono B1.size)
  have p2 := Bv.below p1 b2
  have q2 := Bv.below q1 b2
  clear x0 x1 x2 x3 x4 p1 q1 b2 B1 hex hez
  by_cases hc : chk x = 0
  rotate_left
  · have hne : decide (chk x = 0) = false := by simpa using hc
    obtain ⟨C, hC⟩ : ∃ C, chk x = C := ⟨_, rfl⟩
    rw [hC] at hne hc ⊢
    clear hC
    go_wp2_with fail
    refine (awake_calls _).mono ?_
    rintro e w3 ⟨rfl, b3⟩
    go_wp2_with fail
    go_ret
    exact ⟨rfl, B2.trans (b3.mono B2.size)⟩
  by_cases hcz : chk z = 0
  rotate_left
  · have hne : decide (chk z = 0) = false := by simpa using hcz
    obtain ⟨C, hC⟩ : ∃ C, chk z = C := ⟨_, rfl⟩
    rw [hC] at hne hcz ⊢
    rw [hc]
    clear hC hc
    go_wp2_with fail
    refine (awake_calls _).mono ?_
    rintro e w3 ⟨rfl, b3⟩
    go_wp2_with fail
    go_ret
    exact ⟨rfl, B2.trans (b3.mono B2.size)⟩
  rw [hc, hcz]
  obtain ⟨hE, hG, lx, lz, ix, iz, sx, sz⟩ := H.out
  have hss := same_iff hc lx ix hcz lz iz
  have hEp : 0 < E.size := by rw [← hE, enc_size]; exact enc_pos hc
  have hGp : 0 < G.size := by rw [← hG, enc_size]; exact enc_pos hcz
  have hE8 : E.size ≤ 8000000 := by rw [← hE, enc_size]; exact sx
  have hG8 : G.size ≤ 8000000 := by rw [← hG, enc_size]; exact sz
  have hpt : ∀ m, m < E.size → (decD (E.extract 0 m)).ok = false := fun m hm => by
    rw [← hE] at hm ⊢
    rw [enc_size] at hm
    exact part_none hc lx ix hm (by omega)
  have heq : decide (encV x = encV z) = decide (E = G) := by
    rw [← hE, ← hG]
    congr 1
    apply propext
    constructor
    · intro h; rw [h]
    · intro h; injection h with h; injection h
  have np1 : ¬ E = G → ¬ G.extract 0 E.size = E := fun h => by
    rw [← hE, ← hG] at h ⊢
    exact not_part hc lx ix hcz lz iz (fun e => h (by rw [e]))
  have np2 : ¬ E = G → ¬ E.extract 0 G.size = G := fun h => by
    rw [← hE, ← hG] at h ⊢
    exact not_part hcz lz iz hc lx ix (fun e => h (by rw [e]))
  rw [hss, heq] at hsm
  have hEn : (E.toList == []) = false := by
    rw [ByteArray.toList_eq]
    cases he : E.data.toList with
    | nil => have := size_list E; rw [he] at this; simp at this; omega
    | cons a l => rfl
  have hGn : (G.toList == []) = false := by
    rw [ByteArray.toList_eq]
    cases he : G.data.toList with
    | nil => have := size_list G; rw [he] at this; simp at this; omega
    | cons a l => rfl
  clear H hE hG lx lz ix iz sx sz hss heq hc hcz
  have HP := Lib.hid hpt
  have HN := Lib.hid (And.intro np1 np2)
  clear hpt np1 np2
  obtain ⟨x0, x1, x2, x3, x4⟩ := p2.cells
  obtain ⟨y0, y1, y2, y3, y4⟩ := q2.cells
  have c1 : ((E.size : Nat) : Int) ≤ (E.size : Int) := Int.le_refl _
  by_cases hEG : E = G
  · subst hEG
    rw [decide_eq_true rfl] at hsm
    go_wp2_with fail
    refine (hsm _ B2).mono ?_
    rintro e w3 ⟨rfl, b3⟩
    have B3 := B2.trans (b3.mono B2.size)
    clear x0 x1 x2 x3 x4 y0 y1 y2 y3 y4 p2 q2 hsm b3 B2 HN hGn hGp hG8
    by_cases hn : n < 0
    · go_wp2_with fail
      refine (none_calls ByteArray.empty _ (by decide) dec_empty).mono ?_
      rintro e w4 ⟨y, rfl, -, -, b4⟩
      have B4 := B3.trans (b4.mono B3.size)
      have hyv : y.val = .agg #[.int .i64 y.kind, .string y.text, .slice y.LA y.ln y.lc, .slice y.FA y.fn y.fc, .slice y.KA y.kn y.kc] := rfl
      rw [hyv]
      go_wp2_with fail
      refine (awake_calls _).mono ?_
      rintro e w5 ⟨rfl, b5⟩
      go_wp2_with fail
      go_ret
      have B45 := B4.alloc B4.size (.cells #[.int .i64 y.kind, .string y.text, .slice y.LA y.ln y.lc, .slice y.FA y.fn y.fc, .slice y.KA y.kn y.kc] 26)
      exact ⟨rfl, B45.trans (b5.mono B45.size)⟩
    · obtain ⟨m, hm⟩ : ∃ m : Nat, n % (E.size : Int) = (m : Int) := ⟨(n % (E.size : Int)).toNat, by have := Int.emod_nonneg n (show (E.size : Int) ≠ 0 by omega); omega⟩
      have hml : m < E.size := by have := Int.emod_lt_of_pos n (show (0 : Int) < (E.size : Int) by omega); omega
      have hdn := HP.out m hml
      have hmi : (m : Int) ≤ (E.size : Int) := by omega
      have hm0 : (0 : Int) ≤ (m : Int) := by omega
      have HM := Lib.hid hml
      have HD := Lib.hid hdn
      clear hml hdn
      go_wp2_with fail
      refine (none_calls (E.extract 0 m) _ (by rw [ByteArray.size_extract]; omega) HD.out).mono ?_
      rintro e w4 ⟨y, rfl, -, -, b4⟩
      have B4 := B3.trans (b4.mono B3.size)
      have hyv : y.val = .agg #[.int .i64 y.kind, .string y.text, .slice y.LA y.ln y.lc, .slice y.FA y.fn y.fc, .slice y.KA y.kn y.kc] := rfl
      rw [hyv]
      go_wp2_with fail
      refine (awake_calls _).mono ?_
      rintro e w5 ⟨rfl, b5⟩
      go_wp2_with fail
      go_ret
      have B45 := B4.alloc B4.size (.cells #[.int .i64 y.kind, .string y.text, .slice y.LA y.ln y.lc, .slice y.FA y.fn y.fc, .slice y.KA y.kn y.kc] 26)
      exact ⟨rfl, B45.trans (b5.mono B45.size)⟩
  · rw [decide_eq_false hEG] at hsm
    have hqe : (E.toList == G.toList) = false := by rw [toL_eq]; simpa using hEG
    have hg1 : ((G.extract 0 E.size).toList == E.toList) = false := by rw [toL_eq]; simpa using HN.out.1 hEG
    have hg2 : ((E.extract 0 G.size).toList == G.toList) = false := by rw [toL_eq]; simpa using HN.out.2 hEG
    go_wp2_with fail
    refine (hsm _ B2).mono ?_
    rintro e w3 ⟨rfl, b3⟩
    have B3 := B2.trans (b3.mono B2.size)
    clear x0 x1 x2 x3 x4 y0 y1 y2 y3 y4 p2 q2 hsm b3 B2 HN
    by_cases hl : E.size ≤ G.size
    · have hl1 : (E.size : Int) ≤ (G.size : Int) := by omega
      have hl2 : ¬ (G.size : Int) < (E.size : Int) := by omega
      have HL := Lib.hid hl
      clear hl
      by_cases hn : n < 0
      · go_wp2_with fail
        refine (none_calls ByteArray.empty _ (by decide) dec_empty).mono ?_
        rintro e w4 ⟨y, rfl, -, -, b4⟩
        have B4 := B3.trans (b4.mono B3.size)
        have hyv : y.val = .agg #[.int .i64 y.kind, .string y.text, .slice y.LA y.ln y.lc, .slice y.FA y.fn y.fc, .slice y.KA y.kn y.kc] := rfl
        rw [hyv]
        go_wp2_with fail
        refine (awake_calls _).mono ?_
        rintro e w5 ⟨rfl, b5⟩
        go_wp2_with fail
        go_ret
        have B45 := B4.alloc B4.size (.cells #[.int .i64 y.kind, .string y.text, .slice y.LA y.ln y.lc, .slice y.FA y.fn y.fc, .slice y.KA y.kn y.kc] 26)
        exact ⟨rfl, B45.trans (b5.mono B45.size)⟩
      · obtain ⟨m, hm⟩ : ∃ m : Nat, n % (E.size : Int) = (m : Int) := ⟨(n % (E.size : Int)).toNat, by have := Int.emod_nonneg n (show (E.size : Int) ≠ 0 by omega); omega⟩
        have hml : m < E.size := by have := Int.emod_lt_of_pos n (show (0 : Int) < (E.size : Int) by omega); omega
        have hdn := HP.out m hml
        have hmi : (m : Int) ≤ (E.size : Int) := by omega
        have hm0 : (0 : Int) ≤ (m : Int) := by omega
        have HM := Lib.hid hml
        have HD := Lib.hid hdn
        clear hml hdn
        go_wp2_with fail
        refine (none_calls (E.extract 0 m) _ (by rw [ByteArray.size_extract]; omega) HD.out).mono ?_
        rintro e w4 ⟨y, rfl, -, -, b4⟩
        have B4 := B3.trans (b4.mono B3.size)
        have hyv : y.val = .agg #[.int .i64 y.kind, .string y.text, .slice y.LA y.ln y.lc, .slice y.FA y.fn y.fc, .slice y.KA y.kn y.kc] := rfl
        rw [hyv]
        go_wp2_with fail
        refine (awake_calls _).mono ?_
        rintro e w5 ⟨rfl, b5⟩
        go_wp2_with fail
        go_ret
        have B45 := B4.alloc B4.size (.cells #[.int .i64 y.kind, .string y.text, .slice y.LA y.ln y.lc, .slice y.FA y.fn y.fc, .slice y.KA y.kn y.kc] 26)
        exact ⟨rfl, B45.trans (b5.mono B45.size)⟩
    · have hl1 : ¬ (E.size : Int) ≤ (G.size : Int) := by omega
      have hl2 : (G.size : Int) < (E.size : Int) := by omega
      have hl3 : (G.size : Int) ≤ (E.size : Int) := by omega
      have HL := Lib.hid hl
      clear hl
      by_cases hn : n < 0
      · go_wp2_with fail
        refine (none_calls ByteArray.empty _ (by decide) dec_empty).mono ?_
        rintro e w4 ⟨y, rfl, -, -, b4⟩
        have B4 := B3.trans (b4.mono B3.size)
        have hyv : y.val = .agg #[.int .i64 y.kind, .string y.text, .slice y.LA y.ln y.lc, .slice y.FA y.fn y.fc, .slice y.KA y.kn y.kc] := rfl
        rw [hyv]
        go_wp2_with fail
        refine (awake_calls _).mono ?_
        rintro e w5 ⟨rfl, b5⟩
        go_wp2_with fail
        go_ret
        have B45 := B4.alloc B4.size (.cells #[.int .i64 y.kind, .string y.text, .slice y.LA y.ln y.lc, .slice y.FA y.fn y.fc, .slice y.KA y.kn y.kc] 26)
        exact ⟨rfl, B45.trans (b5.mono B45.size)⟩
      · obtain ⟨m, hm⟩ : ∃ m : Nat, n % (E.size : Int) = (m : Int) := ⟨(n % (E.size : Int)).toNat, by have := Int.emod_nonneg n (show (E.size : Int) ≠ 0 by omega); omega⟩
        have hml : m < E.size := by have := Int.emod_lt_of_pos n (show (0 : Int) < (E.size : Int) by omega); omega
        have hdn := HP.out m hml
        have hmi : (m : Int) ≤ (E.size : Int) := by omega
        have hm0 : (0 : Int) ≤ (m : Int) := by omega
        have HM := Lib.hid hml
        have HD := Lib.hid hdn
        clear hml hdn
        go_wp2_with fail
        refine (none_calls (E.extract 0 m) _ (by rw [ByteArray.size_extract]; omega) HD.out).mono ?_
        rintro e w4 ⟨y, rfl, -, -, b4⟩
        have B4 := B3.trans (b4.mono B3.size)
        have hyv : y.val = .agg #[.int .i64 y.kind, .string y.text, .slice y.LA y.ln y.lc, .slice y.FA y.fn y.fc, .slice y.KA y.kn y.kc] := rfl
        rw [hyv]
        go_wp2_with fail
        refine (awake_calls _).mono ?_
        rintro e w5 ⟨rfl, b5⟩
        go_wp2_with fail
        go_ret
        have B45 := B4.alloc B4.size (.cells #[.int .i64 y.kind, .string y.text, .slice y.LA y.ln y.lc, .slice y.FA y.fn y.fc, .slice y.KA y.kn y.kc] 26)
        exact ⟨rfl, B45.trans (b5.mono B45.size)⟩
end Go.Proofs.Ythglmpkcfigelaa.VcU
