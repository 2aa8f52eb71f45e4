/-
  The walk of ValueBack. Conditions: as stated.
-/
import Derived.Test.YthglmpkcfigelaaVcS
import Derived.Test.YthglmpkcfigelaaLawW
set_option maxRecDepth 100000
set_option linter.unusedSimpArgs false
set_option linter.unusedVariables false
namespace Go.Proofs.Ythglmpkcfigelaa.VcT
open Go Go.RowKit Go.Proofs.Ythglmpkcfigelaa.Mem Go.Proofs.Ythglmpkcfigelaa.VaA Go.Proofs.Ythglmpkcfigelaa.VaC Go.Proofs.Ythglmpkcfigelaa.VaH Go.Proofs.Ythglmpkcfigelaa.VaI Go.Proofs.Ythglmpkcfigelaa.VaT Go.Proofs.Ythglmpkcfigelaa.VaW Go.Proofs.Ythglmpkcfigelaa.VaX Go.Proofs.Ythglmpkcfigelaa.VbA Go.Proofs.Ythglmpkcfigelaa.VbB Go.Proofs.Ythglmpkcfigelaa.VbE Go.Proofs.Ythglmpkcfigelaa.VcL Go.Proofs.Ythglmpkcfigelaa.VcO Go.Proofs.Ythglmpkcfigelaa.VcQ Go.Proofs.Ythglmpkcfigelaa.VcR Go.Proofs.Ythglmpkcfigelaa.VcS

theorem enc_size (x : VV) : (⟨(encV x).toArray⟩ : ByteArray).size = (encV x).length := by simp [ByteArray.size]
theorem enc_list (x : VV) : (⟨(encV x).toArray⟩ : ByteArray).data.toList = encV x := rfl
theorem app_list (a b : ByteArray) : (a ++ b).data.toList = a.data.toList ++ b.data.toList := by simp

set_option maxHeartbeats 8000000 in
theorem backs_calls (x : VV) (s : ByteArray) (w : World) (ha : LawW.Arg w x) (hs : s.size ≤ 1048576) : Calls Try.prog 5 #[x.val, .string s] w fun e w' => e = .returned (.bool true) ∧ Below w.heap.size w w' := by
  have hv : x.val = .agg #[.int .i64 x.kind, .string x.text, .slice x.LA x.ln x.lc, .slice x.FA x.fn x.fc, .slice x.KA x.kn x.kc] := rfl
  have hen := fun w' (h : Below w.heap.size w w') => encode_calls x w' (ha.a.rd.below h) ha.a.sm
  have hch := fun w' (h : Below w.heap.size w w') => check_calls x w' (ha.a.rd.below h) ha.a.sm.kn ha.a.sm.z
  have hsp : ∀ (y : VV) (w' : World), Below w.heap.size w w' → RdV w' y → sameV x y = true → Calls Try.prog 19 #[x.val, y.val] w' fun e w'' => e = .returned (.bool true) ∧ Below w'.heap.size w' w'' := fun y w' h hy he => by
    have h := sameP_calls x y w' (ha.a.rd.below h) hy
    rwa [he] at h
  have hsr : ∀ (y : VV) (w' : World), Below w.heap.size w w' → RdV w' y → sameV x y = true → Calls Try.prog 17 #[x.val, y.val] w' fun e w'' => e = .returned (.bool true) ∧ Below w'.heap.size w' w'' := fun y w' h hy he => by
    have h := sameR_calls x y w' (ha.a.rd.below h) hy
    rwa [he] at h
  have hbk := fun w' (h0 : chk x = 0) (h : Below w.heap.size w w') => back_calls x s.data.toList (⟨(encV x).toArray⟩ ++ s) w' (by have := ha.e; rw [ByteArray.size_append, enc_size]; omega) h0 (len_of ha.a.rd) ha.a.sm (by rw [app_list])
  obtain ⟨E, hE⟩ : ∃ E : ByteArray, (⟨(encV x).toArray⟩ : ByteArray) = E := ⟨_, rfl⟩
  have hL : (encV x).length = E.size := by rw [← hE, enc_size]
  rw [hE, hL] at hbk
  rw [hE] at hen
  rw [hv] at hen hch hsp hsr ⊢
  have HL := Lib.hid hL
  obtain ⟨W0, hW0⟩ : ∃ W0, w.alloc (.cells #[.int .i64 x.kind, .string x.text, .slice x.LA x.ln x.lc, .slice x.FA x.fn x.fc, .slice x.KA x.kn x.kc] 26) = W0 := ⟨_, rfl⟩
  have B0 : Below w.heap.size w W0 := by rw [← hW0]; exact (Below.refl _ w).alloc (Nat.le_refl _) _
  have p0 : Bv W0 w.heap.size x.kind x.text (.slice x.LA x.ln x.lc) (.slice x.FA x.fn x.fc) (.slice x.KA x.kn x.kc) := by
    rw [← hW0]; exact heap_alloc_new w _
  have H0 := Lib.hid hW0
  have HEs : Hid (E.size ≤ 8000000) := Lib.hid (by rw [← hL]; exact ha.e)
  clear hW0 hE hL ha
  obtain ⟨x0, x1, x2, x3, x4⟩ := p0.cells
  go_enter Try.func5, Try.ntmps5
  go_wp2_with fail
  rw [H0.out]
  go_wp2_with fail
  refine (hen W0 B0).mono ?_
  rintro e w1 ⟨rfl, b1⟩
  have B1 := B0.trans (b1.mono B0.size)
  have P1 : Bv w1 w.heap.size x.kind x.text (.slice x.LA x.ln x.lc) (.slice x.FA x.fn x.fc) (.slice x.KA x.kn x.kc) := Bv.below p0 b1
  clear x0 x1 x2 x3 x4 p0 b1 B0 hen
  obtain ⟨x0, x1, x2, x3, x4⟩ := P1.cells
  go_wp2_with fail
  refine (hch w1 B1).mono ?_
  rintro e w2 ⟨rfl, b2⟩
  have B2 := B1.trans (b2.mono B1.size)
  have P2 : Bv w2 w.heap.size x.kind x.text (.slice x.LA x.ln x.lc) (.slice x.FA x.fn x.fc) (.slice x.KA x.kn x.kc) := Bv.below P1 b2
  clear x0 x1 x2 x3 x4 P1 b2 B1 hch
  by_cases hc : chk x = 0
  · have HC := Lib.hid hc
    rw [hc]
    clear hc
    go_wp2_with fail
    refine (awake_calls _).mono ?_
    rintro e w3 ⟨rfl, b3⟩
    have B3 := B2.trans (b3.mono B2.size)
    have P3 : Bv w3 w.heap.size x.kind x.text (.slice x.LA x.ln x.lc) (.slice x.FA x.fn x.fc) (.slice x.KA x.kn x.kc) := Bv.below P2 b3
    clear P2 b3 B2
    have hszn : ¬ (9223372036854775807 < E.size + s.size) := by have := HEs.out; omega
    have hbk3 := hbk w3 HC.out B3
    go_wp2_with fail
    refine hbk3.mono ?_
    rintro e w4 ⟨y, rfl, hsy, -, -, -, ry, -, -, b4⟩
    have B4 := B3.trans (b4.mono B3.size)
    have P4 : Bv w4 w.heap.size x.kind x.text (.slice x.LA x.ln x.lc) (.slice x.FA x.fn x.fc) (.slice x.KA x.kn x.kc) := Bv.below P3 b4
    have hyv : y.val = .agg #[.int .i64 y.kind, .string y.text, .slice y.LA y.ln y.lc, .slice y.FA y.fn y.fc, .slice y.KA y.kn y.kc] := rfl
    have hp4 := fun w' (h : Below w4.heap.size w4 w') => hsp y w' (B4.trans (h.mono B4.size)) (ry.below h) hsy
    have hr4 := fun w' (h : Below w4.heap.size w4 w') => hsr y w' (B4.trans (h.mono B4.size)) (ry.below h) hsy
    rw [hyv] at hp4 hr4 ⊢
    obtain ⟨W5, hW5⟩ : ∃ W5, w4.alloc (.cells #[.int .i64 y.kind, .string y.text, .slice y.LA y.ln y.lc, .slice y.FA y.fn y.fc, .slice y.KA y.kn y.kc] 26) = W5 := ⟨_, rfl⟩
    have q5 : Bv W5 w4.heap.size y.kind y.text (.slice y.LA y.ln y.lc) (.slice y.FA y.fn y.fc) (.slice y.KA y.kn y.kc) := by rw [← hW5]; exact heap_alloc_new w4 _
    have b5 : Below w4.heap.size w4 W5 := by rw [← hW5]; exact (Below.refl _ w4).alloc (Nat.le_refl _) _
    have P5 := Bv.below P4 b5
    have B5 := B4.trans (b5.mono B4.size)
    subst hW5
    clear hbk hbk3 hszn P3 B3 P4 hsp hsr b4 hsy hyv
    obtain ⟨x0, x1, x2, x3, x4⟩ := P5.cells
    obtain ⟨y0, y1, y2, y3, y4⟩ := q5.cells
    go_wp2_with fail
    refine (hp4 _ b5).mono ?_
    rintro e w6 ⟨rfl, b6⟩
    have P6 := Bv.below P5 b6
    have q6 := Bv.below q5 b6
    have b46 := b5.trans (b6.mono b5.size)
    clear x0 x1 x2 x3 x4 y0 y1 y2 y3 y4 P5 q5 hp4
    obtain ⟨x0, x1, x2, x3, x4⟩ := P6.cells
    obtain ⟨y0, y1, y2, y3, y4⟩ := q6.cells
    go_wp2_with fail
    refine (hr4 _ b46).mono ?_
    rintro e w8 ⟨rfl, b8⟩
    have b48 := b46.trans (b8.mono b46.size)
    have BQ := B4.trans (b48.mono B4.size)
    clear x0 x1 x2 x3 x4 y0 y1 y2 y3 y4 P6 q6 hr4 b8 b46 b6 B5 B4 b5 b48 ry
    go_wp2_with fail
    by_cases hok : (decD s).ok = true
    · refine (got_calls s _ (by omega) hok).mono ?_
      rintro e w7 ⟨y, rfl, hks, hcy, hey, ry, sy, -, b7⟩
      have B7 := BQ.trans (b7.mono BQ.size)
      clear hok
      obtain ⟨k, hk⟩ : ∃ k, (decD s).st.k = k := ⟨_, rfl⟩
      rw [hk] at hks hey ⊢
      clear hk
      have hyv : y.val = .agg #[.int .i64 y.kind, .string y.text, .slice y.LA y.ln y.lc, .slice y.FA y.fn y.fc, .slice y.KA y.kn y.kc] := rfl
      have heny := fun w' (h : Below w7.heap.size w7 w') => encode_calls y w' (ry.below h) sy
      have hchy := fun w' (h : Below w7.heap.size w7 w') => check_calls y w' (ry.below h) sy.kn sy.z
      have hst : (⟨(encV y).toArray⟩ : ByteArray) = s.extract 0 k := by
        apply ba_eq
        rw [enc_list, ext_list, hey]; simp
      rw [hst, hcy, hyv] at heny
      rw [hcy, hyv] at hchy
      rw [hyv]
      have q7 : Bv (w7.alloc (.cells #[.int .i64 y.kind, .string y.text, .slice y.LA y.ln y.lc, .slice y.FA y.fn y.fc, .slice y.KA y.kn y.kc] 26)) w7.heap.size y.kind y.text (.slice y.LA y.ln y.lc) (.slice y.FA y.fn y.fc) (.slice y.KA y.kn y.kc) := heap_alloc_new w7 _
      have b8 : Below w7.heap.size w7 (w7.alloc (.cells #[.int .i64 y.kind, .string y.text, .slice y.LA y.ln y.lc, .slice y.FA y.fn y.fc, .slice y.KA y.kn y.kc] 26)) := (Below.refl _ w7).alloc (Nat.le_refl _) _
      obtain ⟨x0, x1, x2, x3, x4⟩ := q7.cells
      have hKs : (k : Int) ≤ (s.size : Int) := by omega
      have hk0 : (0 : Int) ≤ (k : Int) := by omega
      have hkt : ((k : Int)).toNat = k := by omega
      clear hst hcy hey
      go_wp2_with fail
      refine (heny _ b8).mono ?_
      rintro e w9 ⟨rfl, b9⟩
      have q9 := Bv.below q7 b9
      have b79 := b8.trans (b9.mono b8.size)
      clear q7 x0 x1 x2 x3 x4
      obtain ⟨x0, x1, x2, x3, x4⟩ := q9.cells
      go_wp2_with fail
      refine (hchy _ b79).mono ?_
      rintro e w10 ⟨rfl, b10⟩
      go_wp2_with fail
      go_ret
      exact ⟨rfl, B7.trans ((b79.trans (b10.mono b79.size)).mono B7.size)⟩
    · have hok' : (decD s).ok = false := by simpa using hok
      refine (none_calls s _ (by omega) hok').mono ?_
      rintro e w7 ⟨y, rfl, hsy, ry, b7⟩
      have B7 := BQ.trans (b7.mono BQ.size)
      clear hok hok'
      have hyv : y.val = .agg #[.int .i64 y.kind, .string y.text, .slice y.LA y.ln y.lc, .slice y.FA y.fn y.fc, .slice y.KA y.kn y.kc] := rfl
      have hzv : zeroV.val = .agg #[.int .i64 0, .string ⟨#[]⟩, .slice none 0 0, .slice none 0 0, .slice none 0 0] := rfl
      have hcall := fun w' (h : Below w7.heap.size w7 w') => sameR_calls y zeroV w' (ry.below h) ⟨rd_nil0 _ _, rd_nil0 _ _, rd_nil0 _ _⟩
      rw [hsy, hyv, hzv] at hcall
      rw [hyv]
      have q7 : Bv (w7.alloc (.cells #[.int .i64 y.kind, .string y.text, .slice y.LA y.ln y.lc, .slice y.FA y.fn y.fc, .slice y.KA y.kn y.kc] 26)) w7.heap.size y.kind y.text (.slice y.LA y.ln y.lc) (.slice y.FA y.fn y.fc) (.slice y.KA y.kn y.kc) := heap_alloc_new w7 _
      have b8 : Below w7.heap.size w7 (w7.alloc (.cells #[.int .i64 y.kind, .string y.text, .slice y.LA y.ln y.lc, .slice y.FA y.fn y.fc, .slice y.KA y.kn y.kc] 26)) := (Below.refl _ w7).alloc (Nat.le_refl _) _
      obtain ⟨x0, x1, x2, x3, x4⟩ := q7.cells
      clear hsy
      go_wp2_with fail
      refine (hcall _ b8).mono ?_
      rintro e w9 ⟨rfl, b9⟩
      go_wp2_with fail
      go_ret
      exact ⟨rfl, B7.trans ((b8.trans (b9.mono b8.size)).mono B7.size)⟩
  · have hne : (chk x == 0) = false := by simpa using hc
    obtain ⟨C, hC⟩ : ∃ C, chk x = C := ⟨_, rfl⟩
    rw [hC] at hne ⊢
    clear hc hC
    go_wp2_with fail
    refine (awake_calls _).mono ?_
    rintro e w3 ⟨rfl, b3⟩
    have BQ := B2.trans (b3.mono B2.size)
    clear P2 b3 B2 hsp hsr hbk
    go_wp2_with fail
    by_cases hok : (decD s).ok = true
    · refine (got_calls s _ (by omega) hok).mono ?_
      rintro e w7 ⟨y, rfl, hks, hcy, hey, ry, sy, -, b7⟩
      have B7 := BQ.trans (b7.mono BQ.size)
      clear hok
      obtain ⟨k, hk⟩ : ∃ k, (decD s).st.k = k := ⟨_, rfl⟩
      rw [hk] at hks hey ⊢
      clear hk
      have hyv : y.val = .agg #[.int .i64 y.kind, .string y.text, .slice y.LA y.ln y.lc, .slice y.FA y.fn y.fc, .slice y.KA y.kn y.kc] := rfl
      have heny := fun w' (h : Below w7.heap.size w7 w') => encode_calls y w' (ry.below h) sy
      have hchy := fun w' (h : Below w7.heap.size w7 w') => check_calls y w' (ry.below h) sy.kn sy.z
      have hst : (⟨(encV y).toArray⟩ : ByteArray) = s.extract 0 k := by
        apply ba_eq
        rw [enc_list, ext_list, hey]; simp
      rw [hst, hcy, hyv] at heny
      rw [hcy, hyv] at hchy
      rw [hyv]
      have q7 : Bv (w7.alloc (.cells #[.int .i64 y.kind, .string y.text, .slice y.LA y.ln y.lc, .slice y.FA y.fn y.fc, .slice y.KA y.kn y.kc] 26)) w7.heap.size y.kind y.text (.slice y.LA y.ln y.lc) (.slice y.FA y.fn y.fc) (.slice y.KA y.kn y.kc) := heap_alloc_new w7 _
      have b8 : Below w7.heap.size w7 (w7.alloc (.cells #[.int .i64 y.kind, .string y.text, .slice y.LA y.ln y.lc, .slice y.FA y.fn y.fc, .slice y.KA y.kn y.kc] 26)) := (Below.refl _ w7).alloc (Nat.le_refl _) _
      obtain ⟨x0, x1, x2, x3, x4⟩ := q7.cells
      have hKs : (k : Int) ≤ (s.size : Int) := by omega
      have hk0 : (0 : Int) ≤ (k : Int) := by omega
      have hkt : ((k : Int)).toNat = k := by omega
      clear hst hcy hey
      go_wp2_with fail
      refine (heny _ b8).mono ?_
      rintro e w9 ⟨rfl, b9⟩
      have q9 := Bv.below q7 b9
      have b79 := b8.trans (b9.mono b8.size)
      clear q7 x0 x1 x2 x3 x4
      obtain ⟨x0, x1, x2, x3, x4⟩ := q9.cells
      go_wp2_with fail
      refine (hchy _ b79).mono ?_
      rintro e w10 ⟨rfl, b10⟩
      go_wp2_with fail
      go_ret
      exact ⟨rfl, B7.trans ((b79.trans (b10.mono b79.size)).mono B7.size)⟩
    · have hok' : (decD s).ok = false := by simpa using hok
      refine (none_calls s _ (by omega) hok').mono ?_
      rintro e w7 ⟨y, rfl, hsy, ry, b7⟩
      have B7 := BQ.trans (b7.mono BQ.size)
      clear hok hok'
      have hyv : y.val = .agg #[.int .i64 y.kind, .string y.text, .slice y.LA y.ln y.lc, .slice y.FA y.fn y.fc, .slice y.KA y.kn y.kc] := rfl
      have hzv : zeroV.val = .agg #[.int .i64 0, .string ⟨#[]⟩, .slice none 0 0, .slice none 0 0, .slice none 0 0] := rfl
      have hcall := fun w' (h : Below w7.heap.size w7 w') => sameR_calls y zeroV w' (ry.below h) ⟨rd_nil0 _ _, rd_nil0 _ _, rd_nil0 _ _⟩
      rw [hsy, hyv, hzv] at hcall
      rw [hyv]
      have q7 : Bv (w7.alloc (.cells #[.int .i64 y.kind, .string y.text, .slice y.LA y.ln y.lc, .slice y.FA y.fn y.fc, .slice y.KA y.kn y.kc] 26)) w7.heap.size y.kind y.text (.slice y.LA y.ln y.lc) (.slice y.FA y.fn y.fc) (.slice y.KA y.kn y.kc) := heap_alloc_new w7 _
      have b8 : Below w7.heap.size w7 (w7.alloc (.cells #[.int .i64 y.kind, .string y.text, .slice y.LA y.ln y.lc, .slice y.FA y.fn y.fc, .slice y.KA y.kn y.kc] 26)) := (Below.refl _ w7).alloc (Nat.le_refl _) _
      obtain ⟨x0, x1, x2, x3, x4⟩ := q7.cells
      clear hsy
      go_wp2_with fail
      refine (hcall _ b8).mono ?_
      rintro e w9 ⟨rfl, b9⟩
      go_wp2_with fail
      go_ret
      exact ⟨rfl, B7.trans ((b8.trans (b9.mono b8.size)).mono B7.size)⟩
end Go.Proofs.Ythglmpkcfigelaa.VcT
