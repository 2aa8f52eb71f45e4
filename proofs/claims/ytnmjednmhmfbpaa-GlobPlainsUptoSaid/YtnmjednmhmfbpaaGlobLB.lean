/-
  The laws GlobPlains, GlobQuotes, GlobMarks, GlobEnds, GlobStars, as walks: each call returns true and turns nothing that was there. Conditions: GlobPlains: the text has at most 1048576 bytes; else none.
-/
import Derived.Test.YtnmjednmhmfbpaaGlobL
import Derived.Test.YtnmjednmhmfbpaaGlobQ
set_option maxRecDepth 100000
namespace Go.Proofs.Ytnmjednmhmfbpaa.GlobLB
open Go.RowKit Go.Proofs.Ytnmjednmhmfbpaa.GlobA Go.Proofs.Ytnmjednmhmfbpaa.GlobB Go.Proofs.Ytnmjednmhmfbpaa.GlobM Go.Proofs.Ytnmjednmhmfbpaa.Bytes Go.Proofs.Ytnmjednmhmfbpaa.GlobL Go.Proofs.Ytnmjednmhmfbpaa.GlobQ

set_option maxHeartbeats 1000000 in
theorem walkGlobPlains (a0 : ByteArray) (w0 : a0.size ≤ 1048576) (w : World) :
    Calls Try.prog 5 #[.string a0] w fun e w' => e = .returned (.bool true) ∧ Below w.heap.size w w' := by
  go_enter Try.func5, Try.ntmps5
  go_wp2_with fail
  refine (GlobW4.plain_calls _ _ (by omega)).mono ?_
  rintro e w1 ⟨t, b, rfl, ht, hb, b1⟩
  have Ht := Lib.hid ht
  have Hb := Lib.hid hb
  clear ht hb
  go_wp2_with fail
  refine (GlobW5.rplain_calls _ _ (by omega)).mono ?_
  rintro e w2 ⟨t2, b2, rfl, ht2, hb2, b2'⟩
  obtain rfl : t2 = t := ht2.trans Ht.out.symm
  obtain rfl : b2 = b := hb2.trans Hb.out.symm
  clear ht2 hb2 Ht Hb
  go_wp2_with fail
  refine (GlobW4.quote_calls _ _ (by omega)).mono ?_
  rintro e w3 ⟨rfl, b3⟩
  go_wp2_with fail
  refine (GlobW5.rquote_calls _ _ (by omega)).mono ?_
  rintro e w4 ⟨rfl, b4⟩
  go_wp2_with fail
  refine (sure_calls _).mono ?_
  rintro e w5 ⟨rfl, b5⟩
  have l1 := b1.size
  have l2 := b2'.size
  have l3 := b3.size
  have l4 := b4.size
  go_wp2_with fail
  go_ret
  exact ⟨rfl, (((b1.trans (b2'.mono l1)).trans (b3.mono (by omega))).trans (b4.mono (by omega))).trans (b5.mono (by omega))⟩

theorem bytes_ext {s t : ByteArray} (h : s.data.toList = t.data.toList) : s = t := by
  cases s; cases t; simp at h; simp [h]
theorem toList_data (s : ByteArray) : s.toList = s.data.toList := ByteArray.toList_eq s
theorem bytes_back (s : ByteArray) : (⟨s.data.toList.toArray⟩ : ByteArray) = s := by cases s; simp
theorem size_list (l : List UInt8) : (⟨l.toArray⟩ : ByteArray).size = l.length := by
  show l.toArray.size = _; simp
theorem plain_quote_calls (s : ByteArray) (w : World) (hs : s.size ≤ 1048576) :
    Calls Try.prog 15 #[.string ⟨(quoteL s.data.toList).toArray⟩] w fun e w' => e = .returned (.tuple #[.string s, .bool true]) ∧ Below w.heap.size w w' := by
  refine (GlobW4.plain_calls _ _ (by rw [size_list]; have := quote_len s.data.toList; rw [bytes_len] at this; omega)).mono ?_
  rintro e w' ⟨t, b, rfl, ht, hb, h⟩
  have hq := plain_quote s.data.toList
  obtain rfl : t = s.data.toList := ht.trans (by show (plainL (quoteL s.data.toList)).getD [] = _; rw [hq]; rfl)
  obtain rfl : b = true := hb.trans (by show (plainL (quoteL s.data.toList)).isSome = _; rw [hq]; rfl)
  exact ⟨by rw [bytes_back], h⟩
theorem match_quote_calls (s t : ByteArray) (r : Bool) (w : World) (hs : s.size ≤ 1048576) (ht : t.size ≤ 1048576) (h : decide (s = t) = r) :
    Calls Try.prog 11 #[.string ⟨(quoteL s.data.toList).toArray⟩, .string t] w fun e w' => e = .returned (.bool r) ∧ ∃ nd, w' = w.drewN nd := by
  refine match_at _ _ _ r (by rw [size_list]; have := quote_len s.data.toList; rw [bytes_len] at this; omega) (by omega) ?_
  show means (quoteL s.data.toList) t.data.toList = r
  rw [quote_is, ← h, Bool.eq_iff_iff]
  simp only [decide_eq_true_eq]
  exact ⟨bytes_ext, fun e => by rw [e]⟩

set_option maxHeartbeats 2000000 in
theorem walkGlobQuotes (s : ByteArray) (t : ByteArray) (w0 : s.size ≤ maxLen) (w1 : t.size ≤ maxLen) (w : World) :
    Calls Try.prog 6 #[.string s, .string t] w fun e w' => e = .returned (.bool true) ∧ Below w.heap.size w w' := by
  unfold maxLen at w0 w1
  by_cases h0 : s.size ≤ 4000
  · by_cases h1 : t.size ≤ 4000
    · go_enter Try.func6, Try.ntmps6
      go_wp2_with fail
      refine (GlobW4.quote_calls _ _ (by omega)).mono ?_
      rintro e w1 ⟨rfl, b1⟩
      go_wp2_with fail
      refine (plain_quote_calls s _ (by omega)).mono ?_
      rintro e w2 ⟨rfl, b2⟩
      go_wp2_with fail
      refine (match_quote_calls s s true _ (by omega) (by omega) (by simp)).mono ?_
      rintro e w3 ⟨rfl, nd, rfl⟩
      go_wp2_with fail
      by_cases hst : s = t
      · subst hst
        refine (match_quote_calls s s true _ (by omega) (by omega) (by simp)).mono ?_
        rintro e w4 ⟨rfl, nd2, rfl⟩
        go_wp2_with fail
        refine (sure_calls _).mono ?_
        rintro e w5 ⟨rfl, b5⟩
        go_wp2_with fail
        go_ret
        exact ⟨rfl, (GlobW7.below_drawn (b1.trans (b2.mono b1.size)) _).trans (b5.mono (Nat.le_trans b1.size b2.size))⟩
      · have hne : (s.toList == t.toList) = false := by
          rw [beq_eq_false_iff_ne]; exact fun e => hst (bytes_ext (by rw [← toList_data, ← toList_data, e]))
        refine (match_quote_calls s t false _ (by omega) (by omega) (by simpa using hst)).mono ?_
        rintro e w4 ⟨rfl, nd2, rfl⟩
        go_wp2_with fail
        refine (sure_calls _).mono ?_
        rintro e w5 ⟨rfl, b5⟩
        go_wp2_with fail
        go_ret
        exact ⟨rfl, (GlobW7.below_drawn (b1.trans (b2.mono b1.size)) _).trans (b5.mono (Nat.le_trans b1.size b2.size))⟩
    · go_enter Try.func6, Try.ntmps6
      go_wp2_with fail
      refine (sure_calls _).mono ?_
      rintro e w3 ⟨rfl, b3⟩
      go_wp2_with fail
      go_ret
      exact ⟨rfl, b3⟩
  · go_enter Try.func6, Try.ntmps6
    go_wp2_with fail
    refine (sure_calls _).mono ?_
    rintro e w3 ⟨rfl, b3⟩
    go_wp2_with fail
    go_ret
    exact ⟨rfl, b3⟩
end Go.Proofs.Ytnmjednmhmfbpaa.GlobLB
