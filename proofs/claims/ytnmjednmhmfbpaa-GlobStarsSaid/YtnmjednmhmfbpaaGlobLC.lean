/-
  The laws GlobMarks, GlobEnds, GlobStars, as walks: each call returns true and turns nothing that was there. Conditions: none.
-/
import Derived.Test.YtnmjednmhmfbpaaGlobLB
set_option maxRecDepth 100000
namespace Go.Proofs.Ytnmjednmhmfbpaa.GlobLC
open Go.RowKit Go.Proofs.Ytnmjednmhmfbpaa.GlobA Go.Proofs.Ytnmjednmhmfbpaa.GlobB Go.Proofs.Ytnmjednmhmfbpaa.GlobM Go.Proofs.Ytnmjednmhmfbpaa.Bytes Go.Proofs.Ytnmjednmhmfbpaa.GlobL Go.Proofs.Ytnmjednmhmfbpaa.GlobQ Go.Proofs.Ytnmjednmhmfbpaa.GlobLB

theorem data_append (a b : ByteArray) : (a ++ b).data.toList = a.data.toList ++ b.data.toList := by
  obtain ⟨a⟩ := a
  obtain ⟨b⟩ := b
  rw [ByteArray.mk_append_mk]
theorem size_app (a b : ByteArray) : (a ++ b).size = a.size + b.size := by
  have h := congrArg List.length (data_append a b)
  rw [List.length_append, bytes_len, bytes_len, bytes_len] at h; exact h

set_option maxHeartbeats 2000000 in
theorem walkGlobMarks (n : Int) (s : ByteArray) (_w0 : (Lit.int .i64 n).wf = true) (w1 : s.size ≤ maxLen) (w : World) :
    Calls Try.prog 8 #[.int .i64 n, .string s] w fun e w' => e = .returned (.bool true) ∧ Below w.heap.size w w' := by
  unfold maxLen at w1
  by_cases h0 : s.size ≤ 4000
  · go_enter Try.func8, Try.ntmps8
    go_wp2_with fail
    obtain ⟨m, hm, hm2⟩ : ∃ m : Nat, max 0 (min n 1000) = (m : Int) ∧ m ≤ 1000 := ⟨(max 0 (min n 1000)).toNat, by omega, by omega⟩
    rw [hm]
    clear hm
    obtain ⟨i0, hi0, hz0, hz1, hz2⟩ := info_parts Shelf.extra167.infoByte
    have HI := Lib.hid hi0
    have HZ := Lib.hid hz0
    have HZ1 := Lib.hid hz1
    have HZ2 := Lib.hid hz2
    clear hi0 hz0 hz1 hz2
    go_loopw [5, 6] (fun v i wr => ∃ j : Nat, j ≤ m ∧ i = .int .i64 j ∧ wr.ownsRow w.heap.size 5 1 v (List.replicate j (63 : UInt8)).length (Lib.byteCells (List.replicate j 63)) ∧ Below w.heap.size w wr) (fun _ i _ => m - (intOf i).toNat)
    case atStart => exact ⟨0, Nat.zero_le _, rfl, World.ownsRow_nil _ _ _ _, Below.refl _ _⟩
    case round =>
      obtain ⟨j, h1, rfl, hI, hb⟩ := hrel
      have hsz := hb.size
      by_cases hlt : j < m
      · have hl : Hid ((List.replicate j (63 : UInt8)).length = j) := by simp [Hid]
        go_wp2_with (at_builtin; refine Base.wpList_append_one rfl (.tmp 19) (.tmp 20) _ rfl w.heap.size _ i0 _ 1 Try.underlying29 HI.out HZ.out HZ1.out HZ2.out rfl _ _ _ rfl hI (.int .u8 63) rfl rfl (by unfold maxLen; rw [hl.out]; omega) (by rw [hl.out]; omega) hsz ?_; intro v1 w1 o1 b1)
        exact ⟨⟨j + 1, by omega, by go_num, by rw [List.replicate_succ']; simpa [Lib.byteCells] using o1, hb.trans b1⟩, by simp [intOf]; omega⟩
      · obtain rfl : j = m := by omega
        have hcv := Base.convert_own (P := Try.prog) (dst := 9) Try.underlying29 Try.underlying5 Try.underlying9 hI
        have hcv2 := fun nd => Base.convert_own (P := Try.prog) (w := wr.drewN nd) (dst := 9) Try.underlying29 Try.underlying5 Try.underlying9 hI
        clear hI
        obtain ⟨q, hq⟩ : ∃ q : ByteArray, q = ⟨(List.replicate j (63 : UInt8)).toArray⟩ := ⟨_, rfl⟩
        have HQ := Lib.hid hq
        rw [← hq] at hcv
        simp only [← hq] at hcv2
        clear hq
        have hqs : q.size ≤ 1000 := by rw [HQ.out, size_list]; simp; omega
        have hql : q.data.toList = List.replicate j 63 := by rw [HQ.out]
        have m1 : means q.data.toList s.data.toList = decide (s.size = j) := by rw [hql, marks_all, bytes_len]
        have m2 : means (q ++ ⟨#[42]⟩).data.toList s.data.toList = decide (j ≤ s.size) := by rw [data_append, hql, ← bytes_len s]; exact marks_star j _
        have M1 := Lib.hid m1
        have M2 := Lib.hid m2
        clear m1 m2 hql
        go_wp2_with fail
        by_cases hc : s.size = j
        · have h2 : (((s.size : Int) == (j : Int))) = true := by simp [hc]
          refine (match_at _ _ _ true (by omega) (by omega) (by rw [M1.out]; simpa using hc)).mono ?_
          rintro e w1 ⟨rfl, nd, rfl⟩
          have h3 : (j : Int) ≤ (s.size : Int) := by omega
          go_wp2_with fail
          refine (match_at _ _ _ true (by rw [size_app]; show q.size + 1 ≤ _; omega) (by omega) (by rw [M2.out]; simp; omega)).mono ?_
          rintro e w2 ⟨rfl, nd2, rfl⟩
          go_wp2_with fail
          refine (sure_calls _).mono ?_
          rintro e w3 ⟨rfl, b3⟩
          go_wp2_with fail
          go_ret
          exact ⟨rfl, (GlobW7.below_drawn hb _).trans (b3.mono hsz)⟩
        · have h2 : (((s.size : Int) == (j : Int))) = false := by rw [beq_eq_false_iff_ne]; omega
          refine (match_at _ _ _ false (by omega) (by omega) (by rw [M1.out]; simpa using hc)).mono ?_
          rintro e w1 ⟨rfl, nd, rfl⟩
          by_cases h3 : (j : Int) ≤ (s.size : Int)
          · go_wp2_with fail
            refine (match_at _ _ _ true (by rw [size_app]; show q.size + 1 ≤ _; omega) (by omega) (by rw [M2.out]; simp; omega)).mono ?_
            rintro e w2 ⟨rfl, nd2, rfl⟩
            go_wp2_with fail
            refine (sure_calls _).mono ?_
            rintro e w3 ⟨rfl, b3⟩
            go_wp2_with fail
            go_ret
            exact ⟨rfl, (GlobW7.below_drawn hb _).trans (b3.mono hsz)⟩
          · have h4 : decide (j ≤ s.size) = false := by simp; omega
            go_wp2_with fail
            refine (match_at _ _ _ false (by rw [size_app]; show q.size + 1 ≤ _; omega) (by omega) (by rw [M2.out]; simp; omega)).mono ?_
            rintro e w2 ⟨rfl, nd2, rfl⟩
            go_wp2_with fail
            refine (sure_calls _).mono ?_
            rintro e w3 ⟨rfl, b3⟩
            go_wp2_with fail
            go_ret
            exact ⟨rfl, (GlobW7.below_drawn hb _).trans (b3.mono hsz)⟩
  · go_enter Try.func8, Try.ntmps8
    go_wp2_with fail
    refine (sure_calls _).mono ?_
    rintro e w3 ⟨rfl, b3⟩
    go_wp2_with fail
    go_ret
    exact ⟨rfl, b3⟩

theorem ends_cases (a b s : ByteArray) : ∃ r : Bool, means (quoteL a.data.toList ++ 42 :: quoteL b.data.toList) s.data.toList = r ∧
    ((¬ a.size + b.size ≤ s.size ∧ r = false) ∨ (a.size + b.size ≤ s.size ∧ ((s.extract 0 a.size).toList == a.toList) = false ∧ r = false) ∨
     (a.size + b.size ≤ s.size ∧ ((s.extract 0 a.size).toList == a.toList) = true ∧ ((s.extract (s.size - b.size) s.size).toList == b.toList) = false ∧ r = false) ∨
     (a.size + b.size ≤ s.size ∧ ((s.extract 0 a.size).toList == a.toList) = true ∧ ((s.extract (s.size - b.size) s.size).toList == b.toList) = true ∧ r = true)) := by
  refine ⟨_, rfl, ?_⟩
  have e1 : (s.extract 0 a.size).toList = s.data.toList.take a.data.toList.length := by rw [toList_data, bytes_len]; simp
  have e2 : (s.extract (s.size - b.size) s.size).toList = s.data.toList.drop (s.data.toList.length - b.data.toList.length) := by
    rw [toList_data, bytes_len, bytes_len]; simp [List.take_of_length_le]
  rw [ends_is, e1, e2, toList_data, toList_data, bytes_len, bytes_len, bytes_len]
  by_cases h1 : a.size + b.size ≤ s.size
  · by_cases h2 : s.data.toList.take a.size = a.data.toList
    · by_cases h3 : s.data.toList.drop (s.size - b.size) = b.data.toList
      · exact .inr (.inr (.inr ⟨h1, by simp [h2], by simp [h3], by simp [h1, h2, h3]⟩))
      · exact .inr (.inr (.inl ⟨h1, by simp [h2], by simp [h3], by simp [h1, h2, h3]⟩))
    · exact .inr (.inl ⟨h1, by simp [h2], by simp [h2]⟩)
  · exact .inl ⟨h1, by simp [h1]⟩

set_option maxHeartbeats 2000000 in
theorem walkGlobEnds (a : ByteArray) (b : ByteArray) (s : ByteArray) (w0 : a.size ≤ maxLen) (w1 : b.size ≤ maxLen) (w2 : s.size ≤ maxLen) (w : World) :
    Calls Try.prog 7 #[.string a, .string b, .string s] w fun e w' => e = .returned (.bool true) ∧ Below w.heap.size w w' := by
  unfold maxLen at w0 w1 w2
  by_cases h0 : a.size ≤ 4000
  · by_cases h1 : b.size ≤ 4000
    · by_cases h2 : s.size ≤ 4000
      · obtain ⟨r, hr, hc⟩ : ∃ r : Bool, means (quoteL a.data.toList ++ 42 :: quoteL b.data.toList) s.data.toList = r ∧
            ((¬ a.size + b.size ≤ s.size ∧ r = false) ∨ (a.size + b.size ≤ s.size ∧ ((s.extract 0 a.size).toList == a.toList) = false ∧ r = false) ∨
             (a.size + b.size ≤ s.size ∧ ((s.extract 0 a.size).toList == a.toList) = true ∧ ((s.extract (s.size - b.size) s.size).toList == b.toList) = false ∧ r = false) ∨
             (a.size + b.size ≤ s.size ∧ ((s.extract 0 a.size).toList == a.toList) = true ∧ ((s.extract (s.size - b.size) s.size).toList == b.toList) = true ∧ r = true)) := ends_cases a b s
        have Hr := Lib.hid hr
        have qa := quote_len a.data.toList
        have qb := quote_len b.data.toList
        rw [bytes_len] at qa qb
        clear hr
        rcases hc with ⟨g1, rfl⟩ | ⟨g1, g2, rfl⟩ | ⟨g1, g2, g3, rfl⟩ | ⟨g1, g2, g3, rfl⟩
        all_goals
         go_enter Try.func7, Try.ntmps7
         go_wp2_with fail
         refine (GlobW4.quote_calls _ _ (by omega)).mono ?_
         rintro e w1 ⟨rfl, b1⟩
         go_wp2_with fail
         refine (GlobW4.quote_calls _ _ (by omega)).mono ?_
         rintro e w2 ⟨rfl, b2⟩
         go_wp2_with fail
         refine (match_at _ _ _ _ (by simp only [size_app, size_list, List.length_cons, List.length_nil]; omega) (by omega) (Eq.trans (by rw [data_append, data_append, List.append_assoc]; rfl) Hr.out)).mono ?_
         rintro e w3 ⟨rfl, nd, rfl⟩
         go_wp2_with fail
         refine (sure_calls _).mono ?_
         rintro e w4 ⟨rfl, b4⟩
         go_wp2_with fail
         go_ret
         exact ⟨rfl, (GlobW7.below_drawn (b1.trans (b2.mono b1.size)) _).trans (b4.mono (Nat.le_trans b1.size b2.size))⟩
      · go_enter Try.func7, Try.ntmps7
        go_wp2_with fail
        refine (sure_calls _).mono ?_
        rintro e w3 ⟨rfl, b3⟩
        go_wp2_with fail
        go_ret
        exact ⟨rfl, b3⟩
    · go_enter Try.func7, Try.ntmps7
      go_wp2_with fail
      refine (sure_calls _).mono ?_
      rintro e w3 ⟨rfl, b3⟩
      go_wp2_with fail
      go_ret
      exact ⟨rfl, b3⟩
  · go_enter Try.func7, Try.ntmps7
    go_wp2_with fail
    refine (sure_calls _).mono ?_
    rintro e w3 ⟨rfl, b3⟩
    go_wp2_with fail
    go_ret
    exact ⟨rfl, b3⟩

set_option maxHeartbeats 2000000 in
theorem walkGlobStars (p : ByteArray) (s : ByteArray) (m : ByteArray) (w0 : p.size ≤ maxLen) (w1 : s.size ≤ maxLen) (w2 : m.size ≤ maxLen) (w : World) :
    Calls Try.prog 9 #[.string p, .string s, .string m] w fun e w' => e = .returned (.bool true) ∧ Below w.heap.size w w' := by
  unfold maxLen at w0 w1 w2
  by_cases h0 : p.size ≤ 4000
  · by_cases h1 : s.size ≤ 4000
    · by_cases h2 : m.size ≤ 4000
      · go_enter Try.func9, Try.ntmps9
        have qa := quote_len s.data.toList
        rw [bytes_len] at qa
        go_wp2_with fail
        by_cases hm : means p.data.toList s.data.toList = true
        · refine (match_at _ _ _ true (by omega) (by omega) hm).mono ?_
          rintro e w1 ⟨rfl, n1, rfl⟩
          go_wp2_with fail
          refine (match_at _ _ _ true (by rw [size_app]; show 1 + _ ≤ _; omega) (by omega) (by rw [data_append]; exact star_ahead hm [])).mono ?_
          rintro e w1 ⟨rfl, n2, rfl⟩
          go_wp2_with fail
          refine (match_at _ _ _ true (by rw [size_app]; show 1 + _ ≤ _; omega) (by rw [size_app]; omega) (by rw [data_append, data_append]; exact star_ahead hm _)).mono ?_
          rintro e w1 ⟨rfl, n3, rfl⟩
          go_wp2_with fail
          refine (GlobW4.quote_calls _ _ (by omega)).mono ?_
          rintro e w1 ⟨rfl, b1⟩
          go_wp2_with fail
          refine (match_at _ _ _ true (by rw [size_app, size_list]; show _ + 1 ≤ _; omega) (by rw [size_app]; omega) (by rw [data_append, data_append]; exact quote_star _ _)).mono ?_
          rintro e w2 ⟨rfl, n4, rfl⟩
          go_wp2_with fail
          refine (match_at _ _ _ true (by decide) (by omega) (star_star _)).mono ?_
          rintro e w2 ⟨rfl, n5, rfl⟩
          go_wp2_with fail
          refine (sure_calls _).mono ?_
          rintro e w4 ⟨rfl, b4⟩
          go_wp2_with fail
          go_ret
          exact ⟨rfl, (GlobW7.below_drawn ((GlobW7.below_drawn (Below.refl _ w) _).trans b1) _).trans (b4.mono b1.size)⟩
        · refine (match_at _ _ _ false (by omega) (by omega) (by simpa using hm)).mono ?_
          rintro e w1 ⟨rfl, n1, rfl⟩
          go_wp2_with fail
          refine (GlobW4.quote_calls _ _ (by omega)).mono ?_
          rintro e w1 ⟨rfl, b1⟩
          go_wp2_with fail
          refine (match_at _ _ _ true (by rw [size_app, size_list]; show _ + 1 ≤ _; omega) (by rw [size_app]; omega) (by rw [data_append, data_append]; exact quote_star _ _)).mono ?_
          rintro e w2 ⟨rfl, n4, rfl⟩
          go_wp2_with fail
          refine (match_at _ _ _ true (by decide) (by omega) (star_star _)).mono ?_
          rintro e w2 ⟨rfl, n5, rfl⟩
          go_wp2_with fail
          refine (sure_calls _).mono ?_
          rintro e w4 ⟨rfl, b4⟩
          go_wp2_with fail
          go_ret
          exact ⟨rfl, (GlobW7.below_drawn ((GlobW7.below_drawn (Below.refl _ w) _).trans b1) _).trans (b4.mono b1.size)⟩
      · go_enter Try.func9, Try.ntmps9
        go_wp2_with fail
        refine (sure_calls _).mono ?_
        rintro e w3 ⟨rfl, b3⟩
        go_wp2_with fail
        go_ret
        exact ⟨rfl, b3⟩
    · go_enter Try.func9, Try.ntmps9
      go_wp2_with fail
      refine (sure_calls _).mono ?_
      rintro e w3 ⟨rfl, b3⟩
      go_wp2_with fail
      go_ret
      exact ⟨rfl, b3⟩
  · go_enter Try.func9, Try.ntmps9
    go_wp2_with fail
    refine (sure_calls _).mono ?_
    rintro e w3 ⟨rfl, b3⟩
    go_wp2_with fail
    go_ret
    exact ⟨rfl, b3⟩
end Go.Proofs.Ytnmjednmhmfbpaa.GlobLC
