/-
  What the laws' own calls at closed patterns answer. Conditions: none.
-/
import Derived.Test.YtnmjednmhmfbpaaGlobW4
import Derived.Test.YtnmjednmhmfbpaaGlobW5
import Derived.Test.YtnmjednmhmfbpaaGlobW8
set_option maxRecDepth 100000
/-! What the laws' own calls at closed patterns answer. -/
namespace Go.Proofs.Ytnmjednmhmfbpaa.GlobL
open Go.RowKit Go.Proofs.Ytnmjednmhmfbpaa.GlobA Go.Proofs.Ytnmjednmhmfbpaa.GlobB Go.Proofs.Ytnmjednmhmfbpaa.GlobM Go.Proofs.Ytnmjednmhmfbpaa.Bytes

theorem s1 : means [104, 91, 94, 97, 45, 99, 93, 108, 42] [104, 100, 108, 108, 111] = true := by
  simp [means_one_cons, means_star_cons, means_star_nil, means_nil, piece, clsT, cls]
  decide
theorem s2 : means [97] [98] = false := by
  simp [means_one_cons, means_nil, piece]
theorem s3 : means (lowL [91, 65, 45, 67, 93]) (lowL [98]) = true := by
  simp [lowL, lowB, means_one_cons, means_nil, piece, clsT, cls]
  decide

theorem match_at (P S : ByteArray) (w : World) (r : Bool) (hP : P.size ≤ 140737488355327) (hS : S.size ≤ 140737488355327) (h : means P.data.toList S.data.toList = r) :
    Calls Try.prog 11 #[.string P, .string S] w fun e w' => e = .returned (.bool r) ∧ ∃ nd, w' = w.drewN nd :=
  (GlobW6.match_calls P S w (by omega) (by omega)).mono fun _ _ ⟨a, b⟩ => ⟨by rw [a, h], b⟩
theorem fold_at (P S : ByteArray) (w : World) (r : Bool) (hP : P.size ≤ 140737488355327) (hS : S.size ≤ 140737488355327) (h : means (lowL P.data.toList) (lowL S.data.toList) = r) :
    Calls Try.prog 13 #[.string P, .string S] w fun e w' => e = .returned (.bool r) ∧ Below w.heap.size w w' :=
  (GlobW8.fold_calls P S w hP hS).mono fun _ _ ⟨a, b⟩ => ⟨by rw [a, h], b⟩

set_option maxHeartbeats 1000000 in
theorem sure_calls (w : World) : Calls Try.prog 10 #[] w fun e w' => e = .returned (.bool true) ∧ Below w.heap.size w w' := by
  go_enter Try.func10, Try.ntmps10
  go_wp2_with fail
  refine (GlobW4.plain_calls _ _ (by decide)).mono ?_
  rintro e w1 ⟨t, b, rfl, ht, hb, b1⟩
  obtain rfl : t = [97, 42, 98] := ht
  obtain rfl : b = true := hb
  go_wp2_with fail
  refine (match_at _ _ _ true (by decide) (by decide) s1).mono ?_
  rintro e w2 ⟨rfl, nd, rfl⟩
  go_wp2_with fail
  refine (match_at _ _ _ false (by decide) (by decide) s2).mono ?_
  rintro e w2 ⟨rfl, nd2, rfl⟩
  go_wp2_with fail
  refine (fold_at _ _ _ true (by decide) (by decide) s3).mono ?_
  rintro e w2 ⟨rfl, b2⟩
  go_wp2_with fail
  refine (GlobW4.quote_calls _ _ (by decide)).mono ?_
  rintro e w3 ⟨rfl, b3⟩
  have hq : (quoteL [42]) = [92, 42] := rfl
  go_wp2_with fail
  go_ret
  exact ⟨rfl, ((GlobW7.below_drawn b1 _).trans (b2.mono b1.size)).trans (b3.mono (Nat.le_trans b1.size b2.size))⟩
end Go.Proofs.Ytnmjednmhmfbpaa.GlobL
