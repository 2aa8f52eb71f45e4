/-
  Match tells whether the pattern means the text. Conditions: both have at most 2^48 bytes.
-/
import Derived.Test.YtnmjednmhmfbpaaGlobW3
import Derived.Test.YtnmjednmhmfbpaaGlobM
import Derived.Deep.LoopGhost
set_option maxRecDepth 100000
/-! The walk of Match. -/
namespace Go.Proofs.Ytnmjednmhmfbpaa.GlobW6
open Go.RowKit Go.Proofs.Ytnmjednmhmfbpaa.GlobA Go.Proofs.Ytnmjednmhmfbpaa.GlobM Go.Proofs.Ytnmjednmhmfbpaa.GlobW3

set_option maxHeartbeats 1000000 in
theorem match_calls (P S : ByteArray) (w : World) (hP : P.size ≤ 281474976710656) (hS : S.size ≤ 281474976710656) :
    Calls Try.prog 11 #[.string P, .string S] w fun e w' => e = .returned (.bool (means P.data.toList S.data.toList)) ∧ ∃ nd, w' = w.drewN nd := by
  have hpl : Hid (P.data.toList.length = P.size) := bytes_len P
  have hsl : Hid (S.data.toList.length = S.size) := bytes_len S
  go_enter Try.func11, Try.ntmps11
  go_wp2
  go_step3
  go_wp2
  go_step3
  go_wp2
  go_loopg [5, 6, 7, 8] (mu S.size 0 0) (fun g p i st fr wr => ∃ (p' i' f' : Nat) (q : Int), (∃ nd, wr = w.drewN nd) ∧ p = .int .i64 p' ∧ i = .int .i64 i' ∧ st = .int .i64 q ∧ fr = .int .i64 f' ∧ Inv P.data.toList S.data.toList p' i' q f' ∧ mu S.size f' i' ≤ g)
  case atStart => exact ⟨0, 0, 0, -1, ⟨0, rfl⟩, rfl, rfl, rfl, rfl, inv_start, Nat.le_refl _⟩
  case round =>
    obtain ⟨g, rfl⟩ : ∃ g, g = gk := ⟨_, rfl⟩
    obtain ⟨p, i, f, q, ⟨nd, rfl⟩, rfl, rfl, rfl, rfl, hI, hg⟩ := hrel
    have hle := inv_le hI
    rw [hpl.out, hsl.out] at hle
    have hq := inv_star_le hI
    rw [hpl.out] at hq
    by_cases hlt : i < S.size
    · go_wp2
      go_loopg [5, 6, 7, 8] (P.size) (fun g2 p ii st fr wr => ∃ (p' f' : Nat) (q : Int), (∃ nd, wr = w.drewN nd) ∧ p = .int .i64 p' ∧ ii = .int .i64 i ∧ st = .int .i64 q ∧ fr = .int .i64 f' ∧ Inv P.data.toList S.data.toList p' i q f' ∧ mu S.size f' i ≤ g ∧ P.size - p' ≤ g2)
      case atStart => exact ⟨p, f, q, ⟨nd, rfl⟩, rfl, rfl, rfl, rfl, hI, hg, by omega⟩
      case round =>
        clear hI hg hle hq
        obtain ⟨p, f, q, ⟨nd, rfl⟩, rfl, rfl, rfl, rfl, hI, hg, hg2⟩ := hrel
        have hle := inv_le hI
        rw [hpl.out, hsl.out] at hle
        have hq := inv_star_le hI
        rw [hpl.out] at hq
        have hfi := hle.2.2
        by_cases hp : p < P.size
        · by_cases hstar : ((P[p].toNat : Int) == 42) = true
          · go_wp2
            go_roundg (gk - 1)
            case rel => exact ⟨p + 1, i, _, ⟨nd, rfl⟩, by go_num, rfl, rfl, rfl, inv_star hI (at_is (n := 42) hp (is_of hstar)), Nat.le_trans (mu_star hfi) hg, by omega⟩
            case measure => omega
          · have hst' : ((P[p].toNat : Int) == 42) = false := by simpa using hstar
            clear hstar
            go_wp2_with (go_at_call 19; refine (piece_calls P p S[i] _ hp hP).mono ?_; rintro e w' ⟨n, r, h1, h2, h3, rfl, nd', rfl⟩)
            · have hr : r = false := by simpa using (by assumption : (!r) = true)
              subst hr
              have hsk : Stuck P.data.toList S.data.toList p i := stuck_piece (by rw [hpl.out]; exact hp) (at_isnt (n := 42) (by omega) hp (isnt_of hst')) (bytes_at S i hlt) h3
              try rw [Exit.noGoto_ret]
              go_ret
              exact ⟨by rw [inv_no hI hsk ‹_›]; rfl, nd + nd', rfl⟩
            · have hr : r = false := by simpa using (by assumption : (!r) = true)
              subst hr
              have hsk : Stuck P.data.toList S.data.toList p i := stuck_piece (by rw [hpl.out]; exact hp) (at_isnt (n := 42) (by omega) hp (isnt_of hst')) (bytes_at S i hlt) h3
              go_roundg (g - 1)
              case rel => exact ⟨q.toNat, f + 1, f + 1, q, ⟨nd + nd', rfl⟩, by rw [Int.toNat_of_nonneg ‹_›], by go_num, rfl, by go_num, inv_back hI hsk (by omega) (by rw [hsl.out]; exact hlt), by have := mu_back hfi hlt; omega⟩
              case measure => have := mu_back hfi hlt; omega
            · have hr : r = true := by simpa using (by assumption : (!r) = false)
              subst hr
              go_roundg (g - 1)
              case rel => exact ⟨n, i + 1, f, q, ⟨nd + nd', rfl⟩, rfl, by go_num, rfl, rfl, inv_piece hI (by rw [hpl.out]; exact hp) (at_isnt (n := 42) (by omega) hp (isnt_of hst')) (bytes_at S i hlt) h2 h3, by have := mu_step (f := f) hlt; omega⟩
              case measure => have := mu_step (f := f) hlt; omega
        · have hsk : Stuck P.data.toList S.data.toList p i := stuck_end (by rw [hpl.out]; omega) (by rw [hsl.out]; exact hlt)
          go_wp2
          · try rw [Exit.noGoto_ret]
            go_ret
            exact ⟨by rw [inv_no hI hsk ‹_›]; rfl, nd, rfl⟩
          · go_roundg (g - 1)
            case rel => exact ⟨q.toNat, f + 1, f + 1, q, ⟨nd, rfl⟩, by rw [Int.toNat_of_nonneg ‹_›], by go_num, rfl, by go_num, inv_back hI hsk (by omega) (by rw [hsl.out]; exact hlt), by have := mu_back hfi hlt; omega⟩
            case measure => have := mu_back hfi hlt; omega
    · go_wp2
      go_loopg [5] (P.size) (fun g2 p wr => ∃ p' : Nat, (∃ nd, wr = w.drewN nd) ∧ p = .int .i64 p' ∧ p' ≤ P.size ∧ P.size - p' ≤ g2 ∧ Hid (means P.data.toList S.data.toList = means (P.data.toList.drop p') []))
      case atStart => exact ⟨p, ⟨nd, rfl⟩, rfl, hle.1, by omega, inv_end hI (by rw [hsl.out]; exact hlt)⟩
      case round =>
        obtain ⟨p, ⟨nd, rfl⟩, rfl, hp1, hg2, he⟩ := hrel
        by_cases hp : p < P.size
        · by_cases hstar : ((P[p].toNat : Int) == 42) = true
          · go_wp2
            go_roundg (gk - 1)
            case rel => exact ⟨p + 1, ⟨nd, rfl⟩, by go_num, by omega, by omega, he.out.trans (end_star (at_is (n := 42) hp (is_of hstar)))⟩
            case measure => omega
          · have hst' : ((P[p].toNat : Int) == 42) = false := by simpa using hstar
            have hpe : ((p : Int) == (P.size : Int)) = false := beq_eq_false_iff_ne.2 (by omega)
            clear hstar
            go_wp2
            try rw [Exit.noGoto_ret]
            go_ret
            exact ⟨by rw [he.out, end_one (by rw [hpl.out]; exact hp) (at_isnt (n := 42) (by omega) hp (isnt_of hst'))]; rfl, nd, rfl⟩
        · obtain rfl : p = P.size := by omega
          go_wp2
          try rw [Exit.noGoto_ret]
          go_ret
          exact ⟨by rw [he.out, end_end (by rw [hpl.out]; omega)]; rfl, nd, rfl⟩
end Go.Proofs.Ytnmjednmhmfbpaa.GlobW6
