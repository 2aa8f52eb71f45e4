/-
  The readers' texts. Conditions: as stated.
-/
import Derived.Test.YthglmpkcfigelaaVaQ
set_option maxRecDepth 100000
set_option linter.unusedSimpArgs false
set_option linter.unusedVariables false
namespace Go.Proofs.Ythglmpkcfigelaa.VaR
open Go.RowKit Go.Proofs.Ythglmpkcfigelaa.Mem Go.Proofs.Ythglmpkcfigelaa.VaA Go.Proofs.Ythglmpkcfigelaa.VaP Go.Proofs.Ythglmpkcfigelaa.VaQ

theorem unle4 (l : List UInt8) : unle (l.take 4) ≤ 4294967295 := by
  have h := unle_lt (l.take 4)
  have h2 : (256 : Nat) ^ (l.take 4).length ≤ 256 ^ 4 := Nat.pow_le_pow_right (by decide) (by simp; omega)
  have h3 : (256 : Nat) ^ 4 = 4294967296 := rfl
  omega

set_option maxHeartbeats 1000000 in
theorem text_calls (g : Nat) (s : ByteArray) (k : Nat) (bad : Bool) (w : World) (h : Rdr 64 w g s k bad) (hk : k ≤ s.size) (hs : s.size ≤ 1000000000000) :
    Calls Try.prog 34 #[.pointer (some ⟨g, 0, none⟩)] w (TextPost 64 g s k bad w) := by
  go_enter Try.func34, Try.ntmps34
  go_wp2_with fail
  refine (number_calls g s k 4 bad w h hk hs (by decide) (by decide)).mono ?_
  rintro e w1 ⟨p1, p2, p3⟩
  by_cases hc : bad = true ∨ s.size - k < 4
  · obtain ⟨rfl, hR⟩ := p1 hc
    clear p1 p2
    have c0 := hR.c0
    have c1 := hR.c1
    have c2 := hR.c2
    have f1 := hR.f1
    have f2 := hR.f2
    have HR := Lib.hid (And.intro hR (And.intro p3 hc))
    clear hR p3 hc h
    go_wp2_with fail
    go_quiet (fail)
    go_wp2_with fail
    go_ret
    exact ⟨0, k, true, by rw [if_pos HR.out.2.2]; exact ⟨rfl, rfl, rfl⟩, fun _ => ⟨rfl, (HR.out.1.drawn _).bad_⟩, fun h => absurd (.inl rfl) h, (HR.out.2.1.drawn _).put (p := ⟨g, 2, none⟩) (.inl rfl) _⟩
  · obtain ⟨rfl, hR⟩ := p2 hc
    clear p1 p2
    obtain ⟨n, hn⟩ : ∃ n, n = unle ((s.data.toList.drop k).take 4) := ⟨_, rfl⟩
    have hn4 : (n : Int) ≤ 4294967295 := by rw [hn]; have := unle4 (s.data.toList.drop k); omega
    rw [← hn]
    have hk4 : k + 4 ≤ s.size := by
      rcases Nat.lt_or_ge (s.size - k) 4 with h' | h'
      · exact absurd (.inr h') hc
      · omega
    obtain ⟨q, hq⟩ : ∃ q, q = k + 4 := ⟨_, rfl⟩
    rw [← hq] at hR hk4
    have c0 := hR.c0
    have c1 := hR.c1
    have c2 := hR.c2
    have f1 := hR.f1
    have f2 := hR.f2
    have HR := Lib.hid (And.intro hR (And.intro p3 (And.intro hc (And.intro hn hq))))
    clear hR p3 hc h hn hq
    have hn0 : (0 : Int) ≤ (n : Int) := Int.natCast_nonneg _
    by_cases hlt : s.size - q < n
    · have hd : decide ((s.size : Int) - (q : Int) < (n : Int)) = true := by simp; omega
      go_wp2_with fail
      go_quiet (fail)
      go_wp2_with fail
      go_ret
      exact ⟨n, q, false, by rw [if_neg HR.out.2.2.1]; exact ⟨HR.out.2.2.2.1, HR.out.2.2.2.2, rfl⟩, fun _ => ⟨rfl, (HR.out.1.drawn _).bad_⟩, fun h => absurd (.inr hlt) h, (HR.out.2.1.drawn _).put (p := ⟨g, 2, none⟩) (.inl rfl) _⟩
    · have hd : decide ((s.size : Int) - (q : Int) < (n : Int)) = false := by simp; omega
      have hqn : (q : Int) + (n : Int) ≤ (s.size : Int) := by omega
      go_wp2_with fail
      go_quiet (fail)
      go_wp2_with fail
      obtain ⟨w3, hw3⟩ : ∃ w3, (w1.drewN nq).setCell ⟨g, 1, none⟩ (.int .i64 ((q : Int) + (n : Int))) = w3 := ⟨_, rfl⟩
      obtain ⟨z, hz⟩ : ∃ z, z = q + n := ⟨_, rfl⟩
      have R3 : Rdr 64 w3 g s z false := by
        have h := (HR.out.1.drawn nq).on (q + n)
        rw [show ((q + n : Nat) : Int) = (q : Int) + (n : Int) by simp, hw3] at h
        unfold Rdr at h ⊢
        rw [hz]
        simpa using h
      have O3 : Only (fun b => b = g) w1 w3 := by rw [← hw3]; exact ((Only.refl (fun b => b = g) w1).drawn _).put (p := ⟨g, 1, none⟩) (.inl rfl) _
      rw [hw3]
      clear hw3 c0 c1 c2 f1 f2 hd
      have c0 := R3.c0
      have c1 := R3.c1
      have hzs : z ≤ s.size := by omega
      have hqz : q ≤ z := by omega
      have hwz : IntKind.i64.wrap ((z : Int) - (n : Int)) = (q : Int) := by rw [Go.IntWalk.i64_in _ (by omega)]; omega
      have H3 := Lib.hid (And.intro R3 (And.intro O3 hz))
      clear R3 O3 hz hqn
      go_quiet (fail)
      go_wp2_with fail
      go_ret
      refine ⟨n, q, false, by rw [if_neg HR.out.2.2.1]; exact ⟨HR.out.2.2.2.1, HR.out.2.2.2.2, rfl⟩, fun h => absurd h (by simp; omega), fun _ => ⟨?_, ?_⟩, (HR.out.2.1.trans H3.out.2.1 (fun b e => .inl e)).drawn _⟩
      · rw [← H3.out.2.2]; rfl
      · rw [← H3.out.2.2]; exact H3.out.1.drawn _
set_option maxHeartbeats 1000000 in
theorem textR_calls (g : Nat) (s : ByteArray) (k : Nat) (bad : Bool) (w : World) (h : Rdr 69 w g s k bad) (hk : k ≤ s.size) (hs : s.size ≤ 1000000000000) :
    Calls Try.prog 36 #[.pointer (some ⟨g, 0, none⟩)] w (TextPost 69 g s k bad w) := by
  go_enter Try.func36, Try.ntmps36
  go_wp2_with fail
  refine (numberR_calls g s k 4 bad w h hk hs (by decide) (by decide)).mono ?_
  rintro e w1 ⟨p1, p2, p3⟩
  by_cases hc : bad = true ∨ s.size - k < 4
  · obtain ⟨rfl, hR⟩ := p1 hc
    clear p1 p2
    have c0 := hR.c0
    have c1 := hR.c1
    have c2 := hR.c2
    have f1 := hR.f1
    have f2 := hR.f2
    have HR := Lib.hid (And.intro hR (And.intro p3 hc))
    clear hR p3 hc h
    go_wp2_with fail
    go_quiet (fail)
    go_wp2_with fail
    go_ret
    exact ⟨0, k, true, by rw [if_pos HR.out.2.2]; exact ⟨rfl, rfl, rfl⟩, fun _ => ⟨rfl, (HR.out.1.drawn _).bad_⟩, fun h => absurd (.inl rfl) h, (HR.out.2.1.drawn _).put (p := ⟨g, 2, none⟩) (.inl rfl) _⟩
  · obtain ⟨rfl, hR⟩ := p2 hc
    clear p1 p2
    obtain ⟨n, hn⟩ : ∃ n, n = unle ((s.data.toList.drop k).take 4) := ⟨_, rfl⟩
    have hn4 : (n : Int) ≤ 4294967295 := by rw [hn]; have := unle4 (s.data.toList.drop k); omega
    rw [← hn]
    have hk4 : k + 4 ≤ s.size := by
      rcases Nat.lt_or_ge (s.size - k) 4 with h' | h'
      · exact absurd (.inr h') hc
      · omega
    obtain ⟨q, hq⟩ : ∃ q, q = k + 4 := ⟨_, rfl⟩
    rw [← hq] at hR hk4
    have c0 := hR.c0
    have c1 := hR.c1
    have c2 := hR.c2
    have f1 := hR.f1
    have f2 := hR.f2
    have HR := Lib.hid (And.intro hR (And.intro p3 (And.intro hc (And.intro hn hq))))
    clear hR p3 hc h hn hq
    have hn0 : (0 : Int) ≤ (n : Int) := Int.natCast_nonneg _
    by_cases hlt : s.size - q < n
    · have hd : decide ((s.size : Int) - (q : Int) < (n : Int)) = true := by simp; omega
      go_wp2_with fail
      go_quiet (fail)
      go_wp2_with fail
      go_ret
      exact ⟨n, q, false, by rw [if_neg HR.out.2.2.1]; exact ⟨HR.out.2.2.2.1, HR.out.2.2.2.2, rfl⟩, fun _ => ⟨rfl, (HR.out.1.drawn _).bad_⟩, fun h => absurd (.inr hlt) h, (HR.out.2.1.drawn _).put (p := ⟨g, 2, none⟩) (.inl rfl) _⟩
    · have hd : decide ((s.size : Int) - (q : Int) < (n : Int)) = false := by simp; omega
      have hqn : (q : Int) + (n : Int) ≤ (s.size : Int) := by omega
      go_wp2_with fail
      go_quiet (fail)
      go_wp2_with fail
      obtain ⟨w3, hw3⟩ : ∃ w3, (w1.drewN nq).setCell ⟨g, 1, none⟩ (.int .i64 ((q : Int) + (n : Int))) = w3 := ⟨_, rfl⟩
      obtain ⟨z, hz⟩ : ∃ z, z = q + n := ⟨_, rfl⟩
      have R3 : Rdr 69 w3 g s z false := by
        have h := (HR.out.1.drawn nq).on (q + n)
        rw [show ((q + n : Nat) : Int) = (q : Int) + (n : Int) by simp, hw3] at h
        unfold Rdr at h ⊢
        rw [hz]
        simpa using h
      have O3 : Only (fun b => b = g) w1 w3 := by rw [← hw3]; exact ((Only.refl (fun b => b = g) w1).drawn _).put (p := ⟨g, 1, none⟩) (.inl rfl) _
      rw [hw3]
      clear hw3 c0 c1 c2 f1 f2 hd
      have c0 := R3.c0
      have c1 := R3.c1
      have hzs : z ≤ s.size := by omega
      have hqz : q ≤ z := by omega
      have hwz : IntKind.i64.wrap ((z : Int) - (n : Int)) = (q : Int) := by rw [Go.IntWalk.i64_in _ (by omega)]; omega
      have H3 := Lib.hid (And.intro R3 (And.intro O3 hz))
      clear R3 O3 hz hqn
      go_quiet (fail)
      go_wp2_with fail
      go_ret
      refine ⟨n, q, false, by rw [if_neg HR.out.2.2.1]; exact ⟨HR.out.2.2.2.1, HR.out.2.2.2.2, rfl⟩, fun h => absurd h (by simp; omega), fun _ => ⟨?_, ?_⟩, (HR.out.2.1.trans H3.out.2.1 (fun b e => .inl e)).drawn _⟩
      · rw [← H3.out.2.2]; rfl
      · rw [← H3.out.2.2]; exact H3.out.1.drawn _
end Go.Proofs.Ythglmpkcfigelaa.VaR
