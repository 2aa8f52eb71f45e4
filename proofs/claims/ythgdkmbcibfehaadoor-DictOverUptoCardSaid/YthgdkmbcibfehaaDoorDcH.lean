/-
  The document's Find and Get. Conditions: as stated.
-/
import Derived.Test.YthgdkmbcibfehaaDoorDcG
set_option maxRecDepth 100000
set_option linter.unusedSimpArgs false
set_option linter.unusedVariables false
namespace Go.Proofs.YthgdkmbcibfehaaDoor.DcH
open Go.RowKit Go.Proofs.YthgdkmbcibfehaaDoor.Mem Go.Proofs.YthgdkmbcibfehaaDoor.DcA Go.Proofs.YthgdkmbcibfehaaDoor.DcB Go.Proofs.YthgdkmbcibfehaaDoor.DcC Go.Proofs.YthgdkmbcibfehaaDoor.DcD Go.Proofs.YthgdkmbcibfehaaDoor.DcE Go.Proofs.YthgdkmbcibfehaaDoor.DcF

set_option maxHeartbeats 2000000 in
theorem find_calls (A : Option Addr) (n c : Nat) (l : List Fld) (k : ByteArray) (w : World) (hr : RdF w A n c l) (hl : Ris l) (hn : n ≤ 1000000000) :
    Calls Tryd.prog 25 #[.slice A n c, .string k] w fun e w' => e = .returned (.tuple #[.int .i64 (posL l k : Nat), .bool (getL l k).isSome]) ∧ ∃ nd, w' = w.drewN nd := by
  obtain rfl := rdf_len hr
  have hcap := hr.cap
  have hbig : c ≤ 9223372036854775807 := hr.big
  obtain ⟨P, hP⟩ : ∃ P, P = posL l k := ⟨_, rfl⟩
  have hPl : P ≤ l.length := by rw [hP]; exact pos_le l k
  have hb : Hid (∀ i f, i < P → l[i]? = some f → ltS f.1 k = true) := fun i f h hf => pos_below (by rw [← hP]; exact h) hf
  have ha : Hid (∀ i f, P ≤ i → l[i]? = some f → ltS f.1 k = false) := fun i f h hf => pos_above hl (by rw [← hP]; exact h) hf
  have hg : Hid (getL l k = match l[P]? with | some f => if f.1 = k then some f.2 else none | none => none) := by show _ = _; rw [hP]; exact get_pos hl k
  rw [← hP]
  have Hr := Lib.hid hr
  clear hP hr hl
  go_enter Tryd.func25, Tryd.ntmps25
  go_wp2_with fail
  go_loopw [6, 7] (fun a b wr => ∃ lo hi : Nat, lo ≤ P ∧ P ≤ hi ∧ hi ≤ l.length ∧ a = .int .i64 lo ∧ b = .int .i64 hi ∧ wr = w) (fun a b _ => (RowKit.intOf b - RowKit.intOf a).toNat)
  case atStart => exact ⟨0, l.length, Nat.zero_le _, hPl, Nat.le_refl _, rfl, rfl, rfl⟩
  case round =>
    obtain ⟨lo, hi, h1, h2, h3, rfl, rfl, rfl⟩ := hrel
    by_cases hlt : lo < hi
    · obtain ⟨M, hM⟩ : ∃ M, M = (lo + hi) / 2 := ⟨_, rfl⟩
      have hq : ((lo : Int) + (hi : Int)).tdiv 2 = (M : Int) := by rw [Int.tdiv_eq_ediv_of_nonneg (by omega)]; omega
      have hM1 : lo ≤ M := by omega
      have hM2 : M < hi := by omega
      have hq2 : ((lo : Int) + (hi : Int)) / 2 = (M : Int) := by omega
      obtain ⟨f, hf⟩ : ∃ f, l[M]? = some f := ⟨_, List.getElem?_eq_getElem (by omega)⟩
      obtain ⟨p, rfl, x0, x1⟩ := rdf_get Hr.out hf
      have Hf := Lib.hid hf
      clear hM hf
      cases hcmp : ltS f.1 k
      · have hMP : P ≤ M := by
          rcases Nat.lt_or_ge M P with h | h
          · have := hb.out M f h Hf.out; rw [hcmp] at this; cases this
          · exact h
        unfold ltS at hcmp
        go_wp2_with fail
        exact ⟨⟨lo, M, by omega, hMP, by omega, rfl, rfl, trivial⟩, by simp [RowKit.intOf]; omega⟩
      · have hMP : M < P := by
          rcases Nat.lt_or_ge M P with h | h
          · exact h
          · have := ha.out M f h Hf.out; rw [hcmp] at this; cases this
        unfold ltS at hcmp
        go_wp2_with fail
        exact ⟨⟨M + 1, hi, by omega, h2, h3, by simp, rfl, trivial⟩, by simp [RowKit.intOf]; omega⟩
    · obtain rfl : lo = P := by omega
      have hg2 := hg.out
      clear hb ha hg
      by_cases hlen : lo < l.length
      · obtain ⟨f, hf⟩ : ∃ f, l[lo]? = some f := ⟨_, List.getElem?_eq_getElem (by omega)⟩
        obtain ⟨p, rfl, x0, x1⟩ := rdf_get Hr.out hf
        rw [hf] at hg2
        cases hcmp : (f.1.toList == k.toList)
        · have : ¬ f.1 = k := by
            intro h; subst h; simp at hcmp
          simp only [if_neg this] at hg2
          have Hg := Lib.hid hg2
          clear hg2 hf
          go_wp2_with fail
          go_quiet (fail)
          go_wp2_with fail
          go_ret2
          rw [Hg.out]
          exact ⟨rfl, nq, rfl⟩
        · have : f.1 = k := by
            have := eq_of_beq hcmp
            exact toL_inj this
          simp only [if_pos this] at hg2
          have Hg := Lib.hid hg2
          clear hg2 hf
          go_wp2_with fail
          go_quiet (fail)
          go_wp2_with fail
          go_ret2
          rw [Hg.out]
          exact ⟨rfl, nq, rfl⟩
      · rw [List.getElem?_eq_none (by omega)] at hg2
        have Hg := Lib.hid hg2
        clear hg2
        go_wp2_with fail
        go_quiet (fail)
        go_wp2_with fail
        go_ret2
        rw [Hg.out]
        exact ⟨rfl, nq, rfl⟩
end Go.Proofs.YthgdkmbcibfehaaDoor.DcH
