/-
  The document's Parse: the walk. Conditions: fewer than 2^48 bytes.
-/
import Derived.Test.YtakhcfemakapbaaGreatDoorNumC
set_option maxRecDepth 100000
set_option linter.unusedSimpArgs false
set_option linter.unusedVariables false
namespace Go.Proofs.YtakhcfemakapbaaGreatDoor.NumD
open Go.RowKit Go.Lib Go.Proofs.YtakhcfemakapbaaGreatDoor.Mem Go.Proofs.YtakhcfemakapbaaGreatDoor.NumA Go.Proofs.YtakhcfemakapbaaGreatDoor.NumB Go.Proofs.YtakhcfemakapbaaGreatDoor.NumC

theorem bytes_len (s : ByteArray) : s.data.toList.length = s.size := by simp
theorem byte_at {s : ByteArray} {k : Nat} (h : k < s.size) : s.data.toList[k]? = some s[k] := by
  rw [List.getElem?_eq_getElem (by rw [bytes_len]; exact h)]; rfl
theorem cons_at {s : ByteArray} (h : 0 < s.size) : ∃ r, s.data.toList = s[0] :: r := by
  have h1 := byte_at h
  rcases hl : s.data.toList with _ | ⟨b, r⟩
  · rw [hl] at h1; cases h1
  · rw [hl] at h1
    injection h1 with h1
    exact ⟨r, by rw [h1]⟩
theorem val_pos {L : List UInt8} {b : UInt8} {r : List UInt8} (hL : L = b :: r) (hb : dig b = true) (h : b.toNat ≠ 48) : 0 < valF 0 L := by
  subst hL
  simp only [dig, decide_eq_true_eq] at hb
  have := valF_ge r (0 * 10 + (b.toNat - 48))
  have hp : 1 ≤ 10 ^ r.length := Nat.pos_of_ne_zero (by simp)
  have h2 : 1 * 1 ≤ (0 * 10 + (b.toNat - 48)) * 10 ^ r.length := Nat.mul_le_mul (by omega) hp
  show 0 < valF (0 * 10 + (b.toNat - 48)) r
  omega
theorem val19 {l : List UInt8} {k : Nat} (hd : ∀ b ∈ l.take k, dig b = true) (hk : k ≤ 18) : valF 0 (l.take k) < 1000000000000000000 := by
  have h1 := valF_lt (l.take k) 0 hd
  have h2 : 10 ^ (l.take k).length ≤ 10 ^ 18 := Nat.pow_le_pow_right (by decide) (by rw [List.length_take]; omega)
  have h3 : (10 : Nat) ^ 18 = 1000000000000000000 := rfl
  omega
theorem val20 {l : List UInt8} {k : Nat} (hd : ∀ b ∈ l.take k, dig b = true) (hk : k ≤ 19) : valF 0 (l.take k) < 10000000000000000000 := by
  have h1 := valF_lt (l.take k) 0 hd
  have h2 : 10 ^ (l.take k).length ≤ 10 ^ 19 := Nat.pow_le_pow_right (by decide) (by rw [List.length_take]; omega)
  have h3 : (10 : Nat) ^ 19 = 10000000000000000000 := rfl
  omega
set_option maxHeartbeats 4000000 in
theorem parse_short (T : ByteArray) (w : World) (hs : T.size ≤ 281474976710656) (h1 : T.size ≤ 1) : Calls Tryz.prog 47 #[.string T] w fun e w' => e = .returned (parseV (parseD T.data.toList)) ∧ w' = w := by
  have HV : Hid (parseD T.data.toList = worth T.data.toList false) := parse_plain (.inl (by rw [bytes_len]; exact h1))
  have hz := Lib.hid (bytes_len T)
  go_enter Tryz.func47, Tryz.ntmps47
  by_cases hbig : 19 < T.size
  · have hv : Hid (worth T.data.toList false = none) := worth_long (by rw [hz.out]; omega)
    go_wp2_with fail
    all_goals (
      go_ret2
      exact ⟨by rw [HV.out, hv.out]; rfl, rfl⟩)
  by_cases h0 : T.size = 0
  · have hnil : T.data.toList = [] := List.length_eq_zero_iff.1 (by rw [hz.out]; exact h0)
    have hv : Hid (worth T.data.toList false = none) := worth_no (by rw [hnil]; rfl)
    clear hnil
    go_wp2_with fail
    all_goals (
      go_ret2
      exact ⟨by rw [HV.out, hv.out]; rfl, rfl⟩)
  have hpos : 0 < T.size := by omega
  have h0b : ((T.size : Int) == 0) = false := by rw [beq_eq_false_iff_ne]; omega
  obtain ⟨r, hr⟩ := cons_at hpos
  by_cases hzero : T[0].toNat = 48 ∧ (1 < T.size ∨ false = true)
  · have hv : Hid (worth T.data.toList false = none) := worth_zero hr hzero.1 (by rw [hz.out]; exact hzero.2)
    have hz0 : (T[0].toNat : Int) = 48 := by omega
    have hz1 : false = true ∨ (1 : Int) < (T.size : Int) := by rcases hzero.2 with h | h; exact .inr (by omega); exact .inl h
    simp only [Bool.false_eq_true, false_or, true_or] at hz1
    clear hr hzero
    go_wp2_with fail
    all_goals (
      go_ret2
      exact ⟨by rw [HV.out, hv.out]; rfl, rfl⟩)
  have hgo : Hid (T.data.toList.length = 1 ∨ ∀ b r, T.data.toList = b :: r → b.toNat ≠ 48) := by
    by_cases h1 : T.size = 1
    · exact .inl (by rw [hz.out, h1])
    · exact .inr (fun b r' e => by rw [hr] at e; injection e with e _; subst e; exact fun h => hzero ⟨h, .inl (by omega)⟩)
  have hne : Hid (T.data.toList ≠ []) := by show _ ≠ _; rw [hr]; simp
  have Hr := Lib.hid hr
  have Hzero := Lib.hid hzero
  clear hr hzero
  have hcase : ¬ (T[0].toNat : Int) = 48 ∨ (T[0].toNat : Int) = 48 ∧ T.size = 1 ∧ false = false := by
    by_cases h : T[0].toNat = 48
    · exact .inr ⟨by omega, by have := Hzero.out; by_cases h1 : T.size = 1; exact h1; exact absurd ⟨h, .inl (by omega)⟩ this, by cases hb : false; rfl; exact absurd ⟨h, .inr hb⟩ Hzero.out⟩
    · exact .inl (by omega)
  have hcan : Hid ((∀ b ∈ T.data.toList, dig b = true) → canN T.data.toList = true) := fun h => (can_iff _).2 ⟨h, hne.out, hgo.out⟩
  rcases hcase with hc | ⟨hc, hc1, hc2⟩
  · have hcb : ((T[0].toNat : Int) == 48) = false := by rw [beq_eq_false_iff_ne]; exact hc
    go_wp2_with fail
    go_loopw [6, 7] (fun n i wr => ∃ k : Nat, k ≤ T.size ∧ n = .int .u64 (valF 0 (T.data.toList.take k) : Nat) ∧ i = .int .i64 k ∧ (∀ b ∈ T.data.toList.take k, dig b = true) ∧ wr = w) (fun _ i _ => T.size - (intOf i).toNat)
    case atStart => exact ⟨0, Nat.zero_le _, rfl, rfl, fun b hb => by simp at hb, rfl⟩
    case round =>
      obtain ⟨k, hk, rfl, rfl, hd, rfl⟩ := hrel
      obtain ⟨V, hV⟩ : ∃ V, V = valF 0 (T.data.toList.take k) := ⟨_, rfl⟩
      rw [← hV]
      have hV20 : V < 10000000000000000000 := by rw [hV]; exact val20 hd (by omega)
      have HVV := Lib.hid hV
      have Hd := Lib.hid hd
      by_cases hlt : k < T.size
      · have hV19 : V < 1000000000000000000 := by rw [hV]; exact val19 hd (by omega)
        have hat := Lib.hid (byte_at hlt)
        clear hV hd
        by_cases hdig : 48 ≤ (T[k].toNat : Int) ∧ (T[k].toNat : Int) ≤ 57
        · obtain ⟨d1, d2⟩ := hdig
          have hnext : Hid (valF 0 (T.data.toList.take (k + 1)) = V * 10 + (T[k].toNat - 48)) := by show _ = _; rw [valF_take hat.out, ← HVV.out]
          have hdn : Hid (∀ b ∈ T.data.toList.take (k + 1), dig b = true) := fun b hb => by
            rw [List.take_add_one, hat.out] at hb
            rcases List.mem_append.1 hb with hb | hb
            · exact Hd.out b hb
            · simp at hb; subst hb; simp only [dig, decide_eq_true_eq]; omega
          go_wp2_with fail
          all_goals (
            refine ⟨⟨k + 1, by omega, ?_, by go_num, hdn.out, by first | rfl | trivial⟩, by simp [intOf]; omega⟩
            rw [hnext.out]
            first
              | (congr 1; omega)
              | (congr 1; push_cast; omega))
        · have hv : Hid (worth T.data.toList false = none) := worth_bad hat.out (by simp [dig]; omega)
          rcases (show (T[k].toNat : Int) < 48 ∨ (57 : Int) < (T[k].toNat : Int) by omega) with hx | hx
          all_goals (
            go_wp2_with fail
            all_goals (
              go_ret2
              exact ⟨by rw [HV.out, hv.out]; rfl, rfl⟩))
      · obtain rfl : k = T.size := by omega
        rw [List.take_of_length_le (by rw [hz.out]; omega)] at hV
        have HVV2 := Lib.hid hV
        have hcc : Hid (canN T.data.toList = true) := hcan.out (fun b hb => Hd.out b (by rw [List.take_of_length_le (by rw [hz.out]; omega)]; exact hb))
        clear hV hd
        by_cases hm : V ≤ 9223372036854775807
        · have hw : IntKind.i64.wrap (V : Int) = (V : Int) := by rw [IntKind.wrap_i64]; omega
          have hv : Hid (worth T.data.toList false = some (V : Int)) := by
            show _ = _
            unfold worth
            rw [if_neg (show ¬ (false = true) by decide), ← HVV2.out, if_pos ⟨hcc.out, hm⟩]
          go_wp2_with fail
          all_goals (
            go_ret2
            exact ⟨by rw [HV.out, hv.out]; rfl, rfl⟩)
        · have hv : Hid (worth T.data.toList false = none) := by
            show _ = _
            unfold worth
            rw [if_neg (show ¬ (false = true) by decide), ← HVV2.out, if_neg (fun h => hm h.2)]
          go_wp2_with fail
          all_goals (
            go_ret2
            exact ⟨by rw [HV.out, hv.out]; rfl, rfl⟩)
  · have hcb : ((T[0].toNat : Int) == 48) = true := by rw [beq_iff_eq]; exact hc
    go_wp2_with fail
    go_loopw [6, 7] (fun n i wr => ∃ k : Nat, k ≤ T.size ∧ n = .int .u64 (valF 0 (T.data.toList.take k) : Nat) ∧ i = .int .i64 k ∧ (∀ b ∈ T.data.toList.take k, dig b = true) ∧ wr = w) (fun _ i _ => T.size - (intOf i).toNat)
    case atStart => exact ⟨0, Nat.zero_le _, rfl, rfl, fun b hb => by simp at hb, rfl⟩
    case round =>
      obtain ⟨k, hk, rfl, rfl, hd, rfl⟩ := hrel
      obtain ⟨V, hV⟩ : ∃ V, V = valF 0 (T.data.toList.take k) := ⟨_, rfl⟩
      rw [← hV]
      have hV20 : V < 10000000000000000000 := by rw [hV]; exact val20 hd (by omega)
      have HVV := Lib.hid hV
      have Hd := Lib.hid hd
      by_cases hlt : k < T.size
      · have hV19 : V < 1000000000000000000 := by rw [hV]; exact val19 hd (by omega)
        have hat := Lib.hid (byte_at hlt)
        clear hV hd
        by_cases hdig : 48 ≤ (T[k].toNat : Int) ∧ (T[k].toNat : Int) ≤ 57
        · obtain ⟨d1, d2⟩ := hdig
          have hnext : Hid (valF 0 (T.data.toList.take (k + 1)) = V * 10 + (T[k].toNat - 48)) := by show _ = _; rw [valF_take hat.out, ← HVV.out]
          have hdn : Hid (∀ b ∈ T.data.toList.take (k + 1), dig b = true) := fun b hb => by
            rw [List.take_add_one, hat.out] at hb
            rcases List.mem_append.1 hb with hb | hb
            · exact Hd.out b hb
            · simp at hb; subst hb; simp only [dig, decide_eq_true_eq]; omega
          go_wp2_with fail
          all_goals (
            refine ⟨⟨k + 1, by omega, ?_, by go_num, hdn.out, by first | rfl | trivial⟩, by simp [intOf]; omega⟩
            rw [hnext.out]
            first
              | (congr 1; omega)
              | (congr 1; push_cast; omega))
        · have hv : Hid (worth T.data.toList false = none) := worth_bad hat.out (by simp [dig]; omega)
          rcases (show (T[k].toNat : Int) < 48 ∨ (57 : Int) < (T[k].toNat : Int) by omega) with hx | hx
          all_goals (
            go_wp2_with fail
            all_goals (
              go_ret2
              exact ⟨by rw [HV.out, hv.out]; rfl, rfl⟩))
      · obtain rfl : k = T.size := by omega
        rw [List.take_of_length_le (by rw [hz.out]; omega)] at hV
        have HVV2 := Lib.hid hV
        have hcc : Hid (canN T.data.toList = true) := hcan.out (fun b hb => Hd.out b (by rw [List.take_of_length_le (by rw [hz.out]; omega)]; exact hb))
        clear hV hd
        by_cases hm : V ≤ 9223372036854775807
        · have hw : IntKind.i64.wrap (V : Int) = (V : Int) := by rw [IntKind.wrap_i64]; omega
          have hv : Hid (worth T.data.toList false = some (V : Int)) := by
            show _ = _
            unfold worth
            rw [if_neg (show ¬ (false = true) by decide), ← HVV2.out, if_pos ⟨hcc.out, hm⟩]
          go_wp2_with fail
          all_goals (
            go_ret2
            exact ⟨by rw [HV.out, hv.out]; rfl, rfl⟩)
        · have hv : Hid (worth T.data.toList false = none) := by
            show _ = _
            unfold worth
            rw [if_neg (show ¬ (false = true) by decide), ← HVV2.out, if_neg (fun h => hm h.2)]
          go_wp2_with fail
          all_goals (
            go_ret2
            exact ⟨by rw [HV.out, hv.out]; rfl, rfl⟩)
set_option maxHeartbeats 4000000 in
theorem parse_long (T : ByteArray) (w : World) (hs : T.size ≤ 281474976710656) (h1 : 1 < T.size) (h2 : T[0].toNat ≠ 45) : Calls Tryz.prog 47 #[.string T] w fun e w' => e = .returned (parseV (parseD T.data.toList)) ∧ w' = w := by
  have HV : Hid (parseD T.data.toList = worth T.data.toList false) := parse_plain (.inr (fun b r e => by
    obtain ⟨r', hr'⟩ := cons_at (s := T) (by omega)
    rw [hr'] at e; injection e with e _; subst e; exact h2))
  have h2' : ¬ (T[0].toNat : Int) = 45 := by omega
  have hz := Lib.hid (bytes_len T)
  go_enter Tryz.func47, Tryz.ntmps47
  by_cases hbig : 19 < T.size
  · have hv : Hid (worth T.data.toList false = none) := worth_long (by rw [hz.out]; omega)
    go_wp2_with fail
    all_goals (
      go_ret2
      exact ⟨by rw [HV.out, hv.out]; rfl, rfl⟩)
  by_cases h0 : T.size = 0
  · have hnil : T.data.toList = [] := List.length_eq_zero_iff.1 (by rw [hz.out]; exact h0)
    have hv : Hid (worth T.data.toList false = none) := worth_no (by rw [hnil]; rfl)
    clear hnil
    go_wp2_with fail
    all_goals (
      go_ret2
      exact ⟨by rw [HV.out, hv.out]; rfl, rfl⟩)
  have hpos : 0 < T.size := by omega
  have h0b : ((T.size : Int) == 0) = false := by rw [beq_eq_false_iff_ne]; omega
  obtain ⟨r, hr⟩ := cons_at hpos
  by_cases hzero : T[0].toNat = 48 ∧ (1 < T.size ∨ false = true)
  · have hv : Hid (worth T.data.toList false = none) := worth_zero hr hzero.1 (by rw [hz.out]; exact hzero.2)
    have hz0 : (T[0].toNat : Int) = 48 := by omega
    have hz1 : false = true ∨ (1 : Int) < (T.size : Int) := by rcases hzero.2 with h | h; exact .inr (by omega); exact .inl h
    simp only [Bool.false_eq_true, false_or, true_or] at hz1
    clear hr hzero
    go_wp2_with fail
    all_goals (
      go_ret2
      exact ⟨by rw [HV.out, hv.out]; rfl, rfl⟩)
  have hgo : Hid (T.data.toList.length = 1 ∨ ∀ b r, T.data.toList = b :: r → b.toNat ≠ 48) := by
    by_cases h1 : T.size = 1
    · exact .inl (by rw [hz.out, h1])
    · exact .inr (fun b r' e => by rw [hr] at e; injection e with e _; subst e; exact fun h => hzero ⟨h, .inl (by omega)⟩)
  have hne : Hid (T.data.toList ≠ []) := by show _ ≠ _; rw [hr]; simp
  have Hr := Lib.hid hr
  have Hzero := Lib.hid hzero
  clear hr hzero
  have hcase : ¬ (T[0].toNat : Int) = 48 ∨ (T[0].toNat : Int) = 48 ∧ T.size = 1 ∧ false = false := by
    by_cases h : T[0].toNat = 48
    · exact .inr ⟨by omega, by have := Hzero.out; by_cases h1 : T.size = 1; exact h1; exact absurd ⟨h, .inl (by omega)⟩ this, by cases hb : false; rfl; exact absurd ⟨h, .inr hb⟩ Hzero.out⟩
    · exact .inl (by omega)
  have hcan : Hid ((∀ b ∈ T.data.toList, dig b = true) → canN T.data.toList = true) := fun h => (can_iff _).2 ⟨h, hne.out, hgo.out⟩
  rcases hcase with hc | ⟨hc, hc1, hc2⟩
  · have hcb : ((T[0].toNat : Int) == 48) = false := by rw [beq_eq_false_iff_ne]; exact hc
    go_wp2_with fail
    go_loopw [6, 7] (fun n i wr => ∃ k : Nat, k ≤ T.size ∧ n = .int .u64 (valF 0 (T.data.toList.take k) : Nat) ∧ i = .int .i64 k ∧ (∀ b ∈ T.data.toList.take k, dig b = true) ∧ wr = w) (fun _ i _ => T.size - (intOf i).toNat)
    case atStart => exact ⟨0, Nat.zero_le _, rfl, rfl, fun b hb => by simp at hb, rfl⟩
    case round =>
      obtain ⟨k, hk, rfl, rfl, hd, rfl⟩ := hrel
      obtain ⟨V, hV⟩ : ∃ V, V = valF 0 (T.data.toList.take k) := ⟨_, rfl⟩
      rw [← hV]
      have hV20 : V < 10000000000000000000 := by rw [hV]; exact val20 hd (by omega)
      have HVV := Lib.hid hV
      have Hd := Lib.hid hd
      by_cases hlt : k < T.size
      · have hV19 : V < 1000000000000000000 := by rw [hV]; exact val19 hd (by omega)
        have hat := Lib.hid (byte_at hlt)
        clear hV hd
        by_cases hdig : 48 ≤ (T[k].toNat : Int) ∧ (T[k].toNat : Int) ≤ 57
        · obtain ⟨d1, d2⟩ := hdig
          have hnext : Hid (valF 0 (T.data.toList.take (k + 1)) = V * 10 + (T[k].toNat - 48)) := by show _ = _; rw [valF_take hat.out, ← HVV.out]
          have hdn : Hid (∀ b ∈ T.data.toList.take (k + 1), dig b = true) := fun b hb => by
            rw [List.take_add_one, hat.out] at hb
            rcases List.mem_append.1 hb with hb | hb
            · exact Hd.out b hb
            · simp at hb; subst hb; simp only [dig, decide_eq_true_eq]; omega
          go_wp2_with fail
          all_goals (
            refine ⟨⟨k + 1, by omega, ?_, by go_num, hdn.out, by first | rfl | trivial⟩, by simp [intOf]; omega⟩
            rw [hnext.out]
            first
              | (congr 1; omega)
              | (congr 1; push_cast; omega))
        · have hv : Hid (worth T.data.toList false = none) := worth_bad hat.out (by simp [dig]; omega)
          rcases (show (T[k].toNat : Int) < 48 ∨ (57 : Int) < (T[k].toNat : Int) by omega) with hx | hx
          all_goals (
            go_wp2_with fail
            all_goals (
              go_ret2
              exact ⟨by rw [HV.out, hv.out]; rfl, rfl⟩))
      · obtain rfl : k = T.size := by omega
        rw [List.take_of_length_le (by rw [hz.out]; omega)] at hV
        have HVV2 := Lib.hid hV
        have hcc : Hid (canN T.data.toList = true) := hcan.out (fun b hb => Hd.out b (by rw [List.take_of_length_le (by rw [hz.out]; omega)]; exact hb))
        clear hV hd
        by_cases hm : V ≤ 9223372036854775807
        · have hw : IntKind.i64.wrap (V : Int) = (V : Int) := by rw [IntKind.wrap_i64]; omega
          have hv : Hid (worth T.data.toList false = some (V : Int)) := by
            show _ = _
            unfold worth
            rw [if_neg (show ¬ (false = true) by decide), ← HVV2.out, if_pos ⟨hcc.out, hm⟩]
          go_wp2_with fail
          all_goals (
            go_ret2
            exact ⟨by rw [HV.out, hv.out]; rfl, rfl⟩)
        · have hv : Hid (worth T.data.toList false = none) := by
            show _ = _
            unfold worth
            rw [if_neg (show ¬ (false = true) by decide), ← HVV2.out, if_neg (fun h => hm h.2)]
          go_wp2_with fail
          all_goals (
            go_ret2
            exact ⟨by rw [HV.out, hv.out]; rfl, rfl⟩)
  · have hcb : ((T[0].toNat : Int) == 48) = true := by rw [beq_iff_eq]; exact hc
    go_wp2_with fail
    go_loopw [6, 7] (fun n i wr => ∃ k : Nat, k ≤ T.size ∧ n = .int .u64 (valF 0 (T.data.toList.take k) : Nat) ∧ i = .int .i64 k ∧ (∀ b ∈ T.data.toList.take k, dig b = true) ∧ wr = w) (fun _ i _ => T.size - (intOf i).toNat)
    case atStart => exact ⟨0, Nat.zero_le _, rfl, rfl, fun b hb => by simp at hb, rfl⟩
    case round =>
      obtain ⟨k, hk, rfl, rfl, hd, rfl⟩ := hrel
      obtain ⟨V, hV⟩ : ∃ V, V = valF 0 (T.data.toList.take k) := ⟨_, rfl⟩
      rw [← hV]
      have hV20 : V < 10000000000000000000 := by rw [hV]; exact val20 hd (by omega)
      have HVV := Lib.hid hV
      have Hd := Lib.hid hd
      by_cases hlt : k < T.size
      · have hV19 : V < 1000000000000000000 := by rw [hV]; exact val19 hd (by omega)
        have hat := Lib.hid (byte_at hlt)
        clear hV hd
        by_cases hdig : 48 ≤ (T[k].toNat : Int) ∧ (T[k].toNat : Int) ≤ 57
        · obtain ⟨d1, d2⟩ := hdig
          have hnext : Hid (valF 0 (T.data.toList.take (k + 1)) = V * 10 + (T[k].toNat - 48)) := by show _ = _; rw [valF_take hat.out, ← HVV.out]
          have hdn : Hid (∀ b ∈ T.data.toList.take (k + 1), dig b = true) := fun b hb => by
            rw [List.take_add_one, hat.out] at hb
            rcases List.mem_append.1 hb with hb | hb
            · exact Hd.out b hb
            · simp at hb; subst hb; simp only [dig, decide_eq_true_eq]; omega
          go_wp2_with fail
          all_goals (
            refine ⟨⟨k + 1, by omega, ?_, by go_num, hdn.out, by first | rfl | trivial⟩, by simp [intOf]; omega⟩
            rw [hnext.out]
            first
              | (congr 1; omega)
              | (congr 1; push_cast; omega))
        · have hv : Hid (worth T.data.toList false = none) := worth_bad hat.out (by simp [dig]; omega)
          rcases (show (T[k].toNat : Int) < 48 ∨ (57 : Int) < (T[k].toNat : Int) by omega) with hx | hx
          all_goals (
            go_wp2_with fail
            all_goals (
              go_ret2
              exact ⟨by rw [HV.out, hv.out]; rfl, rfl⟩))
      · obtain rfl : k = T.size := by omega
        rw [List.take_of_length_le (by rw [hz.out]; omega)] at hV
        have HVV2 := Lib.hid hV
        have hcc : Hid (canN T.data.toList = true) := hcan.out (fun b hb => Hd.out b (by rw [List.take_of_length_le (by rw [hz.out]; omega)]; exact hb))
        clear hV hd
        by_cases hm : V ≤ 9223372036854775807
        · have hw : IntKind.i64.wrap (V : Int) = (V : Int) := by rw [IntKind.wrap_i64]; omega
          have hv : Hid (worth T.data.toList false = some (V : Int)) := by
            show _ = _
            unfold worth
            rw [if_neg (show ¬ (false = true) by decide), ← HVV2.out, if_pos ⟨hcc.out, hm⟩]
          go_wp2_with fail
          all_goals (
            go_ret2
            exact ⟨by rw [HV.out, hv.out]; rfl, rfl⟩)
        · have hv : Hid (worth T.data.toList false = none) := by
            show _ = _
            unfold worth
            rw [if_neg (show ¬ (false = true) by decide), ← HVV2.out, if_neg (fun h => hm h.2)]
          go_wp2_with fail
          all_goals (
            go_ret2
            exact ⟨by rw [HV.out, hv.out]; rfl, rfl⟩)
set_option maxHeartbeats 4000000 in
theorem parse_minus (s : ByteArray) (w : World) (hs : s.size ≤ 281474976710656) (h1 : 1 < s.size) (h2 : s[0].toNat = 45) : Calls Tryz.prog 47 #[.string s] w fun e w' => e = .returned (parseV (parseD s.data.toList)) ∧ w' = w := by
  obtain ⟨T, hT⟩ : ∃ T, T = s.extract 1 s.size := ⟨_, rfl⟩
  have hTl : T.data.toList = s.data.toList.drop 1 := by
    rw [hT]
    simp [ByteArray.data_extract, Array.toList_extract]
    exact List.take_of_length_le (by simp)
  have HV : Hid (parseD s.data.toList = worth T.data.toList true) := by
    obtain ⟨r', hr'⟩ := cons_at (s := s) (by omega)
    show _ = _
    rw [hTl, hr']
    exact parse_below h2
  have hTs : T.size + 1 = s.size := by
    have := congrArg List.length hTl
    rw [bytes_len, List.length_drop, bytes_len] at this
    omega
  have h2' : (s[0].toNat : Int) = 45 := by omega
  have hT2 := hT.symm
  clear hT hTl
  have hz := Lib.hid (bytes_len T)
  go_enter Tryz.func47, Tryz.ntmps47
  by_cases hbig : 19 < T.size
  · have hv : Hid (worth T.data.toList true = none) := worth_long (by rw [hz.out]; omega)
    go_wp2_with fail
    all_goals (
      go_ret2
      exact ⟨by rw [HV.out, hv.out]; rfl, rfl⟩)
  by_cases h0 : T.size = 0
  · have hnil : T.data.toList = [] := List.length_eq_zero_iff.1 (by rw [hz.out]; exact h0)
    have hv : Hid (worth T.data.toList true = none) := worth_no (by rw [hnil]; rfl)
    clear hnil
    go_wp2_with fail
    all_goals (
      go_ret2
      exact ⟨by rw [HV.out, hv.out]; rfl, rfl⟩)
  have hpos : 0 < T.size := by omega
  have h0b : ((T.size : Int) == 0) = false := by rw [beq_eq_false_iff_ne]; omega
  obtain ⟨r, hr⟩ := cons_at hpos
  by_cases hzero : T[0].toNat = 48 ∧ (1 < T.size ∨ true = true)
  · have hv : Hid (worth T.data.toList true = none) := worth_zero hr hzero.1 (by rw [hz.out]; exact hzero.2)
    have hz0 : (T[0].toNat : Int) = 48 := by omega
    have hz1 : true = true ∨ (1 : Int) < (T.size : Int) := by rcases hzero.2 with h | h; exact .inr (by omega); exact .inl h
    simp only [Bool.false_eq_true, false_or, true_or] at hz1
    clear hr hzero
    go_wp2_with fail
    all_goals (
      go_ret2
      exact ⟨by rw [HV.out, hv.out]; rfl, rfl⟩)
  have hgo : Hid (T.data.toList.length = 1 ∨ ∀ b r, T.data.toList = b :: r → b.toNat ≠ 48) := by
    by_cases h1 : T.size = 1
    · exact .inl (by rw [hz.out, h1])
    · exact .inr (fun b r' e => by rw [hr] at e; injection e with e _; subst e; exact fun h => hzero ⟨h, .inl (by omega)⟩)
  have hne : Hid (T.data.toList ≠ []) := by show _ ≠ _; rw [hr]; simp
  have Hr := Lib.hid hr
  have Hzero := Lib.hid hzero
  clear hr hzero
  have hcase : ¬ (T[0].toNat : Int) = 48 ∨ (T[0].toNat : Int) = 48 ∧ T.size = 1 ∧ true = false := by
    by_cases h : T[0].toNat = 48
    · exact .inr ⟨by omega, by have := Hzero.out; by_cases h1 : T.size = 1; exact h1; exact absurd ⟨h, .inl (by omega)⟩ this, by cases hb : true; rfl; exact absurd ⟨h, .inr hb⟩ Hzero.out⟩
    · exact .inl (by omega)
  have hcan : Hid ((∀ b ∈ T.data.toList, dig b = true) → canN T.data.toList = true) := fun h => (can_iff _).2 ⟨h, hne.out, hgo.out⟩
  rcases hcase with hc | ⟨hc, hc1, hc2⟩
  · have hcb : ((T[0].toNat : Int) == 48) = false := by rw [beq_eq_false_iff_ne]; exact hc
    go_wp2_with fail
    go_loopw [6, 7] (fun n i wr => ∃ k : Nat, k ≤ T.size ∧ n = .int .u64 (valF 0 (T.data.toList.take k) : Nat) ∧ i = .int .i64 k ∧ (∀ b ∈ T.data.toList.take k, dig b = true) ∧ wr = w) (fun _ i _ => T.size - (intOf i).toNat)
    case atStart => exact ⟨0, Nat.zero_le _, rfl, rfl, fun b hb => by simp at hb, rfl⟩
    case round =>
      obtain ⟨k, hk, rfl, rfl, hd, rfl⟩ := hrel
      obtain ⟨V, hV⟩ : ∃ V, V = valF 0 (T.data.toList.take k) := ⟨_, rfl⟩
      rw [← hV]
      have hV20 : V < 10000000000000000000 := by rw [hV]; exact val20 hd (by omega)
      have HVV := Lib.hid hV
      have Hd := Lib.hid hd
      by_cases hlt : k < T.size
      · have hV19 : V < 1000000000000000000 := by rw [hV]; exact val19 hd (by omega)
        have hat := Lib.hid (byte_at hlt)
        clear hV hd
        by_cases hdig : 48 ≤ (T[k].toNat : Int) ∧ (T[k].toNat : Int) ≤ 57
        · obtain ⟨d1, d2⟩ := hdig
          have hnext : Hid (valF 0 (T.data.toList.take (k + 1)) = V * 10 + (T[k].toNat - 48)) := by show _ = _; rw [valF_take hat.out, ← HVV.out]
          have hdn : Hid (∀ b ∈ T.data.toList.take (k + 1), dig b = true) := fun b hb => by
            rw [List.take_add_one, hat.out] at hb
            rcases List.mem_append.1 hb with hb | hb
            · exact Hd.out b hb
            · simp at hb; subst hb; simp only [dig, decide_eq_true_eq]; omega
          go_wp2_with fail
          all_goals (
            refine ⟨⟨k + 1, by omega, ?_, by go_num, hdn.out, by first | rfl | trivial⟩, by simp [intOf]; omega⟩
            rw [hnext.out]
            first
              | (congr 1; omega)
              | (congr 1; push_cast; omega))
        · have hv : Hid (worth T.data.toList true = none) := worth_bad hat.out (by simp [dig]; omega)
          rcases (show (T[k].toNat : Int) < 48 ∨ (57 : Int) < (T[k].toNat : Int) by omega) with hx | hx
          all_goals (
            go_wp2_with fail
            all_goals (
              go_ret2
              exact ⟨by rw [HV.out, hv.out]; rfl, rfl⟩))
      · obtain rfl : k = T.size := by omega
        rw [List.take_of_length_le (by rw [hz.out]; omega)] at hV
        have HVV2 := Lib.hid hV
        have hcc : Hid (canN T.data.toList = true) := hcan.out (fun b hb => Hd.out b (by rw [List.take_of_length_le (by rw [hz.out]; omega)]; exact hb))
        clear hV hd
        have hV0 : 0 < V := by
          rw [HVV2.out]
          exact val_pos Hr.out (((can_iff _).1 hcc.out).1 _ (by rw [Hr.out]; simp)) (by omega)
        by_cases hm : V ≤ 9223372036854775808
        · have hw1 : IntKind.u64.wrap (-(V : Int)) = 18446744073709551616 - (V : Int) := by rw [wrap_u64']; omega
          have hw2 : IntKind.i64.wrap (18446744073709551616 - (V : Int)) = -(V : Int) := by rw [IntKind.wrap_i64]; omega
          have hv : Hid (worth T.data.toList true = some (-(V : Int))) := by
            show _ = _
            unfold worth
            rw [if_pos rfl, ← HVV2.out, if_pos ⟨hcc.out, by omega, hm⟩]
          go_wp2_with fail
          all_goals (
            go_ret2
            exact ⟨by rw [HV.out, hv.out]; rfl, rfl⟩)
        · have hv : Hid (worth T.data.toList true = none) := by
            show _ = _
            unfold worth
            rw [if_pos rfl, ← HVV2.out, if_neg (fun h => hm h.2.2)]
          go_wp2_with fail
          all_goals (
            go_ret2
            exact ⟨by rw [HV.out, hv.out]; rfl, rfl⟩)
  · cases hc2
theorem parseR_calls (s : ByteArray) (w : World) (hs : s.size ≤ 281474976710656) : Calls Tryz.prog 47 #[.string s] w fun e w' => e = .returned (parseV (parseD s.data.toList)) ∧ w' = w := by
  by_cases h1 : s.size ≤ 1
  · exact parse_short s w hs h1
  · by_cases h2 : (s[0]'(by omega)).toNat = 45
    · exact parse_minus s w hs (by omega) h2
    · exact parse_long s w hs (by omega) h2
end Go.Proofs.YtakhcfemakapbaaGreatDoor.NumD
