/-
  The document's tests of lists and hashes. Conditions: as stated.
-/
import Derived.Test.YtjofbagaobdmoaaGreatVaH
set_option maxRecDepth 100000
set_option linter.unusedSimpArgs false
set_option linter.unusedVariables false
namespace Go.Proofs.YtjofbagaobdmoaaGreat.VaJ
open Go.RowKit Go.Proofs.YtjofbagaobdmoaaGreat.Mem Go.Proofs.YtjofbagaobdmoaaGreat.VaA Go.Proofs.YtjofbagaobdmoaaGreat.VaB Go.Proofs.YtjofbagaobdmoaaGreat.VaC Go.Proofs.YtjofbagaobdmoaaGreat.VaD Go.Proofs.YtjofbagaobdmoaaGreat.VaE Go.Proofs.YtjofbagaobdmoaaGreat.VaF Go.Proofs.YtjofbagaobdmoaaGreat.VaG Go.Proofs.YtjofbagaobdmoaaGreat.VaH

set_option maxHeartbeats 1000000 in
theorem validR_calls (A : Option Addr) (n c : Nat) (l : List ByteArray) (w : World) (hr : RdS w A n c l) :
    Calls Tryz.prog 96 #[.slice A n c] w fun e w' => e = .returned (.bool (ris ltS l)) ∧ ∃ nd, w' = w.drewN nd := by
  obtain rfl := rds_len hr
  have hcap := hr.cap
  have hbig : c ≤ 9223372036854775807 := hr.big
  go_enter Tryz.func96, Tryz.ntmps96
  go_wp2_with fail
  go_loopw [3] (fun i wr => ∃ k : Nat, 1 ≤ k ∧ i = .int .i64 k ∧ (∀ j a b, j + 1 < k → l[j]? = some a → l[j + 1]? = some b → ltS a b = true) ∧ ∃ nd, wr = w.drewN nd) (fun i _ => l.length - (intOf i).toNat)
  case atStart => exact ⟨1, Nat.le_refl _, rfl, fun j a b h => by omega, 0, rfl⟩
  case round =>
    obtain ⟨k, hk, rfl, hin, nd, rfl⟩ := hrel
    have Hin := Lib.hid hin
    clear hin
    by_cases hlt : k < l.length
    · obtain ⟨j, hj⟩ : ∃ j, j = k - 1 := ⟨_, rfl⟩
      obtain ⟨s, hs⟩ : ∃ s, l[k]? = some s := ⟨_, List.getElem?_eq_getElem hlt⟩
      obtain ⟨t, ht⟩ : ∃ t, l[j]? = some t := ⟨_, List.getElem?_eq_getElem (by omega)⟩
      obtain ⟨p, rfl, cp⟩ := rds_get hr hs
      obtain ⟨q, e, cq⟩ := rds_get hr ht
      injection e with e; subst e
      have Hs := Lib.hid hs
      have Ht := Lib.hid ht
      have hj2 : j < l.length := by omega
      have hw1 : IntKind.i64.wrap ((k : Int) - 1) = (j : Int) := by rw [Go.IntWalk.i64_in _ (by omega)]; omega
      have Hj := Lib.hid hj
      clear hs ht hj
      cases hb : Op.bytesLess t.toList s.toList
      · go_wp2_with fail
        go_quiet (fail)
        go_wp2_with fail
        go_ret
        exact ⟨by rw [ris_not Ht.out (by rw [Hj.out, Nat.sub_add_cancel hk]; exact Hs.out) hb]; rfl, _, drew2 _ _ _⟩
      · go_wp2_with fail
        go_quiet (fail)
        go_wp2_with fail
        refine ⟨⟨k + 1, by omega, by go_num, ?_, nd + nq, by first | exact drew2 _ _ _ | rfl | (rw [drew2]; done)⟩, by simp [intOf]; omega⟩
        intro i a b hi ha hb'
        by_cases h : i + 1 < k
        · exact Hin.out i a b h ha hb'
        · obtain rfl : i = j := by have := Hj.out; omega
          rw [Ht.out] at ha; injection ha with ha; subst ha
          rw [show i + 1 = k by have := Hj.out; omega, Hs.out] at hb'; injection hb' with hb'; subst hb'
          exact hb
    · go_wp2_with fail
      go_ret
      exact ⟨by rw [(ris_iff ltS l).2 (fun j a b ha hb => Hin.out j a b (by have := (List.getElem?_eq_some_iff.1 hb).1; omega) ha hb)]; rfl, _, rfl⟩

theorem short_yes {s : ByteArray} (h : shortB s = true) : decide ((1048576 : Int) < (s.size : Int)) = false := by unfold shortB at h; simp at h ⊢; omega
theorem short_no {s : ByteArray} (h : shortB s = false) : decide ((1048576 : Int) < (s.size : Int)) = true := by unfold shortB at h; simp at h ⊢; omega

set_option maxHeartbeats 2000000 in
theorem fieldsR_calls (A : Option Addr) (n c : Nat) (l : List (ByteArray × ByteArray)) (w : World) (hr : RdF w A n c l) :
    Calls Tryz.prog 97 #[.slice A n c] w fun e w' => e = .returned (.bool (okH l)) ∧ ∃ nd, w' = w.drewN nd := by
  obtain rfl := rdf_len hr
  have hcap := hr.cap
  have hbig : c ≤ 9223372036854775807 := hr.big
  go_enter Tryz.func97, Tryz.ntmps97
  go_wp2_with fail
  go_loopw [3] (fun i wr => ∃ k : Nat, k ≤ l.length ∧ i = .int .i64 k ∧ ((l.take k).all (fun f => shortB f.1 && shortB f.2) = true ∧ ∀ j a b, j + 1 < k → l[j]? = some a → l[j + 1]? = some b → ltS a.1 b.1 = true) ∧ ∃ nd, wr = w.drewN nd) (fun i _ => l.length - (intOf i).toNat)
  case atStart => exact ⟨0, Nat.zero_le _, rfl, ⟨rfl, fun j a b h => by omega⟩, 0, rfl⟩
  case round =>
    obtain ⟨k, hk, rfl, hin, nd, rfl⟩ := hrel
    have Hin := Lib.hid hin
    clear hin
    by_cases hlt : k < l.length
    · obtain ⟨f, hf⟩ : ∃ f, l[k]? = some f := ⟨_, List.getElem?_eq_getElem hlt⟩
      obtain ⟨p, rfl, cp0, cp1⟩ := rdf_get hr hf
      have k0 : w.cell? (p.add (k * 2)) = some (.string f.1) := cp0
      have k1 : w.cell? ⟨(p.add (k * 2)).block, (p.add (k * 2)).off + 1, none⟩ = some (.string f.2) := cp1
      have Hf := Lib.hid hf
      clear cp0 cp1 hf
      cases h1 : shortB f.1
      · have hd1 := short_no h1
        have H1 := Lib.hid h1
        clear h1
        go_wp2_with fail
        go_quiet (fail)
        go_wp2_with fail
        go_ret
        exact ⟨by rw [show okH l = false by unfold okH; rw [not_all Hf.out (by rw [H1.out]; rfl)]; rfl]; rfl, nd + nq, by first | rfl | exact drew2 _ _ _⟩
      have hd1 := short_yes h1
      have H1 := Lib.hid h1
      clear h1
      cases h2 : shortB f.2
      · have hd2 := short_no h2
        have H2 := Lib.hid h2
        clear h2
        go_wp2_with fail
        go_quiet (fail)
        go_wp2_with fail
        go_ret
        exact ⟨by rw [show okH l = false by unfold okH; rw [not_all Hf.out (by rw [H1.out, H2.out]; rfl)]; rfl]; rfl, nd + nq, by first | rfl | exact drew2 _ _ _⟩
      have hd2 := short_yes h2
      have H2 := Lib.hid h2
      clear h2
      rcases Nat.eq_zero_or_pos k with h0 | hpos
      · have hdec : decide (0 < k) = false := by rw [h0]; rfl
        have H0 := Lib.hid h0
        clear h0
        go_wp2_with fail
        go_quiet (fail)
        go_wp2_with fail
        exact ⟨⟨k + 1, by omega, by go_num, ⟨take_all Hf.out Hin.out.1 (by rw [H1.out, H2.out]; rfl), fun i a b hi => by have := H0.out; omega⟩, nd + nq, by first | rfl | exact drew2 _ _ _⟩, by simp [intOf]; omega⟩
      · obtain ⟨j, hj⟩ : ∃ j, j = k - 1 := ⟨_, rfl⟩
        obtain ⟨t, ht⟩ : ∃ t, l[j]? = some t := ⟨_, List.getElem?_eq_getElem (by omega)⟩
        obtain ⟨q, e, cq0, -⟩ := rdf_get hr ht
        injection e with e; subst e
        have q0 : w.cell? (p.add (j * 2)) = some (.string t.1) := cq0
        have hj2 : j < l.length := by omega
        have hp' : (0 : Int) < (k : Int) := by omega
        have hw1 : IntKind.i64.wrap ((k : Int) - 1) = (j : Int) := by rw [Go.IntWalk.i64_in _ (by omega)]; omega
        have Hj := Lib.hid hj
        have Ht := Lib.hid ht
        clear cq0 hj ht
        cases hlt' : Op.bytesLess t.1.toList f.1.toList
        · have HL := Lib.hid hlt'
          go_wp2_with fail
          go_quiet (fail)
          go_wp2_with fail
          go_ret
          exact ⟨by rw [show okH l = false by unfold okH; rw [ris_not Ht.out (by rw [Hj.out, Nat.sub_add_cancel hpos]; exact Hf.out) HL.out, Bool.and_false]]; rfl, nd + nq, by first | rfl | exact drew2 _ _ _⟩
        · have HL := Lib.hid hlt'
          go_wp2_with fail
          go_quiet (fail)
          go_wp2_with fail
          refine ⟨⟨k + 1, by omega, by go_num, ⟨take_all Hf.out Hin.out.1 (by rw [H1.out, H2.out]; rfl), ?_⟩, nd + nq, by first | rfl | exact drew2 _ _ _⟩, by simp [intOf]; omega⟩
          intro i a b hi ha hb'
          by_cases h : i + 1 < k
          · exact Hin.out.2 i a b h ha hb'
          · obtain rfl : i = j := by have := Hj.out; omega
            rw [Ht.out] at ha; injection ha with ha; subst ha
            rw [show i + 1 = k by have := Hj.out; omega, Hf.out] at hb'; injection hb' with hb'; subst hb'
            exact HL.out
    · obtain rfl : k = l.length := by omega
      obtain ⟨h1, h2⟩ := Hin.out
      rw [List.take_length] at h1
      go_wp2_with fail
      go_ret
      refine ⟨?_, nd, rfl⟩
      have : okH l = true := by
        unfold okH
        rw [h1, (ris_iff _ l).2 (fun j a b ha hb => h2 j a b (by have := (List.getElem?_eq_some_iff.1 hb).1; omega) ha hb)]; rfl
      rw [this]; rfl

theorem zero_int (n : Nat) : ((n : Int) == 0) = (n == 0) := by rw [Bool.eq_iff_iff]; simp
def emptyD (x : VV) : Bool := if isK x then emptyV x else true
set_option maxHeartbeats 1000000 in
theorem emptyR_calls (x : VV) (w : World) :
    Calls Tryz.prog 95 #[x.val] w fun e w' => e = .returned (.bool (emptyD x)) ∧ Below w.heap.size w w' := by
  unfold VV.val
  go_enter Tryz.func95, Tryz.ntmps95
  by_cases h1 : x.kind = 1
  · go_wp2_with fail
    go_ret
    exact ⟨by unfold emptyD isK emptyV; simp [h1], (Below.refl _ w).alloc (Nat.le_refl _) _⟩
  by_cases h2 : x.kind = 2
  · go_wp2_with fail
    go_ret
    exact ⟨by unfold emptyD isK emptyV; simp [h2, zero_int], (Below.refl _ w).alloc (Nat.le_refl _) _⟩
  by_cases h3 : x.kind = 3
  · go_wp2_with fail
    go_ret
    exact ⟨by unfold emptyD isK emptyV; simp [h3, zero_int], (Below.refl _ w).alloc (Nat.le_refl _) _⟩
  by_cases h4 : x.kind = 4
  · go_wp2_with fail
    go_ret
    exact ⟨by unfold emptyD isK emptyV; simp [h4, zero_int], (Below.refl _ w).alloc (Nat.le_refl _) _⟩
  by_cases h5 : x.kind = 5
  · go_wp2_with fail
    go_ret
    exact ⟨by unfold emptyD isK emptyV; simp [h5, zero_int], (Below.refl _ w).alloc (Nat.le_refl _) _⟩
  go_wp2_with fail
  go_ret
  exact ⟨by unfold emptyD isK emptyV; simp [h1, h2, h3, h4, h5], (Below.refl _ w).alloc (Nat.le_refl _) _⟩
end Go.Proofs.YtjofbagaobdmoaaGreat.VaJ
