/-
  Keys in order: numbers and texts; cmp.Compare and before at both. Conditions: as stated.
-/
import Derived.Test.YtjofbagaobdmoaaGreatRows
import Derived.Test.YtjofbagaobdmoaaGreatDuM
import Derived.Test.YtjofbagaobdmoaaGreatDuN
import Derived.Deep.LoopGhost
import Derived.Laws.Cover1
set_option maxRecDepth 100000
set_option linter.unusedSimpArgs false
set_option linter.unusedVariables false
namespace Go.Proofs.YtjofbagaobdmoaaGreat.DuB
open Go.RowKit Go.Proofs.YtjofbagaobdmoaaGreat.Mem Go.Proofs.YtjofbagaobdmoaaGreat.DuA Go.Proofs.YtjofbagaobdmoaaGreat.DuM Go.Proofs.YtjofbagaobdmoaaGreat.DuN

theorem bl_irrefl : ∀ x : List UInt8, Op.bytesLess x x = false
  | [] => rfl
  | a :: x => by simp [Op.bytesLess, bl_irrefl x]
theorem bl_trans : ∀ x y z : List UInt8, Op.bytesLess x y = true → Op.bytesLess y z = true → Op.bytesLess x z = true
  | _, _, [], _, h => by cases h' : ‹List UInt8› <;> simp_all [Op.bytesLess]
  | _, [], _ :: _, h, _ => by simp [Op.bytesLess] at h
  | [], _ :: _, _ :: _, _, _ => rfl
  | a :: x, b :: y, c :: z, h1, h2 => by
    simp only [Op.bytesLess, Bool.or_eq_true, decide_eq_true_eq, Bool.and_eq_true, beq_iff_eq] at h1 h2 ⊢
    rcases h1 with h1 | ⟨rfl, h1⟩
    · rcases h2 with h2 | ⟨rfl, h2⟩
      · exact .inl (UInt8.lt_trans h1 h2)
      · exact .inl h1
    · rcases h2 with h2 | ⟨rfl, h2⟩
      · exact .inl h2
      · exact .inr ⟨rfl, bl_trans x y z h1 h2⟩
theorem bl_total : ∀ x y : List UInt8, Op.bytesLess x y = false → x ≠ y → Op.bytesLess y x = true
  | [], [], _, h => absurd rfl h
  | _ :: _, [], _, _ => rfl
  | [], _ :: _, h, _ => by simp [Op.bytesLess] at h
  | a :: x, b :: y, h, hn => by
    simp only [Op.bytesLess, Bool.or_eq_false_iff, decide_eq_false_iff_not, Bool.or_eq_true, decide_eq_true_eq, Bool.and_eq_true, beq_iff_eq] at h ⊢
    by_cases e : a = b
    · subst e
      refine .inr ⟨rfl, bl_total x y ?_ (fun e => hn (by rw [e]))⟩
      have := h.2
      simpa using this
    · refine .inl ?_
      have h1 : ¬ a.toNat < b.toNat := h.1
      have h2 : a.toNat ≠ b.toNat := fun e' => e (UInt8.toNat_inj.1 e')
      exact UInt8.lt_iff_toNat_lt.2 (by omega)
theorem toL_inj {a b : ByteArray} (h : a.toList = b.toList) : a = b := by
  rw [ByteArray.toList_eq, ByteArray.toList_eq] at h
  cases a; cases b; simp_all
def ltS (a b : ByteArray) : Bool := Op.bytesLess a.toList b.toList
def ltI (a b : Int) : Bool := decide (a < b)
theorem linS : Lin ltS := ⟨fun a => bl_irrefl _, fun h k => bl_trans _ _ _ h k, fun h hn => bl_total _ _ h (fun e => hn (toL_inj e))⟩
theorem linI : Lin ltI := ⟨fun a => by simp [ltI], fun h k => by simp only [ltI, decide_eq_true_eq] at *; omega, fun h hn => by simp only [ltI, decide_eq_true_eq, decide_eq_false_iff_not] at *; omega⟩
def klS (s : ByteArray) : Lit := .string s.data.toList
def klI (i : Int) : Lit := .int .i64 i
theorem keyS : KeyC klS := ⟨fun {a b} h => by unfold klS at h; injection h with h; cases a; cases b; simp_all, fun a => by trivial⟩
theorem keyI : KeyC klI := ⟨fun {a b} h => by unfold klI at h; injection h, fun a => by trivial⟩
def cmpK {K : Type} (lt : K → K → Bool) (a b : K) : Int := if lt a b then -1 else if lt b a then 1 else 0
def cmpE {K : Type} (lt : K → K → Bool) (a b : Int × K) : Int := if a.1 < b.1 then -1 else if b.1 < a.1 then 1 else cmpK lt a.2 b.2
theorem cmp_neg {K : Type} (lt : K → K → Bool) (a b : Int × K) : cmpE lt a b < 0 ↔ bef lt a b = true := by
  unfold cmpE cmpK bef
  by_cases h1 : a.1 < b.1
  · simp [h1]
  · by_cases h2 : b.1 < a.1
    · simp [h1, h2]; omega
    · have h3 : a.1 = b.1 := by omega
      by_cases h4 : lt a.2 b.2 = true
      · simp [h3, h4]
      · by_cases h5 : lt b.2 a.2 = true <;> simp [h3, h4, h5]
theorem cmp_rng {K : Type} (lt : K → K → Bool) (a b : K) : cmpK lt a b = -1 ∨ cmpK lt a b = 0 ∨ cmpK lt a b = 1 := by
  unfold cmpK; split
  · exact .inl rfl
  · split
    · exact .inr (.inr rfl)
    · exact .inr (.inl rfl)

theorem nanI_calls (x : Int) (w : World) : Calls Tryz.prog 116 #[.int .i64 x] w fun e w' => e = .returned (.bool false) ∧ w' = w := by
  have hb : (x == x) = true := by simp
  go_enter Tryz.func116, Tryz.ntmps116
  go_wp2_with fail
  go_ret
  exact ⟨by simp, rfl⟩
theorem nanS_calls (x : ByteArray) (w : World) : Calls Tryz.prog 117 #[.string x] w fun e w' => e = .returned (.bool false) ∧ w' = w := by
  have hb : (x.toList == x.toList) = true := by simp
  go_enter Tryz.func117, Tryz.ntmps117
  go_wp2_with fail
  go_ret
  exact ⟨by simp, rfl⟩
theorem cmpI_calls (x y : Int) (w : World) : Calls Tryz.prog 99 #[.int .i64 x, .int .i64 y] w fun e w' => e = .returned (.int .i64 (cmpK ltI x y)) ∧ w' = w := by
  go_enter Tryz.func99, Tryz.ntmps99
  go_wp2_with fail
  refine (nanI_calls x w).mono ?_
  rintro e w1 ⟨rfl, rfl⟩
  go_wp2_with fail
  refine (nanI_calls y _).mono ?_
  rintro e w2 ⟨rfl, rfl⟩
  by_cases h1 : x < y
  · have e : cmpK ltI x y = -1 := by simp [cmpK, ltI, h1]
    have E := Lib.hid e
    clear e
    go_wp2_with fail
    go_ret
    exact ⟨by rw [E.out] <;> rfl, rfl⟩
  · by_cases h2 : y < x
    · have e : cmpK ltI x y = 1 := by simp [cmpK, ltI, h1, h2]
      have E := Lib.hid e
      clear e
      go_wp2_with fail
      go_ret
      exact ⟨by rw [E.out] <;> rfl, rfl⟩
    · have e : cmpK ltI x y = 0 := by simp [cmpK, ltI, h1, h2]
      have E := Lib.hid e
      clear e
      go_wp2_with fail
      go_ret
      exact ⟨by rw [E.out] <;> rfl, rfl⟩
theorem cmpS_calls (x y : ByteArray) (w : World) : Calls Tryz.prog 100 #[.string x, .string y] w fun e w' => e = .returned (.int .i64 (cmpK ltS x y)) ∧ w' = w := by
  go_enter Tryz.func100, Tryz.ntmps100
  go_wp2_with fail
  refine (nanS_calls x w).mono ?_
  rintro e w1 ⟨rfl, rfl⟩
  go_wp2_with fail
  refine (nanS_calls y _).mono ?_
  rintro e w2 ⟨rfl, rfl⟩
  by_cases h1 : Op.bytesLess x.toList y.toList = true
  · have e : cmpK ltS x y = -1 := by simp [cmpK, ltS, h1]
    have E := Lib.hid e
    clear e
    go_wp2_with fail
    go_ret
    exact ⟨by rw [E.out] <;> rfl, rfl⟩
  · have h1' : Op.bytesLess x.toList y.toList = false := by simpa using h1
    clear h1
    by_cases h2 : x = y
    · have hq : (x.toList == y.toList) = true := by simp [h2]
      have e : cmpK ltS x y = 0 := by
        have h3 : ltS y x = false := by rw [h2]; exact linS.irr _
        unfold cmpK; rw [show ltS x y = false from h1', h3]; rfl
      have E := Lib.hid e
      clear e
      clear h2
      go_wp2_with fail
      go_ret
      exact ⟨by rw [E.out] <;> rfl, rfl⟩
    · have hq : (x.toList == y.toList) = false := by
        rw [beq_eq_false_iff_ne]; exact fun e => h2 (toL_inj e)
      have e : cmpK ltS x y = 1 := by
        have h3 : ltS y x = true := linS.tot h1' h2
        unfold cmpK; rw [show ltS x y = false from h1', h3]; rfl
      have E := Lib.hid e
      clear e
      clear h2
      go_wp2_with fail
      go_ret
      exact ⟨by rw [E.out] <;> rfl, rfl⟩
end Go.Proofs.YtjofbagaobdmoaaGreat.DuB
