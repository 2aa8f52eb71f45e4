/-
  Whether what a value has may be: lists and sets. Conditions: as stated.
-/
import Derived.Test.YtjofbagaobdmoaaGreatVaC
import Derived.IntWalk
import Derived.Laws.Cover1
set_option maxRecDepth 100000
set_option linter.unusedSimpArgs false
set_option linter.unusedVariables false
namespace Go.Proofs.YtjofbagaobdmoaaGreat.VaE
open Go.RowKit Go.Proofs.YtjofbagaobdmoaaGreat.Mem Go.Proofs.YtjofbagaobdmoaaGreat.VaA Go.Proofs.YtjofbagaobdmoaaGreat.VaB Go.Proofs.YtjofbagaobdmoaaGreat.VaC

def shortB (s : ByteArray) : Bool := decide (s.size ≤ 1048576)
theorem short_int (s : ByteArray) : decide ((s.size : Int) ≤ 1048576) = shortB s := by unfold shortB; congr 1; simp; omega
theorem take_all {α : Type} {p : α → Bool} {l : List α} {k : Nat} {x : α} (h : l[k]? = some x) (ha : (l.take k).all p = true) (hx : p x = true) : (l.take (k + 1)).all p = true := by
  obtain ⟨hk, e⟩ := List.getElem?_eq_some_iff.1 h
  rw [List.take_succ_eq_append_getElem hk, e, List.all_append, ha]; simp [hx]
theorem not_all {α : Type} {p : α → Bool} {l : List α} {k : Nat} {x : α} (h : l[k]? = some x) (hx : p x = false) : l.all p = false := by
  rw [List.all_eq_false]; exact ⟨x, List.mem_of_getElem? h, by simp [hx]⟩

/-- Each stands ahead of the next. -/
def ris {α : Type} (lt : α → α → Bool) : List α → Bool
  | a :: b :: r => lt a b && ris lt (b :: r)
  | _ => true
theorem ris_iff {α : Type} (lt : α → α → Bool) : ∀ l : List α, ris lt l = true ↔ ∀ j a b, l[j]? = some a → l[j + 1]? = some b → lt a b = true
  | [] => by simp [ris]
  | [x] => by simp [ris]
  | x :: y :: r => by
    rw [ris, Bool.and_eq_true, ris_iff lt (y :: r)]
    constructor
    · rintro ⟨h1, h2⟩ j a b ha hb
      cases j with
      | zero => simp at ha hb; subst ha hb; exact h1
      | succ j => exact h2 j a b (by simpa using ha) (by simpa using hb)
    · intro h
      exact ⟨h 0 x y rfl rfl, fun j a b ha hb => h (j + 1) a b (by simpa using ha) (by simpa using hb)⟩
theorem ris_not {α : Type} {lt : α → α → Bool} {l : List α} {j : Nat} {a b : α} (ha : l[j]? = some a) (hb : l[j + 1]? = some b) (h : lt a b = false) : ris lt l = false := by
  cases hr : ris lt l
  · rfl
  · rw [(ris_iff lt l).1 hr j a b ha hb] at h; cases h
theorem drew2 (w : World) (a b : Nat) : (w.drewN a).drewN b = w.drewN (a + b) := by unfold World.drewN; simp [Nat.add_assoc]
def ltS (a b : ByteArray) : Bool := Op.bytesLess a.toList b.toList
theorem short_calls (s : ByteArray) (w : World) : Calls Tryz.prog 147 #[.string s] w fun e w' => e = .returned (.bool (shortB s)) ∧ w' = w := by
  go_enter Tryz.func147, Tryz.ntmps147
  go_wp2_with fail
  go_ret
  exact ⟨by rw [short_int]; rfl, rfl⟩
theorem long_calls (s : ByteArray) (w : World) : Calls Tryz.prog 154 #[.string s] w fun e w' => e = .returned (.bool (!shortB s)) ∧ w' = w := by
  go_enter Tryz.func154, Tryz.ntmps154
  go_wp2_with fail
  refine (short_calls s w).mono ?_
  rintro e w1 ⟨rfl, rfl⟩
  go_wp2_with fail
  go_ret
  exact ⟨rfl, rfl⟩

set_option maxHeartbeats 1000000 in
theorem index_calls (A : Option Addr) (n c : Nat) (l : List ByteArray) (w : World) (hr : RdS w A n c l) :
    Calls Tryz.prog 155 #[.slice A n c, .func (.func 154) #[] #[]] w fun e w' => (∃ r : Int, e = .returned (.int .i64 r) ∧ (l.all shortB = true ↔ r < 0)) ∧ w' = w := by
  obtain rfl := rds_len hr
  have hcap := hr.cap
  have hbig : c ≤ 9223372036854775807 := hr.big
  go_enter Tryz.func155, Tryz.ntmps155
  go_wp2_with fail
  go_loopw [8] (fun i wr => ∃ k : Nat, k ≤ l.length ∧ i = .int .i64 k ∧ (l.take k).all shortB = true ∧ wr = w) (fun i _ => l.length - (intOf i).toNat)
  case atStart => exact ⟨0, Nat.zero_le _, rfl, rfl, rfl⟩
  case round =>
    obtain ⟨k, hk, rfl, hal, rfl⟩ := hrel
    by_cases hlt : k < l.length
    · obtain ⟨s, hs⟩ : ∃ s, l[k]? = some s := ⟨_, List.getElem?_eq_getElem hlt⟩
      obtain ⟨p, rfl, cp⟩ := rds_get hr hs
      have Hs := Lib.hid hs
      have Ha := Lib.hid hal
      clear hs hal
      go_wp2_with fail
      refine (long_calls s _).mono ?_
      rintro e w1 ⟨rfl, rfl⟩
      cases hsb : shortB s
      · go_wp2_with fail
        go_ret
        exact ⟨⟨_, rfl, by rw [not_all Hs.out hsb]; simp⟩, rfl⟩
      · go_wp2_with fail
        exact ⟨⟨k + 1, by omega, by go_num, take_all Hs.out Ha.out hsb, by first | rfl | trivial⟩, by simp [intOf]; omega⟩
    · obtain rfl : k = l.length := by omega
      rw [List.take_length] at hal
      go_wp2_with fail
      go_ret
      exact ⟨⟨_, rfl, by rw [hal]; simp⟩, rfl⟩
theorem rightL_calls (A : Option Addr) (n c : Nat) (l : List ByteArray) (w : World) (hr : RdS w A n c l) :
    Calls Tryz.prog 151 #[.slice A n c] w fun e w' => e = .returned (.bool (l.all shortB)) ∧ w' = w := by
  go_enter Tryz.func151, Tryz.ntmps151
  go_wp2_with (first
    | (go_at_call 153; go_enter Tryz.func153, Tryz.ntmps153)
    | (go_at_call 155; refine (index_calls A n c l w hr).mono ?_; rintro e w1 ⟨⟨r, rfl, hri⟩, rfl⟩))
  go_ret
  refine ⟨?_, rfl⟩
  have : (!decide (0 ≤ r)) = l.all shortB := by
    cases h : l.all shortB
    · have := mt hri.2 (by rw [h]; decide)
      simp; omega
    · have := hri.1 h
      simp; omega
  rw [← this]
  rfl

set_option maxHeartbeats 1000000 in
theorem valid_calls (A : Option Addr) (n c : Nat) (l : List ByteArray) (w : World) (hr : RdS w A n c l) :
    Calls Tryz.prog 162 #[.slice A n c] w fun e w' => e = .returned (.bool (ris ltS l)) ∧ ∃ nd, w' = w.drewN nd := by
  obtain rfl := rds_len hr
  have hcap := hr.cap
  have hbig : c ≤ 9223372036854775807 := hr.big
  go_enter Tryz.func162, Tryz.ntmps162
  go_wp2_with fail
  go_loopw [3] (fun i wr => ∃ k : Nat, 1 ≤ k ∧ i = .int .i64 k ∧ (∀ j a b, j + 1 < k → l[j]? = some a → l[j + 1]? = some b → ltS a b = true) ∧ ∃ nd, wr = w.drewN nd) (fun i _ => l.length - (intOf i).toNat)
  case atStart => exact ⟨1, Nat.le_refl _, rfl, fun j a b h => by omega, 0, rfl⟩
  case round =>
    obtain ⟨k, hk, rfl, hin, nd, rfl⟩ := hrel
    have Hin := Lib.hid hin
    clear hin
    by_cases hlt : k < l.length
    · obtain ⟨j, hj⟩ : ∃ j, j = k - 1 := ⟨_, rfl⟩
      obtain ⟨s, hs⟩ : ∃ s, l[k]? = some s := ⟨_, List.getElem?_eq_getElem hlt⟩
      obtain ⟨t, ht⟩ : ∃ t, l[j]? = some t := ⟨_, List.getElem?_eq_getElem (by omega)⟩
      obtain ⟨p, rfl, cp⟩ := rds_get hr hs
      obtain ⟨q, e, cq⟩ := rds_get hr ht
      injection e with e; subst e
      have Hs := Lib.hid hs
      have Ht := Lib.hid ht
      have hj2 : j < l.length := by omega
      have hw1 : IntKind.i64.wrap ((k : Int) - 1) = (j : Int) := by rw [Go.IntWalk.i64_in _ (by omega)]; omega
      have Hj := Lib.hid hj
      clear hs ht hj
      cases hb : Op.bytesLess t.toList s.toList
      · go_wp2_with fail
        go_quiet (fail)
        go_wp2_with fail
        go_ret
        exact ⟨by rw [ris_not Ht.out (by rw [Hj.out, Nat.sub_add_cancel hk]; exact Hs.out) hb]; rfl, _, drew2 _ _ _⟩
      · go_wp2_with fail
        go_quiet (fail)
        go_wp2_with fail
        refine ⟨⟨k + 1, by omega, by go_num, ?_, nd + nq, by first | exact drew2 _ _ _ | rfl | (rw [drew2]; done)⟩, by simp [intOf]; omega⟩
        intro i a b hi ha hb'
        by_cases h : i + 1 < k
        · exact Hin.out i a b h ha hb'
        · obtain rfl : i = j := by have := Hj.out; omega
          rw [Ht.out] at ha; injection ha with ha; subst ha
          rw [show i + 1 = k by have := Hj.out; omega, Hs.out] at hb'; injection hb' with hb'; subst hb'
          exact hb
    · go_wp2_with fail
      go_ret
      exact ⟨by rw [(ris_iff ltS l).2 (fun j a b ha hb => Hin.out j a b (by have := (List.getElem?_eq_some_iff.1 hb).1; omega) ha hb)]; rfl, _, rfl⟩
end Go.Proofs.YtjofbagaobdmoaaGreat.VaE
