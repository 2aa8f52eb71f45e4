/-
  What the document's Pop hands back. Conditions: as stated.
-/
import Derived.Test.YtadjgbhbeamdbaaDqI
import Derived.Test.YtadjgbhbeamdbaaDqO
import Derived.Deep.RegionHeld3
set_option maxRecDepth 100000
set_option linter.unusedSimpArgs false
set_option linter.unusedVariables false
namespace Go.Proofs.Ytadjgbhbeamdbaa.DqU
open Go.RowKit Go.Proofs.Ytadjgbhbeamdbaa.Mem Go.Proofs.Ytadjgbhbeamdbaa.DqA Go.Proofs.Ytadjgbhbeamdbaa.DqB Go.Proofs.Ytadjgbhbeamdbaa.DqD Go.Proofs.Ytadjgbhbeamdbaa.DqF Go.Proofs.Ytadjgbhbeamdbaa.DqI Go.Proofs.Ytadjgbhbeamdbaa.DqO

theorem own_keep {w w' : World} {B : Nat} {v : Value} {R : List Int} (ho : OwnI w B v R) (hb : Below w.heap.size w w') : OwnI w' B v R :=
  own_only ho (Only.of_below hb) (fun k hk => by have := (ho.lt k hk).2; omega)
def PopPost (w : World) (l1 l2 : List Int) (e : Ending) (w' : World) : Prop :=
  ∃ s1 s2, e = .returned (.tuple #[s1, s2]) ∧ OwnI w' w.heap.size s1 l1 ∧ OwnI w' w.heap.size s2 l2 ∧ Below w.heap.size w w'

theorem shut1 {w w1 w2 : World} {L1 L2 : List Int} {s1 s2 : Value} (o1 : OwnI w1 w.drew.heap.size s1 L1) (b1 : Below w.drew.heap.size w.drew w1) (o2 : OwnI w2 w1.heap.size s2 L2) (b2 : Below w1.heap.size w1 w2) :
    PopPost w L1 L2 (.returned (.tuple #[s1, s2])) w2 :=
  ⟨s1, s2, rfl, own_keep o1 b2, own_less o2 b1.size, below_new (below_new (w1 := w.drew) ((Below.refl _ w).drew) b1) b2⟩
theorem shut2 {w w1 w2 : World} {L1 L2 : List Int} {s1 s2 : Value} (o2 : OwnI w1 w.drew.heap.size s2 L2) (b2 : Below w.drew.heap.size w.drew w1) (o1 : OwnI w2 w1.heap.size s1 L1) (b1 : Below w1.heap.size w1 w2) :
    PopPost w L1 L2 (.returned (.tuple #[s1, s2])) w2 :=
  ⟨s1, s2, rfl, own_less o1 b2.size, own_keep o2 b1, below_new (below_new (w1 := w.drew) ((Below.refl _ w).drew) b2) b1⟩
theorem join_none (A : Option Addr) (n c : Nat) (L : List Int) (w : World) (hr : RdI w A n c L) (hn : n ≤ 1048576) :
    Calls Try.prog 10 #[.slice A n c, .slice none 0 0] w (NewI w L) := by
  have := joined_calls A none n 0 c 0 L [] w hr (Rd.nil _ _) (by omega)
  rwa [List.append_nil] at this
theorem rd_none {w : World} {A : Option Addr} {n c : Nat} {l : List Int} (hr : RdI w A n c l) : RdI w A 0 0 [] := ⟨by simp [ints], Nat.le_refl _, by unfold maxLen; omega, fun j x h => by simp [ints] at h⟩

set_option maxHeartbeats 2000000 in
theorem pop_calls (A : Option Addr) (n c : Nat) (l : List Int) (m : Int) (w : World) (hr : RdI w A n c l) (hn : n ≤ 1048576) :
    Calls Try.prog 11 #[.slice A n c, .int .i64 m] w (PopPost w (l.take (popN l.length m)) (l.drop (popN l.length m))) := by
  obtain rfl := rdi_len hr
  have hkl : popN l.length m ≤ l.length := by unfold popN; omega
  have hcase : (m < 0 ∧ popN l.length m = 0) ∨ ((l.length : Int) < m ∧ ¬ m < 0 ∧ popN l.length m = l.length) ∨ (¬ m < 0 ∧ ¬ (l.length : Int) < m ∧ m = (popN l.length m : Nat)) := by unfold popN; omega
  generalize popN l.length m = k at hkl hcase
  have hcap := hr.cap
  have hbig := hr.big
  unfold maxLen at hbig
  have q2 : (l.length : Int) ≤ (c : Int) := by omega
  have q5 : (0 : Int) ≤ (c : Int) := by omega
  rcases hcase with ⟨h1, rfl⟩ | ⟨h1, h2, rfl⟩ | ⟨h1, h2, rfl⟩
  · by_cases hck : c = 0
    · obtain rfl : l = [] := List.eq_nil_of_length_eq_zero (by omega)
      subst hck
      have hr0 : RdI w A 0 0 [] := hr
      have hJ1 : ∀ w', RdI w' A 0 0 [] → Calls Try.prog 10 #[.slice A (0) (0), .slice none 0 0] w' (NewI w' ([])) := fun w' h => join_none _ _ _ _ _ (rd_none h) (by omega)
      have hJ2 : ∀ w', RdI w' A 0 0 [] → Calls Try.prog 10 #[.slice (A) (0) (0), .slice none 0 0] w' (NewI w' ([])) := fun w' h => join_none _ _ _ _ _ (rd_none h) (by omega)
      go_enter Try.func11, Try.ntmps11
      go_wp2_with fail
      go_region_held3 (fun w' => RdI w' A 0 0 []) (first | exact ⟨hr.len, hr.cap, hr.big, hr.get⟩ | exact Rd.below (by assumption) (by assumption))
        (first
          | (go_at_call 10; refine (hJ1 _ (by assumption)).mono ?_; rintro e w1 ⟨s1, rfl, o1, b1⟩)
          | (go_at_call 10; refine (hJ2 _ (by assumption)).mono ?_; rintro e w2 ⟨s2, rfl, o2, b2⟩)
          | (go_at_call 10; trace_state; fail))
      all_goals
        go_wp2_with fail
        go_ret2
        first | exact shut1 o1 b1 o2 b2 | exact shut2 o2 b2 o1 b1 | exact shut1 (by assumption) (by assumption) o1 b1
    · have hck2 := hck
      have hJ1 : ∀ w', RdI w' A l.length c l → Calls Try.prog 10 #[.slice A (0) (c), .slice none 0 0] w' (NewI w' (l.take 0)) := fun w' h => join_none _ _ _ _ _ (rd_take h (Nat.zero_le _)) (by omega)
      have hJ2 : ∀ w', RdI w' A l.length c l → Calls Try.prog 10 #[.slice (A) (l.length) (c), .slice none 0 0] w' (NewI w' (l.drop 0)) := fun w' h => join_none _ _ _ _ _ (h) (by omega)
      go_enter Try.func11, Try.ntmps11
      go_wp2_with fail
      go_region_held3 (fun w' => RdI w' A l.length c l) (first | exact ⟨hr.len, hr.cap, hr.big, hr.get⟩ | exact Rd.below (by assumption) (by assumption))
        (first
          | (go_at_call 10; refine (hJ1 _ (by assumption)).mono ?_; rintro e w1 ⟨s1, rfl, o1, b1⟩)
          | (go_at_call 10; refine (hJ2 _ (by assumption)).mono ?_; rintro e w2 ⟨s2, rfl, o2, b2⟩)
          | (go_at_call 10; trace_state; fail))
      all_goals
        go_wp2_with fail
        go_ret2
        first | exact shut1 o1 b1 o2 b2 | exact shut2 o2 b2 o1 b1 | exact shut1 (by assumption) (by assumption) o1 b1
  · by_cases hck : c = l.length
    · subst hck
      have e1 : l.take l.length = l := List.take_length
      have e2 : l.drop l.length = [] := List.drop_length
      rw [e1, e2]
      have hJ1 : ∀ w', RdI w' A l.length l.length l → Calls Try.prog 10 #[.slice A (l.length) (l.length), .slice none 0 0] w' (NewI w' (l)) := fun w' h => join_none _ _ _ _ _ (h) (by omega)
      have hJ2 : ∀ w', RdI w' A l.length l.length l → Calls Try.prog 10 #[.slice (A) (0) (0), .slice none 0 0] w' (NewI w' ([])) := fun w' h => join_none _ _ _ _ _ (rd_none h) (by omega)
      go_enter Try.func11, Try.ntmps11
      go_wp2_with fail
      go_region_held3 (fun w' => RdI w' A l.length l.length l) (first | exact ⟨hr.len, hr.cap, hr.big, hr.get⟩ | exact Rd.below (by assumption) (by assumption))
        (first
          | (go_at_call 10; refine (hJ1 _ (by assumption)).mono ?_; rintro e w1 ⟨s1, rfl, o1, b1⟩)
          | (go_at_call 10; refine (hJ2 _ (by assumption)).mono ?_; rintro e w2 ⟨s2, rfl, o2, b2⟩)
          | (go_at_call 10; trace_state; fail))
      all_goals
        go_wp2_with fail
        go_ret2
        first | exact shut1 o1 b1 o2 b2 | exact shut2 o2 b2 o1 b1 | exact shut1 (by assumption) (by assumption) o1 b1
    · have e1 : l.take l.length = l := List.take_length
      have e2 : l.drop l.length = [] := List.drop_length
      rw [e1, e2]
      have hJ1 : ∀ w', RdI w' A l.length c l → Calls Try.prog 10 #[.slice A (l.length) (c), .slice none 0 0] w' (NewI w' (l)) := fun w' h => join_none _ _ _ _ _ (h) (by omega)
      have hJ2 : ∀ w', RdI w' A l.length c l → Calls Try.prog 10 #[.slice (A.map (·.add l.length)) (0) (c - l.length), .slice none 0 0] w' (NewI w' ([])) := fun w' h => join_none _ _ _ _ _ ((by have hh := rd_drop h (Nat.le_refl _); rw [if_neg hck, Nat.sub_self, e2] at hh; exact hh)) (by omega)
      go_enter Try.func11, Try.ntmps11
      go_wp2_with fail
      go_region_held3 (fun w' => RdI w' A l.length c l) (first | exact ⟨hr.len, hr.cap, hr.big, hr.get⟩ | exact Rd.below (by assumption) (by assumption))
        (first
          | (go_at_call 10; refine (hJ1 _ (by assumption)).mono ?_; rintro e w1 ⟨s1, rfl, o1, b1⟩)
          | (go_at_call 10; refine (hJ2 _ (by assumption)).mono ?_; rintro e w2 ⟨s2, rfl, o2, b2⟩)
          | (go_at_call 10; trace_state; fail))
      all_goals
        go_wp2_with fail
        go_ret2
        first | exact shut1 o1 b1 o2 b2 | exact shut2 o2 b2 o1 b1 | exact shut1 (by assumption) (by assumption) o1 b1
  · have q1 : (k : Int) ≤ (l.length : Int) := by omega
    have q3 : (k : Int) ≤ (c : Int) := by omega
    have q4 : (0 : Int) ≤ (k : Int) := by omega
    by_cases hck : c = k
    · subst hck
      obtain hcl : l.length = c := by omega
      have e1 : l.take c = l := by rw [← hcl]; exact List.take_length
      have e2 : l.drop c = [] := by rw [← hcl]; exact List.drop_length
      rw [e1, e2]
      subst hcl
      have hJ1 : ∀ w', RdI w' A l.length l.length l → Calls Try.prog 10 #[.slice A (l.length) (l.length), .slice none 0 0] w' (NewI w' (l)) := fun w' h => join_none _ _ _ _ _ (h) (by omega)
      have hJ2 : ∀ w', RdI w' A l.length l.length l → Calls Try.prog 10 #[.slice (A) (0) (0), .slice none 0 0] w' (NewI w' ([])) := fun w' h => join_none _ _ _ _ _ (rd_none h) (by omega)
      go_enter Try.func11, Try.ntmps11
      go_wp2_with fail
      go_region_held3 (fun w' => RdI w' A l.length l.length l) (first | exact ⟨hr.len, hr.cap, hr.big, hr.get⟩ | exact Rd.below (by assumption) (by assumption))
        (first
          | (go_at_call 10; refine (hJ1 _ (by assumption)).mono ?_; rintro e w1 ⟨s1, rfl, o1, b1⟩)
          | (go_at_call 10; refine (hJ2 _ (by assumption)).mono ?_; rintro e w2 ⟨s2, rfl, o2, b2⟩)
          | (go_at_call 10; trace_state; fail))
      all_goals
        go_wp2_with fail
        go_ret2
        first | exact shut1 o1 b1 o2 b2 | exact shut2 o2 b2 o1 b1 | exact shut1 (by assumption) (by assumption) o1 b1
    · have hck2 := hck
      have hJ1 : ∀ w', RdI w' A l.length c l → Calls Try.prog 10 #[.slice A (k) (c), .slice none 0 0] w' (NewI w' (l.take k)) := fun w' h => join_none _ _ _ _ _ (rd_take h hkl) (by omega)
      have hJ2 : ∀ w', RdI w' A l.length c l → Calls Try.prog 10 #[.slice (A.map (·.add k)) (l.length - k) (c - k), .slice none 0 0] w' (NewI w' (l.drop k)) := fun w' h => join_none _ _ _ _ _ ((by have hh := rd_drop h hkl; rw [if_neg hck] at hh; exact hh)) (by omega)
      go_enter Try.func11, Try.ntmps11
      go_wp2_with fail
      go_region_held3 (fun w' => RdI w' A l.length c l) (first | exact ⟨hr.len, hr.cap, hr.big, hr.get⟩ | exact Rd.below (by assumption) (by assumption))
        (first
          | (go_at_call 10; refine (hJ1 _ (by assumption)).mono ?_; rintro e w1 ⟨s1, rfl, o1, b1⟩)
          | (go_at_call 10; refine (hJ2 _ (by assumption)).mono ?_; rintro e w2 ⟨s2, rfl, o2, b2⟩)
          | (go_at_call 10; trace_state; fail))
      all_goals
        go_wp2_with fail
        go_ret2
        first | exact shut1 o1 b1 o2 b2 | exact shut2 o2 b2 o1 b1 | exact shut1 (by assumption) (by assumption) o1 b1
end Go.Proofs.Ytadjgbhbeamdbaa.DqU
