/-
  What a value of a kind has; whether it may be. Conditions: as stated.
-/
import Derived.Test.YtgmnnpbbiejbnaaGreatVaG
import Derived.Test.YtgmnnpbbiejbnaaGreatVaD
set_option maxRecDepth 100000
set_option linter.unusedSimpArgs false
set_option linter.unusedVariables false
namespace Go.Proofs.YtgmnnpbbiejbnaaGreat.VaH
open Go.RowKit Go.Proofs.YtgmnnpbbiejbnaaGreat.Mem Go.Proofs.YtgmnnpbbiejbnaaGreat.VaA Go.Proofs.YtgmnnpbbiejbnaaGreat.VaB Go.Proofs.YtgmnnpbbiejbnaaGreat.VaC Go.Proofs.YtgmnnpbbiejbnaaGreat.VaD Go.Proofs.YtgmnnpbbiejbnaaGreat.VaE Go.Proofs.YtgmnnpbbiejbnaaGreat.VaF Go.Proofs.YtgmnnpbbiejbnaaGreat.VaG

/-- A value, as it is and as it lies. -/
structure VV where
  kind : Int
  text : ByteArray
  LA : Option Addr
  ln : Nat
  lc : Nat
  list : List ByteArray
  FA : Option Addr
  fn : Nat
  fc : Nat
  flds : List (ByteArray × ByteArray)
  KA : Option Addr
  kn : Nat
  kc : Nat
  rank : List (ByteArray × Int)
def VV.val (x : VV) : Value := .agg #[.int .i64 x.kind, .string x.text, .slice x.LA x.ln x.lc, .slice x.FA x.fn x.fc, .slice x.KA x.kn x.kc]
structure RdV (w : World) (x : VV) : Prop where
  l : RdS w x.LA x.ln x.lc x.list
  f : RdF w x.FA x.fn x.fc x.flds
  k : RdK w x.KA x.kn x.kc x.rank
theorem RdV.below {w w' : World} {x : VV} (h : RdV w x) (hb : Below w.heap.size w w') : RdV w' x := ⟨h.l.below hb, h.f.below hb, h.k.below hb⟩

def VV.cells (x : VV) : Array Value := #[.int .i64 x.kind, .string x.text, .slice x.LA x.ln x.lc, .slice x.FA x.fn x.fc, .slice x.KA x.kn x.kc]
def isK (x : VV) : Bool := x.kind == 1 || x.kind == 2 || x.kind == 3 || x.kind == 4 || x.kind == 5
def heldV (x : VV) : Value :=
  if x.kind = 1 then .iface 141 (.string x.text) else if x.kind = 2 then .iface 142 (.slice x.LA x.ln x.lc) else if x.kind = 3 then .iface 143 (.slice x.FA x.fn x.fc)
  else if x.kind = 4 then .iface 144 (.slice x.LA x.ln x.lc) else if x.kind = 5 then .iface 145 (.slice x.KA x.kn x.kc) else .nilIface

set_option maxHeartbeats 1000000 in
theorem of_calls (x : VV) (w : World) :
    Calls Tryz.prog 56 #[x.val] w fun e w' => e = .returned (.tuple #[heldV x, .bool (isK x)]) ∧ w' = w.alloc (.cells x.cells 42) := by
  unfold VV.val VV.cells
  go_enter Tryz.func56, Tryz.ntmps56
  by_cases h1 : x.kind = 1
  · go_wp2_with fail
    go_ret2
    exact ⟨by unfold heldV isK; simp [h1], by rw [h1]⟩
  by_cases h2 : x.kind = 2
  · go_wp2_with fail
    go_ret2
    exact ⟨by unfold heldV isK; simp [h2], by rw [h2]⟩
  by_cases h3 : x.kind = 3
  · go_wp2_with fail
    go_ret2
    exact ⟨by unfold heldV isK; simp [h3], by rw [h3]⟩
  by_cases h4 : x.kind = 4
  · go_wp2_with fail
    go_ret2
    exact ⟨by unfold heldV isK; simp [h4], by rw [h4]⟩
  by_cases h5 : x.kind = 5
  · go_wp2_with fail
    go_ret2
    exact ⟨by unfold heldV isK; simp [h5], by rw [h5]⟩
  go_wp2_with fail
  go_ret2
  exact ⟨by unfold heldV isK; simp [h1, h2, h3, h4, h5], rfl⟩

/-- Is what it has nothing? May it be? -/
def emptyV (x : VV) : Bool := if x.kind = 1 then false else if x.kind = 2 then x.ln == 0 else if x.kind = 3 then x.fn == 0 else if x.kind = 4 then x.ln == 0 else x.kn == 0
def rightV (x : VV) : Bool := if x.kind = 1 then shortB x.text else if x.kind = 2 then x.list.all shortB else if x.kind = 3 then okH x.flds else if x.kind = 4 then x.list.all shortB && ris ltS x.list else okK x.rank
def strayV (x : VV) : Bool := (x.kind != 1 && !(x.text.toList == [])) || (x.kind != 2 && x.kind != 4 && decide (0 < x.ln)) || (x.kind != 3 && decide (0 < x.fn)) || (x.kind != 5 && decide (0 < x.kn))
/-- The error's number, or 0. -/
def chk (x : VV) : Int := if isK x then (if strayV x then 131 else if emptyV x || !rightV x then 131 else 0) else 130

theorem m_text_empty (s : ByteArray) (w : World) : (method 312 141 (.string s) "covenant/value.empty").run Tryz.prog w = .ok (147, .string s) w := by kernel_rfl
theorem m_text_right (s : ByteArray) (w : World) : (method 312 141 (.string s) "covenant/value.right").run Tryz.prog w = .ok (148, .string s) w := by kernel_rfl
theorem m_text_write (s : ByteArray) (w : World) : (method 312 141 (.string s) "covenant/value.write").run Tryz.prog w = .ok (149, .string s) w := by kernel_rfl
theorem m_list_empty (A : Option Addr) (n c : Nat) (w : World) : (method 312 142 (.slice A n c) "covenant/value.empty").run Tryz.prog w = .ok (153, .slice A n c) w := by kernel_rfl
theorem m_list_right (A : Option Addr) (n c : Nat) (w : World) : (method 312 142 (.slice A n c) "covenant/value.right").run Tryz.prog w = .ok (154, .slice A n c) w := by kernel_rfl
theorem m_list_write (A : Option Addr) (n c : Nat) (w : World) : (method 312 142 (.slice A n c) "covenant/value.write").run Tryz.prog w = .ok (155, .slice A n c) w := by kernel_rfl
theorem m_hash_empty (A : Option Addr) (n c : Nat) (w : World) : (method 312 143 (.slice A n c) "covenant/value.empty").run Tryz.prog w = .ok (159, .slice A n c) w := by kernel_rfl
theorem m_hash_right (A : Option Addr) (n c : Nat) (w : World) : (method 312 143 (.slice A n c) "covenant/value.right").run Tryz.prog w = .ok (160, .slice A n c) w := by kernel_rfl
theorem m_hash_write (A : Option Addr) (n c : Nat) (w : World) : (method 312 143 (.slice A n c) "covenant/value.write").run Tryz.prog w = .ok (161, .slice A n c) w := by kernel_rfl
theorem m_set_empty (A : Option Addr) (n c : Nat) (w : World) : (method 312 144 (.slice A n c) "covenant/value.empty").run Tryz.prog w = .ok (162, .slice A n c) w := by kernel_rfl
theorem m_set_right (A : Option Addr) (n c : Nat) (w : World) : (method 312 144 (.slice A n c) "covenant/value.right").run Tryz.prog w = .ok (163, .slice A n c) w := by kernel_rfl
theorem m_set_write (A : Option Addr) (n c : Nat) (w : World) : (method 312 144 (.slice A n c) "covenant/value.write").run Tryz.prog w = .ok (164, .slice A n c) w := by kernel_rfl
theorem m_ranked_empty (A : Option Addr) (n c : Nat) (w : World) : (method 312 145 (.slice A n c) "covenant/value.empty").run Tryz.prog w = .ok (166, .slice A n c) w := by kernel_rfl
theorem m_ranked_right (A : Option Addr) (n c : Nat) (w : World) : (method 312 145 (.slice A n c) "covenant/value.right").run Tryz.prog w = .ok (167, .slice A n c) w := by kernel_rfl
theorem m_ranked_write (A : Option Addr) (n c : Nat) (w : World) : (method 312 145 (.slice A n c) "covenant/value.write").run Tryz.prog w = .ok (168, .slice A n c) w := by kernel_rfl
attribute [local go_sem] m_text_empty m_text_right m_text_write m_list_empty m_list_right m_list_write m_hash_empty m_hash_right m_hash_write m_set_empty m_set_right m_set_write m_ranked_empty m_ranked_right m_ranked_write
set_option maxHeartbeats 1000000 in
theorem rightT_calls (s : ByteArray) (w : World) : Calls Tryz.prog 148 #[.string s] w fun e w' => e = .returned (.bool (shortB s)) ∧ w' = w := by
  go_enter Tryz.func148, Tryz.ntmps148
  go_wp2_with fail
  refine (short_calls s w).mono ?_
  rintro e w1 ⟨rfl, rfl⟩
  go_wp2_with fail
  go_ret
  exact ⟨rfl, rfl⟩

set_option maxHeartbeats 2000000 in
theorem check_calls (x : VV) (w : World) (hr : RdV w x) (hn : x.kn ≤ 100000000) (hz : ∀ y ∈ x.rank, y.1.size ≤ maxLen) :
    Calls Tryz.prog 43 #[x.val] w fun e w' => e = .returned (.int .i64 (chk x)) ∧ Below w.heap.size w w' := by
  have hv : x.val = .agg #[.int .i64 x.kind, .string x.text, .slice x.LA x.ln x.lc, .slice x.FA x.fn x.fc, .slice x.KA x.kn x.kc] := rfl
  have hof := fun w' => of_calls x w'
  rw [hv] at hof ⊢
  unfold VV.cells at hof
  go_enter Tryz.func43, Tryz.ntmps43
  go_wp2_with fail
  refine (hof _).mono ?_
  rintro e w1 ⟨rfl, rfl⟩
  have hW2 : Below w.heap.size w ((w.alloc (.cells #[.int .i64 x.kind, .string x.text, .slice x.LA x.ln x.lc, .slice x.FA x.fn x.fc, .slice x.KA x.kn x.kc] 42)).alloc (.cells #[.int .i64 x.kind, .string x.text, .slice x.LA x.ln x.lc, .slice x.FA x.fn x.fc, .slice x.KA x.kn x.kc] 42)) := ((Below.refl _ w).alloc (Nat.le_refl _) _).alloc (by simp) _
  by_cases h1 : x.kind = 1
  · have e1 : heldV x = .iface 141 (.string x.text) := by unfold heldV; simp [h1]
    have e2 : isK x = true := by unfold isK; simp [h1]
    rw [e1, e2]
    clear e1 e2
    obtain ⟨b, hb⟩ : ∃ b, shortB x.text = b := ⟨_, rfl⟩
    cases b
    all_goals (
      go_wp2_with (first
        | (go_at_call 147; go_enter Tryz.func147, Tryz.ntmps147)
        | (go_at_call 148; refine (rightT_calls x.text _).mono ?_; rintro e w3 ⟨rfl, rfl⟩; rw [hb]))
      all_goals (
        go_ret
        refine ⟨?_, (((Below.refl _ w).alloc (Nat.le_refl _) _).alloc (by simp) _)⟩
        first
          | (rw [show chk x = 131 by unfold chk isK strayV emptyV rightV; simp (config := { failIfUnchanged := false }) [Nat.pos_iff_ne_zero, *]]; rfl)
          | (rw [show chk x = 0 by unfold chk isK strayV emptyV rightV; simp (config := { failIfUnchanged := false }) [Nat.pos_iff_ne_zero, *]]; rfl)))
  by_cases h2 : x.kind = 2
  · have e1 : heldV x = .iface 142 (.slice x.LA x.ln x.lc) := by unfold heldV; simp [h2]
    have e2 : isK x = true := by unfold isK; simp [h2]
    rw [e1, e2]
    clear e1 e2
    obtain ⟨b, hb⟩ : ∃ b, x.list.all shortB = b := ⟨_, rfl⟩
    cases b
    all_goals (
      go_wp2_with (first
        | (go_at_call 153; go_enter Tryz.func153, Tryz.ntmps153)
        | (go_at_call 154; refine (rightL_calls x.LA x.ln x.lc x.list _ (hr.l.below (((Below.refl _ w).alloc (Nat.le_refl _) _).alloc (by simp) _))).mono ?_; rintro e w3 ⟨rfl, rfl⟩; rw [hb]))
      all_goals (
        go_ret
        refine ⟨?_, (((Below.refl _ w).alloc (Nat.le_refl _) _).alloc (by simp) _)⟩
        first
          | (rw [show chk x = 131 by unfold chk isK strayV emptyV rightV; simp (config := { failIfUnchanged := false }) [Nat.pos_iff_ne_zero, *]]; rfl)
          | (rw [show chk x = 0 by unfold chk isK strayV emptyV rightV; simp (config := { failIfUnchanged := false }) [Nat.pos_iff_ne_zero, *]]; rfl)))
  by_cases h3 : x.kind = 3
  · have e1 : heldV x = .iface 143 (.slice x.FA x.fn x.fc) := by unfold heldV; simp [h3]
    have e2 : isK x = true := by unfold isK; simp [h3]
    rw [e1, e2]
    clear e1 e2
    obtain ⟨b, hb⟩ : ∃ b, okH x.flds = b := ⟨_, rfl⟩
    cases b
    all_goals (
      go_wp2_with (first
        | (go_at_call 159; go_enter Tryz.func159, Tryz.ntmps159)
        | (go_at_call 160; refine (rightH_calls x.FA x.fn x.fc x.flds _ (hr.f.below (((Below.refl _ w).alloc (Nat.le_refl _) _).alloc (by simp) _))).mono ?_; rintro e w3 ⟨rfl, b3⟩; rw [hb]))
      all_goals (
        go_ret
        refine ⟨?_, by first | exact (((Below.refl _ w).alloc (Nat.le_refl _) _).alloc (by simp) _) | exact (((Below.refl _ w).alloc (Nat.le_refl _) _).alloc (by simp) _).trans (b3.mono (by simp; omega))⟩
        first
          | (rw [show chk x = 131 by unfold chk isK strayV emptyV rightV; simp (config := { failIfUnchanged := false }) [Nat.pos_iff_ne_zero, *]]; rfl)
          | (rw [show chk x = 0 by unfold chk isK strayV emptyV rightV; simp (config := { failIfUnchanged := false }) [Nat.pos_iff_ne_zero, *]]; rfl)))
  by_cases h4 : x.kind = 4
  · have e1 : heldV x = .iface 144 (.slice x.LA x.ln x.lc) := by unfold heldV; simp [h4]
    have e2 : isK x = true := by unfold isK; simp [h4]
    rw [e1, e2]
    clear e1 e2
    obtain ⟨b, hb⟩ : ∃ b, (x.list.all shortB && ris ltS x.list) = b := ⟨_, rfl⟩
    cases b
    all_goals (
      go_wp2_with (first
        | (go_at_call 162; go_enter Tryz.func162, Tryz.ntmps162)
        | (go_at_call 163; refine (rightS_calls x.LA x.ln x.lc x.list _ (hr.l.below (((Below.refl _ w).alloc (Nat.le_refl _) _).alloc (by simp) _))).mono ?_; rintro e w3 ⟨rfl, nd, rfl⟩; rw [hb]))
      all_goals (
        go_ret
        refine ⟨?_, by first | exact (((Below.refl _ w).alloc (Nat.le_refl _) _).alloc (by simp) _) | exact below_drawn_ (((Below.refl _ w).alloc (Nat.le_refl _) _).alloc (by simp) _) _⟩
        first
          | (rw [show chk x = 131 by unfold chk isK strayV emptyV rightV; simp (config := { failIfUnchanged := false }) [Nat.pos_iff_ne_zero, *]]; rfl)
          | (rw [show chk x = 0 by unfold chk isK strayV emptyV rightV; simp (config := { failIfUnchanged := false }) [Nat.pos_iff_ne_zero, *]]; rfl)))
  by_cases h5 : x.kind = 5
  · have e1 : heldV x = .iface 145 (.slice x.KA x.kn x.kc) := by unfold heldV; simp [h5]
    have e2 : isK x = true := by unfold isK; simp [h5]
    rw [e1, e2]
    clear e1 e2
    obtain ⟨b, hb⟩ : ∃ b, okK x.rank = b := ⟨_, rfl⟩
    cases b
    all_goals (
      go_wp2_with (first
        | (go_at_call 166; go_enter Tryz.func166, Tryz.ntmps166)
        | (go_at_call 167; refine (rightK_calls x.KA x.kn x.kc x.rank _ (hr.k.below (((Below.refl _ w).alloc (Nat.le_refl _) _).alloc (by simp) _)) hn hz).mono ?_; rintro e w3 ⟨rfl, b3⟩; rw [hb]))
      all_goals (
        go_ret
        refine ⟨?_, by first | exact (((Below.refl _ w).alloc (Nat.le_refl _) _).alloc (by simp) _) | exact (((Below.refl _ w).alloc (Nat.le_refl _) _).alloc (by simp) _).trans (b3.mono (by simp; omega))⟩
        first
          | (rw [show chk x = 131 by unfold chk isK strayV emptyV rightV; simp (config := { failIfUnchanged := false }) [Nat.pos_iff_ne_zero, *]]; rfl)
          | (rw [show chk x = 0 by unfold chk isK strayV emptyV rightV; simp (config := { failIfUnchanged := false }) [Nat.pos_iff_ne_zero, *]]; rfl)))
  have e1 : heldV x = .nilIface := by unfold heldV; simp [h1, h2, h3, h4, h5]
  have e2 : isK x = false := by unfold isK; simp [h1, h2, h3, h4, h5]
  rw [e1, e2]
  go_wp2_with fail
  go_ret
  refine ⟨?_, (((Below.refl _ w).alloc (Nat.le_refl _) _).alloc (by simp) _)⟩
  rw [show chk x = 130 by unfold chk; rw [e2]; rfl]; rfl
end Go.Proofs.YtgmnnpbbiejbnaaGreat.VaH
