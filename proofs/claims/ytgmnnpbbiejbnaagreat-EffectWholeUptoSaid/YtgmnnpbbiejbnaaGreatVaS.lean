/-
  slices.Clone at the three kinds of lists. Conditions: as stated.
-/
import Derived.Test.YtgmnnpbbiejbnaaGreatMgC
set_option maxRecDepth 100000
set_option linter.unusedSimpArgs false
set_option linter.unusedVariables false
namespace Go.Proofs.YtgmnnpbbiejbnaaGreat.VaS
open Go.RowKit Go.Proofs.YtgmnnpbbiejbnaaGreat.Mem Go.Proofs.YtgmnnpbbiejbnaaGreat.VaA Go.Proofs.YtgmnnpbbiejbnaaGreat.VaB Go.Proofs.YtgmnnpbbiejbnaaGreat.VaC Go.Proofs.YtgmnnpbbiejbnaaGreat.VaL

theorem elF : El Tryz.prog 39 113 (.agg #[.string ⟨#[]⟩, .string ⟨#[]⟩]) 2 32 := by
  obtain ⟨i, h1, h2, h3, h4⟩ := info_parts (show (Tryz.prog.info? 113).map (fun i => (i.zero, i.size, i.bytes)) = some (some (.agg #[.string ⟨#[]⟩, .string ⟨#[]⟩]), 2, 32) by kernel_rfl)
  exact ⟨Tryz.underlying39, ⟨i, h1, h2, h3, h4⟩, rfl, by decide⟩
theorem elK : El Tryz.prog 40 115 (.agg #[.string ⟨#[]⟩, .int .i64 0]) 2 24 := by
  obtain ⟨i, h1, h2, h3, h4⟩ := info_parts (show (Tryz.prog.info? 115).map (fun i => (i.zero, i.size, i.bytes)) = some (some (.agg #[.string ⟨#[]⟩, .int .i64 0]), 2, 24) by kernel_rfl)
  exact ⟨Tryz.underlying40, ⟨i, h1, h2, h3, h4⟩, rfl, by decide⟩
abbrev OwnF (w : World) (B : Nat) (v : Value) (l : List (ByteArray × ByteArray)) : Prop := w.ownsRow B 113 2 v l.length (flds l)
abbrev OwnK (w : World) (B : Nat) (v : Value) (l : List (ByteArray × Int)) : Prop := w.ownsRow B 115 2 v l.length (rnks l)
theorem strs_one (l : List ByteArray) : ∀ u ∈ strs l, u.oneCell' = true := by
  intro u hu; simp only [strs, List.mem_map] at hu; obtain ⟨x, _, rfl⟩ := hu; rfl
theorem flds_one (l : List (ByteArray × ByteArray)) : ∀ u ∈ flds l, u.oneCell' = true := by
  intro u hu; simp only [flds, List.mem_flatMap] at hu; obtain ⟨x, _, h⟩ := hu; simp at h; rcases h with rfl | rfl <;> rfl
theorem rnks_one (l : List (ByteArray × Int)) : ∀ u ∈ rnks l, u.oneCell' = true := by
  intro u hu; simp only [rnks, List.mem_flatMap] at hu; obtain ⟨x, _, h⟩ := hu; simp at h; rcases h with rfl | rfl <;> rfl

set_option maxHeartbeats 1000000 in
theorem cloneS_calls (A : Option Addr) (n c : Nat) (l : List ByteArray) (w : World) (hr : RdS w A n c l) (hn : n * 16 ≤ 140737488355328) :
    Calls Tryz.prog 70 #[.slice A n c] w fun e w' => ∃ v, e = .returned v ∧ OwnS w' w.heap.size v l ∧ Below w.heap.size w w' := by
  have hl : Hid (l.length = n) := rds_len hr
  have hnl := fun w n' c' => Lib.run_eql_slice_nil (P := Tryz.prog) w 38 9 A n c n' c' Tryz.underlying38
  rcases A with _ | ad
  · go_enter Tryz.func70, Tryz.ntmps70
    go_wp2_with fail
    go_ret
    have h0 : l = [] := by
      rcases l with _ | ⟨x, r⟩
      · rfl
      · obtain ⟨ad, h, _⟩ := hr.get 0 (.string x) rfl
        cases h
    subst h0
    exact ⟨_, rfl, World.ownsRow_nil _ _ _ _, Below.refl _ _⟩
  · go_enter Tryz.func70, Tryz.ntmps70
    have hr2 : RdS (w.alloc (.cells #[] 9)) (some ad) n c l := hr.below ((Below.refl _ _).alloc (Nat.le_refl _) _)
    have ho : (w.alloc (.cells #[] 9)).ownsRow w.heap.size 9 1 (.slice (some ⟨w.heap.size, 0, none⟩) 0 0) 0 [] := World.ownsRow_made w #[] 0 (Nat.le_refl _) (Nat.zero_le _) rfl
    go_wp2_with (at_builtin; refine wpList_app rfl (.tmp 5) (.tmp 6) elS rfl w.heap.size _ 0 [] rfl ho (some ad) n c (strs l) rfl hr2 (strs_one l) (by unfold maxLen; omega) (by omega) (by simp) ?_; intro v w1 o1 b1 f1)
    go_ret
    refine ⟨_, rfl, ?_, ?_⟩
    · simpa [OwnS, hl.out] using o1
    · exact (((Only.refl (fun k => w.heap.size ≤ k) w).alloc _).trans b1 (fun b hb => .inl (by injection hb with hb; exact Nat.le_of_eq hb))).below (Nat.le_refl _) (fun _ h => h)

set_option maxHeartbeats 1000000 in
theorem cloneF_calls (A : Option Addr) (n c : Nat) (l : List (ByteArray × ByteArray)) (w : World) (hr : RdF w A n c l) (hn : n * 32 ≤ 140737488355328) :
    Calls Tryz.prog 72 #[.slice A n c] w fun e w' => ∃ v, e = .returned v ∧ OwnF w' w.heap.size v l ∧ Below w.heap.size w w' := by
  have hl : Hid (l.length = n) := rdf_len hr
  have hnl := fun w n' c' => Lib.run_eql_slice_nil (P := Tryz.prog) w 39 113 A n c n' c' Tryz.underlying39
  rcases A with _ | ad
  · go_enter Tryz.func72, Tryz.ntmps72
    go_wp2_with fail
    go_ret
    have h0 : l = [] := by
      rcases l with _ | ⟨x, r⟩
      · rfl
      · obtain ⟨ad, h, _⟩ := hr.get 0 (.string x.1) rfl
        cases h
    subst h0
    exact ⟨_, rfl, World.ownsRow_nil _ _ _ _, Below.refl _ _⟩
  · go_enter Tryz.func72, Tryz.ntmps72
    have hr2 : RdF (w.alloc (.cells #[] 113)) (some ad) n c l := hr.below ((Below.refl _ _).alloc (Nat.le_refl _) _)
    have ho : (w.alloc (.cells #[] 113)).ownsRow w.heap.size 113 2 (.slice (some ⟨w.heap.size, 0, none⟩) 0 0) 0 [] := World.ownsRow_made w #[] 0 (Nat.le_refl _) (Nat.zero_le _) rfl
    go_wp2_with (at_builtin; refine wpList_app rfl (.tmp 5) (.tmp 6) elF rfl w.heap.size _ 0 [] rfl ho (some ad) n c (flds l) rfl hr2 (flds_one l) (by unfold maxLen; omega) (by omega) (by simp) ?_; intro v w1 o1 b1 f1)
    go_ret
    refine ⟨_, rfl, ?_, ?_⟩
    · simpa [OwnF, hl.out] using o1
    · exact (((Only.refl (fun k => w.heap.size ≤ k) w).alloc _).trans b1 (fun b hb => .inl (by injection hb with hb; exact Nat.le_of_eq hb))).below (Nat.le_refl _) (fun _ h => h)

set_option maxHeartbeats 1000000 in
theorem cloneK_calls (A : Option Addr) (n c : Nat) (l : List (ByteArray × Int)) (w : World) (hr : RdK w A n c l) (hn : n * 24 ≤ 140737488355328) :
    Calls Tryz.prog 74 #[.slice A n c] w fun e w' => ∃ v, e = .returned v ∧ OwnK w' w.heap.size v l ∧ Below w.heap.size w w' := by
  have hl : Hid (l.length = n) := rdk_len hr
  have hnl := fun w n' c' => Lib.run_eql_slice_nil (P := Tryz.prog) w 40 115 A n c n' c' Tryz.underlying40
  rcases A with _ | ad
  · go_enter Tryz.func74, Tryz.ntmps74
    go_wp2_with fail
    go_ret
    have h0 : l = [] := by
      rcases l with _ | ⟨x, r⟩
      · rfl
      · obtain ⟨ad, h, _⟩ := hr.get 0 (.string x.1) rfl
        cases h
    subst h0
    exact ⟨_, rfl, World.ownsRow_nil _ _ _ _, Below.refl _ _⟩
  · go_enter Tryz.func74, Tryz.ntmps74
    have hr2 : RdK (w.alloc (.cells #[] 115)) (some ad) n c l := hr.below ((Below.refl _ _).alloc (Nat.le_refl _) _)
    have ho : (w.alloc (.cells #[] 115)).ownsRow w.heap.size 115 2 (.slice (some ⟨w.heap.size, 0, none⟩) 0 0) 0 [] := World.ownsRow_made w #[] 0 (Nat.le_refl _) (Nat.zero_le _) rfl
    go_wp2_with (at_builtin; refine wpList_app rfl (.tmp 5) (.tmp 6) elK rfl w.heap.size _ 0 [] rfl ho (some ad) n c (rnks l) rfl hr2 (rnks_one l) (by unfold maxLen; omega) (by omega) (by simp) ?_; intro v w1 o1 b1 f1)
    go_ret
    refine ⟨_, rfl, ?_, ?_⟩
    · simpa [OwnK, hl.out] using o1
    · exact (((Only.refl (fun k => w.heap.size ≤ k) w).alloc _).trans b1 (fun b hb => .inl (by injection hb with hb; exact Nat.le_of_eq hb))).below (Nat.le_refl _) (fun _ h => h)

theorem clipS_calls (A : Option Addr) (n c : Nat) (w : World) (hn : n ≤ c) :
    Calls Tryz.prog 69 #[.slice A n c] w fun e w' => e = .returned (.slice A n n) ∧ w' = w := by
  rcases A with _ | ad
  all_goals (
    go_enter Tryz.func69, Tryz.ntmps69
    go_wp2_with fail
    go_ret
    exact ⟨by first | rfl | simp, rfl⟩)

theorem clipF_calls (A : Option Addr) (n c : Nat) (w : World) (hn : n ≤ c) :
    Calls Tryz.prog 71 #[.slice A n c] w fun e w' => e = .returned (.slice A n n) ∧ w' = w := by
  rcases A with _ | ad
  all_goals (
    go_enter Tryz.func71, Tryz.ntmps71
    go_wp2_with fail
    go_ret
    exact ⟨by first | rfl | simp, rfl⟩)

theorem clipK_calls (A : Option Addr) (n c : Nat) (w : World) (hn : n ≤ c) :
    Calls Tryz.prog 73 #[.slice A n c] w fun e w' => e = .returned (.slice A n n) ∧ w' = w := by
  rcases A with _ | ad
  all_goals (
    go_enter Tryz.func73, Tryz.ntmps73
    go_wp2_with fail
    go_ret
    exact ⟨by first | rfl | simp, rfl⟩)
end Go.Proofs.YtgmnnpbbiejbnaaGreat.VaS
