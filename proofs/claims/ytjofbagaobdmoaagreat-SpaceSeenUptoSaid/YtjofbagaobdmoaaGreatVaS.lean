/-
  slices.Clone at the three kinds of lists. Conditions: as stated.
-/
import Derived.Test.YtjofbagaobdmoaaGreatVaL
set_option maxRecDepth 100000
set_option linter.unusedSimpArgs false
set_option linter.unusedVariables false
namespace Go.Proofs.YtjofbagaobdmoaaGreat.VaS
open Go.RowKit Go.Proofs.YtjofbagaobdmoaaGreat.Mem Go.Proofs.YtjofbagaobdmoaaGreat.VaA Go.Proofs.YtjofbagaobdmoaaGreat.VaB Go.Proofs.YtjofbagaobdmoaaGreat.VaC Go.Proofs.YtjofbagaobdmoaaGreat.VaL

theorem elF : El Tryz.prog 24 108 (.agg #[.string ⟨#[]⟩, .string ⟨#[]⟩]) 2 32 := by
  obtain ⟨i, h1, h2, h3, h4⟩ := info_parts (show (Tryz.prog.info? 108).map (fun i => (i.zero, i.size, i.bytes)) = some (some (.agg #[.string ⟨#[]⟩, .string ⟨#[]⟩]), 2, 32) by kernel_rfl)
  exact ⟨Tryz.underlying24, ⟨i, h1, h2, h3, h4⟩, rfl, by decide⟩
theorem elK : El Tryz.prog 25 110 (.agg #[.string ⟨#[]⟩, .int .i64 0]) 2 24 := by
  obtain ⟨i, h1, h2, h3, h4⟩ := info_parts (show (Tryz.prog.info? 110).map (fun i => (i.zero, i.size, i.bytes)) = some (some (.agg #[.string ⟨#[]⟩, .int .i64 0]), 2, 24) by kernel_rfl)
  exact ⟨Tryz.underlying25, ⟨i, h1, h2, h3, h4⟩, rfl, by decide⟩
abbrev OwnF (w : World) (B : Nat) (v : Value) (l : List (ByteArray × ByteArray)) : Prop := w.ownsRow B 108 2 v l.length (flds l)
abbrev OwnK (w : World) (B : Nat) (v : Value) (l : List (ByteArray × Int)) : Prop := w.ownsRow B 110 2 v l.length (rnks l)
theorem strs_one (l : List ByteArray) : ∀ u ∈ strs l, u.oneCell' = true := by
  intro u hu; simp only [strs, List.mem_map] at hu; obtain ⟨x, _, rfl⟩ := hu; rfl
theorem flds_one (l : List (ByteArray × ByteArray)) : ∀ u ∈ flds l, u.oneCell' = true := by
  intro u hu; simp only [flds, List.mem_flatMap] at hu; obtain ⟨x, _, h⟩ := hu; simp at h; rcases h with rfl | rfl <;> rfl
theorem rnks_one (l : List (ByteArray × Int)) : ∀ u ∈ rnks l, u.oneCell' = true := by
  intro u hu; simp only [rnks, List.mem_flatMap] at hu; obtain ⟨x, _, h⟩ := hu; simp at h; rcases h with rfl | rfl <;> rfl

set_option maxHeartbeats 1000000 in
theorem cloneS_calls (A : Option Addr) (n c : Nat) (l : List ByteArray) (w : World) (hr : RdS w A n c l) (hn : n * 16 ≤ 140737488355328) :
    Calls Tryz.prog 76 #[.slice A n c] w fun e w' => ∃ v, e = .returned v ∧ OwnS w' w.heap.size v l ∧ Below w.heap.size w w' := by
  have hl : Hid (l.length = n) := rds_len hr
  have hnl := fun w n' c' => Lib.run_eql_slice_nil (P := Tryz.prog) w 23 9 A n c n' c' Tryz.underlying23
  rcases A with _ | ad
  · go_enter Tryz.func76, Tryz.ntmps76
    go_wp2_with fail
    go_ret
    have h0 : l = [] := by
      rcases l with _ | ⟨x, r⟩
      · rfl
      · obtain ⟨ad, h, _⟩ := hr.get 0 (.string x) rfl
        cases h
    subst h0
    exact ⟨_, rfl, World.ownsRow_nil _ _ _ _, Below.refl _ _⟩
  · go_enter Tryz.func76, Tryz.ntmps76
    have hr2 : RdS (w.alloc (.cells #[] 9)) (some ad) n c l := hr.below ((Below.refl _ _).alloc (Nat.le_refl _) _)
    have ho : (w.alloc (.cells #[] 9)).ownsRow w.heap.size 9 1 (.slice (some ⟨w.heap.size, 0, none⟩) 0 0) 0 [] := World.ownsRow_made w #[] 0 (Nat.le_refl _) (Nat.zero_le _) rfl
    go_wp2_with (at_builtin; refine wpList_app rfl (.tmp 5) (.tmp 6) elS rfl w.heap.size _ 0 [] rfl ho (some ad) n c (strs l) rfl hr2 (strs_one l) (by unfold maxLen; omega) (by omega) (by simp) ?_; intro v w1 o1 b1 f1)
    go_ret
    refine ⟨_, rfl, ?_, ?_⟩
    · simpa [OwnS, hl.out] using o1
    · exact (((Only.refl (fun k => w.heap.size ≤ k) w).alloc _).trans b1 (fun b hb => .inl (by injection hb with hb; exact Nat.le_of_eq hb))).below (Nat.le_refl _) (fun _ h => h)

set_option maxHeartbeats 1000000 in
theorem cloneF_calls (A : Option Addr) (n c : Nat) (l : List (ByteArray × ByteArray)) (w : World) (hr : RdF w A n c l) (hn : n * 32 ≤ 140737488355328) :
    Calls Tryz.prog 78 #[.slice A n c] w fun e w' => ∃ v, e = .returned v ∧ OwnF w' w.heap.size v l ∧ Below w.heap.size w w' := by
  have hl : Hid (l.length = n) := rdf_len hr
  have hnl := fun w n' c' => Lib.run_eql_slice_nil (P := Tryz.prog) w 24 108 A n c n' c' Tryz.underlying24
  rcases A with _ | ad
  · go_enter Tryz.func78, Tryz.ntmps78
    go_wp2_with fail
    go_ret
    have h0 : l = [] := by
      rcases l with _ | ⟨x, r⟩
      · rfl
      · obtain ⟨ad, h, _⟩ := hr.get 0 (.string x.1) rfl
        cases h
    subst h0
    exact ⟨_, rfl, World.ownsRow_nil _ _ _ _, Below.refl _ _⟩
  · go_enter Tryz.func78, Tryz.ntmps78
    have hr2 : RdF (w.alloc (.cells #[] 108)) (some ad) n c l := hr.below ((Below.refl _ _).alloc (Nat.le_refl _) _)
    have ho : (w.alloc (.cells #[] 108)).ownsRow w.heap.size 108 2 (.slice (some ⟨w.heap.size, 0, none⟩) 0 0) 0 [] := World.ownsRow_made w #[] 0 (Nat.le_refl _) (Nat.zero_le _) rfl
    go_wp2_with (at_builtin; refine wpList_app rfl (.tmp 5) (.tmp 6) elF rfl w.heap.size _ 0 [] rfl ho (some ad) n c (flds l) rfl hr2 (flds_one l) (by unfold maxLen; omega) (by omega) (by simp) ?_; intro v w1 o1 b1 f1)
    go_ret
    refine ⟨_, rfl, ?_, ?_⟩
    · simpa [OwnF, hl.out] using o1
    · exact (((Only.refl (fun k => w.heap.size ≤ k) w).alloc _).trans b1 (fun b hb => .inl (by injection hb with hb; exact Nat.le_of_eq hb))).below (Nat.le_refl _) (fun _ h => h)

set_option maxHeartbeats 1000000 in
theorem cloneK_calls (A : Option Addr) (n c : Nat) (l : List (ByteArray × Int)) (w : World) (hr : RdK w A n c l) (hn : n * 24 ≤ 140737488355328) :
    Calls Tryz.prog 80 #[.slice A n c] w fun e w' => ∃ v, e = .returned v ∧ OwnK w' w.heap.size v l ∧ Below w.heap.size w w' := by
  have hl : Hid (l.length = n) := rdk_len hr
  have hnl := fun w n' c' => Lib.run_eql_slice_nil (P := Tryz.prog) w 25 110 A n c n' c' Tryz.underlying25
  rcases A with _ | ad
  · go_enter Tryz.func80, Tryz.ntmps80
    go_wp2_with fail
    go_ret
    have h0 : l = [] := by
      rcases l with _ | ⟨x, r⟩
      · rfl
      · obtain ⟨ad, h, _⟩ := hr.get 0 (.string x.1) rfl
        cases h
    subst h0
    exact ⟨_, rfl, World.ownsRow_nil _ _ _ _, Below.refl _ _⟩
  · go_enter Tryz.func80, Tryz.ntmps80
    have hr2 : RdK (w.alloc (.cells #[] 110)) (some ad) n c l := hr.below ((Below.refl _ _).alloc (Nat.le_refl _) _)
    have ho : (w.alloc (.cells #[] 110)).ownsRow w.heap.size 110 2 (.slice (some ⟨w.heap.size, 0, none⟩) 0 0) 0 [] := World.ownsRow_made w #[] 0 (Nat.le_refl _) (Nat.zero_le _) rfl
    go_wp2_with (at_builtin; refine wpList_app rfl (.tmp 5) (.tmp 6) elK rfl w.heap.size _ 0 [] rfl ho (some ad) n c (rnks l) rfl hr2 (rnks_one l) (by unfold maxLen; omega) (by omega) (by simp) ?_; intro v w1 o1 b1 f1)
    go_ret
    refine ⟨_, rfl, ?_, ?_⟩
    · simpa [OwnK, hl.out] using o1
    · exact (((Only.refl (fun k => w.heap.size ≤ k) w).alloc _).trans b1 (fun b hb => .inl (by injection hb with hb; exact Nat.le_of_eq hb))).below (Nat.le_refl _) (fun _ h => h)

theorem clipS_calls (A : Option Addr) (n c : Nat) (w : World) (hn : n ≤ c) :
    Calls Tryz.prog 75 #[.slice A n c] w fun e w' => e = .returned (.slice A n n) ∧ w' = w := by
  rcases A with _ | ad
  all_goals (
    go_enter Tryz.func75, Tryz.ntmps75
    go_wp2_with fail
    go_ret
    exact ⟨by first | rfl | simp, rfl⟩)

theorem clipF_calls (A : Option Addr) (n c : Nat) (w : World) (hn : n ≤ c) :
    Calls Tryz.prog 77 #[.slice A n c] w fun e w' => e = .returned (.slice A n n) ∧ w' = w := by
  rcases A with _ | ad
  all_goals (
    go_enter Tryz.func77, Tryz.ntmps77
    go_wp2_with fail
    go_ret
    exact ⟨by first | rfl | simp, rfl⟩)

theorem clipK_calls (A : Option Addr) (n c : Nat) (w : World) (hn : n ≤ c) :
    Calls Tryz.prog 79 #[.slice A n c] w fun e w' => e = .returned (.slice A n n) ∧ w' = w := by
  rcases A with _ | ad
  all_goals (
    go_enter Tryz.func79, Tryz.ntmps79
    go_wp2_with fail
    go_ret
    exact ⟨by first | rfl | simp, rfl⟩)
end Go.Proofs.YtjofbagaobdmoaaGreat.VaS
