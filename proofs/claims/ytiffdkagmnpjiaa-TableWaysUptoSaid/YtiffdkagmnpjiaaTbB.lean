/-
  How rows lie; the program's seven lists. Conditions: as stated.
-/
import Derived.Test.YtiffdkagmnpjiaaTbA
import Derived.Deep.Cut
import Derived.Test.YtiffdkagmnpjiaaRows
set_option maxRecDepth 100000
set_option linter.unusedSimpArgs false
set_option linter.unusedVariables false
namespace Go.Proofs.Ytiffdkagmnpjiaa.TbB
open Go.RowKit Go.Proofs.Ytiffdkagmnpjiaa.Mem Go.Proofs.Ytiffdkagmnpjiaa.TbA

def sps (l : List Sp) : List Value := l.flatMap spV
theorem sps_len (l : List Sp) : (sps l).length = l.length * 7 := by
  induction l with
  | nil => rfl
  | cons e r ih => simp only [sps, List.flatMap_cons, List.length_append] at ih ⊢; rw [ih]; simp [spV]; omega
theorem sps_app (a b : List Sp) : sps (a ++ b) = sps a ++ sps b := by simp [sps]
theorem sps_one (l : List Sp) : ∀ u ∈ sps l, u.oneCell' = true := by
  intro u hu; simp only [sps, List.mem_flatMap] at hu; obtain ⟨x, _, h⟩ := hu; simp [spV] at h; rcases h with rfl | rfl | rfl | rfl | rfl | rfl | rfl <;> rfl
abbrev RdP (w : World) (A : Option Addr) (n c : Nat) (l : List Sp) : Prop := Rd w 7 A n c (sps l)
abbrev OwnP (w : World) (B : Nat) (v : Value) (l : List Sp) : Prop := w.ownsRow B 23 7 v l.length (sps l)
theorem zP : El Try.prog 29 23 (.agg #[.string ⟨#[]⟩, .int .i64 0, .bool false, .bool false, .int .i64 0, .int .i64 0, .int .i64 0]) 7 56 := by
  obtain ⟨i, h1, h2, h3, h4⟩ := info_parts (show (Try.prog.info? 23).map (fun i => (i.zero, i.size, i.bytes)) = some (some (.agg #[.string ⟨#[]⟩, .int .i64 0, .bool false, .bool false, .int .i64 0, .int .i64 0, .int .i64 0]), 7, 56) by kernel_rfl)
  exact ⟨Try.underlying29, ⟨i, h1, h2, h3, h4⟩, rfl, by decide⟩
theorem al (w : World) (o : Obj) : Below w.heap.size w (w.alloc o) := (Below.refl _ w).alloc (Nat.le_refl _) o
/-- A row that a literal lays. -/
theorem own_lit (w : World) (cur : Array Value) (l : List Sp) (h : cur.toList = sps l) (hn : l.length ≤ maxLen) : OwnP (w.alloc (.cells cur 23)) w.heap.size (.slice (some ⟨w.heap.size, 0, none⟩) l.length l.length) l := by
  have hs : cur.size = l.length * 7 := by rw [← sps_len, ← h]; simp
  refine ⟨by rw [sps_len], .inr ⟨w.heap.size, l.length, cur, rfl, Nat.le_refl _, heap_alloc_new w _, Nat.le_refl _, hn, hs, ?_⟩⟩
  rw [h, List.take_of_length_le (by rw [sps_len]; exact Nat.le_refl _)]
/-- Plain operations, one behind the other, as a function. -/
def runL (P : Program) : List Oper → Act → World → Option (Act × World)
  | [], a, w => some (a, w)
  | o :: r, a, w => match o.guard with
    | some _ => none
    | none => match (execOp a.eval o).run P w with
      | .ok (.value v) w' => runL P r (a.put o.dst v) w'
      | _ => none
theorem runL_wp {P : Program} {ops : Array Oper} {Q : Exit → Act → World → Prop} : ∀ {L : List Oper} {a a' : Act} {w w' : World}, runL P L a w = some (a', w') → Q .normal a' w' → wpList P ops Q L a w
  | [], a, a', w, w', h, hq => by
    unfold runL at h
    injection h with h; injection h with h1 h2
    subst h1 h2
    exact wpList_nil hq
  | o :: r, a, a', w, w', h, hq => by
    unfold runL at h
    split at h
    · cases h
    · rename_i hg
      split at h
      · rename_i v w1 hr
        refine wpList_plain hg fun K hK => ?_
        unfold Oper.wp
        rw [hr]
        exact hK _ _ (runL_wp h hq)
      · cases h
theorem runL_lit {P : Program} {id : Nat} {ops : Array Oper} {Q : Exit → Act → World → Prop} {a : Act} {w : World} (d : Nat) (v : Value) (w' : World) (h : (runL P ops.toList a w).map (fun r => (r.1.tmps.getD d undef, r.1.defers, r.2)) = some (v, [], w'))
    (hq : ∀ a' : Act, a'.tmps.getD d undef = v → a'.defers = [] → Q .normal a' w') : (Code.region id ops false).wp P Q a w := by
  cases hr : runL P ops.toList a w with
  | none => rw [hr] at h; cases h
  | some r =>
    obtain ⟨a', w1⟩ := r
    rw [hr] at h
    simp only [Option.map_some, Option.some.injEq, Prod.mk.injEq] at h
    obtain ⟨h1, h2, rfl⟩ := h
    exact wp_region_list (runL_wp hr (hq a' h1 h2))
set_option maxHeartbeats 4000000 in
theorem control_calls (w : World) : Calls Try.prog 22 #[] w fun e w' => ∃ v, e = .returned v ∧ OwnP w' w.heap.size v controlL ∧ Below w.heap.size w w' := by
  go_enter Try.func22, Try.ntmps22
  go_upto_region 1 with fail
  refine runL_lit 0 (.slice (some ⟨w.heap.size, 0, none⟩) 7 7) (w.alloc (.cells (sps controlL).toArray 23)) (by kernel_rfl) ?_
  intro a' hv hd
  rename_i K hK
  refine hK _ _ ?_
  refine wp_ret ?_
  refine bodyPost_ret (results_tmp rfl _ _ _) hd ?_
  show ∃ v, Ending.returned (a'.tmps.getD 0 undef) = .returned v ∧ _
  rw [hv]
  exact ⟨_, rfl, own_lit w _ controlL rfl (by decide), al w _⟩
set_option maxHeartbeats 4000000 in
theorem texts_calls (w : World) : Calls Try.prog 23 #[] w fun e w' => ∃ v, e = .returned v ∧ OwnP w' w.heap.size v textsL ∧ Below w.heap.size w w' := by
  go_enter Try.func23, Try.ntmps23
  go_upto_region 1 with fail
  refine runL_lit 0 (.slice (some ⟨w.heap.size, 0, none⟩) 24 24) (w.alloc (.cells (sps textsL).toArray 23)) (by kernel_rfl) ?_
  intro a' hv hd
  rename_i K hK
  refine hK _ _ ?_
  refine wp_ret ?_
  refine bodyPost_ret (results_tmp rfl _ _ _) hd ?_
  show ∃ v, Ending.returned (a'.tmps.getD 0 undef) = .returned v ∧ _
  rw [hv]
  exact ⟨_, rfl, own_lit w _ textsL rfl (by decide), al w _⟩
set_option maxHeartbeats 4000000 in
theorem keys_calls (w : World) : Calls Try.prog 24 #[] w fun e w' => ∃ v, e = .returned v ∧ OwnP w' w.heap.size v keysL ∧ Below w.heap.size w w' := by
  go_enter Try.func24, Try.ntmps24
  go_upto_region 1 with fail
  refine runL_lit 0 (.slice (some ⟨w.heap.size, 0, none⟩) 25 25) (w.alloc (.cells (sps keysL).toArray 23)) (by kernel_rfl) ?_
  intro a' hv hd
  rename_i K hK
  refine hK _ _ ?_
  refine wp_ret ?_
  refine bodyPost_ret (results_tmp rfl _ _ _) hd ?_
  show ∃ v, Ending.returned (a'.tmps.getD 0 undef) = .returned v ∧ _
  rw [hv]
  exact ⟨_, rfl, own_lit w _ keysL rfl (by decide), al w _⟩
set_option maxHeartbeats 4000000 in
theorem lists_calls (w : World) : Calls Try.prog 25 #[] w fun e w' => ∃ v, e = .returned v ∧ OwnP w' w.heap.size v listsL ∧ Below w.heap.size w w' := by
  go_enter Try.func25, Try.ntmps25
  go_upto_region 1 with fail
  refine runL_lit 0 (.slice (some ⟨w.heap.size, 0, none⟩) 16 16) (w.alloc (.cells (sps listsL).toArray 23)) (by kernel_rfl) ?_
  intro a' hv hd
  rename_i K hK
  refine hK _ _ ?_
  refine wp_ret ?_
  refine bodyPost_ret (results_tmp rfl _ _ _) hd ?_
  show ∃ v, Ending.returned (a'.tmps.getD 0 undef) = .returned v ∧ _
  rw [hv]
  exact ⟨_, rfl, own_lit w _ listsL rfl (by decide), al w _⟩
set_option maxHeartbeats 4000000 in
theorem hashes_calls (w : World) : Calls Try.prog 26 #[] w fun e w' => ∃ v, e = .returned v ∧ OwnP w' w.heap.size v hashesL ∧ Below w.heap.size w w' := by
  go_enter Try.func26, Try.ntmps26
  go_upto_region 1 with fail
  refine runL_lit 0 (.slice (some ⟨w.heap.size, 0, none⟩) 14 14) (w.alloc (.cells (sps hashesL).toArray 23)) (by kernel_rfl) ?_
  intro a' hv hd
  rename_i K hK
  refine hK _ _ ?_
  refine wp_ret ?_
  refine bodyPost_ret (results_tmp rfl _ _ _) hd ?_
  show ∃ v, Ending.returned (a'.tmps.getD 0 undef) = .returned v ∧ _
  rw [hv]
  exact ⟨_, rfl, own_lit w _ hashesL rfl (by decide), al w _⟩
set_option maxHeartbeats 4000000 in
theorem sets_calls (w : World) : Calls Try.prog 27 #[] w fun e w' => ∃ v, e = .returned v ∧ OwnP w' w.heap.size v setsL ∧ Below w.heap.size w w' := by
  go_enter Try.func27, Try.ntmps27
  go_upto_region 1 with fail
  refine runL_lit 0 (.slice (some ⟨w.heap.size, 0, none⟩) 15 15) (w.alloc (.cells (sps setsL).toArray 23)) (by kernel_rfl) ?_
  intro a' hv hd
  rename_i K hK
  refine hK _ _ ?_
  refine wp_ret ?_
  refine bodyPost_ret (results_tmp rfl _ _ _) hd ?_
  show ∃ v, Ending.returned (a'.tmps.getD 0 undef) = .returned v ∧ _
  rw [hv]
  exact ⟨_, rfl, own_lit w _ setsL rfl (by decide), al w _⟩
set_option maxHeartbeats 4000000 in
theorem ranks_calls (w : World) : Calls Try.prog 28 #[] w fun e w' => ∃ v, e = .returned v ∧ OwnP w' w.heap.size v ranksL ∧ Below w.heap.size w w' := by
  go_enter Try.func28, Try.ntmps28
  go_upto_region 1 with fail
  refine runL_lit 0 (.slice (some ⟨w.heap.size, 0, none⟩) 17 17) (w.alloc (.cells (sps ranksL).toArray 23)) (by kernel_rfl) ?_
  intro a' hv hd
  rename_i K hK
  refine hK _ _ ?_
  refine wp_ret ?_
  refine bodyPost_ret (results_tmp rfl _ _ _) hd ?_
  show ∃ v, Ending.returned (a'.tmps.getD 0 undef) = .returned v ∧ _
  rw [hv]
  exact ⟨_, rfl, own_lit w _ ranksL rfl (by decide), al w _⟩
end Go.Proofs.Ytiffdkagmnpjiaa.TbB
