/-
  The document's rows. Conditions: as stated.
-/
import Derived.Test.YtiffdkagmnpjiaaTbB
import Derived.Great.BuildSlice
set_option maxRecDepth 100000
set_option linter.unusedSimpArgs false
set_option linter.unusedVariables false
namespace Go.Proofs.Ytiffdkagmnpjiaa.TbC
open Go.RowKit Go.Proofs.Ytiffdkagmnpjiaa.Mem Go.Proofs.Ytiffdkagmnpjiaa.TbA Go.Proofs.Ytiffdkagmnpjiaa.TbB

theorem runL_app {P : Program} : ∀ (L M : List Oper) (a : Act) (w : World), runL P (L ++ M) a w = (runL P L a w).bind (fun r => runL P M r.1 r.2)
  | [], M, a, w => rfl
  | o :: r, M, a, w => by
    have e : ∀ N, runL P (o :: N) a w = (match o.guard with
      | some _ => none
      | none => match (execOp a.eval o).run P w with
        | .ok (.value v) w' => runL P N (a.put o.dst v) w'
        | _ => none) := fun _ => rfl
    rw [List.cons_append, e (r ++ M), e r]
    split
    · rfl
    · split
      · exact runL_app r M _ _
      · rfl
theorem runL_split {P : Program} {L : List Oper} {a a1 : Act} {w : World} (k : Nat) {α : Type} {f : Act × World → α} {x : α} (h1 : runL P (L.take k) a w = some (a1, w)) (h2 : (runL P (L.drop k) a1 w).map f = some x) : (runL P L a w).map f = some x := by
  have h := runL_app (P := P) (L.take k) (L.drop k) a w
  rw [List.take_append_drop, h1] at h
  rw [h]
  exact h2
theorem set_fold : ∀ (xs : List Value) (s : Nat) (off : Nat) (cur : Array Value), off + s + xs.length ≤ cur.size →
    ((xs.zipIdx s).foldl (fun (cs : Array Value) (x : Value × Nat) => cs.setIfInBounds (off + x.2) x.1) cur).toList = cur.toList.take (off + s) ++ xs ++ cur.toList.drop (off + s + xs.length)
  | [], s, off, cur, _ => by simp
  | v :: r, s, off, cur, h => by
    rw [List.length_cons] at h
    rw [List.zipIdx_cons, List.foldl_cons, set_fold r (s + 1) off _ (by simp; omega)]
    have hlt : off + s < cur.toList.length := by simp; omega
    simp only [Array.toList_setIfInBounds, List.length_cons]
    rw [show off + (s + 1) = off + s + 1 by omega, List.drop_set_of_lt (by omega), List.take_set]
    rw [List.take_succ_eq_append_getElem hlt, List.set_append_right _ _ (by simp; omega)]
    have e : off + s - (cur.toList.take (off + s)).length = 0 := by rw [List.length_take]; omega
    rw [e]
    simp [show off + s + 1 + r.length = off + s + (r.length + 1) by omega]
theorem fill_rows {sz : Nat} : ∀ (vs : List (List Value)) (k : Nat) (cur : Array Value), (∀ v ∈ vs, v.length = sz) → cur.size = (k + vs.length) * sz →
    (Instr.fill (fun i => some (i * sz, sz)) cur ((vs.zipIdx k).map fun x => (x.2, Value.agg x.1.toArray))) = some (cur.toList.take (k * sz) ++ vs.flatten).toArray
  | [], k, cur, _, hs => by
    simp only [List.zipIdx_nil, List.map_nil, Instr.fill, List.flatten_nil, List.append_nil]
    rw [List.length_nil, Nat.add_zero] at hs
    rw [List.take_of_length_le (by simp; omega)]
  | v :: r, k, cur, hv, hs => by
    have h0 := hv v List.mem_cons_self
    rw [List.length_cons] at hs
    have hs1 : cur.size = k * sz + (sz + r.length * sz) := by rw [hs, Nat.add_mul, Nat.add_mul, Nat.one_mul]; omega
    have hc : (Value.agg v.toArray).cells.size = sz := by simp [Value.cells, h0]
    rw [List.zipIdx_cons, List.map_cons]
    simp only [Instr.fill]
    rw [if_neg (by simp only [hc]; simp; omega)]
    have hf := set_fold v 0 (k * sz) cur (by omega)
    have hq : ∀ f : Array Value → Value × Nat → Array Value, Array.foldl f cur (Value.agg v.toArray).cells.zipIdx = List.foldl f cur (v.zipIdx 0) := fun f => by simp [Value.cells]
    rw [fill_rows r (k + 1) _ (fun x hx => hv x (List.mem_cons_of_mem _ hx)) ?_]
    · congr 1
      have e1 : (k + 1) * sz = k * sz + 0 + v.length := by rw [Nat.add_mul, Nat.one_mul, h0]; omega
      have e2 : ((k * sz + 0) : Nat) = k * sz := rfl
      rw [hq, hf, e1]
      congr 1
      rw [List.flatten_cons, ← List.append_assoc]
      congr 1
      rw [List.take_append_of_le_length (by simp; omega), List.take_of_length_le (by simp; omega)]
      rfl
    · rw [hq]
      have := congrArg List.length hf
      simp only [Array.length_toList, List.length_append, List.length_take, List.length_drop] at this
      rw [this, Nat.add_mul, Nat.add_mul, Nat.one_mul]
      omega
theorem runL_then {P : Program} {ops : Array Oper} {Q : Exit → Act → World → Prop} : ∀ {L M : List Oper} {a a1 : Act} {w w1 : World}, runL P L a w = some (a1, w1) → wpList P ops Q M a1 w1 → wpList P ops Q (L ++ M) a w
  | [], M, a, a1, w, w1, h, hq => by
    unfold runL at h
    injection h with h; injection h with h1 h2
    subst h1 h2
    exact hq
  | o :: r, M, a, a1, w, w1, h, hq => by
    unfold runL at h
    split at h
    · cases h
    · rename_i hg
      split at h
      · rename_i v w2 hr
        refine wpList_plain hg fun K hK => ?_
        unfold Oper.wp
        rw [hr]
        exact hK _ _ (runL_then h hq)
      · cases h
/-- The activation behind the rows. -/
def actK (n : Nat) (l : List Sp) : Act := { tmps := (Value.slice none 0 0 :: (l.map (fun r => Value.agg (spV r).toArray) ++ [undef])).toArray, defers := [] }
def partsK (n : Nat) : Array (Nat × Operand) := ((List.range n).map (fun i => (i, Operand.tmp (i + 1)))).toArray
theorem two_of {α β : Type} {f : α → β} {L : List α} {x y : β} (h : L.map f = [x, y]) : ∃ a b, L = [a, b] ∧ f a = x ∧ f b = y := by
  rcases L with _ | ⟨a, _ | ⟨b, _ | ⟨c, r⟩⟩⟩
  · simp at h
  · simp at h
  · simp at h; exact ⟨a, b, rfl, h.1, h.2⟩
  · simp at h
theorem lit_region {id : Nat} {ops : Array Oper} {Q : Exit → Act → World → Prop} {a : Act} {w : World} (n : Nat) (l : List Sp) (hn : l.length = n) (hpos : 0 < n) (hsm : n * 7 ≤ 2 ^ 24)
    (h1 : runL Try.prog (ops.toList.take n) a w = some (actK n l, w))
    (h2 : (ops.toList.drop n).map (fun o => (o.dst, o.op, o.guard)) = [(some (n + 1), .buildSlice 29 n (partsK n), none), (some 0, .assign (.tmp (n + 1)), none)])
    (hev : ((partsK n).map fun (i, x) => (i, (actK n l).eval x)).toList = ((l.map spV).zipIdx 0).map fun x => (x.2, Value.agg x.1.toArray))
    (he : ∀ v, ((actK n l).put (some (n + 1)) v).eval (.tmp (n + 1)) = v) (hf : ∀ v, (((actK n l).put (some (n + 1)) v).put (some 0) v).tmps.getD 0 undef = v) (hd : ∀ v, (((actK n l).put (some (n + 1)) v).put (some 0) v).defers = [])
    (hq : ∀ a' : Act, a'.tmps.getD 0 undef = .slice (some ⟨w.heap.size, 0, none⟩) n n → a'.defers = [] → Q .normal a' (w.alloc (.cells (sps l).toArray 23))) : (Code.region id ops false).wp Try.prog Q a w := by
  refine wp_region_list ?_
  rw [← List.take_append_drop n ops.toList]
  refine runL_then h1 ?_
  obtain ⟨o1, o2, hM, q1, q2⟩ := two_of h2
  · rw [hM]
    simp only [Prod.mk.injEq] at q1 q2
    obtain ⟨d1, p1, g1⟩ := q1
    obtain ⟨d2, p2, g2⟩ := q2
    obtain ⟨i, hi1, hi2, hi3, hi4⟩ := zP.info
    refine wpList_buildSlice g1 _ _ n _ p1 (sps l).toArray i _ zP.ht hi1 hi2 (by rw [hi3]; omega) (by rw [hi3]; omega) ?_ ?_
    · rw [hev, hi3, fill_rows (l.map spV) 0 _ (by simp [spV]) (by simp [hn])]
      simp [sps, List.flatMap]
    · refine wpList_plain g2 fun K hK => ?_
      unfold Oper.wp execOp
      simp only [p2, d1, he]
      show K (((actK n l).put (some (n + 1)) _).put o2.dst _) _
      rw [d2]
      exact hK _ _ (wpList_nil (hq _ (hf _) (hd _)))
set_option maxHeartbeats 4000000 in
theorem rows_calls (w : World) : Calls Try.prog 14 #[] w fun e w' => ∃ v, e = .returned v ∧ OwnP w' w.heap.size v rowsL ∧ Below w.heap.size w w' := by
  go_enter Try.func14, Try.ntmps14
  go_upto_region 1 with fail
  refine lit_region 118 rowsL (by decide) (by decide) (by decide) (by kernel_rfl) (by kernel_rfl) (by kernel_rfl) (fun v => by kernel_rfl) (fun v => by kernel_rfl) (fun v => by kernel_rfl) ?_
  intro a' hv hd
  rename_i K hK
  refine hK _ _ ?_
  refine wp_ret ?_
  refine bodyPost_ret (results_tmp rfl _ _ _) hd ?_
  show ∃ v, Ending.returned (a'.tmps.getD 0 undef) = .returned v ∧ _
  rw [hv]
  exact ⟨_, rfl, own_lit w _ rowsL rfl (by decide), al w _⟩
end Go.Proofs.Ytiffdkagmnpjiaa.TbC
