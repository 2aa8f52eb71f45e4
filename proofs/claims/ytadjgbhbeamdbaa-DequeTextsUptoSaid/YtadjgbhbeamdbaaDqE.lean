/-
  What a Deque's Find hands back. Conditions: as stated.
-/
import Derived.Test.YtadjgbhbeamdbaaDqD
set_option maxRecDepth 100000
set_option linter.unusedSimpArgs false
set_option linter.unusedVariables false
namespace Go.Proofs.Ytadjgbhbeamdbaa.DqE
open Go.RowKit Go.Proofs.Ytadjgbhbeamdbaa.Mem Go.Proofs.Ytadjgbhbeamdbaa.DqA Go.Proofs.Ytadjgbhbeamdbaa.DqB Go.Proofs.Ytadjgbhbeamdbaa.DqD

/-- The place that is looked at in round k. -/
def spot (n : Nat) (back : Bool) (k : Nat) : Nat := if back then n - 1 - k else k
/-- What Find gathers from round k on. -/
def findGo (l : List Int) (v : Int) (back : Bool) (count most : Int) (k : Nat) (skip : Int) (out : List Int) : List Int :=
  if k < l.length then
    if (1 ≤ most ∧ most ≤ k) ∨ (1 ≤ count ∧ (out.length : Int) = count) then out
    else if l[spot l.length back k]? = some v then
      if 0 < skip then findGo l v back count most (k + 1) (skip - 1) out
      else findGo l v back count most (k + 1) skip (out ++ [(spot l.length back k : Int)])
    else findGo l v back count most (k + 1) skip out
  else out
termination_by l.length - k

/-- What Find tells. -/
def findL (l : List Int) (v rank count most : Int) : List Int :=
  if rank = 0 ∨ rank = -9223372036854775808 then [] else findGo l v (decide (rank < 0)) count most 0 (if rank < 0 then -rank - 1 else rank - 1) []

theorem go_stop {l : List Int} {v : Int} {back : Bool} {count most : Int} {k : Nat} {skip : Int} {out : List Int} (h : ¬ k < l.length ∨ (1 ≤ most ∧ most ≤ k) ∨ (1 ≤ count ∧ (out.length : Int) = count)) :
    findGo l v back count most k skip out = out := by
  rw [findGo]; by_cases c : k < l.length
  · rw [if_pos c, if_pos (h.resolve_left (fun x => x c))]
  · rw [if_neg c]
theorem go_skip {l : List Int} {v : Int} {back : Bool} {count most : Int} {k : Nat} {skip : Int} {out : List Int} (hk : k < l.length) (h : ¬ ((1 ≤ most ∧ most ≤ k) ∨ (1 ≤ count ∧ (out.length : Int) = count)))
    (hv : l[spot l.length back k]? ≠ some v) : findGo l v back count most k skip out = findGo l v back count most (k + 1) skip out := by
  rw [findGo, if_pos hk, if_neg h, if_neg hv]
theorem go_less {l : List Int} {v : Int} {back : Bool} {count most : Int} {k : Nat} {skip : Int} {out : List Int} (hk : k < l.length) (h : ¬ ((1 ≤ most ∧ most ≤ k) ∨ (1 ≤ count ∧ (out.length : Int) = count)))
    (hv : l[spot l.length back k]? = some v) (hs : 0 < skip) : findGo l v back count most k skip out = findGo l v back count most (k + 1) (skip - 1) out := by
  rw [findGo, if_pos hk, if_neg h, if_pos hv, if_pos hs]
theorem go_take {l : List Int} {v : Int} {back : Bool} {count most : Int} {k : Nat} {skip : Int} {out : List Int} (hk : k < l.length) (h : ¬ ((1 ≤ most ∧ most ≤ k) ∨ (1 ≤ count ∧ (out.length : Int) = count)))
    (hv : l[spot l.length back k]? = some v) (hs : ¬ 0 < skip) : findGo l v back count most k skip out = findGo l v back count most (k + 1) skip (out ++ [(spot l.length back k : Int)]) := by
  rw [findGo, if_pos hk, if_neg h, if_pos hv, if_neg hs]

set_option maxHeartbeats 2000000 in
theorem find_calls (B g : Nat) (v : Value) (l : List Int) (x rank count most : Int) (w : World) (hd : Dq w B g v l)
    (f1 : -9223372036854775808 ≤ rank) (f2 : rank ≤ 9223372036854775807) :
    Calls Try.prog 31 #[.pointer (some ⟨g, 0, none⟩), .int .i64 x, .int .i64 rank, .int .i64 count, .int .i64 most] w (NewI w (findL l x rank count most)) := by
  have hbd := dq_bound hd
  by_cases h0 : rank = 0 ∨ rank = -9223372036854775808
  · have hf : findL l x rank count most = [] := by unfold findL; rw [if_pos h0]
    have Hf := Lib.hid hf
    clear hf
    have hz : ∀ A : Prop, A → A := fun _ h => h
    rcases h0 with rfl | rfl
    all_goals
      go_enter Try.func31, Try.ntmps31
      go_wp2_with fail
      go_ret
      exact ⟨_, rfl, by rw [Hf.out]; exact World.ownsRow_nil _ _ _ _, Below.refl _ _⟩
  · have r0 : (rank == 0) = false := by simpa using fun e => h0 (.inl e)
    have r1 : (rank == -9223372036854775808) = false := by simpa using fun e => h0 (.inr e)
    have hf : findL l x rank count most = findGo l x (decide (rank < 0)) count most 0 (if rank < 0 then -rank - 1 else rank - 1) [] := by unfold findL; rw [if_neg h0]
    have r2 : -9223372036854775807 ≤ rank := by omega
    have r3 : rank ≠ 0 := fun e => h0 (.inl e)
    have R3 := Lib.hid r3
    clear h0 r3
    obtain ⟨R, hR⟩ : ∃ R, R = findL l x rank count most := ⟨_, rfl⟩
    rw [← hR] at hf ⊢
    have Hf := Lib.hid hf
    clear hf hR
    go_enter Try.func31, Try.ntmps31
    go_wp2_with fail
    refine (all_calls B g v l _ hd).mono ?_
    rintro e w1 ⟨A, n, c, nd, rfl, hr, hn, hA, rfl⟩
    obtain rfl := hn
    have hc := hr.cap
    have hm := hr.big
    unfold maxLen at hm
    obtain ⟨back, s0, hback, hs0, hs1, hcase⟩ : ∃ (back : Bool) (s0 : Int), decide (rank < 0) = back ∧ (if rank < 0 then -rank - 1 else rank - 1) = s0 ∧ s0 ≤ 9223372036854775806 ∧ ((back = true ∧ rank < 0 ∧ -rank - 1 = s0) ∨ (back = false ∧ ¬ rank < 0 ∧ rank - 1 = s0)) := by
      by_cases h : rank < 0
      · exact ⟨true, -rank - 1, by simpa using h, by rw [if_pos h], by omega, .inl ⟨rfl, h, rfl⟩⟩
      · exact ⟨false, rank - 1, by simpa using h, by rw [if_neg h], by omega, .inr ⟨rfl, h, rfl⟩⟩
    have HF := Hf.out
    rw [hback, hs0] at HF
    have HF2 := Lib.hid HF
    clear Hf HF hback hs0
    rcases hcase with ⟨rfl, hneg, rfl⟩ | ⟨rfl, hneg, rfl⟩
    · go_wp2_with fail
      go_loopw [12, 13, 33] (fun sk o i wr => ∃ (k : Nat) (s : Int) (out : List Int), k ≤ l.length ∧ out.length ≤ k ∧ s ≤ 9223372036854775806 ∧ sk = .int .i64 s ∧ i = .int .i64 k ∧ OwnI wr w.heap.size o out ∧ Below w.heap.size w wr ∧ Hid (R = findGo l x true count most k s out)) (fun _ _ i _ => l.length - (intOf i).toNat)
      case atStart => exact ⟨0, _, [], Nat.zero_le _, Nat.le_refl _, hs1, rfl, rfl, World.ownsRow_nil _ _ _ _, ⟨rfl, rfl, rfl, Nat.le_refl _, fun _ _ => rfl⟩, HF2.out⟩
      case round =>
        obtain ⟨k, s, out, h1, h2, h3, rfl, rfl, ho, hb, he⟩ := hrel
        obtain ⟨A', c', rfl⟩ := own_form ho
        have hsz := hb.size
        by_cases hlt : k < l.length
        · obtain ⟨y, hy⟩ : ∃ y, l[l.length - 1 - k]? = some y := ⟨_, List.getElem?_eq_getElem (by omega)⟩
          obtain ⟨p, rfl, c1⟩ := (hr.below hb).get (l.length - 1 - k) (.int .i64 y) (by simp [ints, hy])
          have Hy := Lib.hid hy
          clear hy
          go_wp2_with (at_builtin; refine wpList_app1 rfl (.tmp 71) (.tmp 73) elI rfl w.heap.size _ _ _ rfl ho (.int .i64 _) rfl rfl (by unfold maxLen; omega) (by omega) hsz ?_; intro v1 w1 o1 b1 f1)
          all_goals first
            | (go_ret
               have C : (1 ≤ most ∧ most ≤ k) ∨ (1 ≤ count ∧ (out.length : Int) = count) := (by (try simp only [beq_iff_eq, beq_eq_false_iff_ne, ne_eq] at *); omega)
               exact ⟨_, rfl, by rw [he.out, go_stop (.inr C)]; exact ho, hb⟩)
            | (have C : ¬ ((1 ≤ most ∧ most ≤ k) ∨ (1 ≤ count ∧ (out.length : Int) = count)) := (by (try simp only [beq_iff_eq, beq_eq_false_iff_ne, ne_eq] at *); omega)
               first
                 | exact ⟨⟨k + 1, s, out, by omega, by omega, h3, rfl, by go_num, ho, hb, he.out.trans (go_skip hlt C (by show l[l.length - 1 - k]? ≠ _; rw [Hy.out]; exact fun e => (bne_iff_ne.1 (by assumption : (y != x) = true)) (by injection e)))⟩, by simp [intOf]; omega⟩
                 | exact ⟨⟨k + 1, s - 1, out, by omega, by omega, by omega, rfl, by go_num, ho, hb, he.out.trans (go_less hlt C (by show l[l.length - 1 - k]? = _; rw [Hy.out, (by simpa using (by assumption : (y != x) = false) : y = x)]) (by omega))⟩, by simp [intOf]; omega⟩
                 | exact ⟨⟨k + 1, s, out ++ [(spot l.length true k : Int)], by omega, by simp; omega, h3, rfl, by go_num, by have := own_snoc o1; rwa [show ((l.length : Int) - 1 - k) = ((spot l.length true k : Nat) : Int) by simp [spot]; omega] at this, b1.after hb (Nat.le_refl _) (fun b hb => (ho.lt b hb).1), he.out.trans (go_take hlt C (by show l[l.length - 1 - k]? = _; rw [Hy.out, (by simpa using (by assumption : (y != x) = false) : y = x)]) (by omega))⟩, by simp [intOf]; omega⟩)
        · obtain rfl : k = l.length := by omega
          go_wp2_with fail
          go_ret
          exact ⟨_, rfl, by rw [he.out, go_stop (.inl (by omega))]; exact ho, hb⟩
    · go_wp2_with fail
      go_loopw [12, 13, 33] (fun sk o i wr => ∃ (k : Nat) (s : Int) (out : List Int), k ≤ l.length ∧ out.length ≤ k ∧ s ≤ 9223372036854775806 ∧ sk = .int .i64 s ∧ i = .int .i64 k ∧ OwnI wr w.heap.size o out ∧ Below w.heap.size w wr ∧ Hid (R = findGo l x false count most k s out)) (fun _ _ i _ => l.length - (intOf i).toNat)
      case atStart => exact ⟨0, _, [], Nat.zero_le _, Nat.le_refl _, hs1, rfl, rfl, World.ownsRow_nil _ _ _ _, ⟨rfl, rfl, rfl, Nat.le_refl _, fun _ _ => rfl⟩, HF2.out⟩
      case round =>
        obtain ⟨k, s, out, h1, h2, h3, rfl, rfl, ho, hb, he⟩ := hrel
        obtain ⟨A', c', rfl⟩ := own_form ho
        have hsz := hb.size
        by_cases hlt : k < l.length
        · obtain ⟨y, hy⟩ : ∃ y, l[k]? = some y := ⟨_, List.getElem?_eq_getElem (by omega)⟩
          obtain ⟨p, rfl, c1⟩ := (hr.below hb).get k (.int .i64 y) (by simp [ints, hy])
          have Hy := Lib.hid hy
          clear hy
          go_wp2_with (at_builtin; refine wpList_app1 rfl (.tmp 71) (.tmp 73) elI rfl w.heap.size _ _ _ rfl ho (.int .i64 _) rfl rfl (by unfold maxLen; omega) (by omega) hsz ?_; intro v1 w1 o1 b1 f1)
          all_goals first
            | (go_ret
               have C : (1 ≤ most ∧ most ≤ k) ∨ (1 ≤ count ∧ (out.length : Int) = count) := (by (try simp only [beq_iff_eq, beq_eq_false_iff_ne, ne_eq] at *); omega)
               exact ⟨_, rfl, by rw [he.out, go_stop (.inr C)]; exact ho, hb⟩)
            | (have C : ¬ ((1 ≤ most ∧ most ≤ k) ∨ (1 ≤ count ∧ (out.length : Int) = count)) := (by (try simp only [beq_iff_eq, beq_eq_false_iff_ne, ne_eq] at *); omega)
               first
                 | exact ⟨⟨k + 1, s, out, by omega, by omega, h3, rfl, by go_num, ho, hb, he.out.trans (go_skip hlt C (by show l[k]? ≠ _; rw [Hy.out]; exact fun e => (bne_iff_ne.1 (by assumption : (y != x) = true)) (by injection e)))⟩, by simp [intOf]; omega⟩
                 | exact ⟨⟨k + 1, s - 1, out, by omega, by omega, by omega, rfl, by go_num, ho, hb, he.out.trans (go_less hlt C (by show l[k]? = _; rw [Hy.out, (by simpa using (by assumption : (y != x) = false) : y = x)]) (by omega))⟩, by simp [intOf]; omega⟩
                 | exact ⟨⟨k + 1, s, out ++ [(spot l.length false k : Int)], by omega, by simp; omega, h3, rfl, by go_num, by have := own_snoc o1; exact this, b1.after hb (Nat.le_refl _) (fun b hb => (ho.lt b hb).1), he.out.trans (go_take hlt C (by show l[k]? = _; rw [Hy.out, (by simpa using (by assumption : (y != x) = false) : y = x)]) (by omega))⟩, by simp [intOf]; omega⟩)
        · obtain rfl : k = l.length := by omega
          go_wp2_with fail
          go_ret
          exact ⟨_, rfl, by rw [he.out, go_stop (.inl (by omega))]; exact ho, hb⟩
end Go.Proofs.Ytadjgbhbeamdbaa.DqE
