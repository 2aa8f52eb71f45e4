/-
  What the document's Insert hands back. Conditions: as stated.
-/
import Derived.Test.YtadjgbhbeamdbaaDqV
import Derived.Test.YtadjgbhbeamdbaaDqH
set_option maxRecDepth 100000
set_option linter.unusedSimpArgs false
set_option linter.unusedVariables false
namespace Go.Proofs.Ytadjgbhbeamdbaa.DqZ
open Go.RowKit Go.Proofs.Ytadjgbhbeamdbaa.Mem Go.Proofs.Ytadjgbhbeamdbaa.DqA Go.Proofs.Ytadjgbhbeamdbaa.DqB Go.Proofs.Ytadjgbhbeamdbaa.DqC Go.Proofs.Ytadjgbhbeamdbaa.DqD Go.Proofs.Ytadjgbhbeamdbaa.DqE Go.Proofs.Ytadjgbhbeamdbaa.DqF Go.Proofs.Ytadjgbhbeamdbaa.DqH Go.Proofs.Ytadjgbhbeamdbaa.DqI Go.Proofs.Ytadjgbhbeamdbaa.DqO Go.Proofs.Ytadjgbhbeamdbaa.DqU Go.Proofs.Ytadjgbhbeamdbaa.DqV

theorem rd_drew2 {w : World} {A : Option Addr} {n c : Nat} {k : List Int} (h : RdI w A n c k) : RdI w.drew A n c k := ⟨h.len, h.cap, h.big, h.get⟩
theorem ret_t {s : Value} {a b : Int} (h : a = b) : Ending.returned (.tuple #[s, .int .i64 a]) = .returned (.tuple #[s, .int .i64 b]) := by rw [h]
def InsPostR (A : Option Addr) (n c : Nat) (l : List Int) (before : Bool) (p x : Int) (w : World) (e : Ending) (w' : World) : Prop :=
  (p ∉ l ∧ e = .returned (.tuple #[.slice A n c, .int .i64 (-1)]) ∧ w' = w) ∨
  ∃ (i : Nat) (s : Value), l[i]? = some p ∧ p ∉ l.take i ∧ e = .returned (.tuple #[s, .int .i64 ((l.length : Int) + 1)]) ∧ OwnI w' w.heap.size s (insAt l (if before then i else i + 1) x) ∧ Below w.heap.size w w'

set_option maxHeartbeats 2000000 in
theorem rInsert_calls (A : Option Addr) (n c : Nat) (l : List Int) (before : Bool) (p x : Int) (w : World) (hr : RdI w A n c l) (hn : n ≤ 4194304) :
    Calls Try.prog 19 #[.slice A n c, .bool before, .int .i64 p, .int .i64 x] w (InsPostR A n c l before p x w) := by
  obtain rfl := rdi_len hr
  have hcap := hr.cap
  have hbig := hr.big
  unfold maxLen at hbig
  cases before
  · go_enter Try.func19, Try.ntmps19
    go_wp2_with fail
    go_loop [10] (fun i => ∃ k : Nat, k ≤ l.length ∧ i = .int .i64 k ∧ Hid (p ∉ l.take k)) (fun i => l.length - (intOf i).toNat)
    case atStart => exact ⟨0, Nat.zero_le _, rfl, by simp [Hid]⟩
    case round =>
      obtain ⟨k, h1, rfl, he⟩ := hrel
      by_cases hlt : k < l.length
      · obtain ⟨y, hy⟩ : ∃ y, l[k]? = some y := ⟨_, List.getElem?_eq_getElem hlt⟩
        obtain ⟨q, rfl, cy⟩ := hr.get k (.int .i64 y) (by simp [ints, hy])
        by_cases hyp : y = p
        · subst hyp
          have HY := Lib.hid hy
          clear hy
          obtain ⟨I, hI⟩ : ∃ I : Nat, I = k + 1 := ⟨_, rfl⟩
          have hIi : (k : Int) + 1 = (I : Int) := by omega
          have hIl : I ≤ l.length := by omega
          have HI := Lib.hid hI
          obtain ⟨L1, hL1⟩ : ∃ L1, L1 = l.take I ++ [x] := ⟨_, rfl⟩
          obtain ⟨L2, hL2⟩ : ∃ L2, L2 = insAt l I x := ⟨_, rfl⟩
          have hL12 : L1 ++ l.drop I = L2 := by rw [hL1, hL2]; unfold insAt; simp
          have hL1n : L1.length = I + 1 := by rw [hL1]; simp; omega
          have HL2 := Lib.hid hL2
          have q0 : (0 : Int) ≤ (I : Int) := by omega
          have q1 : (I : Int) ≤ (c : Int) := by omega
          have q2 : (I : Int) ≤ (l.length : Int) := by omega
          have q3 : (l.length : Int) ≤ (c : Int) := by omega
          have hJ1 : ∀ w', RdI w' (some q) l.length c l → RdI w' (some ⟨w.heap.size, 0, none⟩) 1 1 [x] → Calls Try.prog 10 #[.slice (some q) I c, .slice (some ⟨w.heap.size, 0, none⟩) 1 1] w' (NewI w' L1) :=
            fun w' h1 h2 => by rw [hL1]; exact joined_calls (some q) _ I 1 c 1 (l.take I) [x] w' (rd_take h1 hIl) h2 (by omega)
          by_cases hck : c = I
          · have hJ2 : ∀ w' A1 c1, RdI w' A1 L1.length c1 L1 → RdI w' (some q) l.length c l → Calls Try.prog 10 #[.slice A1 L1.length c1, .slice (some q) 0 0] w' (NewI w' L2) :=
              fun w' A1 c1 h1 h2 => by
                rw [← hL12]
                have hd : l.drop I = [] := List.drop_eq_nil_of_le (by omega)
                rw [hd]
                exact joined_calls A1 (some q) _ 0 c1 0 L1 [] w' h1 (rd_none h2) (by omega)
            clear hL1 hL2 hL12 hL1n hI
            subst hck
            go_wp2_with fail
            go_region_held3 (fun w' => RdI w' (some q) l.length c l) (first | exact rd_drew2 hr | exact Rd.below (by assumption) (by assumption) | exact Rd.below (by assumption) ((Below.refl _ _).alloc (Nat.le_refl _) _))
              (first
                | (go_at_call 10; refine (hJ1 _ (by assumption) (rd_drew2 (rd_lit w #[.int .i64 x] [x] 1 rfl rfl (by decide)))).mono ?_; rintro e w1 ⟨s1, rfl, o1, b1⟩; obtain ⟨A1, c1, rfl⟩ := own_form o1; have R1 := Rd.of_own o1)
                | (go_at_call 10; refine (hJ2 _ _ _ R1 (by assumption)).mono ?_; rintro e w2 ⟨s2, rfl, o2, b2⟩)
                | (go_at_call 10; trace_state; fail))
            all_goals
              go_wp2_with fail
              go_ret2
              have hI2 := HI.out
              refine .inr ⟨k, s2, HY.out, he.out, ?_, ?_, below_new (below_new (((Below.refl _ w).alloc (Nat.le_refl _) _).drew) b1) b2⟩
              · exact ret_t (IntWalk.i64_in _ (by omega))
              · have := own_less o2 (Nat.le_trans (Nat.le_succ _) (by have := b1.size; simpa using this) : w.heap.size ≤ w1.heap.size)
                rw [HL2.out, HI.out] at this
                exact this
          · have hJ2 : ∀ w' A1 c1, RdI w' A1 L1.length c1 L1 → RdI w' (some q) l.length c l → Calls Try.prog 10 #[.slice A1 L1.length c1, .slice (some (q.add I)) (l.length - I) (c - I)] w' (NewI w' L2) :=
              fun w' A1 c1 h1 h2 => by
                rw [← hL12]
                have hd := rd_drop h2 hIl
                rw [if_neg hck] at hd
                exact joined_calls A1 (some (q.add I)) _ (l.length - I) c1 (c - I) L1 (l.drop I) w' h1 hd (by omega)
            clear hL1 hL2 hL12 hL1n hI
            go_wp2_with fail
            go_region_held3 (fun w' => RdI w' (some q) l.length c l) (first | exact rd_drew2 hr | exact Rd.below (by assumption) (by assumption) | exact Rd.below (by assumption) ((Below.refl _ _).alloc (Nat.le_refl _) _))
              (first
                | (go_at_call 10; refine (hJ1 _ (by assumption) (rd_drew2 (rd_lit w #[.int .i64 x] [x] 1 rfl rfl (by decide)))).mono ?_; rintro e w1 ⟨s1, rfl, o1, b1⟩; obtain ⟨A1, c1, rfl⟩ := own_form o1; have R1 := Rd.of_own o1)
                | (go_at_call 10; refine (hJ2 _ _ _ R1 (by assumption)).mono ?_; rintro e w2 ⟨s2, rfl, o2, b2⟩)
                | (go_at_call 10; trace_state; fail))
            all_goals
              go_wp2_with fail
              go_ret2
              have hI2 := HI.out
              refine .inr ⟨k, s2, HY.out, he.out, ?_, ?_, below_new (below_new (((Below.refl _ w).alloc (Nat.le_refl _) _).drew) b1) b2⟩
              · exact ret_t (IntWalk.i64_in _ (by omega))
              · have := own_less o2 (Nat.le_trans (Nat.le_succ _) (by have := b1.size; simpa using this) : w.heap.size ≤ w1.heap.size)
                rw [HL2.out, HI.out] at this
                exact this
        · have hne : (y != p) = true := by simpa using hyp
          have HN : Hid (p ∉ l.take (k + 1)) := by
            show p ∉ l.take (k + 1)
            rw [List.take_add_one, hy]; simp; exact ⟨he.out, fun e => hyp e.symm⟩
          clear hy
          go_wp2_with fail
          exact ⟨⟨k + 1, by omega, by go_num, HN⟩, by simp [intOf]; omega⟩
      · obtain rfl : k = l.length := by omega
        have hp : p ∉ l := by have := he.out; rwa [List.take_length] at this
        have HP := Lib.hid hp
        clear hp
        go_wp2_with fail
        go_ret2
        exact .inl ⟨HP.out, rfl, rfl⟩
  · go_enter Try.func19, Try.ntmps19
    go_wp2_with fail
    go_loop [10] (fun i => ∃ k : Nat, k ≤ l.length ∧ i = .int .i64 k ∧ Hid (p ∉ l.take k)) (fun i => l.length - (intOf i).toNat)
    case atStart => exact ⟨0, Nat.zero_le _, rfl, by simp [Hid]⟩
    case round =>
      obtain ⟨k, h1, rfl, he⟩ := hrel
      by_cases hlt : k < l.length
      · obtain ⟨y, hy⟩ : ∃ y, l[k]? = some y := ⟨_, List.getElem?_eq_getElem hlt⟩
        obtain ⟨q, rfl, cy⟩ := hr.get k (.int .i64 y) (by simp [ints, hy])
        by_cases hyp : y = p
        · subst hyp
          have HY := Lib.hid hy
          clear hy
          have hI : k = k := rfl
          have hIl : k ≤ l.length := by omega
          have HI := Lib.hid hI
          obtain ⟨L1, hL1⟩ : ∃ L1, L1 = l.take k ++ [x] := ⟨_, rfl⟩
          obtain ⟨L2, hL2⟩ : ∃ L2, L2 = insAt l k x := ⟨_, rfl⟩
          have hL12 : L1 ++ l.drop k = L2 := by rw [hL1, hL2]; unfold insAt; simp
          have hL1n : L1.length = k + 1 := by rw [hL1]; simp; omega
          have HL2 := Lib.hid hL2
          have q0 : (0 : Int) ≤ (k : Int) := by omega
          have q1 : (k : Int) ≤ (c : Int) := by omega
          have q2 : (k : Int) ≤ (l.length : Int) := by omega
          have q3 : (l.length : Int) ≤ (c : Int) := by omega
          have hJ1 : ∀ w', RdI w' (some q) l.length c l → RdI w' (some ⟨w.heap.size, 0, none⟩) 1 1 [x] → Calls Try.prog 10 #[.slice (some q) k c, .slice (some ⟨w.heap.size, 0, none⟩) 1 1] w' (NewI w' L1) :=
            fun w' h1 h2 => by rw [hL1]; exact joined_calls (some q) _ k 1 c 1 (l.take k) [x] w' (rd_take h1 hIl) h2 (by omega)
          have hck : ¬ c = k := by omega
          have hJ2 : ∀ w' A1 c1, RdI w' A1 L1.length c1 L1 → RdI w' (some q) l.length c l → Calls Try.prog 10 #[.slice A1 L1.length c1, .slice (some (q.add k)) (l.length - k) (c - k)] w' (NewI w' L2) :=
            fun w' A1 c1 h1 h2 => by
              rw [← hL12]
              have hd := rd_drop h2 hIl
              rw [if_neg hck] at hd
              exact joined_calls A1 (some (q.add k)) _ (l.length - k) c1 (c - k) L1 (l.drop k) w' h1 hd (by omega)
          clear hL1 hL2 hL12 hL1n hI
          go_wp2_with fail
          go_region_held3 (fun w' => RdI w' (some q) l.length c l) (first | exact rd_drew2 hr | exact Rd.below (by assumption) (by assumption) | exact Rd.below (by assumption) ((Below.refl _ _).alloc (Nat.le_refl _) _))
            (first
              | (go_at_call 10; refine (hJ1 _ (by assumption) (rd_drew2 (rd_lit w #[.int .i64 x] [x] 1 rfl rfl (by decide)))).mono ?_; rintro e w1 ⟨s1, rfl, o1, b1⟩; obtain ⟨A1, c1, rfl⟩ := own_form o1; have R1 := Rd.of_own o1)
              | (go_at_call 10; refine (hJ2 _ _ _ R1 (by assumption)).mono ?_; rintro e w2 ⟨s2, rfl, o2, b2⟩)
              | (go_at_call 10; trace_state; fail))
          all_goals
            go_wp2_with fail
            go_ret2
            have hI2 := HI.out
            refine .inr ⟨k, s2, HY.out, he.out, ?_, ?_, below_new (below_new (((Below.refl _ w).alloc (Nat.le_refl _) _).drew) b1) b2⟩
            · exact ret_t (IntWalk.i64_in _ (by omega))
            · have := own_less o2 (Nat.le_trans (Nat.le_succ _) (by have := b1.size; simpa using this) : w.heap.size ≤ w1.heap.size)
              rw [HL2.out] at this
              exact this
        · have hne : (y != p) = true := by simpa using hyp
          have HN : Hid (p ∉ l.take (k + 1)) := by
            show p ∉ l.take (k + 1)
            rw [List.take_add_one, hy]; simp; exact ⟨he.out, fun e => hyp e.symm⟩
          clear hy
          go_wp2_with fail
          exact ⟨⟨k + 1, by omega, by go_num, HN⟩, by simp [intOf]; omega⟩
      · obtain rfl : k = l.length := by omega
        have hp : p ∉ l := by have := he.out; rwa [List.take_length] at this
        have HP := Lib.hid hp
        clear hp
        go_wp2_with fail
        go_ret2
        exact .inl ⟨HP.out, rfl, rfl⟩
end Go.Proofs.Ytadjgbhbeamdbaa.DqZ
