/-
  What the document's Find hands back. Conditions: as stated.
-/
import Derived.Test.YtgbgdgncdanblaaDqV
import Derived.Test.YtgbgdgncdanblaaDqE
set_option maxRecDepth 100000
set_option linter.unusedSimpArgs false
set_option linter.unusedVariables false
namespace Go.Proofs.Ytgbgdgncdanblaa.DqY
open Go.RowKit Go.Proofs.Ytgbgdgncdanblaa.Mem Go.Proofs.Ytgbgdgncdanblaa.DqA Go.Proofs.Ytgbgdgncdanblaa.DqB Go.Proofs.Ytgbgdgncdanblaa.DqC Go.Proofs.Ytgbgdgncdanblaa.DqD Go.Proofs.Ytgbgdgncdanblaa.DqE Go.Proofs.Ytgbgdgncdanblaa.DqF Go.Proofs.Ytgbgdgncdanblaa.DqI Go.Proofs.Ytgbgdgncdanblaa.DqO Go.Proofs.Ytgbgdgncdanblaa.DqU Go.Proofs.Ytgbgdgncdanblaa.DqV

/-- All are passed over. -/
theorem go_none (l : List Int) (v : Int) (back : Bool) (count most : Int) : ∀ (d k : Nat) (s : Int) (out : List Int), k + d = l.length → (d : Int) ≤ s → findGo l v back count most k s out = out := by
  intro d
  induction d with
  | zero => intro k s out h _; exact go_stop (.inl (by omega))
  | succ d ih =>
    intro k s out h hs
    by_cases C : (1 ≤ most ∧ most ≤ k) ∨ (1 ≤ count ∧ (out.length : Int) = count)
    · exact go_stop (.inr C)
    · by_cases hv : l[spot l.length back k]? = some v
      · rw [go_less (by omega) C hv (by omega)]; exact ih (k + 1) _ _ (by omega) (by omega)
      · rw [go_skip (by omega) C hv]; exact ih (k + 1) _ _ (by omega) (by omega)
theorem find_doc (l : List Int) (v rank count most : Int) (h0 : rank ≠ 0) (hl : l.length ≤ 4194304) :
    findL l v rank count most = findGo l v (decide (rank < 0)) count most 0 (if rank < 0 then -rank - 1 else rank - 1) [] := by
  unfold findL
  by_cases hm : rank = -9223372036854775808
  · rw [if_pos (.inr hm)]
    subst hm
    exact (go_none l v _ count most l.length 0 _ [] (by omega) (by simp; omega)).symm
  · rw [if_neg (fun c => c.elim h0 hm)]

section
variable {l R out : List Int} {v count most s0 : Int} {back : Bool} {k h : Nat}
theorem st_miss (he : R = findGo l v back count most k (max 0 (s0 - h)) out) (hk : k < l.length) (hm : ¬ (1 ≤ most ∧ most ≤ k)) (hv : l[spot l.length back k]? ≠ some v) :
    R = findGo l v back count most (k + 1) (max 0 (s0 - h)) out := by
  by_cases C : 1 ≤ count ∧ (out.length : Int) = count
  · rw [he, go_stop (.inr (.inr C)), go_stop (.inr (.inr C))]
  · rw [he, go_skip hk (fun c => c.elim hm C) hv]
theorem st_pass (he : R = findGo l v back count most k (max 0 (s0 - h)) out) (hk : k < l.length) (hm : ¬ (1 ≤ most ∧ most ≤ k)) (hv : l[spot l.length back k]? = some v)
    (hp : (h : Int) < s0 ∨ (1 ≤ count ∧ (out.length : Int) = count)) : R = findGo l v back count most (k + 1) (max 0 (s0 - (h + 1 : Nat))) out := by
  by_cases C : 1 ≤ count ∧ (out.length : Int) = count
  · rw [he, go_stop (.inr (.inr C)), go_stop (.inr (.inr C))]
  · have hp' := hp.resolve_right C
    rw [he, go_less hk (fun c => c.elim hm C) hv (by omega)]
    congr 1
    omega
theorem st_take (he : R = findGo l v back count most k (max 0 (s0 - h)) out) (hk : k < l.length) (hm : ¬ (1 ≤ most ∧ most ≤ k)) (hv : l[spot l.length back k]? = some v)
    (hp : ¬ (h : Int) < s0) (C : ¬ (1 ≤ count ∧ (out.length : Int) = count)) : R = findGo l v back count most (k + 1) (max 0 (s0 - (h + 1 : Nat))) (out ++ [(spot l.length back k : Int)]) := by
  rw [he, go_take hk (fun c => c.elim hm C) hv (by omega)]
  congr 1
  omega
end
theorem int_eq {a b : Int} (h : a = b) : Value.int .i64 a = Value.int .i64 b := by rw [h]

set_option maxHeartbeats 4000000 in
theorem rFind_calls (A : Option Addr) (n c : Nat) (l : List Int) (x rank count most : Int) (w : World) (hr : RdI w A n c l) (hn : n ≤ 4194304) (r1 : -9223372036854775808 ≤ rank) (r2 : rank ≤ 9223372036854775807) :
    Calls Try.prog 67 #[.slice A n c, .int .i64 x, .int .i64 rank, .int .i64 count, .int .i64 most] w (NewI w (findL l x rank count most)) := by
  obtain rfl := rdi_len hr
  by_cases h0 : rank = 0
  · have hf : findL l x rank count most = [] := by unfold findL; rw [if_pos (.inl h0)]
    have Hf := Lib.hid hf
    clear hf
    subst h0
    go_enter Try.func67, Try.ntmps67
    go_wp2_with fail
    go_ret
    exact ⟨_, rfl, by rw [Hf.out]; exact World.ownsRow_nil _ _ _ _, Below.refl _ _⟩
  · have hz : (rank == 0) = false := by simpa using h0
    have hf := find_doc l x rank count most h0 hn
    obtain ⟨R, hR⟩ : ∃ R, R = findL l x rank count most := ⟨_, rfl⟩
    rw [← hR] at hf ⊢
    clear hR
    obtain ⟨back, s0, hback, hs0, hcase⟩ : ∃ (back : Bool) (s0 : Int), decide (rank < 0) = back ∧ (if rank < 0 then -rank - 1 else rank - 1) = s0 ∧ ((back = true ∧ rank < 0 ∧ rank = -s0 - 1) ∨ (back = false ∧ ¬ rank < 0 ∧ -rank = -s0 - 1)) := by
      by_cases h : rank < 0
      · exact ⟨true, -rank - 1, by simpa using h, by rw [if_pos h], .inl ⟨rfl, h, by omega⟩⟩
      · exact ⟨false, rank - 1, by simpa using h, by rw [if_neg h], .inr ⟨rfl, h, by omega⟩⟩
    rw [hback, hs0] at hf
    have hs1 : 0 ≤ s0 := by omega
    have hs2 : s0 ≤ 9223372036854775807 := by omega
    have HF := Lib.hid hf
    clear hf hback hs0 h0
    rcases hcase with ⟨rfl, hneg, hrk⟩ | ⟨rfl, hneg, hrk⟩
    · have HK := Lib.hid hrk
      clear hrk
      go_enter Try.func67, Try.ntmps67
      go_wp2_with fail
      go_loopw [12, 13, 14] (fun o mt i wr => ∃ (k h : Nat) (out : List Int), k ≤ l.length ∧ h ≤ k ∧ out.length ≤ h ∧ mt = .int .i64 (-(h : Int)) ∧ i = .int .i64 k ∧ OwnI wr w.heap.size o out ∧ Below w.heap.size w wr ∧ (1 ≤ count → (out.length : Int) ≤ count) ∧ Hid (R = findGo l x true count most k (max 0 (s0 - h)) out)) (fun _ _ i _ => l.length - (intOf i).toNat)
      case atStart => exact ⟨0, 0, [], Nat.zero_le _, Nat.le_refl _, Nat.le_refl _, int_eq (by simp), rfl, World.ownsRow_nil _ _ _ _, ⟨rfl, rfl, rfl, Nat.le_refl _, fun _ _ => rfl⟩, fun h => by simp; omega, by show R = _; rw [HF.out]; congr 1; omega⟩
      case round =>
        obtain ⟨k, h, out, h1, h2, h3, rfl, rfl, ho, hb, hcn, he⟩ := hrel
        obtain ⟨A', c', rfl⟩ := own_form ho
        have hsz := hb.size
        have HC := Lib.hid hcn
        clear hcn
        by_cases hlt : k < l.length
        · by_cases hms : 1 ≤ most ∧ most ≤ k
          · obtain ⟨hm1, hm2⟩ := hms
            go_wp2_with fail
            all_goals
              go_ret
              exact ⟨.slice A' out.length c', rfl, by rw [he.out, go_stop (.inr (.inl ⟨hm1, hm2⟩))]; exact ho, hb⟩
          · obtain ⟨y, hy⟩ : ∃ y, l[spot l.length true k]? = some y := ⟨_, List.getElem?_eq_getElem (by simp [spot]; omega)⟩
            obtain ⟨p, rfl, cy⟩ := (hr.below hb).get (spot l.length true k) (.int .i64 y) (by simp [ints, hy])
            simp only [spot, if_true, Bool.false_eq_true, if_false] at cy
            have Hy := Lib.hid hy
            clear hy
            have hmo : most < 1 ∨ (k : Int) < most := by omega
            rcases hmo with hmo | hmo
            all_goals
              go_wp2_with (at_builtin; refine wpList_app1 rfl (.tmp 67) (.tmp 69) elI rfl w.heap.size _ _ _ rfl ho (.int .i64 _) rfl rfl (by unfold maxLen; omega) (by omega) hsz ?_; intro v1 w1 o1 b1 f1)
            all_goals
              have hK := HK.out
              have hC := HC.out
            all_goals first
              | (have C : y ≠ x := bne_iff_ne.1 (by assumption : (y != x) = true)
                 exact ⟨⟨k + 1, h, out, by omega, by omega, h3, rfl, by go_num, ho, hb, hC, st_miss he.out hlt hms (by rw [Hy.out]; exact fun e => C (by injection e))⟩, by simp [intOf]; omega⟩)
              | (have C : y = x := by simpa using (by assumption : (y != x) = false)
                 have P : (h : Int) < s0 ∨ (1 ≤ count ∧ (out.length : Int) = count) := by omega
                 exact ⟨⟨k + 1, h + 1, out, by omega, by omega, by omega, int_eq (by omega), by go_num, ho, hb, hC, st_pass he.out hlt hms (by rw [Hy.out, C]) P⟩, by simp [intOf]; omega⟩)
              | (have C : y = x := by simpa using (by assumption : (y != x) = false)
                 have P : ¬ (h : Int) < s0 := by omega
                 have P2 : ¬ (1 ≤ count ∧ (out.length : Int) = count) := by omega
                 have T := st_take he.out hlt hms (by rw [Hy.out, C]) P P2
                 exact ⟨⟨k + 1, h + 1, _, by omega, by omega, by simp; omega, int_eq (by omega), by go_num, (by have := own_snoc o1; first | exact this | rwa [show ((l.length : Int) - 1 - k) = ((spot l.length true k : Nat) : Int) by simp [spot]; omega] at this), b1.after hb (Nat.le_refl _) (fun b hb => (ho.lt b hb).1), fun hc => by have := hC hc; simp; omega, T⟩, by simp [intOf]; omega⟩)
        · obtain rfl : k = l.length := by omega
          go_wp2_with fail
          go_ret
          exact ⟨.slice A' out.length c', rfl, by rw [he.out, go_stop (.inl (by omega))]; exact ho, hb⟩
    · have HK := Lib.hid hrk
      go_enter Try.func67, Try.ntmps67
      go_wp2_with fail
      go_loopw [12, 13, 14] (fun o mt i wr => ∃ (k h : Nat) (out : List Int), k ≤ l.length ∧ h ≤ k ∧ out.length ≤ h ∧ mt = .int .i64 (-(h : Int)) ∧ i = .int .i64 k ∧ OwnI wr w.heap.size o out ∧ Below w.heap.size w wr ∧ (1 ≤ count → (out.length : Int) ≤ count) ∧ Hid (R = findGo l x false count most k (max 0 (s0 - h)) out)) (fun _ _ i _ => l.length - (intOf i).toNat)
      case atStart => exact ⟨0, 0, [], Nat.zero_le _, Nat.le_refl _, Nat.le_refl _, int_eq (by simp), rfl, World.ownsRow_nil _ _ _ _, ⟨rfl, rfl, rfl, Nat.le_refl _, fun _ _ => rfl⟩, fun h => by simp; omega, by show R = _; rw [HF.out]; congr 1; omega⟩
      case round =>
        obtain ⟨k, h, out, h1, h2, h3, rfl, rfl, ho, hb, hcn, he⟩ := hrel
        obtain ⟨A', c', rfl⟩ := own_form ho
        have hsz := hb.size
        have HC := Lib.hid hcn
        clear hcn
        by_cases hlt : k < l.length
        · by_cases hms : 1 ≤ most ∧ most ≤ k
          · obtain ⟨hm1, hm2⟩ := hms
            go_wp2_with fail
            all_goals
              go_ret
              exact ⟨.slice A' out.length c', rfl, by rw [he.out, go_stop (.inr (.inl ⟨hm1, hm2⟩))]; exact ho, hb⟩
          · obtain ⟨y, hy⟩ : ∃ y, l[spot l.length false k]? = some y := ⟨_, List.getElem?_eq_getElem (by simp [spot]; omega)⟩
            obtain ⟨p, rfl, cy⟩ := (hr.below hb).get (spot l.length false k) (.int .i64 y) (by simp [ints, hy])
            simp only [spot, if_true, Bool.false_eq_true, if_false] at cy
            have Hy := Lib.hid hy
            clear hy
            have hmo : most < 1 ∨ (k : Int) < most := by omega
            rcases hmo with hmo | hmo
            all_goals
              go_wp2_with (at_builtin; refine wpList_app1 rfl (.tmp 67) (.tmp 69) elI rfl w.heap.size _ _ _ rfl ho (.int .i64 _) rfl rfl (by unfold maxLen; omega) (by omega) hsz ?_; intro v1 w1 o1 b1 f1)
            all_goals
              have hK := HK.out
              have hC := HC.out
            all_goals first
              | (have C : y ≠ x := bne_iff_ne.1 (by assumption : (y != x) = true)
                 exact ⟨⟨k + 1, h, out, by omega, by omega, h3, rfl, by go_num, ho, hb, hC, st_miss he.out hlt hms (by rw [Hy.out]; exact fun e => C (by injection e))⟩, by simp [intOf]; omega⟩)
              | (have C : y = x := by simpa using (by assumption : (y != x) = false)
                 have P : (h : Int) < s0 ∨ (1 ≤ count ∧ (out.length : Int) = count) := by omega
                 exact ⟨⟨k + 1, h + 1, out, by omega, by omega, by omega, int_eq (by omega), by go_num, ho, hb, hC, st_pass he.out hlt hms (by rw [Hy.out, C]) P⟩, by simp [intOf]; omega⟩)
              | (have C : y = x := by simpa using (by assumption : (y != x) = false)
                 have P : ¬ (h : Int) < s0 := by omega
                 have P2 : ¬ (1 ≤ count ∧ (out.length : Int) = count) := by omega
                 have T := st_take he.out hlt hms (by rw [Hy.out, C]) P P2
                 exact ⟨⟨k + 1, h + 1, _, by omega, by omega, by simp; omega, int_eq (by omega), by go_num, (by have := own_snoc o1; first | exact this | rwa [show ((l.length : Int) - 1 - k) = ((spot l.length true k : Nat) : Int) by simp [spot]; omega] at this), b1.after hb (Nat.le_refl _) (fun b hb => (ho.lt b hb).1), fun hc => by have := hC hc; simp; omega, T⟩, by simp [intOf]; omega⟩)
        · obtain rfl : k = l.length := by omega
          go_wp2_with fail
          go_ret
          exact ⟨.slice A' out.length c', rfl, by rw [he.out, go_stop (.inl (by omega))]; exact ho, hb⟩
end Go.Proofs.Ytgbgdgncdanblaa.DqY
