/-
  What the document's Piece hands back. Conditions: as stated.
-/
import Derived.Test.YtadjgbhbeamdbaaDqV
set_option maxRecDepth 100000
set_option linter.unusedSimpArgs false
set_option linter.unusedVariables false
namespace Go.Proofs.Ytadjgbhbeamdbaa.DqW
open Go.RowKit Go.Proofs.Ytadjgbhbeamdbaa.Mem Go.Proofs.Ytadjgbhbeamdbaa.DqA Go.Proofs.Ytadjgbhbeamdbaa.DqB Go.Proofs.Ytadjgbhbeamdbaa.DqC Go.Proofs.Ytadjgbhbeamdbaa.DqD Go.Proofs.Ytadjgbhbeamdbaa.DqF Go.Proofs.Ytadjgbhbeamdbaa.DqI Go.Proofs.Ytadjgbhbeamdbaa.DqO Go.Proofs.Ytadjgbhbeamdbaa.DqU Go.Proofs.Ytadjgbhbeamdbaa.DqV

theorem drop_take_next (l : List Int) (a j : Nat) (y : Int) (h : l[a + j]? = some y) : (l.drop a).take (j + 1) = (l.drop a).take j ++ [y] := by
  rw [List.take_add_one, List.getElem?_drop, h]; rfl
theorem int_eq {a b : Int} (h : a = b) : Value.int .i64 a = Value.int .i64 b := by rw [h]

set_option maxHeartbeats 2000000 in
theorem rPiece_calls (A : Option Addr) (n c : Nat) (l : List Int) (f t : Int) (w : World) (hr : RdI w A n c l) (hn : n ≤ 4194304) (f1 : -9223372036854775808 ≤ f) (f2 : f ≤ 9223372036854775807) (t1 : -9223372036854775808 ≤ t) (t2 : t ≤ 9223372036854775807) :
    Calls Try.prog 24 #[.slice A n c, .int .i64 f, .int .i64 t] w (NewI w (pieceL l f t)) := by
  obtain rfl := rdi_len hr
  have hF0 : 0 ≤ pFrom l.length f := by unfold pFrom; grind
  have hT0 : pTo l.length t ≤ (l.length : Int) - 1 := by unfold pTo; grind
  have hT1 : -9223372036854775808 ≤ pTo l.length t := by unfold pTo; grind
  have hF1 : pFrom l.length f ≤ 9223372036854775807 := by unfold pFrom; grind
  obtain ⟨a, ha⟩ : ∃ a : Nat, pFrom l.length f = a := ⟨(pFrom l.length f).toNat, by omega⟩
  obtain ⟨T, hT⟩ : ∃ T, pTo l.length t = T := ⟨_, rfl⟩
  have hP := piece_doc l f t
  rw [ha, hT, Int.toNat_natCast] at hP
  rw [hT] at hT0 hT1
  rw [ha] at hF0 hF1
  obtain ⟨D0, hD0⟩ : ∃ D0, D0 = pieceL l f t := ⟨_, rfl⟩
  have HP := Lib.hid hP
  have HD0 := Lib.hid hD0
  clear hD0
  have hfc : (f < 0 ∧ f + (l.length : Int) < 0 ∧ a = 0) ∨ (f < 0 ∧ ¬ f + (l.length : Int) < 0 ∧ f + (l.length : Int) = a) ∨ (¬ f < 0 ∧ f = a) := by unfold pFrom at ha; grind
  have htc : (t < 0 ∧ ¬ t + (l.length : Int) > (l.length : Int) - 1 ∧ t + (l.length : Int) = T) ∨ (¬ t < 0 ∧ t > (l.length : Int) - 1 ∧ (l.length : Int) - 1 = T) ∨ (¬ t < 0 ∧ ¬ t > (l.length : Int) - 1 ∧ t = T) := by
    simp only [pTo] at hT
    split at hT <;> split at hT <;> omega
  clear hP ha hT
  have start0 : ∀ x : Int, x = a → Value.int .i64 x = Value.int .i64 ((a : Int) + ((0 : Nat) : Int)) := fun x h => by rw [h]; simp
  rcases hfc with ⟨u1, u2, u3⟩ | ⟨u1, u2, u3⟩ | ⟨u1, u3⟩
  all_goals
    rcases htc with ⟨v1, v2, v3⟩ | ⟨v1, v2, v3⟩ | ⟨v1, v2, v3⟩
    all_goals
      try subst t
      have HU := Lib.hid u3
      try subst f
      try (have u4 : a = 0 := u3; clear u4 u3)
      go_enter Try.func24, Try.ntmps24
      go_wp2_with fail
      go_loopw [7, 8] (fun o i wr => ∃ (j : Nat), i = .int .i64 ((a : Int) + (j : Int)) ∧ (a : Int) + (j : Int) ≤ max (a : Int) (T + 1) ∧ OwnI wr w.heap.size o ((l.drop a).take j) ∧ ((l.drop a).take j).length ≤ j ∧ Below w.heap.size w wr) (fun _ i _ => (T + 1 - intOf i).toNat)
      case atStart => exact ⟨0, start0 _ (by first | rfl | (have := HU.out; omega)), by omega, World.ownsRow_nil _ _ _ _, by simp, ⟨rfl, rfl, rfl, Nat.le_refl _, fun _ _ => rfl⟩⟩
      case round =>
        clear HU
        obtain ⟨j, rfl, hj, ho, hjl, hb⟩ := hrel
        have hsz := hb.size
        by_cases hle : (a : Int) + (j : Int) ≤ T
        · have hlt : a + j < l.length := by omega
          obtain ⟨y, hy⟩ : ∃ y, l[a + j]? = some y := ⟨_, List.getElem?_eq_getElem hlt⟩
          obtain ⟨p, rfl, cp⟩ := (hr.below hb).get (a + j) (.int .i64 y) (by simp [ints, hy])
          have hnx := drop_take_next l a j y hy
          have HN := Lib.hid hnx
          generalize hD : (l.drop a).take j = D at ho hjl
          have HD := Lib.hid hD
          obtain ⟨Ao, co, rfl⟩ := own_form ho
          have q0 : ((a : Int) + (j : Int)).toNat = a + j := by omega
          clear hy hnx hD
          go_wp2_with (at_builtin; refine wpList_app1 rfl (.tmp 37) (.tmp 42) elI rfl w.heap.size _ D.length (ints D) rfl ho (.int .i64 _) rfl rfl (by unfold maxLen; omega) (by omega) hsz ?_; intro v1 w1 o1 b1 fb1)
          exact ⟨⟨j + 1, int_eq (by omega), by omega, by rw [HN.out, HD.out]; exact own_snoc o1, by rw [HN.out, HD.out]; simp; omega, b1.after hb (Nat.le_refl _) (fun b hb => (ho.lt b hb).1)⟩, by simp [intOf]; omega⟩
        · obtain rfl : j = (T + 1 - a).toNat := by omega
          rw [← HP.out, ← HD0.out] at ho
          obtain ⟨Ao, co, rfl⟩ := own_form ho
          go_wp2_with fail
          go_ret
          exact ⟨.slice Ao D0.length co, rfl, by rw [← HD0.out]; exact ho, hb⟩
end Go.Proofs.Ytadjgbhbeamdbaa.DqW
