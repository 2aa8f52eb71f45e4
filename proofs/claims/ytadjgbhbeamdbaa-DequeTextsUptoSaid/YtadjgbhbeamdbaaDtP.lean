/-
  What a Deque's PopBack hands back and leaves. Conditions: as stated.
-/
import Derived.Test.YtadjgbhbeamdbaaDtO
set_option maxRecDepth 100000
set_option linter.unusedSimpArgs false
set_option linter.unusedVariables false
namespace Go.Proofs.Ytadjgbhbeamdbaa.DtP
open Go.RowKit Go.Proofs.Ytadjgbhbeamdbaa.Mem Go.Proofs.Ytadjgbhbeamdbaa.DtA Go.Proofs.Ytadjgbhbeamdbaa.DtB Go.Proofs.Ytadjgbhbeamdbaa.DtD Go.Proofs.Ytadjgbhbeamdbaa.DtF Go.Proofs.Ytadjgbhbeamdbaa.DtG Go.Proofs.Ytadjgbhbeamdbaa.DtI Go.Proofs.Ytadjgbhbeamdbaa.DtO

theorem own_take {w : World} {B b n c : Nat} {xs : List ByteArray} (h : OwnI w B (.slice (some ⟨b, 0, none⟩) n c) xs) {m : Nat} (hm : m ≤ n) : OwnI w B (.slice (some ⟨b, 0, none⟩) m c) (xs.take m) := by
  have hn : xs.length = n := own_n h
  rcases h.2 with ⟨e, _⟩ | ⟨g, cap, cur, e, hBg, hg, hnc, hcm, hcs, htk⟩
  · cases e
  injection e with e1 e2 e3
  injection e1 with e1
  injection e1 with e1
  subst e1 e3
  have hget : ∀ j, j < xs.length → cur[j]? = (ints xs)[j]? := fun j hj => by
    rw [← htk, List.getElem?_take, if_pos (by omega), Array.getElem?_toList]
  refine own_of (by simp; omega) hBg hg (by omega) hcm (by omega) (fun j hj => ?_)
  rw [hget j (by omega)]
  simp only [ints, List.getElem?_map, List.getElem?_take]
  rw [if_pos hj]

set_option maxHeartbeats 1000000 in
theorem popBack_calls (B g N : Nat) (v : Value) (l : List ByteArray) (n : Int) (w : World) (hd : Dqn w B g v l N) (hN : N ≤ 8796093022208)
    (n1 : -9223372036854775808 ≤ n) (n2 : n ≤ 9223372036854775807) :
    Calls Try.prog 15 #[.pointer (some ⟨g, 0, none⟩), .int .i64 n] w fun e w' => ∃ r, e = .returned r ∧ OwnI w' w.heap.size r (l.drop (l.length - popN l.length n)).reverse ∧ Turns B g v (l.take (l.length - popN l.length n)) N w w' := by
  have hdq := hd.dq hN
  have hl := hd.len
  have hp : max 0 (min n (l.length : Int)) = (popN l.length n : Nat) := by unfold popN; omega
  have hpl : popN l.length n ≤ l.length := by unfold popN; omega
  generalize popN l.length n = k at hp hpl
  have hO1 : ∀ (S : Nat → Prop) nd, Only S w (w.drewN nd) := fun S nd => (Only.refl S w).drawn nd
  by_cases hk : k = 0
  · have hz : max 0 (min n (l.length : Int)) = 0 := by rw [hp, hk]; rfl
    subst hk
    clear hp
    go_enter Try.func15, Try.ntmps15
    go_wp2_with fail
    refine (len_calls B g v l w hdq).mono ?_
    rintro e w1 ⟨rfl, nd, rfl⟩
    go_wp2_with fail
    go_ret
    exact ⟨_, rfl, by simpa [OwnI, ints] using World.ownsRow_nil _ _ _ _, v, by simpa using hd.drawn nd, hO1 _ nd, .inl rfl⟩
  · have hz : ((k : Int) == 0) = false := by simpa using hk
    go_enter Try.func15, Try.ntmps15
    go_wp2_with fail
    refine (len_calls B g v l w hdq).mono ?_
    rintro e w1 ⟨rfl, nd, rfl⟩
    have hd1 := hd.drawn nd
    have hbel : Below w.heap.size w (w.drewN nd) := ⟨rfl, rfl, rfl, Nat.le_refl _, fun _ _ => rfl⟩
    have hO2 := fun S => hO1 S nd
    clear hO1
    generalize w.drewN nd = w1 at hd1 hbel hO2 ⊢
    have hg1 := hd1.lt
    have hb1' := hd1.olt
    obtain ⟨xs, f, hF, rfl, hn⟩ := hd1
    have hle := hF.le
    rw [List.length_drop] at hp
    have hkx : f + k ≤ xs.length := by rw [List.length_drop] at hpl; omega
    obtain ⟨b, c4, rfl⟩ : ∃ b c4, v = .slice (some ⟨b, 0, none⟩) xs.length c4 := by
      rcases hF.own.2 with ⟨e, h0⟩ | ⟨b, cap, cur, e, _⟩
      · omega
      · exact ⟨b, cap, e⟩
    have hb1 := (hb1' b rfl).2
    have hrd := Rd.of_own hF.own
    have hcap := hrd.cap
    have hbg0 := hrd.big
    unfold maxLen at hbg0
    obtain ⟨m, hmk⟩ : ∃ m, m + k = xs.length := ⟨xs.length - k, by omega⟩
    have hm : (xs.length : Int) - (k : Int) = (m : Int) := by omega
    have hmx : m ≤ xs.length := by omega
    have hrd2 := rd_drop hrd hmx
    have hcm : ¬ c4 = m := by omega
    rw [if_neg hcm, Option.map_some, add_mk, Nat.zero_add] at hrd2
    have q1 : (m : Int) ≤ (xs.length : Int) := by omega
    have q2 : (xs.length : Int) ≤ (c4 : Int) := by omega
    have q3 : (m : Int) ≤ (c4 : Int) := by omega
    obtain ⟨x0, x1, z0, z1⟩ := hF.cells
    clear hd hdq hb1'
    go_wp2_with fail
    refine (clone_calls _ _ _ (xs.drop m) _ hrd2 (by omega)).mono ?_
    rintro e w3 ⟨s3, rfl, ho3, hb3⟩
    generalize hT : xs.drop m = T at ho3
    obtain ⟨A3, c3, rfl⟩ := own_form ho3
    have hF3 := hF.only (Only.of_below hb3) (by omega) (fun j hj => by have : j = b := by injection hj with hj; exact hj.symm
                                                                       omega)
    go_wp2_with fail
    refine (reverse_any _ _ c3 A3 T _ ho3).mono ?_
    rintro e w4 ⟨rfl, ho4, hO4⟩
    have hF4 := hF3.only hO4 (fun h => by have := (ho3.lt g h).1; omega) (fun j hj h => by have := (ho3.lt j h).1; have : j = b := by injection hj with hj; exact hj.symm
                                                                                           omega)
    obtain ⟨rc, rf⟩ := row_cells hF4.own
    have hcl : ∀ ty, (Builtin.clear_ #[26] ty #[.slice (some ⟨b, m, none⟩) (xs.length - m) (c4 - m)]).run Try.prog w4 = .ok (.tuple #[]) (w4.setCells b m (List.replicate k (.string ⟨#[]⟩))) := fun ty => by
      rw [show xs.length - m = k by omega]
      exact clear_run w4 ty b m k (c4 - m) (by omega) (fun j hj => rc (m + j) (by omega)) (fun j hj => rf (m + j) (by omega))
    have hO5 := put_only (List.replicate k (.string ⟨#[]⟩)) w4 b m
    have hbg : ¬ g = b := fun e => hF.ne (by rw [e]; rfl)
    have hF5 : DqF (w4.setCells b m (List.replicate k (.string ⟨#[]⟩))) B g (.slice (some ⟨b, 0, none⟩) xs.length c4) (zeroL xs m k) f :=
      ⟨hO5.heap hF4.hp hbg, hF.ge, own_zero hF4.own m k (by omega), by rw [zero_len _ _ _ (by omega)]; exact hF.le, hF.ne⟩
    obtain ⟨u0, u1, t0, t1⟩ := hF4.cells
    obtain ⟨y0, y1, s0, s1⟩ := hF5.cells
    clear x0 x1 z0 z1
    go_wp2_with fail
    go_ret
    have hws := hbel.size
    have hOb : Only (fun j => j = g ∨ j = b) w w3 := (hO2 _).trans (Only.of_below hb3) (fun j hj => .inr (Nat.le_trans hws hj))
    have hOc : Only (fun j => j = g ∨ j = b) w w4 := hOb.trans hO4 (fun j hj => .inr (by have := (ho3.lt j hj).1; omega))
    have hOd : Only (fun j => j = g ∨ j = b) w4 ((w4.setCells b m (List.replicate k (.string ⟨#[]⟩))).setCell ⟨g, 0, none⟩ (.slice (some ⟨b, 0, none⟩) m c4)) :=
      (hO5.mono (S' := fun j => j = g ∨ j = b) (fun j hj => .inr hj)).put (p := ⟨g, 0, none⟩) (.inl (.inl rfl)) _
    have hz2 : (zeroL xs m k).take m = xs.take m := by unfold zeroL; rw [List.take_append_of_le_length (by simp; omega), List.take_take, Nat.min_self]
    have hown := own_take hF5.own (m := m) (by omega)
    rw [hz2] at hown
    refine ⟨_, rfl, ?_, _, ⟨_, _, dqf_set0 hF5.hp hF.ge hown (by simp; omega) hF.ne, ?_, by simp; omega⟩, ?_, .inl rfl⟩
    · rw [List.drop_drop, List.length_drop, show f + (xs.length - f - k) = m by omega, hT]
      exact own_only (own_less ho4 (by omega)) hOd (fun j hj e => by have := (ho3.lt j hj).1; rcases e with rfl | rfl <;> omega)
    · rw [List.length_drop, List.take_drop, show f + (xs.length - f - k) = m by omega]
    · exact (hOc.trans hOd (fun j hj => .inl hj)).mono (fun j hj => hj.elim .inl (fun e => .inr (by rw [e]; rfl)))
end Go.Proofs.Ytadjgbhbeamdbaa.DtP
