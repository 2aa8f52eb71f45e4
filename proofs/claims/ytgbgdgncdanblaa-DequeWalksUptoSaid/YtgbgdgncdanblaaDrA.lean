/-
  What a Deque's Put hands back and leaves. Conditions: as stated.
-/
import Derived.Test.YtgbgdgncdanblaaDqO
import Derived.Test.YtgbgdgncdanblaaDqV
set_option maxRecDepth 100000
set_option linter.unusedSimpArgs false
set_option linter.unusedVariables false
namespace Go.Proofs.Ytgbgdgncdanblaa.DrA
open Go.RowKit Go.Proofs.Ytgbgdgncdanblaa.Mem Go.Proofs.Ytgbgdgncdanblaa.DqA Go.Proofs.Ytgbgdgncdanblaa.DqB Go.Proofs.Ytgbgdgncdanblaa.DqC Go.Proofs.Ytgbgdgncdanblaa.DqD Go.Proofs.Ytgbgdgncdanblaa.DqF Go.Proofs.Ytgbgdgncdanblaa.DqG Go.Proofs.Ytgbgdgncdanblaa.DqI Go.Proofs.Ytgbgdgncdanblaa.DqO Go.Proofs.Ytgbgdgncdanblaa.DqV

set_option maxHeartbeats 1000000 in
theorem all_at (B g b c f : Nat) (xs : List Int) (w : World) (hF : DqF w B g (.slice (some ⟨b, 0, none⟩) xs.length c) xs f) (hlt : f < xs.length) :
    Calls Try.prog 50 #[.pointer (some ⟨g, 0, none⟩)] w fun e w' => e = .returned (.slice (some ⟨b, f, none⟩) (xs.length - f) (c - f)) ∧ ∃ nd, w' = w.drewN nd := by
  obtain ⟨c0, c1, _, _⟩ := hF.cells
  have hc1 := (Rd.of_own hF.own).cap
  have hc2 := (Rd.of_own hF.own).big
  have hcf : ¬ c = f := by omega
  clear hF
  go_enter Try.func50, Try.ntmps50
  go_wp2_with fail
  go_quiet (fail)
  go_wp2_with fail
  go_ret
  exact ⟨rfl, nq, rfl⟩

def DPutPost (B g N : Nat) (v : Value) (l : List Int) (i x : Int) (w : World) (e : Ending) (w' : World) : Prop :=
  (placeN l.length i = none ∧ e = .returned (.bool false) ∧ ∃ nd, w' = w.drewN nd) ∨
  ∃ k, placeN l.length i = some k ∧ e = .returned (.bool true) ∧ TurnsS B g v (l.set k x) N w w'

set_option maxHeartbeats 1000000 in
theorem dput_calls (B g N : Nat) (v : Value) (l : List Int) (i x : Int) (w : World) (hd : Dqn w B g v l N) (hN : N ≤ 17592186044416) (i1 : -9223372036854775808 ≤ i) (i2 : i ≤ 9223372036854775807) :
    Calls Try.prog 48 #[.pointer (some ⟨g, 0, none⟩), .int .i64 i, .int .i64 x] w (DPutPost B g N v l i x w) := by
  have hdq := hd.dq hN
  rcases hp : placeN l.length i with _ | k
  · have HP := Lib.hid hp
    clear hp
    go_enter Try.func48, Try.ntmps48
    go_wp2_with fail
    refine (place_calls B g v l i w hdq i1 i2).mono ?_
    rintro e w1 ⟨kk, b, rfl, hb, hk, nd, rfl⟩
    rw [HP.out] at hb
    obtain rfl : b = false := hb
    clear hk
    go_wp2_with fail
    go_ret
    exact .inl ⟨HP.out, rfl, nd, rfl⟩
  · have hlt := place_lt hp
    have HP := Lib.hid hp
    clear hp
    go_enter Try.func48, Try.ntmps48
    go_wp2_with fail
    refine (place_calls B g v l i w hdq i1 i2).mono ?_
    rintro e w1 ⟨kk, b, rfl, hb, hk, nd, rfl⟩
    have hb' : b = true := by rw [hb, HP.out]; rfl
    have hk' := hk k HP.out
    subst hb' hk'
    clear hk hb
    have hO1 : ∀ S : Nat → Prop, Only S w (w.drewN nd) := fun S => (Only.refl S w).drawn nd
    have hd1 := hd.drawn nd
    generalize w.drewN nd = w1 at hd1 hO1 ⊢
    obtain ⟨xs, f, hF, hxl, hn⟩ := hd1
    have hlx : l.length = xs.length - f := by rw [← hxl, List.length_drop]
    have hfk : f + k < xs.length := by omega
    obtain ⟨b, c, rfl⟩ : ∃ b c, v = .slice (some ⟨b, 0, none⟩) xs.length c := by
      rcases hF.own.2 with ⟨e, h0⟩ | ⟨b, cap, cur, e, _⟩
      · omega
      · exact ⟨b, cap, e⟩
    have HX := Lib.hid hxl
    clear hxl hdq hd
    go_wp2_with fail
    refine (all_at B g b c f xs w1 hF (by omega)).mono ?_
    rintro e w2 ⟨rfl, nd2, rfl⟩
    have hO2 : ∀ S : Nat → Prop, Only S w (w1.drewN nd2) := fun S => (hO1 S).drawn nd2
    have hF2 := hF.only ((Only.refl (fun _ => False) w1).drawn nd2) id (fun _ _ => id)
    generalize w1.drewN nd2 = w2 at hF2 hO2 ⊢
    obtain ⟨rc, rf⟩ := row_cells hF2.own
    have q0 := rf (f + k) hfk
    obtain ⟨u, q1⟩ := Option.isSome_iff_exists.1 (rc (f + k) hfk)
    have q2 : (k : Int) < ((xs.length - f : Nat) : Int) := by omega
    have q3 : (0 : Int) ≤ (k : Int) := by omega
    clear rc rf
    go_wp2_with fail
    go_ret
    have hbg : ¬ g = b := fun e => hF.ne (by rw [e]; rfl)
    have ho := ((Only.refl (fun j => j = b) w2).put (p := ⟨b, f + k, none⟩) (.inl rfl) (.int .i64 x))
    refine .inr ⟨k, HP.out, rfl, _, ⟨xs.set (f + k) x, f, ⟨ho.heap hF2.hp hbg, hF2.ge, own_put hF2.own x, by rw [List.length_set]; exact hF2.le, hF2.ne⟩, ?_, by rw [List.length_set]; exact hn⟩, ?_, rfl⟩
    · rw [List.drop_set, if_neg (by omega), HX.out, Nat.add_sub_cancel_left]
    · exact ((hO2 _).trans ho (fun j hj => .inl (.inr (by rw [hj]; rfl))))
end Go.Proofs.Ytgbgdgncdanblaa.DrA
