/-
  EffectWrites: the law's walk. Conditions: as stated.
-/
import Derived.Test.YtgmnnpbbiejbnaaGreatEfI
import Derived.Test.YtgmnnpbbiejbnaaGreatEfC
import Derived.Test.YtgmnnpbbiejbnaaGreatMgM
import Derived.Test.YtgmnnpbbiejbnaaGreatLawR
set_option maxRecDepth 100000
set_option linter.unusedSimpArgs false
set_option linter.unusedVariables false
namespace Go.Proofs.YtgmnnpbbiejbnaaGreat.EfM
open Go.RowKit Go.Proofs.YtgmnnpbbiejbnaaGreat.Mem Go.Proofs.YtgmnnpbbiejbnaaGreat.VaA Go.Proofs.YtgmnnpbbiejbnaaGreat.VaC Go.Proofs.YtgmnnpbbiejbnaaGreat.VaE Go.Proofs.YtgmnnpbbiejbnaaGreat.VaH Go.Proofs.YtgmnnpbbiejbnaaGreat.VaI Go.Proofs.YtgmnnpbbiejbnaaGreat.VaX Go.Proofs.YtgmnnpbbiejbnaaGreat.DuA Go.Proofs.YtgmnnpbbiejbnaaGreat.SpA Go.Proofs.YtgmnnpbbiejbnaaGreat.SpB Go.Proofs.YtgmnnpbbiejbnaaGreat.SpC Go.Proofs.YtgmnnpbbiejbnaaGreat.SpD Go.Proofs.YtgmnnpbbiejbnaaGreat.SpE Go.Proofs.YtgmnnpbbiejbnaaGreat.SpF Go.Proofs.YtgmnnpbbiejbnaaGreat.SpG Go.Proofs.YtgmnnpbbiejbnaaGreat.EfA Go.Proofs.YtgmnnpbbiejbnaaGreat.EfB Go.Proofs.YtgmnnpbbiejbnaaGreat.EfD Go.Proofs.YtgmnnpbbiejbnaaGreat.EfE Go.Proofs.YtgmnnpbbiejbnaaGreat.EfF Go.Proofs.YtgmnnpbbiejbnaaGreat.EfG Go.Proofs.YtgmnnpbbiejbnaaGreat.EfH Go.Proofs.YtgmnnpbbiejbnaaGreat.EfI Go.Proofs.YtgmnnpbbiejbnaaGreat.SpH Go.Proofs.YtgmnnpbbiejbnaaGreat.SpI Go.Proofs.YtgmnnpbbiejbnaaGreat.SpJ Go.Proofs.YtgmnnpbbiejbnaaGreat.SpK Go.Proofs.YtgmnnpbbiejbnaaGreat.SpM Go.Proofs.YtgmnnpbbiejbnaaGreat.SpO Go.Proofs.YtgmnnpbbiejbnaaGreat.SpP Go.Proofs.YtgmnnpbbiejbnaaGreat.SpR Go.Proofs.YtgmnnpbbiejbnaaGreat.SpV Go.Proofs.YtgmnnpbbiejbnaaGreat.SpZ Go.Proofs.YtgmnnpbbiejbnaaGreat.SrC
open Go.Proofs.YtgmnnpbbiejbnaaGreat.VaP (unle unle_lt)
open Go.Proofs.YtgmnnpbbiejbnaaGreat.VbA (decD)
open Go.Proofs.YtgmnnpbbiejbnaaGreat.VbB (NwW DecPost)
open Go.Proofs.YtgmnnpbbiejbnaaGreat.EfL (sure_calls)
open Go.Proofs.YtgmnnpbbiejbnaaGreat.EfC (encodeR_calls)
open Go.Proofs.YtgmnnpbbiejbnaaGreat.LawS (wtE okE)

theorem bytes_le (e : PE) : (bytesE e).length ≤ 17 + e.key.size + (encP e.v).length := by
  have hxx : e.key.data.toList.length = e.key.size := by rw [Array.length_toList]; rfl
  unfold bytesE
  repeat' split
  all_goals (simp only [List.length_cons, List.length_append, le_len, hxx, List.length_nil]; omega)
theorem encL_le {W : World} : ∀ {l : List EV}, (∀ e ∈ l, okE W e) → (encL (l.map peOf)).length ≤ 32 * (l.map wtE).sum
  | [], _ => by simp [encL]
  | e :: r, h => by
    have ih := encL_le (fun x hx => h x (by simp [hx]) : ∀ x ∈ r, okE W x)
    have h1 := bytes_le (peOf e)
    have h2 := enc_pv (h e (by simp)).rd
    unfold encL at ih ⊢
    simp only [List.map_cons, List.flatMap_cons, List.length_append, List.sum_cons]
    unfold peOf at h1
    dsimp only at h1
    unfold wtE at *
    rw [← h2] at h1
    unfold peOf at *
    omega
theorem row_n {l : List EV} : l.length ≤ (l.map wtE).sum := by
  induction l with
  | nil => simp
  | cons a r ih => simp only [List.map_cons, List.sum_cons, List.length_cons]; have : 1 ≤ wtE a := by unfold wtE; omega
                   omega
set_option maxHeartbeats 4000000 in
theorem writes_upto (a0 : Option Addr) (n0 c0 : Nat) (z0 : List EV) (W : World) (R0 : Rd W 8 a0 n0 c0 (z0.flatMap EV.cells)) (L0 : z0.length = n0) (K0 : ∀ x ∈ z0, okE W x) (M0 : (z0.map wtE).sum ≤ 1048576) :
    Calls Tryz.prog 3 #[.slice a0 n0 c0] W fun e w' => e = .returned (.bool true) ∧ Below W.heap.size W w' := by
  have hn0 : n0 ≤ 1048576 := by have := row_n (l := z0); omega
  have hsz : (encL (z0.map peOf)).length ≤ 1000000000000 := Nat.le_trans (encL_le K0) (by omega)
  have hok : ∀ e ∈ z0, RdV W e.x ∧ Sm e.x ∧ e.key.size ≤ 100000000 := fun e he => ⟨(K0 e he).rd, (K0 e he).sm, by have := (K0 e he).key; omega⟩
  obtain ⟨ER, hER⟩ : ∃ ER, EfB.encR (z0.map peOf) = ER := ⟨_, rfl⟩
  obtain ⟨s, k⟩ := ER
  have htw := twin_calls a0 n0 c0 z0 W R0 (fun e he => ⟨(hok e he).1, (hok e he).2.1⟩) (by omega)
  have H := Lib.hid (And.intro R0 (And.intro L0 (And.intro hok (And.intro hsz hER))))
  clear R0 L0 K0 M0 hok hsz hER
  go_enter Tryz.func3, Tryz.ntmps3
  go_wp2_with fail
  refine htw.mono ?_
  clear htw
  rintro e w1 ⟨v1, es1, rfl, F1, b1⟩
  obtain ⟨A1, c1, rfl⟩ := own_form F1.own
  obtain ⟨R0, L0, hok, hsz, hER⟩ := H.out
  obtain ⟨hmap, hval⟩ := evs_map F1.rel
  have hl1 : es1.length = n0 := by have := F1.rel.1; rw [List.length_map] at this; omega
  have rd1 := Rd.of_own F1.own
  rw [hl1] at rd1 ⊢
  have hks : ∀ e ∈ es1, RdV w1 e.x ∧ Sm e.x ∧ e.key.size ≤ 100000000 := fun e he => ⟨(hval e he).1, (hval e he).2, by
    have : peOf e ∈ z0.map peOf := by rw [← hmap]; exact List.mem_map_of_mem he
    obtain ⟨e', he', hp⟩ := List.mem_map.1 this
    have hk := (hok e' he').2.2
    unfold peOf at hp
    injection hp with h1 h2 h3 h4
    rw [← h2]; exact hk⟩
  have hen := EfB.encode_calls A1 n0 c1 es1 w1 rd1 hks (by rw [hmap]; exact hsz)
  rw [hmap, hER] at hen
  dsimp only at hen
  have H1 := Lib.hid (And.intro b1 (And.intro hmap (And.intro rd1 hks)))
  clear F1 hmap hval hl1 rd1 hks b1 R0 L0 hok hsz hER
  go_wp2_with fail
  refine hen.mono ?_
  clear hen
  rintro e w2 ⟨rfl, b2⟩
  obtain ⟨R0, L0, hok, hsz, hER⟩ := H.out
  obtain ⟨b1, hmap, rd1, hks⟩ := H1.out
  have b02 := EfA.bb b1 b2
  have hen := encodeR_calls a0 n0 c0 z0 w2 (R0.below b02) (fun e he => ⟨(hok e he).1.below b02, (hok e he).2⟩) hsz
  rw [hER] at hen
  dsimp only at hen
  have HB2 := Lib.hid (And.intro b2 b02)
  clear b1 hmap rd1 hks b2 b02 R0 L0 hok hsz hER
  go_wp2_with fail
  refine hen.mono ?_
  clear hen
  rintro e w3 ⟨rfl, b3⟩
  obtain ⟨R0, L0, hok, hsz, hER⟩ := H.out
  obtain ⟨b1, hmap, rd1, hks⟩ := H1.out
  have b13 := EfA.bb HB2.out.1 b3
  have b03 := EfA.bb HB2.out.2 b3
  have hse := sameEffects_eq A1 a0 n0 c1 c0 es1 z0 w3 (rd1.below b13) (R0.below b03) (fun e he => (hks e he).1.below b13) (fun e he => (hok e he).1.below b03) hmap
  have HB3 := Lib.hid b03
  have hs0 : (s.toList == s.toList) = true := by simp
  have hk0 : (k == k) = true := by simp
  clear b1 hmap rd1 hks b13 b03 b3 R0 L0 hok hsz hER
  go_wp2_with fail
  refine hse.mono ?_
  clear hse
  rintro e w4 ⟨rfl, b4⟩
  have HB4 := Lib.hid (EfA.bb HB3.out b4)
  clear b4
  go_wp2_with fail
  refine (sure_calls _).mono ?_
  rintro e w5 ⟨rfl, b5⟩
  go_wp2_with fail
  go_ret
  exact ⟨rfl, EfA.bb HB4.out b5⟩
end Go.Proofs.YtgmnnpbbiejbnaaGreat.EfM
