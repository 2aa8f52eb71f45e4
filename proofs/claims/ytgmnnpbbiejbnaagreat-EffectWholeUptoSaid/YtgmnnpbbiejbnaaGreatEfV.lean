/-
  EffectWhole: the law's walk. Conditions: as stated.
-/
import Derived.Test.YtgmnnpbbiejbnaaGreatEfU
set_option maxRecDepth 100000
set_option linter.unusedSimpArgs false
set_option linter.unusedVariables false
namespace Go.Proofs.YtgmnnpbbiejbnaaGreat.EfV
open Go.RowKit Go.Proofs.YtgmnnpbbiejbnaaGreat.Mem Go.Proofs.YtgmnnpbbiejbnaaGreat.VaA Go.Proofs.YtgmnnpbbiejbnaaGreat.VaC Go.Proofs.YtgmnnpbbiejbnaaGreat.VaE Go.Proofs.YtgmnnpbbiejbnaaGreat.VaH Go.Proofs.YtgmnnpbbiejbnaaGreat.VaI Go.Proofs.YtgmnnpbbiejbnaaGreat.VaX Go.Proofs.YtgmnnpbbiejbnaaGreat.DuA Go.Proofs.YtgmnnpbbiejbnaaGreat.SpA Go.Proofs.YtgmnnpbbiejbnaaGreat.SpB Go.Proofs.YtgmnnpbbiejbnaaGreat.SpC Go.Proofs.YtgmnnpbbiejbnaaGreat.SpD Go.Proofs.YtgmnnpbbiejbnaaGreat.SpE Go.Proofs.YtgmnnpbbiejbnaaGreat.SpF Go.Proofs.YtgmnnpbbiejbnaaGreat.SpG Go.Proofs.YtgmnnpbbiejbnaaGreat.EfA Go.Proofs.YtgmnnpbbiejbnaaGreat.EfB Go.Proofs.YtgmnnpbbiejbnaaGreat.EfD Go.Proofs.YtgmnnpbbiejbnaaGreat.EfE Go.Proofs.YtgmnnpbbiejbnaaGreat.EfF Go.Proofs.YtgmnnpbbiejbnaaGreat.EfG Go.Proofs.YtgmnnpbbiejbnaaGreat.EfH Go.Proofs.YtgmnnpbbiejbnaaGreat.EfJ Go.Proofs.YtgmnnpbbiejbnaaGreat.SpH Go.Proofs.YtgmnnpbbiejbnaaGreat.SpI Go.Proofs.YtgmnnpbbiejbnaaGreat.SpJ Go.Proofs.YtgmnnpbbiejbnaaGreat.SpK Go.Proofs.YtgmnnpbbiejbnaaGreat.SpM Go.Proofs.YtgmnnpbbiejbnaaGreat.SpO Go.Proofs.YtgmnnpbbiejbnaaGreat.SpP Go.Proofs.YtgmnnpbbiejbnaaGreat.SpR Go.Proofs.YtgmnnpbbiejbnaaGreat.SpU Go.Proofs.YtgmnnpbbiejbnaaGreat.SpV Go.Proofs.YtgmnnpbbiejbnaaGreat.SpZ Go.Proofs.YtgmnnpbbiejbnaaGreat.SrC Go.Proofs.YtgmnnpbbiejbnaaGreat.SpS Go.Proofs.YtgmnnpbbiejbnaaGreat.SpY Go.Proofs.YtgmnnpbbiejbnaaGreat.EfK Go.Proofs.YtgmnnpbbiejbnaaGreat.EfL Go.Proofs.YtgmnnpbbiejbnaaGreat.EfO Go.Proofs.YtgmnnpbbiejbnaaGreat.EfR Go.Proofs.YtgmnnpbbiejbnaaGreat.EfS Go.Proofs.YtgmnnpbbiejbnaaGreat.EfT Go.Proofs.YtgmnnpbbiejbnaaGreat.EfU
open Go.Proofs.YtgmnnpbbiejbnaaGreat.LawS (okN wtN okE wtE)

/-- A new space, whatever is turned that is not its own. -/
theorem sp0_only {w w' : World} {B z0 : Nat} {U : Lay} (h : Sp w B U 0 ps0) (ho : Only (fun q => ¬ (q < z0 ∨ Ft U q)) w w') : Sp w' B U 0 ps0 := by
  have h1 := sp0_ghost h (fun _ => True)
  have h2 := Sp.only h1 ho (fun k a b => b (.inr a)) (fun k _ a => .inr trivial)
  exact sp0_ghost h2 U.X
theorem pz_new3 {W w1 w2 w3 : World} {gs gt gu : Nat} (hs : Su w1 W.heap.size gs 0 ps0 (fun k => k < W.heap.size)) (b1 : Below W.heap.size W w1) (ht : Su w2 w1.heap.size gt 0 ps0 (fun k => k < w1.heap.size)) (b2 : Below w1.heap.size w1 w2) (hu : Su w3 w2.heap.size gu 0 ps0 (fun k => k < w2.heap.size)) (b3 : Below w2.heap.size w2 w3) :
    ∃ U : Lay, U.g = gu ∧ Sp w3 W.heap.size U 0 ps0 ∧ (∀ k, Ft U k → W.heap.size ≤ k) ∧ Pz w3 W.heap.size gs gt 0 0 ps0 ps0 (fun q => q < W.heap.size ∨ Ft U q) (Ft U) := by
  obtain ⟨⟨F, rfl, hs, -, -⟩, -⟩ := hs
  obtain ⟨⟨G, rfl, ht, -, -⟩, -⟩ := ht
  obtain ⟨⟨U, rfl, hu, -, -⟩, -⟩ := hu
  have z1 := b1.size
  have z2 := b2.size
  have z3 := b3.size
  have h1 := sp0_ghost ((hs.below b2).below b3) (fun k => Ft G k ∨ Ft U k)
  have h2 := sp0_ghost ((sp_less ht b1.size).below b3) (fun k => Ft F k ∨ Ft U k)
  refine ⟨U, rfl, sp_less hu (Nat.le_trans z1 z2), fun k e => by have := (hu.lt k e).1; omega, ⟨{ F with X := fun k => Ft G k ∨ Ft U k }, { G with X := fun k => Ft F k ∨ Ft U k }, rfl, rfl, h1, h2, fun k => Iff.rfl, fun k => Iff.rfl, fun k a b => ?_, fun k q => ?_⟩, fun k e => .inr e, by omega⟩
  · have a1 := (hs.lt k a).2
    have a2 := (ht.lt k b).1
    omega
  · rcases q with q | q
    · exact ⟨by omega, fun e => by have := (hs.lt k e).1; omega, fun e => by have := (ht.lt k e).1; omega⟩
    · have q1 := hu.lt k q
      exact ⟨q1.2, fun e => by have := (hs.lt k e).2; omega, fun e => by have := (ht.lt k e).2; omega⟩
theorem pz_third {w : World} {B z0 gs gt N M : Nat} {s t : PS} {U : Lay} (h : Pz w B gs gt N M s t (fun q => q < z0 ∨ Ft U q) (Ft U)) (hu : Sp w B U 0 ps0) (hz : ∀ k, Ft U k → z0 ≤ k) : Pz w B U.g gs 0 N ps0 s (fun q => q < z0) (fun _ => False) := by
  obtain ⟨⟨F, G, e1, e2, hs, ht, x1, x2, hd, hk⟩, hzk, hz0⟩ := h
  have h1 := hs.ghost (X' := fun k => Ft U k ∨ False) (fun k _ e => (x1 k).2 (.inr (e.elim id False.elim)))
  refine ⟨⟨{ U with X := fun k => Ft F k ∨ False }, { F with X := fun k => Ft U k ∨ False }, rfl, e1, sp0_ghost hu _, h1, fun k => Iff.rfl, fun k => Iff.rfl, fun k a b => (hk k (.inr a)).2.1 b, fun k q => ⟨(hk k (.inl q)).1, fun e => by have := hz k e; omega, (hk k (.inl q)).2.1⟩⟩, fun _ e => e.elim, hz0⟩
theorem rows_take {α : Type} {c : α → List Value} {n : Nat} (hc : ∀ a, (c a).length = n) : ∀ (l : List α) (k : Nat), (rows c l).take (k * n) = rows c (l.take k)
  | [], k => by simp [rows]
  | a :: r, 0 => by simp [rows]
  | a :: r, k + 1 => by
    have ih := rows_take hc r k
    unfold rows at ih ⊢
    rw [List.flatMap_cons, List.take_succ_cons, List.flatMap_cons, Nat.succ_mul, Nat.add_comm (k * n) n, List.take_append, hc, Nat.add_sub_cancel_left, ih, List.take_of_length_le (by rw [hc]; omega)]
theorem rows_drop {α : Type} {c : α → List Value} {n : Nat} (hc : ∀ a, (c a).length = n) : ∀ (l : List α) (k : Nat), (rows c l).drop (k * n) = rows c (l.drop k)
  | [], k => by simp [rows]
  | a :: r, 0 => by simp [rows]
  | a :: r, k + 1 => by
    have ih := rows_drop hc r k
    unfold rows at ih ⊢
    rw [List.flatMap_cons, List.drop_succ_cons, Nat.succ_mul, Nat.add_comm (k * n) n, List.drop_append, hc, Nat.add_sub_cancel_left, ih, List.drop_eq_nil_of_le (by rw [hc]; omega), List.nil_append]
theorem evs_take {w : World} {S : Nat → Prop} {es : List EV} {l : List PE} (h : EVs w S es l) (k : Nat) : EVs w S (es.take k) (l.take k) := by
  refine ⟨by rw [List.length_take, List.length_take, h.1], fun i e p he hp => ?_⟩
  rw [List.getElem?_take] at he hp
  split at he
  · rename_i hi; rw [if_pos hi] at hp; exact h.2 i e p he hp
  · cases he
theorem evs_drop {w : World} {S : Nat → Prop} {es : List EV} {l : List PE} (h : EVs w S es l) (k : Nat) : EVs w S (es.drop k) (l.drop k) := by
  refine ⟨by rw [List.length_drop, List.length_drop, h.1], fun i e p he hp => ?_⟩
  rw [List.getElem?_drop] at he hp
  exact h.2 _ e p he hp
theorem again_app (s : PS) (a b : List PE) : againS (againS s a) b = againS s (a ++ b) := by unfold againS; rw [List.foldl_append]
theorem app_all {l : List PE} (h : l.all mayP = true) : appE l = l := by unfold appE; rw [if_pos h]
theorem all_take {l : List PE} (h : l.all mayP = true) (k : Nat) : (l.take k).all mayP = true ∧ (l.drop k).all mayP = true :=
  ⟨List.all_eq_true.2 (fun e he => List.all_eq_true.1 h e (List.mem_of_mem_take he)), List.all_eq_true.2 (fun e he => List.all_eq_true.1 h e (List.mem_of_mem_drop he))⟩
set_option maxHeartbeats 16000000 in
theorem whole_upto (a0 : Option Addr) (n0 c0 : Nat) (z0 : List EN) (a1 : Option Addr) (n1 c1 : Nat) (z1 : List EV) (a2 : Int) (W : World)
    (R0 : Rd W 8 a0 n0 c0 (z0.flatMap EN.cells)) (L0 : z0.length = n0) (K0 : ∀ x ∈ z0, okN W x) (M0 : (z0.map wtN).sum ≤ 1048576)
    (R1 : Rd W 8 a1 n1 c1 (z1.flatMap EV.cells)) (L1 : z1.length = n1) (K1 : ∀ x ∈ z1, okE W x) (M1 : (z1.map wtE).sum ≤ 1048576) (lo2 : -9223372036854775808 ≤ a2) (hi2 : a2 ≤ 9223372036854775807) :
    Calls Tryz.prog 6 #[.slice a0 n0 c0, .slice a1 n1 c1, .int .i64 a2] W fun e w' => e = .returned (.bool true) ∧ Below W.heap.size W w' := by
  have hN0 : n0 ≤ 1048576 := by have := rowN_n (l := z0); omega
  have hN1 : n1 ≤ 1048576 := by have := rowE_n (l := z1); omega
  have hcap0 := R0.cap
  have hbig0 := R0.big
  have hcap1 := R1.cap
  have hbig1 := R1.big
  unfold maxLen at hbig0 hbig1
  obtain ⟨l, hl⟩ : ∃ l, z0.map bhOf = l := ⟨_, rfl⟩
  obtain ⟨x, hx⟩ : ∃ x, z1.map peOf = x := ⟨_, rfl⟩
  have hll : l.length = n0 := by rw [← hl, List.length_map, L0]
  have hxl : x.length = n1 := by rw [← hx, List.length_map, L1]
  have E0 : ENs W (fun q => ¬ q < W.heap.size) z0 l := by rw [← hl]; exact ens_arg K0
  have E1 : EVs W (fun q => ¬ q < W.heap.size) z1 x := by rw [← hx]; exact evs_arg K1
  have ZL : (bytesL l).length ≤ 33554432 := by rw [← hl]; exact Nat.le_trans (bytes_arg K0) (by omega)
  have OK1 : ∀ e ∈ z1, RdV W e.x ∧ Sm e.x := fun e he => ⟨(K1 e he).rd, (K1 e he).sm⟩
  have T1 : ∀ p ∈ x, Tame p := by rw [← hx]; exact tame_arg K1
  have WX : WS x ≤ 33554432 := by rw [← hx]; exact Nat.le_trans (ws_arg K1) (by omega)
  have ky0 : ∀ e ∈ l, e.1.size ≤ 100000000 := by
    rw [← hl]; intro e he
    obtain ⟨y, hy, rfl⟩ := List.mem_map.1 he
    have := (K0 y hy).key; show y.key.size ≤ _; omega
  have A0 : ∀ ad, a0 = some ad → 0 < n0 → ad.block < W.heap.size := fun ad e hn => by
    obtain ⟨ad', e', hlt⟩ := R0.lt (by intro e2; have := rows_len (c := EN.cells) en_len z0; unfold rows at this; rw [e2] at this; simp at this; omega)
    rw [e] at e'; injection e' with e'; rw [e']; exact hlt
  have A1 : ∀ ad, a1 = some ad → 0 < n1 → ad.block < W.heap.size := fun ad e hn => by
    obtain ⟨ad', e', hlt⟩ := R1.lt (by intro e2; have := rows_len (c := EV.cells) ev_len z1; unfold rows at this; rw [e2] at this; simp at this; omega)
    rw [e] at e'; injection e' with e'; rw [e']; exact hlt
  obtain ⟨RE, hRE⟩ : ∃ r, ldE l = r := ⟨_, rfl⟩
  obtain ⟨s0, hs0⟩ : ∃ r, ldP l = r := ⟨_, rfl⟩
  obtain ⟨K0N, hK0N⟩ : ∃ r, ldN l = r := ⟨_, rfl⟩
  have BL := bo_ld l
  have ON := ld_on l
  rw [hs0, hK0N, hll] at BL
  rw [hs0] at ON
  have hNq := BL.n
  have HA := Lib.hid (And.intro R0 (And.intro E0 (And.intro ky0 (And.intro A0 (And.intro hll (And.intro hRE (And.intro hs0 (And.intro hK0N ZL))))))))
  have HX := Lib.hid (And.intro R1 (And.intro E1 (And.intro T1 (And.intro A1 (And.intro hxl (And.intro WX (And.intro OK1 hx)))))))
  have HL := Lib.hid (And.intro BL ON)
  clear R0 L0 K0 M0 R1 L1 K1 M1 E0 E1 T1 WX ky0 A0 A1 hll hxl hRE hs0 hK0N BL ON hl hx ZL OK1
  go_enter Tryz.func6, Tryz.ntmps6
  go_wp2_with fail
  refine (su_new W).mono ?_
  rintro e w1 ⟨gs, rfl, S1, B1⟩
  have HS1 := Lib.hid (And.intro S1 B1)
  clear S1 B1
  go_wp2_with fail
  refine (su_new w1).mono ?_
  rintro e w2 ⟨gt, rfl, S2, B2⟩
  have HS2 := Lib.hid (And.intro S2 B2)
  clear S2 B2
  go_wp2_with fail
  refine (su_new w2).mono ?_
  rintro e w3 ⟨gu, rfl, S3, B3⟩
  obtain ⟨U, rfl, U3, UZ, P3⟩ := pz_new3 HS1.out.1 HS1.out.2 HS2.out.1 HS2.out.2 S3 B3
  have O3 : Only (fun q => ¬ q < W.heap.size) W w3 := SpU.only_b (EfJ.bb (EfJ.bb HS1.out.2 HS2.out.2) B3)
  have HO3 := Lib.hid (And.intro O3 U3)
  have HUZ := Lib.hid UZ
  have hd := by
    obtain ⟨R0, E0, ky0, A0, hll, hRE, hs0, hK0N, -⟩ := HA.out
    exact load_pz0 P3 (rd_move R0 O3 (fun ad _ _ hb q => q hb)) (fun ad e h => .inl (A0 ad e h)) (E0.move O3 (fun _ _ e => e) (fun _ _ e q => e (.inl q))) ky0 (by omega) hll hRE hs0 hK0N
  clear S3 B3 P3 O3 U3 UZ HS1 HS2
  go_wp2_with fail
  refine hd.mono ?_
  clear hd
  rintro e w4 ⟨rfl, P4, O4⟩
  have HO4 := Lib.hid (And.intro (HO3.out.1.trans O4 (fun q e => .inl (fun h => e (.inl h)))) (sp0_only HO3.out.2 O4))
  have hd := by
    obtain ⟨R0, E0, ky0, A0, hll, hRE, hs0, hK0N, -⟩ := HA.out
    exact load_pz0 P4.swap (rd_move R0 HO4.out.1 (fun ad _ _ hb q => q hb)) (fun ad e h => .inl (A0 ad e h)) (E0.move HO4.out.1 (fun _ _ e => e) (fun _ _ e q => e (.inl q))) ky0 (by omega) hll hRE hs0 hK0N
  clear P4 O4 HO3
  go_wp2_with fail
  refine hd.mono ?_
  clear hd
  rintro e w5 ⟨rfl, P5, O5⟩
  have HO5 := Lib.hid (And.intro (HO4.out.1.trans O5 (fun q e => .inl (fun h => e (.inl h)))) (sp0_only HO4.out.2 O5))
  have hRR : (RE != RE) = false := by simp
  have P6 := P5.swap
  have HP := Lib.hid P6
  clear P5 O5 HO4 P6
  go_wp2_with fail
  go_loopw [10, 11] (fun f i wr => ∃ k : Nat, k ≤ n1 ∧ i = .int .i64 k ∧ f = .bool ((x.take k).all mayP) ∧ Below w5.heap.size w5 wr) (fun _ i _ => n1 - (intOf i).toNat)
  case atStart => exact ⟨0, Nat.zero_le _, rfl, rfl, Below.refl _ _⟩
  case round =>
    obtain ⟨k, hk, rfl, rfl, hb⟩ := hrel
    by_cases hlt : k < n1
    · obtain ⟨R1, E1, T1, A1, hxl, WX, hok, hx⟩ := HX.out
      have L1 : z1.length = n1 := by rw [← hxl, ← hx, List.length_map]
      obtain ⟨e0, he0⟩ : ∃ e0, z1[k]? = some e0 := ⟨_, List.getElem?_eq_getElem (by omega)⟩
      obtain ⟨rv, sm⟩ := hok e0 (List.mem_of_getElem? he0)
      have hp0 : x[k]? = some (peOf e0) := by rw [← hx, List.getElem?_map, he0]; rfl
      have hst : (x.take (k + 1)).all mayP = ((x.take k).all mayP && mayP (peOf e0)) := by
        rw [List.take_add_one, hp0, Option.toList_some, List.all_append]; simp
      have oW : Only (fun q => ¬ q < W.heap.size) W wr := HO5.out.1.trans (SpU.only_b hb : Only (fun q => ¬ q < W.heap.size) w5 wr) (fun q e => .inl e)
      obtain ⟨pa, rfl, cx⟩ := rd_rows_get (c := EV.cells) ev_len (rd_move R1 oW (fun ad _ _ hb q => q hb)) he0 (by decide)
      have hrv : RdV wr e0.x := ((E1.2 k e0 _ he0 hp0).2.2.2.move oW (fun _ _ e => e) (fun _ _ e => e) : Vok wr (fun q => ¬ q < W.heap.size) _ _).rd
      have hmy := mayR_calls e0 wr hrv sm
      obtain ⟨kd, key, xv, due⟩ := e0
      dsimp only at rv sm
      obtain ⟨mb, hmb⟩ : ∃ mb, mayP (peOf ⟨kd, key, xv, due⟩) = mb := ⟨_, rfl⟩
      rw [hmb] at hmy hst
      unfold evV at hmy
      dsimp only at hmy
      have g0 : wr.cell? (pa.add (k * 8)) = some (.int .i64 kd) := cx 0 _ rfl
      have g1 : wr.cell? ⟨(pa.add (k * 8)).block, (pa.add (k * 8)).off + 1, none⟩ = some (.string key) := cx 1 _ rfl
      have g2 : wr.cell? ⟨(pa.add (k * 8)).block, (pa.add (k * 8)).off + 2, none⟩ = some (.int .i64 xv.kind) := cx 2 _ rfl
      have g3 : wr.cell? ⟨(pa.add (k * 8)).block, (pa.add (k * 8)).off + 3, none⟩ = some (.string xv.text) := cx 3 _ rfl
      have g4 : wr.cell? ⟨(pa.add (k * 8)).block, (pa.add (k * 8)).off + 4, none⟩ = some (.slice xv.LA xv.ln xv.lc) := cx 4 _ rfl
      have g5 : wr.cell? ⟨(pa.add (k * 8)).block, (pa.add (k * 8)).off + 5, none⟩ = some (.slice xv.FA xv.fn xv.fc) := cx 5 _ rfl
      have g6 : wr.cell? ⟨(pa.add (k * 8)).block, (pa.add (k * 8)).off + 6, none⟩ = some (.slice xv.KA xv.kn xv.kc) := cx 6 _ rfl
      have g7 : wr.cell? ⟨(pa.add (k * 8)).block, (pa.add (k * 8)).off + 7, none⟩ = some (.int .i64 due) := cx 7 _ rfl
      obtain ⟨fb, hfb⟩ : ∃ fb, (x.take k).all mayP = fb := ⟨_, rfl⟩
      rw [hfb] at hst ⊢
      have hkn : ((k : Nat) : Int) < (n1 : Int) := by omega
      have HQ := Lib.hid (And.intro hst hb)
      clear R1 E1 T1 A1 hxl WX hok hx L1 he0 rv sm hp0 hst oW cx hrv hmb hfb hb
      cases fb with
      | true =>
        go_wp2_with fail
        refine hmy.mono ?_
        clear hmy g0 g1 g2 g3 g4 g5 g6 g7
        rintro e wm ⟨rfl, b4⟩
        go_wp2_with fail
        exact ⟨⟨k + 1, by omega, by go_num, by rw [HQ.out.1]; simp, EfA.bb HQ.out.2 b4⟩, by simp [intOf]; omega⟩
      | false =>
        clear hmy g0 g1 g2 g3 g4 g5 g6 g7
        go_wp2_with fail
        exact ⟨⟨k + 1, by omega, by go_num, by rw [HQ.out.1]; simp, HQ.out.2⟩, by simp [intOf]; omega⟩
    · obtain rfl : k = n1 := by omega
      rw [List.take_of_length_le (Nat.le_of_eq HX.out.2.2.2.2.1)]
      have P7 := HP.out.below hb
      have HO7 := Lib.hid (And.intro (HO5.out.1.trans (SpU.only_b hb : Only (fun q => ¬ q < W.heap.size) w5 wr) (fun q e => .inl e)) (sp0_only (z0 := W.heap.size) HO5.out.2 (SpU.only_b hb)))
      clear hb HP HO5
      obtain ⟨fb, hfb⟩ : ∃ fb, x.all mayP = fb := ⟨_, rfl⟩
      rw [hfb]
      cases fb with
      | true =>
        as_aux_lemma =>
          have hfb2 := Lib.hid hfb
          clear hfb
          go_upto_region 11 with fail
          obtain ⟨q, hq, hqn⟩ : ∃ q : Nat, max (0 : Int) (min a2 (k : Int)) = (q : Int) ∧ q ≤ k := ⟨(max (0 : Int) (min a2 (k : Int))).toNat, by omega, by omega⟩
          rw [hq]
          obtain ⟨cp, hcp⟩ : ∃ cp, cp = c1 := ⟨_, rfl⟩
          have hqc : (q : Int) ≤ (k : Int) := by omega
          have hq0 : (0 : Int) ≤ (q : Int) := by omega
          have hd := by
            obtain ⟨R1, E1, T1, A1, hxl, WX, -⟩ := HX.out
            exact apply_all P7 a1 k c1 z1 x (rd_move R1 HO7.out.1 (fun ad _ _ hb q => q hb)) (fun ad e h => .inl (A1 ad e h)) (E1.move HO7.out.1 (fun _ _ e => e) (fun _ _ e q => e (.inl q))) (fun p hp => (T1 p hp).key) HL.out.1 (by omega)
          clear P7 hq hcp
          go_wp2_with fail
          refine hd.mono ?_
          clear hd
          rintro e w8 ⟨r8, N8, rfl, hr8, P8, B8, O8⟩
          obtain rfl := hr8 hfb2.out
          rw [app_all hfb2.out] at P8 B8
          have HO8 := Lib.hid (And.intro (HO7.out.1.trans O8 (fun q e => .inl (fun h => e (.inl h)))) (sp0_only HO7.out.2 O8))
          have HB8 := Lib.hid B8
          have hd := by
            obtain ⟨R1, E1, T1, A1, hxl, WX, -⟩ := HX.out
            have rd8 := (rd_move R1 HO8.out.1 (fun ad _ _ hb q => q hb)).take hqn
            have R1' : Rd w8 8 a1 q c1 (rows EV.cells (z1.take q)) := by rw [← rows_take ev_len]; exact rd8
            exact apply_all P8.swap a1 q c1 (z1.take q) (x.take q) R1' (fun ad e h => .inl (A1 ad e (by omega))) ((evs_take E1 q).move HO8.out.1 (fun _ _ e => e) (fun _ _ e q => e (.inl q))) (fun p hp => (T1 p (List.mem_of_mem_take hp)).key) HL.out.1 (by omega)
          clear P8 O8 HO7 B8
          go_wp2_with fail
          refine hd.mono ?_
          clear hd
          rintro e w9 ⟨r9, N9, rfl, hr9, P9, B9, O9⟩
          obtain rfl := hr9 (all_take hfb2.out q).1
          rw [app_all (all_take hfb2.out q).1] at P9 B9
          have HO9 := Lib.hid (And.intro (HO8.out.1.trans O9 (fun q e => .inl (fun h => e (.inl h)))) (sp0_only HO8.out.2 O9))
          by_cases hcq : c1 = q
          · have hcq2 := hcq.symm
            clear hcq
            subst hcq2
            have hd := by
              obtain ⟨R1, E1, T1, A1, hxl, WX, -⟩ := HX.out
              have rd8 := (rd_move R1 HO9.out.1 (fun ad _ _ hb q => q hb)).drop hqn
              have h0 : k - q = 0 := by omega
              rw [if_pos rfl, Nat.sub_self, h0] at rd8
              have R1' : Rd w9 8 a1 0 0 (rows EV.cells (z1.drop q)) := by rw [← rows_drop ev_len]; exact rd8
              exact apply_all P9 a1 0 0 (z1.drop q) (x.drop q) R1' (fun ad e h => absurd h (Nat.lt_irrefl 0)) ((evs_drop E1 q).move HO9.out.1 (fun _ _ e => e) (fun _ _ e q => e (.inl q))) (fun p hp => (T1 p (List.mem_of_mem_drop hp)).key) B9 (by omega)
            clear P9 O9 HO8 B9
            go_wp2_with fail
            refine hd.mono ?_
            clear hd
            rintro e w10 ⟨r10, N10, rfl, hr10, P10, B10, O10⟩
            obtain rfl := hr10 (all_take hfb2.out q).2
            rw [app_all (all_take hfb2.out q).2, again_app, List.take_append_drop] at P10 B10
            have HO10 := Lib.hid (And.intro (HO9.out.1.trans O10 (fun q e => .inl (fun h => e (.inl h)))) (sp0_only HO9.out.2 O10))
            obtain ⟨s1, hs1⟩ : ∃ s, againS s0 x = s := ⟨_, rfl⟩
            rw [hs1] at P10
            have B8 := HB8.out
            rw [hs1] at B8
            have hNA := B8.n
            have hNB : N10 ≤ 400000000 := by have := B10.n; omega
            obtain ⟨mm, hmm⟩ : ∃ mm, s1.l.length = mm := ⟨_, rfl⟩
            have hmb : mm ≤ 10000000 - k := by rw [← hmm]; omega
            have ZB : (bytesL s1.l).length ≤ 100000000 := by
              have h1 := B8.z
              have h2 := HA.out.2.2.2.2.2.2.2.2
              have h3 := HX.out.2.2.2.2.2.1
              omega
            have HU := Lib.hid (And.intro hmm ZB)
            clear O10 HO9 B10 B8 HB8 hs1 hmm ZB
            have P11 := P10.swap
            clear P10
            go_wp2_with fail
            refine (entries_su (su_pz P11) (l := s1.l) rfl (by omega)).mono ?_
            rintro e w11 ⟨v11, es11, rfl, F11, B11⟩
            obtain ⟨A11, c11, rfl⟩ := own_form F11.own
            have hl11 : es11.length = mm := F11.rel.1.trans HU.out.1
            rw [hl11]
            have P12 := P11.below B11
            clear P11
            go_wp2_with fail
            refine (entries_su (su_pz P12.swap) (l := s1.l) rfl hNB).mono ?_
            rintro e w12 ⟨v12, es12, rfl, F12, B12⟩
            obtain ⟨A12, c12, rfl⟩ := own_form F12.own
            have hl12 : es12.length = mm := F12.rel.1.trans HU.out.1
            rw [hl12]
            have P13 := P12.below B12
            have hse := by
              have F11' := F11.below B12
              have rd11' := Rd.of_own F11'.own
              rw [hl11] at rd11'
              have rd12 := Rd.of_own F12.own
              rw [hl12] at rd12
              exact sameEntries_eq A11 A12 mm c11 c12 es11 es12 s1.l w12 rd11' rd12 F11'.rel F12.rel
            have hB12 := Lib.hid (EfJ.bb B11 B12)
            clear P12 F11 F12 B11 B12 hl11 hl12
            go_wp2_with fail
            refine hse.mono ?_
            clear hse
            rintro e w13 ⟨rfl, B13⟩
            have P14 := P13.below B13
            have B20 : Below w10.heap.size w10 w13 := EfJ.bb hB12.out B13
            have HO20 := Lib.hid (And.intro (HO10.out.1.trans (SpU.only_b B20 : Only (fun q => ¬ q < W.heap.size) w10 w13) (fun q e => .inl e)) (sp0_only (z0 := W.heap.size) HO10.out.2 (SpU.only_b B20)))
            have PP := pz_third P14 HO20.out.2 HUZ.out
            have HO21 := Lib.hid HO20.out.1
            clear P13 P14 B13 B20 hB12 HO10 HO20
            have hi1 := (su_pz PP.swap).inv
            have hsm := snap_may hi1
            have hsk : ∀ e ∈ snapP s1.l, e.key.size ≤ 100000000 := fun e he => by
              obtain ⟨y, hy, rfl⟩ := List.mem_map.1 he
              exact hi1.key y hy
            have hsl : (snapP s1.l).length = mm := by unfold snapP; rw [List.length_map]; exact HU.out.1
            have hcore := snap_all hi1
            have hby := bytes_core hcore
            have hln := congrArg List.length hcore
            rw [List.length_map, List.length_map] at hln
            have HSN := Lib.hid (And.intro hsm (And.intro hsk (And.intro hsl (And.intro hby hln))))
            clear hi1 hsm hsk hsl hcore hby hln
            go_wp2_with fail
            refine (snap_su (su_pz PP.swap) (by omega) (by rw [HU.out.1]; omega)).mono ?_
            rintro e wa ⟨va, esa, rfl, Fa, Ba⟩
            obtain ⟨Aa, ca, rfl⟩ := own_form Fa.own
            have hla : esa.length = mm := Fa.rel.1.trans HSN.out.2.2.1
            obtain ⟨z8, hz8⟩ : ∃ z, w13.heap.size = z := ⟨_, rfl⟩
            have hap := by
              have P9 := pz_keep PP Ba (Kq := fun q => q < W.heap.size ∨ (z8 ≤ q ∧ q < wa.heap.size)) (fun q e => e.imp id (fun e => ⟨by rw [hz8]; exact e.1, e.2⟩)) (fun _ e => e.elim)
              have rd9 := Rd.of_own Fa.own
              rw [hla] at rd9
              refine apply_all P9 Aa mm ca esa (snapP s1.l) rd9 (fun ad e h0 => .inr ?_) (Fa.rel.move (Only.refl (fun _ => False) wa) (fun _ _ e => e.elim) (fun q hq e => .inl ?_)) HSN.out.2.1 bo_0 (by omega)
              · have := Fa.own.lt ad.block (by rw [e]; rfl)
                rw [hz8] at this
                exact this
              · by_cases hw : q < z8
                · rw [hz8]; exact hw
                · exact absurd (.inr ⟨Nat.not_lt.1 hw, hq⟩) e
            rw [hla]
            have HOa := Lib.hid (HO21.out.trans (SpU.only_b Ba : Only (fun q => ¬ q < W.heap.size) w13 wa) (fun q e => .inl e))
            clear PP Ba Fa hla HO21
            go_wp2_with fail
            refine hap.mono ?_
            clear hap
            rintro e wb ⟨rb, Nb, rfl, hrb, Pb, Bb, Ob⟩
            obtain rfl := hrb HSN.out.1
            rw [app_all HSN.out.1] at Pb Bb
            obtain ⟨u, hu⟩ : ∃ u, againS ps0 (snapP s1.l) = u := ⟨_, rfl⟩
            have hub := HSN.out.2.2.2.1
            have hul := HSN.out.2.2.2.2
            rw [hu] at Pb Bb hub hul
            have hNb : Nb ≤ 400000000 := by have := Bb.n; omega
            have hulm : u.l.length = mm := hul.trans HU.out.1
            obtain ⟨bs, hbs⟩ : ∃ bs : ByteArray, (⟨(bytesL s1.l).toArray⟩ : ByteArray) = bs := ⟨_, rfl⟩
            have hbs2 : (⟨(bytesL u.l).toArray⟩ : ByteArray) = bs := by rw [hub]; exact hbs
            have hbz2 : (bytesL u.l).length ≤ 1000000000000 := by rw [hub]; have := HU.out.2; omega
            have Ob' : Only (fun q => ¬ q < W.heap.size) W wb := HOa.out.trans Ob (fun q e => .inl (fun h => e (.inl h)))
            have HOb := Lib.hid Ob'
            have HV := Lib.hid (And.intro hbs (And.intro hbs2 (And.intro hbz2 hulm)))
            clear Ob Ob' HOa hub hul hu Bb hz8 hbs hbs2 hbz2 hulm
            go_wp2_with fail
            refine (bytes_su (su_pz Pb) HV.out.2.1 hNb HV.out.2.2.1).mono ?_
            rintro e wc ⟨rfl, Bc⟩
            have Pc := Pb.below Bc
            clear Pb
            go_wp2_with fail
            refine (bytes_su (su_pz Pc.swap) HV.out.1 (by omega) (by have := HU.out.2; omega)).mono ?_
            rintro e wd ⟨rfl, Bd⟩
            have Pd := Pc.below Bd
            have hbb : (bs.toList == bs.toList) = true := by simp
            have Bcd := Lib.hid (EfJ.bb Bc Bd)
            clear Pc Bc Bd
            go_wp2_with fail
            refine (entries_su (su_pz Pd) rfl hNb).mono ?_
            rintro e we ⟨ve, ese, rfl, Fe, Be⟩
            obtain ⟨Ae, ce, rfl⟩ := own_form Fe.own
            have hle : ese.length = mm := Fe.rel.1.trans HV.out.2.2.2
            rw [hle]
            have Pe := Pd.below Be
            have Bce := Lib.hid (EfJ.bb Bcd.out Be)
            clear Pd Fe Be Bcd
            go_wp2_with fail
            refine (entries_su (su_pz Pe.swap) (l := s1.l) rfl (by omega)).mono ?_
            rintro e wf ⟨vf, esf, rfl, Ff, Bf⟩
            obtain ⟨Af, cf, rfl⟩ := own_form Ff.own
            have hlf : esf.length = mm := Ff.rel.1.trans HU.out.1
            rw [hlf]
            have Bcf := Lib.hid (EfJ.bb Bce.out Bf)
            have hmmm : ((mm : Int) == (mm : Int)) = true := by simp
            clear Pe Ff Bf Bce
            go_wp2_with fail
            refine (sure_calls wf).mono ?_
            rintro e wg ⟨rfl, Bg⟩
            have Og : Only (fun q => ¬ q < W.heap.size) W wg := HOb.out.trans (SpU.only_b (EfJ.bb Bcf.out Bg) : Only (fun q => ¬ q < W.heap.size) wb wg) (fun q e => .inl e)
            clear Bg Bcf HOb
            go_wp2_with fail
            go_ret
            exact ⟨rfl, ⟨Og.os, Og.tape, Og.output, Og.size, fun k hk => Og.block k hk (fun q => q hk)⟩⟩
          · have hd := by
              obtain ⟨R1, E1, T1, A1, hxl, WX, -⟩ := HX.out
              have rd8 := (rd_move R1 HO9.out.1 (fun ad _ _ hb q => q hb)).drop hqn
              rw [if_neg hcq] at rd8
              have R1' : Rd w9 8 (a1.map (·.add (q * 8))) (k - q) (c1 - q) (rows EV.cells (z1.drop q)) := by rw [← rows_drop ev_len]; exact rd8
              refine apply_all P9 (a1.map (·.add (q * 8))) (k - q) (c1 - q) (z1.drop q) (x.drop q) R1' (fun ad e h => .inl ?_) ((evs_drop E1 q).move HO9.out.1 (fun _ _ e => e) (fun _ _ e q => e (.inl q))) (fun p hp => (T1 p (List.mem_of_mem_drop hp)).key) B9 (by omega)
              rw [Option.map_eq_some_iff] at e
              obtain ⟨b, e1, rfl⟩ := e
              rw [Mem.add_block]; exact A1 b e1 (by omega)
            clear P9 O9 HO8 B9
            go_wp2_with fail
            refine hd.mono ?_
            clear hd
            rintro e w10 ⟨r10, N10, rfl, hr10, P10, B10, O10⟩
            obtain rfl := hr10 (all_take hfb2.out q).2
            rw [app_all (all_take hfb2.out q).2, again_app, List.take_append_drop] at P10 B10
            have HO10 := Lib.hid (And.intro (HO9.out.1.trans O10 (fun q e => .inl (fun h => e (.inl h)))) (sp0_only HO9.out.2 O10))
            obtain ⟨s1, hs1⟩ : ∃ s, againS s0 x = s := ⟨_, rfl⟩
            rw [hs1] at P10
            have B8 := HB8.out
            rw [hs1] at B8
            have hNA := B8.n
            have hNB : N10 ≤ 400000000 := by have := B10.n; omega
            obtain ⟨mm, hmm⟩ : ∃ mm, s1.l.length = mm := ⟨_, rfl⟩
            have hmb : mm ≤ 10000000 - k := by rw [← hmm]; omega
            have ZB : (bytesL s1.l).length ≤ 100000000 := by
              have h1 := B8.z
              have h2 := HA.out.2.2.2.2.2.2.2.2
              have h3 := HX.out.2.2.2.2.2.1
              omega
            have HU := Lib.hid (And.intro hmm ZB)
            clear O10 HO9 B10 B8 HB8 hs1 hmm ZB
            have P11 := P10.swap
            clear P10
            go_wp2_with fail
            refine (entries_su (su_pz P11) (l := s1.l) rfl (by omega)).mono ?_
            rintro e w11 ⟨v11, es11, rfl, F11, B11⟩
            obtain ⟨A11, c11, rfl⟩ := own_form F11.own
            have hl11 : es11.length = mm := F11.rel.1.trans HU.out.1
            rw [hl11]
            have P12 := P11.below B11
            clear P11
            go_wp2_with fail
            refine (entries_su (su_pz P12.swap) (l := s1.l) rfl hNB).mono ?_
            rintro e w12 ⟨v12, es12, rfl, F12, B12⟩
            obtain ⟨A12, c12, rfl⟩ := own_form F12.own
            have hl12 : es12.length = mm := F12.rel.1.trans HU.out.1
            rw [hl12]
            have P13 := P12.below B12
            have hse := by
              have F11' := F11.below B12
              have rd11' := Rd.of_own F11'.own
              rw [hl11] at rd11'
              have rd12 := Rd.of_own F12.own
              rw [hl12] at rd12
              exact sameEntries_eq A11 A12 mm c11 c12 es11 es12 s1.l w12 rd11' rd12 F11'.rel F12.rel
            have hB12 := Lib.hid (EfJ.bb B11 B12)
            clear P12 F11 F12 B11 B12 hl11 hl12
            go_wp2_with fail
            refine hse.mono ?_
            clear hse
            rintro e w13 ⟨rfl, B13⟩
            have P14 := P13.below B13
            have B20 : Below w10.heap.size w10 w13 := EfJ.bb hB12.out B13
            have HO20 := Lib.hid (And.intro (HO10.out.1.trans (SpU.only_b B20 : Only (fun q => ¬ q < W.heap.size) w10 w13) (fun q e => .inl e)) (sp0_only (z0 := W.heap.size) HO10.out.2 (SpU.only_b B20)))
            have PP := pz_third P14 HO20.out.2 HUZ.out
            have HO21 := Lib.hid HO20.out.1
            clear P13 P14 B13 B20 hB12 HO10 HO20
            have hi1 := (su_pz PP.swap).inv
            have hsm := snap_may hi1
            have hsk : ∀ e ∈ snapP s1.l, e.key.size ≤ 100000000 := fun e he => by
              obtain ⟨y, hy, rfl⟩ := List.mem_map.1 he
              exact hi1.key y hy
            have hsl : (snapP s1.l).length = mm := by unfold snapP; rw [List.length_map]; exact HU.out.1
            have hcore := snap_all hi1
            have hby := bytes_core hcore
            have hln := congrArg List.length hcore
            rw [List.length_map, List.length_map] at hln
            have HSN := Lib.hid (And.intro hsm (And.intro hsk (And.intro hsl (And.intro hby hln))))
            clear hi1 hsm hsk hsl hcore hby hln
            go_wp2_with fail
            refine (snap_su (su_pz PP.swap) (by omega) (by rw [HU.out.1]; omega)).mono ?_
            rintro e wa ⟨va, esa, rfl, Fa, Ba⟩
            obtain ⟨Aa, ca, rfl⟩ := own_form Fa.own
            have hla : esa.length = mm := Fa.rel.1.trans HSN.out.2.2.1
            obtain ⟨z8, hz8⟩ : ∃ z, w13.heap.size = z := ⟨_, rfl⟩
            have hap := by
              have P9 := pz_keep PP Ba (Kq := fun q => q < W.heap.size ∨ (z8 ≤ q ∧ q < wa.heap.size)) (fun q e => e.imp id (fun e => ⟨by rw [hz8]; exact e.1, e.2⟩)) (fun _ e => e.elim)
              have rd9 := Rd.of_own Fa.own
              rw [hla] at rd9
              refine apply_all P9 Aa mm ca esa (snapP s1.l) rd9 (fun ad e h0 => .inr ?_) (Fa.rel.move (Only.refl (fun _ => False) wa) (fun _ _ e => e.elim) (fun q hq e => .inl ?_)) HSN.out.2.1 bo_0 (by omega)
              · have := Fa.own.lt ad.block (by rw [e]; rfl)
                rw [hz8] at this
                exact this
              · by_cases hw : q < z8
                · rw [hz8]; exact hw
                · exact absurd (.inr ⟨Nat.not_lt.1 hw, hq⟩) e
            rw [hla]
            have HOa := Lib.hid (HO21.out.trans (SpU.only_b Ba : Only (fun q => ¬ q < W.heap.size) w13 wa) (fun q e => .inl e))
            clear PP Ba Fa hla HO21
            go_wp2_with fail
            refine hap.mono ?_
            clear hap
            rintro e wb ⟨rb, Nb, rfl, hrb, Pb, Bb, Ob⟩
            obtain rfl := hrb HSN.out.1
            rw [app_all HSN.out.1] at Pb Bb
            obtain ⟨u, hu⟩ : ∃ u, againS ps0 (snapP s1.l) = u := ⟨_, rfl⟩
            have hub := HSN.out.2.2.2.1
            have hul := HSN.out.2.2.2.2
            rw [hu] at Pb Bb hub hul
            have hNb : Nb ≤ 400000000 := by have := Bb.n; omega
            have hulm : u.l.length = mm := hul.trans HU.out.1
            obtain ⟨bs, hbs⟩ : ∃ bs : ByteArray, (⟨(bytesL s1.l).toArray⟩ : ByteArray) = bs := ⟨_, rfl⟩
            have hbs2 : (⟨(bytesL u.l).toArray⟩ : ByteArray) = bs := by rw [hub]; exact hbs
            have hbz2 : (bytesL u.l).length ≤ 1000000000000 := by rw [hub]; have := HU.out.2; omega
            have Ob' : Only (fun q => ¬ q < W.heap.size) W wb := HOa.out.trans Ob (fun q e => .inl (fun h => e (.inl h)))
            have HOb := Lib.hid Ob'
            have HV := Lib.hid (And.intro hbs (And.intro hbs2 (And.intro hbz2 hulm)))
            clear Ob Ob' HOa hub hul hu Bb hz8 hbs hbs2 hbz2 hulm
            go_wp2_with fail
            refine (bytes_su (su_pz Pb) HV.out.2.1 hNb HV.out.2.2.1).mono ?_
            rintro e wc ⟨rfl, Bc⟩
            have Pc := Pb.below Bc
            clear Pb
            go_wp2_with fail
            refine (bytes_su (su_pz Pc.swap) HV.out.1 (by omega) (by have := HU.out.2; omega)).mono ?_
            rintro e wd ⟨rfl, Bd⟩
            have Pd := Pc.below Bd
            have hbb : (bs.toList == bs.toList) = true := by simp
            have Bcd := Lib.hid (EfJ.bb Bc Bd)
            clear Pc Bc Bd
            go_wp2_with fail
            refine (entries_su (su_pz Pd) rfl hNb).mono ?_
            rintro e we ⟨ve, ese, rfl, Fe, Be⟩
            obtain ⟨Ae, ce, rfl⟩ := own_form Fe.own
            have hle : ese.length = mm := Fe.rel.1.trans HV.out.2.2.2
            rw [hle]
            have Pe := Pd.below Be
            have Bce := Lib.hid (EfJ.bb Bcd.out Be)
            clear Pd Fe Be Bcd
            go_wp2_with fail
            refine (entries_su (su_pz Pe.swap) (l := s1.l) rfl (by omega)).mono ?_
            rintro e wf ⟨vf, esf, rfl, Ff, Bf⟩
            obtain ⟨Af, cf, rfl⟩ := own_form Ff.own
            have hlf : esf.length = mm := Ff.rel.1.trans HU.out.1
            rw [hlf]
            have Bcf := Lib.hid (EfJ.bb Bce.out Bf)
            have hmmm : ((mm : Int) == (mm : Int)) = true := by simp
            clear Pe Ff Bf Bce
            go_wp2_with fail
            refine (sure_calls wf).mono ?_
            rintro e wg ⟨rfl, Bg⟩
            have Og : Only (fun q => ¬ q < W.heap.size) W wg := HOb.out.trans (SpU.only_b (EfJ.bb Bcf.out Bg) : Only (fun q => ¬ q < W.heap.size) wb wg) (fun q e => .inl e)
            clear Bg Bcf HOb
            go_wp2_with fail
            go_ret
            exact ⟨rfl, ⟨Og.os, Og.tape, Og.output, Og.size, fun k hk => Og.block k hk (fun q => q hk)⟩⟩
      | false =>
        as_aux_lemma =>
          have B8 := HL.out.1
          have hNA := B8.n
          obtain ⟨mm, hmm⟩ : ∃ mm, s0.l.length = mm := ⟨_, rfl⟩
          have hmb : mm ≤ 10000000 - k := by rw [← hmm]; omega
          have ZB : (bytesL s0.l).length ≤ 100000000 := by
            have h1 := B8.z
            have h2 := HA.out.2.2.2.2.2.2.2.2
            omega
          have HU := Lib.hid (And.intro hmm ZB)
          have PP := pz_third P7 HO7.out.2 HUZ.out
          have HO21 := Lib.hid HO7.out.1
          clear P7 HO7 B8 hmm ZB hfb
          have hi1 := (su_pz PP.swap).inv
          have hsm := snap_may hi1
          have hsk : ∀ e ∈ snapP s0.l, e.key.size ≤ 100000000 := fun e he => by
            obtain ⟨y, hy, rfl⟩ := List.mem_map.1 he
            exact hi1.key y hy
          have hsl : (snapP s0.l).length = mm := by unfold snapP; rw [List.length_map]; exact HU.out.1
          have hcore := snap_all hi1
          have hby := bytes_core hcore
          have hln := congrArg List.length hcore
          rw [List.length_map, List.length_map] at hln
          have HSN := Lib.hid (And.intro hsm (And.intro hsk (And.intro hsl (And.intro hby hln))))
          clear hi1 hsm hsk hsl hcore hby hln
          go_wp2_with fail
          refine (snap_su (su_pz PP.swap) (by omega) (by rw [HU.out.1]; omega)).mono ?_
          rintro e wa ⟨va, esa, rfl, Fa, Ba⟩
          obtain ⟨Aa, ca, rfl⟩ := own_form Fa.own
          have hla : esa.length = mm := Fa.rel.1.trans HSN.out.2.2.1
          obtain ⟨z8, hz8⟩ : ∃ z, wr.heap.size = z := ⟨_, rfl⟩
          have hap := by
            have P9 := pz_keep PP Ba (Kq := fun q => q < W.heap.size ∨ (z8 ≤ q ∧ q < wa.heap.size)) (fun q e => e.imp id (fun e => ⟨by rw [hz8]; exact e.1, e.2⟩)) (fun _ e => e.elim)
            have rd9 := Rd.of_own Fa.own
            rw [hla] at rd9
            refine apply_all P9 Aa mm ca esa (snapP s0.l) rd9 (fun ad e h0 => .inr ?_) (Fa.rel.move (Only.refl (fun _ => False) wa) (fun _ _ e => e.elim) (fun q hq e => .inl ?_)) HSN.out.2.1 bo_0 (by omega)
            · have := Fa.own.lt ad.block (by rw [e]; rfl)
              rw [hz8] at this
              exact this
            · by_cases hw : q < z8
              · rw [hz8]; exact hw
              · exact absurd (.inr ⟨Nat.not_lt.1 hw, hq⟩) e
          rw [hla]
          have HOa := Lib.hid (HO21.out.trans (SpU.only_b Ba : Only (fun q => ¬ q < W.heap.size) wr wa) (fun q e => .inl e))
          clear PP Ba Fa hla HO21
          go_wp2_with fail
          refine hap.mono ?_
          clear hap
          rintro e wb ⟨rb, Nb, rfl, hrb, Pb, Bb, Ob⟩
          obtain rfl := hrb HSN.out.1
          rw [app_all HSN.out.1] at Pb Bb
          obtain ⟨u, hu⟩ : ∃ u, againS ps0 (snapP s0.l) = u := ⟨_, rfl⟩
          have hub := HSN.out.2.2.2.1
          have hul := HSN.out.2.2.2.2
          rw [hu] at Pb Bb hub hul
          have hNb : Nb ≤ 400000000 := by have := Bb.n; omega
          have hulm : u.l.length = mm := hul.trans HU.out.1
          obtain ⟨bs, hbs⟩ : ∃ bs : ByteArray, (⟨(bytesL s0.l).toArray⟩ : ByteArray) = bs := ⟨_, rfl⟩
          have hbs2 : (⟨(bytesL u.l).toArray⟩ : ByteArray) = bs := by rw [hub]; exact hbs
          have hbz2 : (bytesL u.l).length ≤ 1000000000000 := by rw [hub]; have := HU.out.2; omega
          have Ob' : Only (fun q => ¬ q < W.heap.size) W wb := HOa.out.trans Ob (fun q e => .inl (fun h => e (.inl h)))
          have HOb := Lib.hid Ob'
          have HV := Lib.hid (And.intro hbs (And.intro hbs2 (And.intro hbz2 hulm)))
          clear Ob Ob' HOa hub hul hu Bb hz8 hbs hbs2 hbz2 hulm
          go_wp2_with fail
          refine (bytes_su (su_pz Pb) HV.out.2.1 hNb HV.out.2.2.1).mono ?_
          rintro e wc ⟨rfl, Bc⟩
          have Pc := Pb.below Bc
          clear Pb
          go_wp2_with fail
          refine (bytes_su (su_pz Pc.swap) HV.out.1 (by omega) (by have := HU.out.2; omega)).mono ?_
          rintro e wd ⟨rfl, Bd⟩
          have Pd := Pc.below Bd
          have hbb : (bs.toList == bs.toList) = true := by simp
          have Bcd := Lib.hid (EfJ.bb Bc Bd)
          clear Pc Bc Bd
          go_wp2_with fail
          refine (entries_su (su_pz Pd) rfl hNb).mono ?_
          rintro e we ⟨ve, ese, rfl, Fe, Be⟩
          obtain ⟨Ae, ce, rfl⟩ := own_form Fe.own
          have hle : ese.length = mm := Fe.rel.1.trans HV.out.2.2.2
          rw [hle]
          have Pe := Pd.below Be
          have Bce := Lib.hid (EfJ.bb Bcd.out Be)
          clear Pd Fe Be Bcd
          go_wp2_with fail
          refine (entries_su (su_pz Pe.swap) (l := s0.l) rfl (by omega)).mono ?_
          rintro e wf ⟨vf, esf, rfl, Ff, Bf⟩
          obtain ⟨Af, cf, rfl⟩ := own_form Ff.own
          have hlf : esf.length = mm := Ff.rel.1.trans HU.out.1
          rw [hlf]
          have Bcf := Lib.hid (EfJ.bb Bce.out Bf)
          have hmmm : ((mm : Int) == (mm : Int)) = true := by simp
          clear Pe Ff Bf Bce
          go_wp2_with fail
          refine (sure_calls wf).mono ?_
          rintro e wg ⟨rfl, Bg⟩
          have Og : Only (fun q => ¬ q < W.heap.size) W wg := HOb.out.trans (SpU.only_b (EfJ.bb Bcf.out Bg) : Only (fun q => ¬ q < W.heap.size) wb wg) (fun q e => .inl e)
          clear Bg Bcf HOb
          go_wp2_with fail
          go_ret
          exact ⟨rfl, ⟨Og.os, Og.tape, Og.output, Og.size, fun k hk => Og.block k hk (fun q => q hk)⟩⟩
end Go.Proofs.YtgmnnpbbiejbnaaGreat.EfV
