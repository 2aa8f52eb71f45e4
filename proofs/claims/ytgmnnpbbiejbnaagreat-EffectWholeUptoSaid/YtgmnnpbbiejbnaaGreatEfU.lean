/-
  EffectReplay: the law's walk. Conditions: as stated.
-/
import Derived.Test.YtgmnnpbbiejbnaaGreatEfS
import Derived.Test.YtgmnnpbbiejbnaaGreatEfT
import Derived.Test.YtgmnnpbbiejbnaaGreatMgM
import Derived.Test.YtgmnnpbbiejbnaaGreatMgL
import Derived.Test.YtgmnnpbbiejbnaaGreatLawN
set_option maxRecDepth 100000
set_option linter.unusedSimpArgs false
set_option linter.unusedVariables false
namespace Go.Proofs.YtgmnnpbbiejbnaaGreat.EfU
open Go.RowKit Go.Proofs.YtgmnnpbbiejbnaaGreat.Mem Go.Proofs.YtgmnnpbbiejbnaaGreat.VaA Go.Proofs.YtgmnnpbbiejbnaaGreat.VaC Go.Proofs.YtgmnnpbbiejbnaaGreat.VaE Go.Proofs.YtgmnnpbbiejbnaaGreat.VaH Go.Proofs.YtgmnnpbbiejbnaaGreat.VaI Go.Proofs.YtgmnnpbbiejbnaaGreat.VaX Go.Proofs.YtgmnnpbbiejbnaaGreat.DuA Go.Proofs.YtgmnnpbbiejbnaaGreat.SpA Go.Proofs.YtgmnnpbbiejbnaaGreat.SpB Go.Proofs.YtgmnnpbbiejbnaaGreat.SpC Go.Proofs.YtgmnnpbbiejbnaaGreat.SpD Go.Proofs.YtgmnnpbbiejbnaaGreat.SpE Go.Proofs.YtgmnnpbbiejbnaaGreat.SpF Go.Proofs.YtgmnnpbbiejbnaaGreat.SpG Go.Proofs.YtgmnnpbbiejbnaaGreat.EfA Go.Proofs.YtgmnnpbbiejbnaaGreat.EfB Go.Proofs.YtgmnnpbbiejbnaaGreat.EfD Go.Proofs.YtgmnnpbbiejbnaaGreat.EfE Go.Proofs.YtgmnnpbbiejbnaaGreat.EfF Go.Proofs.YtgmnnpbbiejbnaaGreat.EfG Go.Proofs.YtgmnnpbbiejbnaaGreat.EfH Go.Proofs.YtgmnnpbbiejbnaaGreat.EfJ Go.Proofs.YtgmnnpbbiejbnaaGreat.SpH Go.Proofs.YtgmnnpbbiejbnaaGreat.SpI Go.Proofs.YtgmnnpbbiejbnaaGreat.SpJ Go.Proofs.YtgmnnpbbiejbnaaGreat.SpK Go.Proofs.YtgmnnpbbiejbnaaGreat.SpM Go.Proofs.YtgmnnpbbiejbnaaGreat.SpO Go.Proofs.YtgmnnpbbiejbnaaGreat.SpP Go.Proofs.YtgmnnpbbiejbnaaGreat.SpR Go.Proofs.YtgmnnpbbiejbnaaGreat.SpU Go.Proofs.YtgmnnpbbiejbnaaGreat.SpV Go.Proofs.YtgmnnpbbiejbnaaGreat.SpZ Go.Proofs.YtgmnnpbbiejbnaaGreat.SrC Go.Proofs.YtgmnnpbbiejbnaaGreat.SpS Go.Proofs.YtgmnnpbbiejbnaaGreat.SpY Go.Proofs.YtgmnnpbbiejbnaaGreat.EfK Go.Proofs.YtgmnnpbbiejbnaaGreat.EfL Go.Proofs.YtgmnnpbbiejbnaaGreat.EfO Go.Proofs.YtgmnnpbbiejbnaaGreat.EfR Go.Proofs.YtgmnnpbbiejbnaaGreat.EfS Go.Proofs.YtgmnnpbbiejbnaaGreat.EfT
open Go.Proofs.YtgmnnpbbiejbnaaGreat.LawS (okN wtN okE wtE)

theorem vok_arg {W : World} {x : VV} (h : RdV W x) (hs : Sm x) : Vok W (fun q => ¬ q < W.heap.size) x (pvOf x) := by
  refine ⟨h, ⟨?_, ?_, ?_⟩, rfl, (sm_pv h).1 hs⟩
  · intro ad e hn hS
    obtain ⟨ad', e', hlt⟩ := Rd.lt h.1 (ne_strs hn)
    rw [e] at e'; injection e' with e'; subst e'; exact hS hlt
  · intro ad e hn hS
    obtain ⟨ad', e', hlt⟩ := Rd.lt h.2 (ne_flds hn)
    rw [e] at e'; injection e' with e'; subst e'; exact hS hlt
  · intro ad e hn hS
    obtain ⟨ad', e', hlt⟩ := Rd.lt h.3 (ne_rnks hn)
    rw [e] at e'; injection e' with e'; subst e'; exact hS hlt
/-- The content of an entry. -/
def bhOf (e : EN) : ByteArray × PH := (e.key, ⟨pvOf e.x, e.due, e.ver⟩)
theorem ens_arg {W : World} {z : List EN} (h : ∀ x ∈ z, okN W x) : ENs W (fun q => ¬ q < W.heap.size) z (z.map bhOf) := by
  refine ⟨by simp, fun i e p he hp => ?_⟩
  rw [List.getElem?_map, he] at hp
  injection hp with hp
  subst hp
  have := h e (List.mem_of_getElem? he)
  exact ⟨rfl, rfl, rfl, vok_arg this.rd this.sm⟩
theorem evs_arg {W : World} {z : List EV} (h : ∀ x ∈ z, okE W x) : EVs W (fun q => ¬ q < W.heap.size) z (z.map peOf) := by
  refine ⟨by simp, fun i e p he hp => ?_⟩
  rw [List.getElem?_map, he] at hp
  injection hp with hp
  subst hp
  have := h e (List.mem_of_getElem? he)
  exact ⟨rfl, rfl, rfl, vok_arg this.rd this.sm⟩
theorem tame_arg {W : World} {z : List EV} (h : ∀ x ∈ z, okE W x) : ∀ p ∈ z.map peOf, Tame p := by
  intro p hp
  obtain ⟨e, he, rfl⟩ := List.mem_map.1 hp
  have ok := h e he
  have l1 := VaC.rds_len ok.rd.l
  have l2 := VaC.rdf_len ok.rd.f
  have l3 := VaC.rdk_len ok.rd.k
  have s1 := ok.sm.ln
  have s2 := ok.sm.fn
  have s3 := ok.sm.kn
  have s4 := ok.key
  exact ⟨by show e.key.size ≤ _; omega, by show e.x.list.length < _; omega, by show e.x.flds.length < _; omega, by show e.x.rank.length < _; omega⟩
theorem enc_arg {W : World} {x : VV} (h : RdV W x) : (encP (pvOf x)).length = (encV x).length := by rw [enc_pv h]
theorem ws_arg {W : World} : ∀ {z : List EV}, (∀ x ∈ z, okE W x) → WS (z.map peOf) ≤ 32 * (z.map wtE).sum
  | [], _ => by simp [WS]
  | e :: r, h => by
    have ih := ws_arg (fun x hx => h x (by simp [hx]) : ∀ x ∈ r, okE W x)
    have h1 := enc_arg (h e (by simp)).rd
    unfold WS at ih ⊢
    simp only [List.map_cons, List.sum_cons]
    have h2 : (opOf (peOf e)).wt = 16 + e.key.size + (encV e.x).length := by rw [← h1]; rfl
    have h3 : wtE e = e.key.size + 1 + (encV e.x).length / 8 := rfl
    omega
theorem bytes_arg {W : World} : ∀ {z : List EN}, (∀ x ∈ z, okN W x) → (bytesL (z.map bhOf)).length ≤ 32 * (z.map wtN).sum
  | [], _ => by simp [bytesL]
  | e :: r, h => by
    have ih := bytes_arg (fun x hx => h x (by simp [hx]) : ∀ x ∈ r, okN W x)
    have h1 := enc_arg (h e (by simp)).rd
    rw [List.map_cons, bl_cons, ent_len, List.map_cons, List.sum_cons]
    have h2 : (encP (bhOf e).2.v).length = (encV e.x).length := h1
    have h3 : wtN e = e.key.size + 1 + (encV e.x).length / 8 := rfl
    have h4 : (bhOf e).1.size = e.key.size := rfl
    omega
theorem rowE_n {l : List EV} : l.length ≤ (l.map wtE).sum := by
  induction l with
  | nil => simp
  | cons a r ih => simp only [List.map_cons, List.sum_cons, List.length_cons]; have : 1 ≤ wtE a := by unfold wtE; omega
                   omega
theorem rowN_n {l : List EN} : l.length ≤ (l.map wtN).sum := by
  induction l with
  | nil => simp
  | cons a r ih => simp only [List.map_cons, List.sum_cons, List.length_cons]; have : 1 ≤ wtN a := by unfold wtN; omega
                   omega
open Classical in
/-- What Load makes of a new space. -/
noncomputable def ldP (l : List (ByteArray × PH)) : PS := if SpU.Good l then ldS l false else ps0
open Classical in
noncomputable def ldE (l : List (ByteArray × PH)) : Int := if SpU.Good l then 0 else 141
open Classical in
noncomputable def ldN (l : List (ByteArray × PH)) : Nat := if SpU.Good l then l.length else 0
theorem ld_on (l : List (ByteArray × PH)) : (ldP l).on = false ∧ (ldP l).ld = false := by
  unfold ldP
  split <;> exact ⟨rfl, rfl⟩
theorem bo_ld (l : List (ByteArray × PH)) : Bo (ldP l) (ldN l) l.length (bytesL l).length := by
  unfold ldP ldN
  split
  · rename_i h; exact bo_load h
  · exact ⟨by show (0 : Nat) + 0 ≤ _; omega, by show (0 : Nat) + 0 ≤ _; omega, Nat.zero_le _, Nat.zero_le _⟩
theorem load_pz0 {w : World} {B gs gt M : Nat} {t : PS} {Kp Z : Nat → Prop} (h : Pz w B gs gt 0 M ps0 t Kp Z) {A : Option Addr} {n c : Nat} {es : List EN} {l : List (ByteArray × PH)} (hr : Rd w 8 A n c (rows EN.cells es)) (hA : ∀ ad, A = some ad → 0 < n → Kp ad.block) (hes : ENs w (fun q => ¬ Kp q) es l) (hky : ∀ e ∈ l, e.1.size ≤ 100000000) (hn : n ≤ 100000000) (hl : l.length = n) {r : Int} {s' : PS} {N' : Nat} (er : ldE l = r) (es' : ldP l = s') (eN : ldN l = N') :
    Calls Tryz.prog 17 #[.pointer (some ⟨gs, 0, none⟩), .slice A n c] w fun e w' => e = .returned (.int .i64 r) ∧ Pz w' B gs gt N' M s' t Kp Z ∧ Only (fun k => ¬ Kp k) w w' := by
  subst er es' eN
  refine (load_pz h rfl hr hA hes hky hn).mono ?_
  rintro e w' (⟨hG, rfl, h1, h2⟩ | ⟨hG, rfl, h1⟩)
  · unfold ldE ldP ldN
    rw [if_pos hG, if_pos hG, if_pos hG, hl]
    exact ⟨rfl, h1, h2⟩
  · unfold ldE ldP ldN
    rw [if_neg hG, if_neg hG, if_neg hG]
    exact ⟨rfl, h.below h1, SpU.only_b h1⟩
/-- What Apply does of effects: all of them, or none. -/
def appE (l : List PE) : List PE := if l.all mayP then l else []
theorem app_tame {l : List PE} (h : ∀ p ∈ l, Tame p) : ∀ p ∈ appE l, Tame p := by
  unfold appE; split
  · exact h
  · intro p hp; cases hp
theorem app_len (l : List PE) : (appE l).length ≤ l.length := by unfold appE; split <;> simp
theorem app_ws (l : List PE) : WS (appE l) ≤ WS l := by unfold appE; split <;> simp [WS]
theorem apply_all {w : World} {B g gt N M j ZB : Nat} {s t : PS} {Kp Z : Nat → Prop} (h : Pz w B g gt N M s t Kp Z) (A : Option Addr) (n c : Nat) (es : List EV) (ch : List PE) (hr : Rd w 8 A n c (rows EV.cells es)) (hA : ∀ ad, A = some ad → 0 < n → Kp ad.block) (he : EVs w (fun q => ¬ Kp q) es ch) (hky : ∀ e ∈ ch, e.key.size ≤ 100000000)
    (hB : Bo s N j ZB) (hj : j + n ≤ 10000000) :
    Calls Tryz.prog 18 #[.pointer (some ⟨g, 0, none⟩), .slice A n c] w fun e w' => ∃ r N', e = .returned (.int .i64 r) ∧ (ch.all mayP = true → r = 0) ∧ Pz w' B g gt N' M (againS s (appE ch)) t Kp Z ∧ Bo (againS s (appE ch)) N' (j + n) (ZB + WS ch) ∧ Only (fun k => ¬ Kp k) w w' := by
  refine (apply_pz h A n c es ch hr hA he hky hB hj).mono ?_
  rintro e w' (⟨hm, rfl, N', h1, h2, h3⟩ | ⟨hm, rfl, h1⟩)
  · refine ⟨0, N', rfl, fun _ => rfl, ?_, ?_, h3⟩
    · unfold appE; rw [if_pos hm]; exact h1
    · unfold appE; rw [if_pos hm]; exact h2
  · refine ⟨160, N, rfl, fun q => (by rw [hm] at q; cases q), ?_, ?_, SpU.only_b h1⟩
    · unfold appE; rw [if_neg (by rw [hm]; decide)]; exact h.below h1
    · unfold appE; rw [if_neg (by rw [hm]; decide)]; exact ⟨by have := hB.n; show N + s.l.length ≤ _; omega, by have := hB.c; show s.cnt + s.l.length ≤ _; omega, by have := hB.h; show s.ch.length ≤ _; omega, by have := hB.z; show (bytesL s.l).length ≤ _; omega⟩
set_option maxHeartbeats 16000000 in
theorem replay_upto (a0 : Option Addr) (n0 c0 : Nat) (z0 : List EN) (a1 : Option Addr) (n1 c1 : Nat) (z1 : List EV) (W : World)
    (R0 : Rd W 8 a0 n0 c0 (z0.flatMap EN.cells)) (L0 : z0.length = n0) (K0 : ∀ x ∈ z0, okN W x) (M0 : (z0.map wtN).sum ≤ 1048576)
    (R1 : Rd W 8 a1 n1 c1 (z1.flatMap EV.cells)) (L1 : z1.length = n1) (K1 : ∀ x ∈ z1, okE W x) (M1 : (z1.map wtE).sum ≤ 1048576) :
    Calls Tryz.prog 7 #[.slice a0 n0 c0, .slice a1 n1 c1] W fun e w' => e = .returned (.bool true) ∧ Below W.heap.size W w' := by
  have hN0 : n0 ≤ 1048576 := by have := rowN_n (l := z0); omega
  have hN1 : n1 ≤ 1048576 := by have := rowE_n (l := z1); omega
  have hcap0 := R0.cap
  have hbig0 := R0.big
  have hcap1 := R1.cap
  have hbig1 := R1.big
  unfold maxLen at hbig0 hbig1
  obtain ⟨l, hl⟩ : ∃ l, z0.map bhOf = l := ⟨_, rfl⟩
  obtain ⟨x, hx⟩ : ∃ x, z1.map peOf = x := ⟨_, rfl⟩
  have hll : l.length = n0 := by rw [← hl, List.length_map, L0]
  have hxl : x.length = n1 := by rw [← hx, List.length_map, L1]
  have E0 : ENs W (fun q => ¬ q < W.heap.size) z0 l := by rw [← hl]; exact ens_arg K0
  have E1 : EVs W (fun q => ¬ q < W.heap.size) z1 x := by rw [← hx]; exact evs_arg K1
  have T1 : ∀ p ∈ x, Tame p := by rw [← hx]; exact tame_arg K1
  have WX : WS x ≤ 33554432 := by rw [← hx]; exact Nat.le_trans (ws_arg K1) (by omega)
  have ky0 : ∀ e ∈ l, e.1.size ≤ 100000000 := by
    rw [← hl]; intro e he
    obtain ⟨y, hy, rfl⟩ := List.mem_map.1 he
    have := (K0 y hy).key; show y.key.size ≤ _; omega
  have A0 : ∀ ad, a0 = some ad → 0 < n0 → ad.block < W.heap.size := fun ad e hn => by
    obtain ⟨ad', e', hlt⟩ := R0.lt (by intro e2; have := rows_len (c := EN.cells) en_len z0; unfold rows at this; rw [e2] at this; simp at this; omega)
    rw [e] at e'; injection e' with e'; rw [e']; exact hlt
  have A1 : ∀ ad, a1 = some ad → 0 < n1 → ad.block < W.heap.size := fun ad e hn => by
    obtain ⟨ad', e', hlt⟩ := R1.lt (by intro e2; have := rows_len (c := EV.cells) ev_len z1; unfold rows at this; rw [e2] at this; simp at this; omega)
    rw [e] at e'; injection e' with e'; rw [e']; exact hlt
  obtain ⟨RE, hRE⟩ : ∃ r, ldE l = r := ⟨_, rfl⟩
  obtain ⟨s0, hs0⟩ : ∃ r, ldP l = r := ⟨_, rfl⟩
  obtain ⟨K0N, hK0N⟩ : ∃ r, ldN l = r := ⟨_, rfl⟩
  have BL := bo_ld l
  have ON := ld_on l
  rw [hs0, hK0N, hll] at BL
  rw [hs0] at ON
  have hNq := BL.n
  have RL := replay_law ON.1 (appE x) (app_tame T1)
  have HA := Lib.hid (And.intro R0 (And.intro E0 (And.intro ky0 (And.intro A0 (And.intro hll (And.intro hRE (And.intro hs0 hK0N)))))))
  have HX := Lib.hid (And.intro R1 (And.intro E1 (And.intro T1 (And.intro A1 (And.intro hxl WX)))))
  have HL := Lib.hid (And.intro BL (And.intro ON RL))
  clear R0 L0 K0 M0 R1 L1 K1 M1 E0 E1 T1 WX ky0 A0 A1 hll hxl hRE hs0 hK0N BL ON RL hl hx
  go_enter Tryz.func7, Tryz.ntmps7
  go_wp2_with fail
  refine (su_new W).mono ?_
  rintro e w1 ⟨gs, rfl, S1, B1⟩
  have HS1 := Lib.hid (And.intro S1 B1)
  clear S1 B1
  go_wp2_with fail
  refine (su_new w1).mono ?_
  rintro e w2 ⟨gt, rfl, S2, B2⟩
  have P2 : Pz w2 W.heap.size gs gt 0 0 ps0 ps0 (fun q => q < W.heap.size) (fun _ => False) := pz_new HS1.out.1 HS1.out.2 S2 B2
  have O2 : Only (fun q => ¬ q < W.heap.size) W w2 := SpU.only_b (EfJ.bb HS1.out.2 B2)
  have hd := by
    obtain ⟨R0, E0, ky0, A0, hll, hRE, hs0, hK0N⟩ := HA.out
    exact load_pz0 P2 (rd_move R0 O2 (fun ad _ _ hb q => q hb)) A0 (E0.move O2 (fun _ _ e => e) (fun _ _ e => e)) ky0 (by omega) hll hRE hs0 hK0N
  have HO2 := Lib.hid O2
  clear S2 B2 P2 O2 HS1
  go_wp2_with fail
  refine hd.mono ?_
  clear hd
  rintro e w3 ⟨rfl, P3, O3⟩
  have O3' := HO2.out.trans O3 (fun q e => .inl e)
  have hd := by
    obtain ⟨R0, E0, ky0, A0, hll, hRE, hs0, hK0N⟩ := HA.out
    exact load_pz0 P3.swap (rd_move R0 O3' (fun ad _ _ hb q => q hb)) A0 (E0.move O3' (fun _ _ e => e) (fun _ _ e => e)) ky0 (by omega) hll hRE hs0 hK0N
  have HO3 := Lib.hid O3'
  clear P3 O3 O3' HO2
  go_wp2_with fail
  refine hd.mono ?_
  clear hd
  rintro e w4 ⟨rfl, P4, O4⟩
  have HO4 := Lib.hid (HO3.out.trans O4 (fun q e => .inl e))
  have hd := mark_pz P4.swap HL.out.2.1.2 (r := 0) (by rw [HL.out.2.1.1]; rfl) rfl
  have hRR : (RE != RE) = false := by simp
  clear P4 O4 HO3
  go_wp2_with fail
  refine hd.mono ?_
  clear hd
  rintro e w5 ⟨rfl, P5, O5⟩
  have O5' := HO4.out.trans O5 (fun q e => .inl e)
  have hd := by
    obtain ⟨R1, E1, T1, A1, hxl, WX⟩ := HX.out
    exact apply_all P5 a1 n1 c1 z1 x (rd_move R1 O5' (fun ad _ _ hb q => q hb)) A1 (E1.move O5' (fun _ _ e => e) (fun _ _ e => e)) (fun p hp => (T1 p hp).key) (bo_mark HL.out.1) (by omega)
  have HO5 := Lib.hid O5'
  clear P5 O5 O5' HO4
  go_wp2_with fail
  refine hd.mono ?_
  clear hd
  rintro e w6 ⟨r6, N6, rfl, -, P6, B6, O6⟩
  have HO6 := Lib.hid (HO5.out.trans O6 (fun q e => .inl e))
  clear O6 HO5
  obtain ⟨RLe, RLf, RLb⟩ := HL.out.2.2
  obtain ⟨s1, hs1⟩ : ∃ s, againS (markS s0) (appE x) = s := ⟨_, rfl⟩
  rw [hs1] at RLe RLf RLb P6 B6
  have hN6 := B6.n
  have hch6 := B6.h
  have hon1 : s1.on = true := by rw [← hs1, (again_on _ _).1]; unfold markS; rw [HL.out.2.1.1]; rfl
  obtain ⟨m, hm⟩ : ∃ m, s1.ch.length = m := ⟨_, rfl⟩
  rw [hm] at hch6
  have HR := Lib.hid (And.intro RLe (And.intro RLf (And.intro RLb (And.intro hm (And.intro hon1 B6)))))
  clear RLe RLf RLb hm hon1 B6 hs1
  go_wp2_with fail
  refine (changes_su (su_pz P6) rfl (by have := HR.out.2.2.2.1; omega)).mono ?_
  rintro e w7 ⟨v7, es7, rfl, F7, B7⟩
  obtain ⟨A7, c7, rfl⟩ := own_form F7.own
  have hl7 : es7.length = m := F7.rel.1.trans HR.out.2.2.2.1
  rw [hl7]
  obtain ⟨bs, hbs⟩ : ∃ bs : ByteArray, (⟨(encL s1.ch).toArray⟩ : ByteArray) = bs := ⟨_, rfl⟩
  have hbl : bs.data.toList = encL s1.ch := by rw [← hbs]
  have hbz : bs.size ≤ 100000000 := by
    have h1 := VcQ.size_list bs
    rw [hbl] at h1
    have h2 := HR.out.2.2.1
    have h3 := app_ws x
    have h4 := app_len x
    have h5 := HX.out.2.2.2.2.1
    have h6 := HX.out.2.2.2.2.2
    omega
  have hmay := all_may HR.out.2.1
  have hdS : decAll bs = some s1.ch := decF_enc s1.ch HR.out.2.1 hbl (Nat.le_refl _)
  have hen := by
    have rd7 := Rd.of_own F7.own
    rw [hl7] at rd7
    obtain ⟨m1, m2⟩ := evs_map F7.rel
    have h0 := EfB.encode_calls A7 m c7 es7 w7 rd7 (fun e he => ⟨(m2 e he).1, (m2 e he).2, by
      have h1 : peOf e ∈ s1.ch := by rw [← m1]; exact List.mem_map_of_mem he
      exact (HR.out.2.1 _ h1).key⟩) (by rw [m1, ← hbl, VcQ.size_list]; omega)
    rw [m1] at h0
    have h1 : EfB.encR s1.ch = (⟨(encL s1.ch).toArray⟩, 0) := by unfold EfB.encR; rw [hmay]; rfl
    rw [h1, hbs] at h0
    exact h0
  have P7 := P6.below B7
  have O7 : Only (fun q => ¬ q < W.heap.size) W w7 := HO6.out.trans (SpU.only_b B7 : Only (fun q => ¬ q < W.heap.size) w6 w7) (fun q e => .inl e)
  have HO7 := Lib.hid O7
  have HD := Lib.hid (And.intro hmay hdS)
  clear F7 B7 hl7 hbs hbl hmay hdS O7 HO6 P6
  go_wp2_with fail
  refine hen.mono ?_
  clear hen
  rintro e w8 ⟨rfl, B8⟩
  have P8 := P7.below B8
  have HO8 := Lib.hid (HO7.out.trans (SpU.only_b B8 : Only (fun q => ¬ q < W.heap.size) w7 w8) (fun q e => .inl e))
  clear P7 B8 HO7
  go_wp2_with fail
  refine (decode_calls bs w8 hbz).mono ?_
  rintro e w9 ⟨B9, h9⟩
  rw [HD.out.2] at h9
  dsimp only at h9
  obtain ⟨v9, es9, rfl, F9⟩ := h9
  obtain ⟨A9, c9, rfl⟩ := own_form F9.own
  have hl9 : es9.length = m := F9.rel.1.trans HR.out.2.2.2.1
  obtain ⟨z8, hz8⟩ : ∃ z, w8.heap.size = z := ⟨_, rfl⟩
  have hap := by
    have P9 := pz_keep P8 B9 (Kq := fun q => q < W.heap.size ∨ (z8 ≤ q ∧ q < w9.heap.size)) (fun q e => e.imp id (fun e => ⟨by rw [hz8]; exact e.1, e.2⟩)) (fun _ e => e.elim)
    have rd9 := Rd.of_own F9.own
    rw [hl9] at rd9
    refine apply_all P9.swap A9 m c9 es9 s1.ch rd9 (fun ad e h0 => .inr ?_) (F9.rel.move (Only.refl (fun _ => False) w9) (fun _ _ e => e.elim) (fun q hq e => .inl ?_)) (fun p hp => (HR.out.2.1 p hp).key) HL.out.1 (by omega)
    · have := F9.own.lt ad.block (by rw [e]; rfl)
      rw [hz8] at this
      exact this
    · by_cases hw : q < z8
      · rw [hz8]; exact hw
      · exact absurd (.inr ⟨Nat.not_lt.1 hw, hq⟩) e
  rw [hl9]
  have HO9 := Lib.hid (HO8.out.trans (SpU.only_b B9 : Only (fun q => ¬ q < W.heap.size) w8 w9) (fun q e => .inl e))
  clear P8 B9 HO8 F9 hl9
  go_wp2_with fail
  refine hap.mono ?_
  clear hap
  rintro e w10 ⟨r10, N10, rfl, hr10, P10, B10, O10⟩
  obtain rfl := hr10 HD.out.1
  have eap : appE s1.ch = s1.ch := by unfold appE; rw [if_pos HD.out.1]
  rw [eap] at P10 B10
  obtain ⟨u, hu⟩ : ∃ u, againS s0 s1.ch = u := ⟨_, rfl⟩
  have hue := HR.out.1
  rw [hu] at P10 B10 hue
  obtain ⟨hul, huc⟩ := hue
  obtain ⟨mm, hmm⟩ : ∃ mm, s1.l.length = mm := ⟨_, rfl⟩
  obtain ⟨dn, hdn⟩ : ∃ dn, (s1.cnt : Int) = dn := ⟨_, rfl⟩
  have hN10 := B10.n
  have hmb : mm ≤ 100000000 := by rw [← hmm]; omega
  have HU := Lib.hid (And.intro hul (And.intro huc (And.intro hmm hdn)))
  have O10' : Only (fun q => ¬ q < W.heap.size) W w10 := HO9.out.trans O10 (fun q e => .inl (fun h => e (.inl h)))
  have HO10 := Lib.hid O10'
  clear O10 O10' HO9 hul huc hu hmm hdn eap B10 HD hz8
  have P9 := P10.swap
  clear P10
  go_wp2_with fail
  refine (entries_su (su_pz P9) (l := s1.l) rfl (by omega)).mono ?_
  rintro e w11 ⟨v11, es11, rfl, F11, B11⟩
  obtain ⟨A11, c11, rfl⟩ := own_form F11.own
  have hl11 : es11.length = mm := F11.rel.1.trans HU.out.2.2.1
  rw [hl11]
  have P11 := P9.below B11
  clear P9
  go_wp2_with fail
  refine (entries_su (su_pz P11.swap) (l := s1.l) HU.out.1 (by omega)).mono ?_
  rintro e w12 ⟨v12, es12, rfl, F12, B12⟩
  obtain ⟨A12, c12, rfl⟩ := own_form F12.own
  have hl12 : es12.length = mm := F12.rel.1.trans HU.out.2.2.1
  rw [hl12]
  have P12 := P11.below B12
  have hse := by
    have F11' := F11.below B12
    have rd11' := Rd.of_own F11'.own
    rw [hl11] at rd11'
    have rd12 := Rd.of_own F12.own
    rw [hl12] at rd12
    exact sameEntries_eq A11 A12 mm c11 c12 es11 es12 s1.l w12 rd11' rd12 F11'.rel F12.rel
  have HO12 := Lib.hid (HO10.out.trans (SpU.only_b (EfJ.bb B11 B12) : Only (fun q => ¬ q < W.heap.size) w10 w12) (fun q e => .inl e))
  clear P11 F11 F12 B11 B12 hl11 hl12 HO10
  go_wp2_with fail
  refine hse.mono ?_
  clear hse
  rintro e w13 ⟨rfl, B13⟩
  have P13 := P12.below B13
  have HO13 := Lib.hid (HO12.out.trans (SpU.only_b B13 : Only (fun q => ¬ q < W.heap.size) w12 w13) (fun q e => .inl e))
  have hdd : (dn == dn) = true := by simp
  clear P12 B13 HO12
  go_wp2_with fail
  refine (counter_su (su_pz P13) HU.out.2.2.2).mono ?_
  rintro e w13' ⟨rfl, e12⟩
  subst e12
  go_wp2_with fail
  refine (counter_su (su_pz P13.swap) (r := dn) (by rw [HU.out.2.1]; exact HU.out.2.2.2)).mono ?_
  rintro e w13' ⟨rfl, e12⟩
  subst e12
  have hkp := keep_pz P13 (r := 0) (by rw [HR.out.2.2.2.2.1]; rfl) rfl
  clear P13
  go_wp2_with fail
  refine hkp.mono ?_
  clear hkp
  rintro e w14 ⟨rfl, P14, O14⟩
  have HO14 := Lib.hid (HO13.out.trans O14 (fun q e => .inl (fun h => e (.inl h))))
  clear P14 O14 HO13
  go_wp2_with fail
  refine (sure_calls w14).mono ?_
  rintro e w15 ⟨rfl, B15⟩
  have O15 : Only (fun q => ¬ q < W.heap.size) W w15 := HO14.out.trans (SpU.only_b B15 : Only (fun q => ¬ q < W.heap.size) w14 w15) (fun q e => .inl e)
  clear B15 HO14
  go_wp2_with fail
  go_ret
  exact ⟨rfl, ⟨O15.os, O15.tape, O15.output, O15.size, fun k hk => O15.block k hk (fun q => q hk)⟩⟩
end Go.Proofs.YtgmnnpbbiejbnaaGreat.EfU
