/-
  sure. Conditions: as stated.
  SpaceNobody. Conditions: as stated.
-/
import Derived.Test.YtjofbagaobdmoaaGreatSqE
set_option maxRecDepth 100000
set_option linter.unusedSimpArgs false
set_option linter.unusedVariables false
namespace Go.Proofs.YtjofbagaobdmoaaGreat.SpW
open Go.RowKit Go.Proofs.YtjofbagaobdmoaaGreat.Mem Go.Proofs.YtjofbagaobdmoaaGreat.VaC Go.Proofs.YtjofbagaobdmoaaGreat.VaE Go.Proofs.YtjofbagaobdmoaaGreat.VaH Go.Proofs.YtjofbagaobdmoaaGreat.VaI Go.Proofs.YtjofbagaobdmoaaGreat.VaX Go.Proofs.YtjofbagaobdmoaaGreat.DuA Go.Proofs.YtjofbagaobdmoaaGreat.SpA Go.Proofs.YtjofbagaobdmoaaGreat.SpB Go.Proofs.YtjofbagaobdmoaaGreat.SpC Go.Proofs.YtjofbagaobdmoaaGreat.SpD Go.Proofs.YtjofbagaobdmoaaGreat.SpE Go.Proofs.YtjofbagaobdmoaaGreat.SpF Go.Proofs.YtjofbagaobdmoaaGreat.SpG Go.Proofs.YtjofbagaobdmoaaGreat.SpH Go.Proofs.YtjofbagaobdmoaaGreat.SpI Go.Proofs.YtjofbagaobdmoaaGreat.SpJ Go.Proofs.YtjofbagaobdmoaaGreat.SpK Go.Proofs.YtjofbagaobdmoaaGreat.SpL Go.Proofs.YtjofbagaobdmoaaGreat.SpM Go.Proofs.YtjofbagaobdmoaaGreat.SpN Go.Proofs.YtjofbagaobdmoaaGreat.SpO Go.Proofs.YtjofbagaobdmoaaGreat.SpP Go.Proofs.YtjofbagaobdmoaaGreat.SpQ Go.Proofs.YtjofbagaobdmoaaGreat.SpR Go.Proofs.YtjofbagaobdmoaaGreat.SpS Go.Proofs.YtjofbagaobdmoaaGreat.SpT Go.Proofs.YtjofbagaobdmoaaGreat.SpU Go.Proofs.YtjofbagaobdmoaaGreat.SpV
open Go.Proofs.YtjofbagaobdmoaaGreat.DsH (Ix IxS okk keyed key_of)
open Go.Proofs.YtjofbagaobdmoaaGreat.DsK (OwnKs RdKs keysV keysV_one elKs)



def tx (b : ByteArray) : PV := ⟨1, b, [], [], []⟩
def s1 : PS := { ps0 with l := [(⟨#[97]⟩, ⟨tx ⟨#[120]⟩, 0, 1⟩)], cnt := 1 }
def s2 : PS := { ps0 with l := [(⟨#[97]⟩, ⟨tx ⟨#[120]⟩, 0, 1⟩), (⟨#[98]⟩, ⟨tx ⟨#[121]⟩, 5, 2⟩)], cnt := 2 }
def s4 : PS := { s2 with on := true, at_ := 2 }
def s6 : PS := { s4 with l := [(⟨#[98]⟩, ⟨tx ⟨#[121]⟩, 5, 2⟩)], cnt := 3, bf := [(⟨#[97]⟩, ⟨tx ⟨#[120]⟩, 0, 1⟩)], ch := [⟨2, ⟨#[97]⟩, pv0, 0⟩] }
def s7 : PS := { s4 with l := [(⟨#[98]⟩, ⟨tx ⟨#[121]⟩, 0, 4⟩)], cnt := 4, bf := [(⟨#[97]⟩, ⟨tx ⟨#[120]⟩, 0, 1⟩), (⟨#[98]⟩, ⟨tx ⟨#[121]⟩, 5, 2⟩)], ch := [⟨2, ⟨#[97]⟩, pv0, 0⟩, ⟨3, ⟨#[98]⟩, pv0, 0⟩] }
def s8 : PS := { s2 with at_ := 2 }
def s9 : PS := { ps0 with cnt := 4, at_ := 2 }
def l10 : List (ByteArray × PH) := [(⟨#[113]⟩, ⟨tx ⟨#[122]⟩, 0, 7⟩)]
theorem tl (a : Array UInt8) : (ByteArray.mk a).toList = a.toList := by rw [ByteArray.toList_eq]
theorem a1 : putE (tx ⟨#[120]⟩) 0 = 0 := by rfl
theorem a2 : putE (tx ⟨#[121]⟩) 5 = 0 := by rfl
theorem a3 : putE pv0 0 = 130 := by rfl
theorem b0 : putS ps0 ⟨#[97]⟩ (tx ⟨#[120]⟩) 0 = s1 := by rfl
theorem ltab : lt ⟨#[97]⟩ ⟨#[98]⟩ = true := by simp [lt, DuB.ltS, tl]; rfl
theorem ltba : lt ⟨#[98]⟩ ⟨#[97]⟩ = false := by simp [lt, DuB.ltS, tl]; rfl
theorem b1 : putS s1 ⟨#[98]⟩ (tx ⟨#[121]⟩) 5 = s2 := by unfold putS; rw [if_pos a2]; unfold putP setK s1; simp [dropK, insK, ltba, noteP, touchP, bfT, ps0, s2]
theorem b2 : putS s2 ⟨#[99]⟩ pv0 0 = s2 := by unfold putS; rw [a3]; rfl
theorem b4 : markS s2 = s4 := by rfl
theorem b5 : markS s4 = s4 := by rfl
theorem c1 : seenP s4 ⟨#[98]⟩ 4 = some ⟨tx ⟨#[121]⟩, 5, 2⟩ := by rfl
theorem c2 : seenP s4 ⟨#[98]⟩ 5 = none := by rfl
theorem c3 : seenP s4 ⟨#[98]⟩ 0 = some ⟨tx ⟨#[121]⟩, 5, 2⟩ := by rfl
theorem c4 : overS s4 ⟨#[98]⟩ 5 = true := by rfl
theorem c5 : keysP s4 5 = [⟨#[97]⟩] := by rfl
theorem c6 : ((getK s4.l ⟨#[98]⟩).getD ph0).ver = 2 := by rfl
theorem d1 : dropS s4 ⟨#[97]⟩ = s6 := by rfl
theorem d2 : dueB s6 ⟨#[98]⟩ 0 = true := by rfl
theorem d3 : dueS s6 ⟨#[98]⟩ 0 = s7 := by unfold dueS s6 s7; simp [tickB, getK, s4, s2, dueP, setK, dropK, insK, ltba, noteP, touchP, bfT, ps0, ph0, pv0]
theorem d4 : keysL s7.bf = [⟨#[97]⟩, ⟨#[98]⟩] := by rfl
theorem d5 : backS s7 = s8 := by unfold backS s7; simp [backK, getK, s4, s2, setK, dropK, insK, ltab, ltba, endP, ps0, s8, tx]
theorem d6 : keepS s8 = s8 := by rfl
theorem e1 : clearS s8 = s9 := by rfl
theorem e2 : bytesL s9.l = [] := by rfl
theorem e3 : keysP (ldS l10 false) 0 = [⟨#[113]⟩] := by rfl
theorem e4 : peekL (duesOf lt PH.due (ldS l10 false).l) 9 9 = [] := by rfl
theorem e5 : SpU.Good l10 := by
  refine ⟨List.pairwise_singleton _ _, fun e he => ?_, fun e he => ?_, fun e he => ?_, fun e he => ?_⟩ <;> (rw [List.mem_singleton.1 he])
  · decide
  · rfl
  · decide
  · decide
-- the walk
def tv (b : ByteArray) : VV := ⟨1, b, none, 0, 0, [], none, 0, 0, [], none, 0, 0, []⟩
theorem rd_cells (w : World) (l : List Value) (T : TypeId) (sz n : Nat) (hl : l.length = n * sz) (hn : n ≤ 1000) : Rd (w.alloc (.cells l.toArray T)) sz (some ⟨w.heap.size, 0, none⟩) n n l :=
  ⟨by omega, Nat.le_refl _, by unfold maxLen; omega, fun j x hx => ⟨_, rfl, by
    have h := heap_alloc_new w (.cells l.toArray T)
    rw [add_mk, Nat.zero_add]
    simp only [World.cell?]
    rw [h]
    simpa using hx⟩⟩
theorem sameT_su (A B : Option Addr) (n m c d : Nat) (l k : List ByteArray) (w : World) {r : Bool} (ha : RdKs w A n c l) (hb : RdKs w B m d k) (hr : decide (l = k) = r) :
    Calls Tryz.prog 33 #[.slice A n c, .slice B m d] w fun e w' => e = .returned (.bool r) ∧ Below w.heap.size w w' := by
  subst hr
  refine (sameTexts_calls A B n m c d l k w ha hb).mono ?_
  rintro e w' ⟨rfl, nd, rfl⟩
  exact ⟨rfl, SpD.below_drawn_' (Below.refl _ _) nd⟩
theorem sm0 : SmP pv0 := (vok0 default (fun _ => False)).sm
theorem vok_tx (w : World) (S : Nat → Prop) (b : ByteArray) (hb : b.size ≤ 1000) : Vok w S (tv b) (tx b) := by
  refine ⟨⟨Rd.nil _ _, Rd.nil _ _, Rd.nil _ _⟩, ⟨(fun ad e => by cases e), (fun ad e => by cases e), (fun ad e => by cases e)⟩, rfl, ?_⟩
  exact ⟨by show b.size ≤ 100000000; omega, by show 0 ≤ 100000000; omega, by show 0 ≤ 100000000; omega, by show 0 ≤ 100000000; omega, sm0.s, sm0.f, sm0.k, fun y hy => by cases hy⟩
theorem vok_0 (w : World) (S : Nat → Prop) : Vok w S vv0 pv0 := vok0 w S
theorem text_su (s : ByteArray) (w : World) : Calls Tryz.prog 11 #[.string s] w fun e w' => e = .returned (.agg #[.int .i64 1, .string s, .slice none 0 0, .slice none 0 0, .slice none 0 0]) ∧ Below w.heap.size w w' := text_calls s w
/-- A space made behind w0, and nothing of w0 changed. -/
structure Sg (w0 w : World) (g N : Nat) (s : PS) : Prop where
  su : Su w w0.heap.size g N s (fun k => k < w0.heap.size)
  bl : Below w0.heap.size w0 w
theorem Sg.below {w0 w w' : World} {g N : Nat} {s : PS} (h : Sg w0 w g N s) (hb : Below w.heap.size w w') : Sg w0 w' g N s := ⟨h.su.below hb, h.bl.trans (hb.mono h.bl.size)⟩
theorem Sg.turn {w0 w w' : World} {g N N' : Nat} {s s' : PS} (h : Sg w0 w g N s) (hs : Su w' w0.heap.size g N' s' (fun k => k < w0.heap.size)) (ho : Only (fun k => ¬ k < w0.heap.size) w w') : Sg w0 w' g N' s' := ⟨hs, h.bl.trans (ho.below h.bl.size (fun k e => Nat.not_lt.1 e))⟩
set_option maxHeartbeats 16000000 in
theorem sure_calls (w : World) : Calls Tryz.prog 29 #[] w fun e w' => e = .returned (.bool true) ∧ Below w.heap.size w w' := by
  go_enter Tryz.func29, Tryz.ntmps29
  go_wp2_with fail
  refine (su_new w).mono ?_
  rintro e w1 ⟨g, rfl, S0, B1⟩
  have S1 : Sg w w1 g 0 ps0 := ⟨S0, B1⟩
  clear B1 S0
  go_wp2_with fail
  refine (text_su ⟨#[120]⟩ _).mono ?_
  rintro e w2 ⟨rfl, B2⟩
  have S2 := S1.below B2
  clear S1
  try clear T2 O2
  try clear B2
  go_wp2_with fail
  refine (put_su S2.su ⟨#[97]⟩ (x := tv ⟨#[120]⟩) 0 a1 b0 (by decide) (vok_tx _ _ _ (by decide)) (by decide) (by decide) (by decide)).mono ?_
  rintro e w3 ⟨rfl, T3, O3⟩
  have S3 := S2.turn T3 O3
  clear S2
  try clear T3 O3
  try clear B3
  go_wp2_with fail
  refine (text_su ⟨#[121]⟩ _).mono ?_
  rintro e w4 ⟨rfl, B4⟩
  have S4 := S3.below B4
  clear S3
  try clear T4 O4
  try clear B4
  go_wp2_with fail
  refine (put_su S4.su ⟨#[98]⟩ (x := tv ⟨#[121]⟩) 5 a2 b1 (by decide) (vok_tx _ _ _ (by decide)) (by decide) (by decide) (by decide)).mono ?_
  rintro e w5 ⟨rfl, T5, O5⟩
  have S5 := S4.turn T5 O5
  clear S4
  try clear T5 O5
  try clear B5
  go_wp2_with fail
  refine (put_su S5.su ⟨#[99]⟩ (x := vv0) 0 a3 b2 (by decide) (vok0 _ _) (by decide) (by decide) (by decide)).mono ?_
  rintro e w6 ⟨rfl, T6, O6⟩
  have S6 := S5.turn T6 O6
  clear S5
  try clear T6 O6
  try clear B6
  go_wp2_with fail
  refine (mark_su S6.su rfl (r := 0) rfl b4).mono ?_
  rintro e w7 ⟨rfl, T7, O7⟩
  have S7 := S6.turn T7 O7
  clear S6
  try clear T7 O7
  try clear B7
  go_wp2_with fail
  refine (mark_su S7.su rfl (r := 140) rfl b5).mono ?_
  rintro e w8 ⟨rfl, T8, O8⟩
  have S8 := S7.turn T8 O8
  clear S7
  try clear T8 O8
  try clear B8
  go_wp2_with fail
  refine (get_su S8.su ⟨#[98]⟩ 4 (r := true) (p := tx ⟨#[121]⟩) rfl rfl (by decide)).mono ?_
  rintro e w9 ⟨y, rfl, V9, -, -, B9⟩
  have ht : y.text = ⟨#[121]⟩ := congrArg PV.text V9.pv
  obtain ⟨WA, hWA⟩ : ∃ WA, w9.alloc (.cells #[.int .i64 y.kind, .string ⟨#[121]⟩, .slice y.LA y.ln y.lc, .slice y.FA y.fn y.fc, .slice y.KA y.kn y.kc] 27) = WA := ⟨_, rfl⟩
  have bA : Below w9.heap.size w9 WA := by rw [← hWA]; exact (Below.refl _ _).alloc (Nat.le_refl _) _
  have zA : WA.cell? ⟨w9.heap.size, 1, none⟩ = some (.string ⟨#[121]⟩) := by
    have h := heap_alloc_new w9 (.cells #[.int .i64 y.kind, .string ⟨#[121]⟩, .slice y.LA y.ln y.lc, .slice y.FA y.fn y.fc, .slice y.KA y.kn y.kc] 27)
    rw [hWA] at h
    simp [World.cell?, h]
  have S9 := (S8.below B9).below bA
  have HA := Lib.hid hWA
  clear V9 S8 B9 bA hWA
  unfold VV.val
  rw [ht]
  clear ht
  go_wp2_with fail
  rw [HA.out]
  clear HA
  refine (get_su S9.su ⟨#[98]⟩ 5 (r := false) (p := pv0) rfl rfl (by decide)).mono ?_
  rintro e w10 ⟨y, rfl, V10, -, -, B10⟩
  obtain ⟨WB, hWB⟩ : ∃ WB, w10.alloc (.cells #[.int .i64 y.kind, .string y.text, .slice y.LA y.ln y.lc, .slice y.FA y.fn y.fc, .slice y.KA y.kn y.kc] 27) = WB := ⟨_, rfl⟩
  have bB : Below w10.heap.size w10 WB := by rw [← hWB]; exact (Below.refl _ _).alloc (Nat.le_refl _) _
  have zB := below_c (below_c zA B10) bB
  have S10 := (S9.below B10).below bB
  have HB := Lib.hid hWB
  clear V10 S9 B10 bB hWB zA
  unfold VV.val
  go_wp2_with fail
  rw [HB.out]
  clear HB
  refine (due_su S10.su ⟨#[98]⟩ 0 (r := true) (d := 5) rfl rfl (by decide)).mono ?_
  rintro e w11 ⟨rfl, B11⟩
  have zC := below_c zB B11
  have S11 := S10.below B11
  clear S10 zB B11
  go_wp2_with fail
  refine (over_su S11.su ⟨#[98]⟩ 5 (r := true) rfl (by decide)).mono ?_
  rintro e w12 ⟨rfl, rfl⟩
  have S12 := S11
  clear S11
  try clear T12 O12
  try clear B12
  go_wp2_with fail
  refine (len_su S12.su 5 (r := 1) rfl (by decide)).mono ?_
  rintro e w13 ⟨rfl, B13⟩
  have S13 := S12.below B13
  clear S12
  try clear T13 O13
  try clear B13
  go_wp2_with fail
  refine (version_su S13.su ⟨#[98]⟩ (r := 2) rfl (by decide)).mono ?_
  rintro e w14 ⟨rfl, rfl⟩
  have S14 := S13
  clear S13
  try clear T14 O14
  try clear B14
  go_wp2_with fail
  refine (drop_su S14.su ⟨#[97]⟩ (r := true) rfl d1 (by decide) (by decide) (by decide) (by decide)).mono ?_
  rintro e w15 ⟨rfl, T15, O15⟩
  have S15 := S14.turn T15 O15
  clear S14
  try clear T15 O15
  try clear B15
  go_wp2_with fail
  refine (setDue_su S15.su ⟨#[98]⟩ 0 (r := true) rfl d3 (by decide) (by decide) (by decide) (by decide)).mono ?_
  rintro e w16 ⟨rfl, T16, O16⟩
  have S16 := S15.turn T16 O16
  clear S15
  try clear T16 O16
  try clear B16
  go_wp2_with fail
  refine (counter_su S16.su (r := 4) rfl).mono ?_
  rintro e w17 ⟨rfl, rfl⟩
  have S17 := S16
  clear S16
  try clear T17 O17
  try clear B17
  go_wp2_with fail
  refine (changes_su S17.su (l := s7.ch) rfl (by decide)).mono ?_
  rintro e w18 ⟨v, es, rfl, FE, B18⟩
  obtain ⟨Ac, cc, rfl⟩ := own_form FE.own
  have hl : es.length = 2 := FE.rel.1
  rw [hl]
  have S18 := S17.below B18
  clear FE B18 S17 hl
  go_wp2_with fail
  refine (touched_su S18.su d4 (by decide)).mono ?_
  rintro e w19 ⟨v, rfl, O19, B19⟩
  obtain ⟨At, ct, rfl⟩ := own_form O19
  have S19 := S18.below B19
  have R19 := Rd.of_own O19
  clear S18 B19 O19
  simp only [List.length_cons, List.length_nil, Nat.zero_add, Nat.reduceAdd] at R19 ⊢
  go_wp2_with fail
  obtain ⟨W1, hW1⟩ : ∃ W1, w19.alloc (.cells #[.string ⟨#[97]⟩, .string ⟨#[98]⟩] 9) = W1 := ⟨_, rfl⟩
  have b1 : Below w19.heap.size w19 W1 := by rw [← hW1]; exact (Below.refl _ _).alloc (Nat.le_refl _) _
  have R1 : RdKs W1 (some ⟨w19.heap.size, 0, none⟩) 2 2 [⟨#[97]⟩, ⟨#[98]⟩] := by rw [← hW1]; exact rd_cells w19 [.string ⟨#[97]⟩, .string ⟨#[98]⟩] _ 1 2 rfl (by decide)
  have S20 := S19.below b1
  have R2 := R19.below b1
  rw [hW1]
  refine (sameT_su _ _ _ _ _ _ _ _ _ (r := true) R2 R1 rfl).mono ?_
  rintro e w21 ⟨rfl, B21⟩
  have S21 := S20.below B21
  clear S19 S20 b1 R1 R2 R19 hW1 B21
  go_wp2_with fail
  refine (back_su S21.su (r := 0) rfl d5 (by decide)).mono ?_
  rintro e w22 ⟨rfl, T22, O22⟩
  have S22 := S21.turn T22 O22
  clear T22 O22
  clear S21
  go_wp2_with fail
  refine (keep_su S22.su (r := 140) rfl d6).mono ?_
  rintro e w23 ⟨rfl, T23, O23⟩
  have S23 := S22.turn T23 O23
  clear T23 O23
  clear S22
  go_wp2_with fail
  refine (counter_su S23.su (r := 2) rfl).mono ?_
  rintro e w24 ⟨rfl, rfl⟩
  go_wp2_with fail
  refine (entries_su S23.su (l := s8.l) rfl (by decide)).mono ?_
  rintro e w25 ⟨v, es, rfl, FE, B25⟩
  obtain ⟨Ac, cc, rfl⟩ := own_form FE.own
  have hl : es.length = 2 := FE.rel.1
  rw [hl]
  have S25 := S23.below B25
  clear FE B25 S23 hl
  go_wp2_with fail
  refine (clear_su S25.su (r := 2) rfl e1 (by decide) (by decide) (by decide)).mono ?_
  rintro e w26 ⟨rfl, T26, O26⟩
  have S26 := S25.turn T26 O26
  clear T26 O26
  clear S25
  go_wp2_with fail
  refine (bytes_su S26.su (b := ⟨#[]⟩) rfl (by decide) (by rw [e2]; decide)).mono ?_
  rintro e w27 ⟨rfl, B27⟩
  have S27 := S26.below B27
  clear S26 B27
  go_wp2_with fail
  refine (text_su ⟨#[122]⟩ _).mono ?_
  rintro e w28 ⟨rfl, B28⟩
  have S28 := S27.below B28
  clear S27 B28
  go_wp2_with fail
  obtain ⟨W1, hW1⟩ : ∃ W1, w28.alloc (.cells #[.string ⟨#[113]⟩, .int .i64 1, .string ⟨#[122]⟩, .slice none 0 0, .slice none 0 0, .slice none 0 0, .int .i64 0, .int .u64 7] 63) = W1 := ⟨_, rfl⟩
  have b1 : Below w28.heap.size w28 W1 := by rw [← hW1]; exact (Below.refl _ _).alloc (Nat.le_refl _) _
  have hs1 : w28.heap.size < W1.heap.size := by rw [← hW1, World.size_alloc]; exact Nat.lt_succ_self _
  have R1 : Rd W1 8 (some ⟨w28.heap.size, 0, none⟩) 1 1 (rows EN.cells [⟨⟨#[113]⟩, tv ⟨#[122]⟩, 0, 7⟩]) := by rw [← hW1]; exact rd_cells w28 _ _ 8 1 rfl (by decide)
  have E1 : ENs W1 (fun q => ¬ (q < w.heap.size ∨ q = w28.heap.size)) [⟨⟨#[113]⟩, tv ⟨#[122]⟩, 0, 7⟩] l10 := by
    refine ⟨rfl, fun i e p he hp => ?_⟩
    rcases Nat.eq_zero_or_pos i with h0 | h0
    · subst h0
      simp [l10] at he hp
      subst he hp
      exact ⟨rfl, rfl, rfl, vok_tx _ _ _ (by decide)⟩
    · rw [List.getElem?_eq_none (by simp; omega)] at he; cases he
  have S29 := S28.su.keep b1 (Kq := fun k => k < w.heap.size ∨ k = w28.heap.size) (fun k e => e.elim (fun e => .inl e) (fun e => .inr ⟨Nat.le_of_eq e.symm, by rw [e]; exact hs1⟩))
  have L29 := S28.below b1
  rw [hW1]
  refine (load_su S29 rfl R1 (fun ad e => by injection e with e; subst e; exact .inr rfl) E1 e5 (by decide) (s' := SpU.ldS l10 false) rfl).mono ?_
  rintro e w30 ⟨rfl, T30, O30⟩
  have S30 := L29.turn (T30.less (fun k e => .inl e)) (O30.mono (fun k e q => e (.inl q)))
  clear L29 T30 O30
  clear S28 S29 b1 hs1 R1 E1 hW1
  go_wp2_with fail
  refine (counter_su S30.su (r := 7) rfl).mono ?_
  rintro e w31 ⟨rfl, rfl⟩
  go_wp2_with fail
  refine (keys_su S30.su 0 e3 (by decide)).mono ?_
  rintro e w32 ⟨Ak, rfl, RK, -, -, B32⟩
  have S32 := S30.below B32
  clear S30 B32
  simp only [List.length_cons, List.length_nil, Nat.zero_add, Nat.reduceAdd] at RK ⊢
  go_wp2_with fail
  obtain ⟨W1, hW1⟩ : ∃ W1, w32.alloc (.cells #[.string ⟨#[113]⟩] 9) = W1 := ⟨_, rfl⟩
  have b1 : Below w32.heap.size w32 W1 := by rw [← hW1]; exact (Below.refl _ _).alloc (Nat.le_refl _) _
  have R1 : RdKs W1 (some ⟨w32.heap.size, 0, none⟩) 1 1 [⟨#[113]⟩] := by rw [← hW1]; exact rd_cells w32 [.string ⟨#[113]⟩] _ 1 1 rfl (by decide)
  have S33 := S32.below b1
  have R2 := RK.below b1
  rw [hW1]
  refine (sameT_su _ _ _ _ _ _ _ _ _ (r := true) R2 R1 rfl).mono ?_
  rintro e w34 ⟨rfl, B34⟩
  have S34 := S33.below B34
  clear S32 S33 b1 R1 R2 RK hW1 B34
  go_wp2_with fail
  refine (stale_su S34.su 9 9 e4 (by decide)).mono ?_
  rintro e w35 ⟨v, rfl, O35, B35⟩
  obtain ⟨At, ct, rfl⟩ := own_form O35
  clear O35
  simp only [List.length_nil]
  go_wp2_with fail
  go_ret
  exact ⟨rfl, (S34.below B35).bl⟩
end Go.Proofs.YtjofbagaobdmoaaGreat.SpW
set_option maxRecDepth 100000
set_option linter.unusedSimpArgs false
set_option linter.unusedVariables false
namespace Go.Proofs.YtjofbagaobdmoaaGreat.SpX
open Go.RowKit Go.Proofs.YtjofbagaobdmoaaGreat.Mem Go.Proofs.YtjofbagaobdmoaaGreat.VaC Go.Proofs.YtjofbagaobdmoaaGreat.VaE Go.Proofs.YtjofbagaobdmoaaGreat.VaH Go.Proofs.YtjofbagaobdmoaaGreat.VaI Go.Proofs.YtjofbagaobdmoaaGreat.VaX Go.Proofs.YtjofbagaobdmoaaGreat.DuA Go.Proofs.YtjofbagaobdmoaaGreat.SpA Go.Proofs.YtjofbagaobdmoaaGreat.SpB Go.Proofs.YtjofbagaobdmoaaGreat.SpC Go.Proofs.YtjofbagaobdmoaaGreat.SpD Go.Proofs.YtjofbagaobdmoaaGreat.SpE Go.Proofs.YtjofbagaobdmoaaGreat.SpF Go.Proofs.YtjofbagaobdmoaaGreat.SpG Go.Proofs.YtjofbagaobdmoaaGreat.SpH Go.Proofs.YtjofbagaobdmoaaGreat.SpI Go.Proofs.YtjofbagaobdmoaaGreat.SpJ Go.Proofs.YtjofbagaobdmoaaGreat.SpK Go.Proofs.YtjofbagaobdmoaaGreat.SpL Go.Proofs.YtjofbagaobdmoaaGreat.SpM Go.Proofs.YtjofbagaobdmoaaGreat.SpN Go.Proofs.YtjofbagaobdmoaaGreat.SpO Go.Proofs.YtjofbagaobdmoaaGreat.SpP Go.Proofs.YtjofbagaobdmoaaGreat.SpQ Go.Proofs.YtjofbagaobdmoaaGreat.SpR Go.Proofs.YtjofbagaobdmoaaGreat.SpS Go.Proofs.YtjofbagaobdmoaaGreat.SpT Go.Proofs.YtjofbagaobdmoaaGreat.SpU Go.Proofs.YtjofbagaobdmoaaGreat.SpV Go.Proofs.YtjofbagaobdmoaaGreat.SpW
open Go.Proofs.YtjofbagaobdmoaaGreat.DsH (Ix IxS okk keyed key_of)
open Go.Proofs.YtjofbagaobdmoaaGreat.DsK (OwnKs RdKs keysV keysV_one elKs)



theorem bb {w0 w1 w2 : World} (h : Below w0.heap.size w0 w1) (k : Below w1.heap.size w1 w2) : Below w0.heap.size w0 w2 := h.trans (k.mono h.size)
set_option maxHeartbeats 16000000 in
theorem nobody_upto (k : ByteArray) (now : Int) (w : World) (hk : k.size ≤ 1048576) (h1 : -9223372036854775808 ≤ now) (h2 : now ≤ 9223372036854775807) :
    Calls Tryz.prog 3 #[.string k, .int .i64 now] w fun e w' => e = .returned (.bool true) ∧ Below w.heap.size w w' := by
  go_enter Tryz.func3, Tryz.ntmps3
  go_wp2_with fail
  refine (get_nil k now w).mono ?_
  rintro e w1 ⟨y, rfl, B1⟩
  unfold VV.val
  obtain ⟨W1, hW1⟩ : ∃ W1, w1.alloc (.cells #[.int .i64 y.kind, .string y.text, .slice y.LA y.ln y.lc, .slice y.FA y.fn y.fc, .slice y.KA y.kn y.kc] 27) = W1 := ⟨_, rfl⟩
  have P1 := bb B1 (show Below w1.heap.size w1 W1 by rw [← hW1]; exact (Below.refl _ _).alloc (Nat.le_refl _) _)
  clear B1
  go_wp2_with fail
  clear hW1
  refine (due_nil k now W1).mono ?_
  rintro e w2 ⟨rfl, B2⟩
  have P2 := bb P1 B2
  clear P1 B2
  go_wp2_with fail
  refine (text_su ⟨#[97]⟩ w2).mono ?_
  rintro e w3 ⟨rfl, B3⟩
  have P3 := bb P2 B3
  clear P2 B3
  go_wp2_with fail
  refine (put_nil k (tv ⟨#[97]⟩) 0 w3).mono ?_
  rintro e w4 ⟨rfl, B4⟩
  have P4 := bb P3 B4
  clear P3 B4
  go_wp2_with fail
  refine (drop_nil k _).mono ?_
  rintro e wq ⟨rfl, e4⟩
  subst e4
  go_wp2_with fail
  refine (setDue_nil k 1 _).mono ?_
  rintro e wq ⟨rfl, e4⟩
  subst e4
  go_wp2_with fail
  refine (clear_nil _).mono ?_
  rintro e wq ⟨rfl, e4⟩
  subst e4
  go_wp2_with fail
  refine (mark_nil _).mono ?_
  rintro e wq ⟨rfl, e4⟩
  subst e4
  go_wp2_with fail
  refine (back_nil _).mono ?_
  rintro e wq ⟨rfl, e4⟩
  subst e4
  go_wp2_with fail
  refine (keep_nil _).mono ?_
  rintro e wq ⟨rfl, e4⟩
  subst e4
  go_wp2_with fail
  refine (load_nil none 0 0 _).mono ?_
  rintro e wq ⟨rfl, e4⟩
  subst e4
  go_wp2_with fail
  refine (counter_nil _).mono ?_
  rintro e wq ⟨rfl, e4⟩
  subst e4
  go_wp2_with fail
  refine (version_nil k _).mono ?_
  rintro e wq ⟨rfl, e4⟩
  subst e4
  go_wp2_with fail
  refine (over_nil k now _).mono ?_
  rintro e wq ⟨rfl, e4⟩
  subst e4
  go_wp2_with fail
  refine (keys_nil now _).mono ?_
  rintro e wq ⟨rfl, e4⟩
  subst e4
  go_wp2_with fail
  refine (len_nil now _).mono ?_
  rintro e wq ⟨rfl, e4⟩
  subst e4
  go_wp2_with fail
  refine (entries_nil _).mono ?_
  rintro e wq ⟨rfl, e4⟩
  subst e4
  go_wp2_with fail
  refine (stale_nil now 9 _).mono ?_
  rintro e wq ⟨rfl, e4⟩
  subst e4
  go_wp2_with fail
  refine (changes_nil _).mono ?_
  rintro e wq ⟨rfl, e4⟩
  subst e4
  go_wp2_with fail
  refine (touched_nil _).mono ?_
  rintro e wq ⟨rfl, e4⟩
  subst e4
  go_wp2_with fail
  refine (bytes_nil _).mono ?_
  rintro e wq ⟨rfl, e4⟩
  subst e4
  go_wp2_with fail
  refine (sure_calls _).mono ?_
  rintro e wz ⟨rfl, Bz⟩
  have Pz := bb P4 Bz
  go_wp2_with fail
  go_ret
  exact ⟨rfl, Pz⟩
end Go.Proofs.YtjofbagaobdmoaaGreat.SpX
