/-
  Incr. Conditions: as stated.
-/
import Derived.Test.YthgdkmbcibfehaaDoorDcB
import Derived.Deep.RegionHeld3
import Derived.Deep.RegionLaw
import Derived.Deep.Cut
import Derived.Lib.ItoaLen
set_option maxRecDepth 100000
set_option linter.unusedSimpArgs false
set_option linter.unusedVariables false
namespace Go.Proofs.YthgdkmbcibfehaaDoor.DcC
open Go.RowKit Go.Lib Go.Proofs.YthgdkmbcibfehaaDoor.Mem Go.Proofs.YthgdkmbcibfehaaDoor.NumA Go.Proofs.YthgdkmbcibfehaaDoor.NumB Go.Proofs.YthgdkmbcibfehaaDoor.NumC Go.Proofs.YthgdkmbcibfehaaDoor.NumE Go.Proofs.YthgdkmbcibfehaaDoor.DcA Go.Proofs.YthgdkmbcibfehaaDoor.DcB

theorem step_of_list {P : Program} {ops : Array Oper} {o : Oper} {a : Act} {w : World} {K : Act → World → Prop} {Q : Exit → Act → World → Prop} {E : Prop} (hgd : o.guard = none)
    (h : wpList P ops (fun e a' w' => e = .normal ∧ K a' w') [o] a w) : if Region.wanted o (yielded ops a.tmps) = true then Oper.wp P o a w K Q else E := by
  have hw : Region.wanted o (yielded ops a.tmps) = true := by simp [Region.wanted, hgd]
  rw [if_pos hw]
  unfold wpList at h
  rw [if_pos hw] at h
  rcases h with h | ⟨-, a', w', h, -⟩
  · have h1 : Oper.wp P o a w K (fun e a' w' => e = .normal ∧ K a' w') := Oper.wp_mono (fun a w h => h.2) h
    unfold Oper.wp at h1 ⊢
    generalize (execOp a.eval o).run P w = r at h1 ⊢
    cases r with
    | ok n w' =>
      cases n <;> simp only [Oper.upon] at h1 ⊢ <;>
        first
          | exact h1
          | exact Calls.mono h1 (fun e w'' he => by
              cases e
              · exact he
              · exact absurd he.1 (by simp)
              · obtain ⟨a, w, he, _⟩ := he
                exact absurd he (by simp))
          | exact absurd h1.1 (by simp)
    | halt x w' =>
      cases x <;> simp only [Oper.upon] at h1 ⊢ <;> first | exact h1 | exact absurd h1.1 (by simp) | (obtain ⟨a, w, he, _⟩ := h1; exact absurd he (by simp))
  · exact absurd h (by simp)

theorem more {w : World} {B g m N N' : Nat} {l : List Fld} (h : Dc w B g m l N) (hN : N ≤ N') : Dc w B g m l N' := by
  obtain ⟨D, hM, hT⟩ := h.mp
  exact { h with len := by have := h.len; omega, mp := ⟨D, hM.mono hN, hT⟩ }
theorem mono' {S S' : Nat → Prop} {w w' : World} (h : Only S w w') (hs : ∀ b, b < w.heap.size → S b → S' b) : Only S' w w' := ⟨h.os, h.tape, h.output, h.size, fun b hb hn => h.block b hb (fun x => hn (hs b hb x))⟩
theorem txt_le {S : Int} (h : inR S) : (txt S).size ≤ 21 := by
  show (itoa S).toArray.size ≤ 21
  rw [List.size_toArray]
  exact itoa_length_le S h.1 h.2
def baseD (l : List Fld) (k : ByteArray) : Option Int := match getL l k with
  | none => some 0
  | some s => parseD s.data.toList
def incV (l : List Fld) (k : ByteArray) (n : Int) : Value := match baseD l k with
  | none => .tuple #[.int .i64 0, .int .i64 10]
  | some m => addD m n
def incL (l : List Fld) (k : ByteArray) (n : Int) : List Fld := match baseD l k with
  | none => l
  | some m => if inR (m + n) then setL l k (txt (m + n)) else l
theorem baseD_in {l : List Fld} {k : ByteArray} {m : Int} (h : baseD l k = some m) : inR m := by
  unfold baseD at h
  split at h
  · injection h with h; subst h; unfold inR; omega
  · exact (itoa_parse h).2
set_option maxHeartbeats 4000000 in
theorem incr_calls (B g m : Nat) (l : List Fld) (N : Nat) (k : ByteArray) (n : Int) (w : World) (h : Dc w B g m l N) (hL : Laid w) (hk : okk k) (hn : inR n) (hv : ∀ s, getL l k = some s → s.size ≤ 281474976710656) (hN : N ≤ 1099511627775) :
    Calls Tryd.prog 16 #[.pointer (some ⟨g, 0, none⟩), .string k, .int .i64 n] w fun e w' => e = .returned (incV l k n) ∧ Dc w' B g m (incL l k n) (N + 1) ∧ Only (fun b => b = m) w w' := by
  have H := Lib.hid h
  have c0 := h.cell
  have hlk := h.look hk
  rcases hg : getL l k with _ | s
  · rw [hg] at hlk
    have hb : baseD l k = some 0 := by unfold baseD; rw [hg]
    have HB := Lib.hid hb
    clear hb
    have ha := fun W => add_calls 0 n W (by unfold inR; omega) hn
    have Ha := Lib.hid ha
    have H1 := H.out
    have L1 := hL
    have O1 : Only (fun b => b = m) w w := Only.refl _ _
    clear ha hg h
    go_enter Tryd.func16, Tryd.ntmps16
    go_wp2_with fail
    obtain ⟨S, hS⟩ : ∃ S, S = 0 + n := ⟨_, rfl⟩
    have HS := Lib.hid hS
    by_cases hin : inR S
    · have Hin := Lib.hid hin
      have had : addD 0 n = .tuple #[.int .i64 S, .int .i64 0] := by unfold addD; rw [← hS, if_pos hin]
      have Had := Lib.hid had
      rw [had] at Ha
      clear had hS hin
      refine (Ha.out _).mono ?_
      rintro e w2 ⟨rfl, rfl⟩
      go_upto_region 13 with fail
      refine wp_region_held_drew (S := fun w' => w'.cell? ⟨g, 0, none⟩ = some (.map (some m))) (by kernel_rfl) (show _ = _ from H1.cell) (fun hHeld => ?_)
      refine wpAnyH_take (i := 0) (v := ?_) rfl (by kernel_rfl) (by kernel_rfl) (by kernel_rfl) (fun _ _ _ h => h) (Or.inl ⟨by rfl, ?_⟩) (by assumption) ?_
      rotate_left
      · intro wz hSw
        (try dsimp only at hSw)
        first
          | (go_simp; done)
          | (go_simp; with_reducible rfl)
      try simp only [Act.put, List.getElem_toArray, List.getElem_cons_zero, List.getElem_cons_succ, List.setIfInBounds_toArray, List.set_cons_zero, List.set_cons_succ]
      refine wpAnyH_take (i := 1) (v := ?_) rfl (by kernel_rfl) (by kernel_rfl) (by kernel_rfl) (fun _ _ _ h => h) (Or.inl ⟨by rfl, ?_⟩) (by assumption) ?_
      rotate_left
      · intro wz hSw
        (try dsimp only at hSw)
        first
          | (go_simp; done)
          | (go_simp; with_reducible rfl)
      try simp only [Act.put, List.getElem_toArray, List.getElem_cons_zero, List.getElem_cons_succ, List.setIfInBounds_toArray, List.set_cons_zero, List.set_cons_succ]
      refine wpAnyH_take (i := 2) (v := ?_) rfl (by kernel_rfl) (by kernel_rfl) (by kernel_rfl) (fun _ _ _ h => h) (Or.inl ⟨by rfl, ?_⟩) (by assumption) ?_
      rotate_left
      · intro wz hSw
        (try dsimp only at hSw)
        first
          | (go_simp; done)
          | (go_simp; with_reducible rfl)
      try simp only [Act.put, List.getElem_toArray, List.getElem_cons_zero, List.getElem_cons_succ, List.setIfInBounds_toArray, List.set_cons_zero, List.set_cons_succ]
      refine wpAnyH_take (i := 3) (v := ?_) rfl (by kernel_rfl) (by kernel_rfl) (by kernel_rfl) (fun _ _ _ h => h) (Or.inl ⟨by rfl, ?_⟩) (by assumption) ?_
      rotate_left
      · intro wz hSw
        (try dsimp only at hSw)
        first
          | (go_simp; done)
          | (go_simp; with_reducible rfl)
      try simp only [Act.put, List.getElem_toArray, List.getElem_cons_zero, List.getElem_cons_succ, List.setIfInBounds_toArray, List.set_cons_zero, List.set_cons_succ]
      refine wpAnyH_take (i := 4) (v := ?_) rfl (by kernel_rfl) (by kernel_rfl) (by kernel_rfl) (fun _ _ _ h => h) (Or.inl ⟨by rfl, ?_⟩) (by assumption) ?_
      rotate_left
      · intro wz hSw
        (try dsimp only at hSw)
        first
          | (go_simp; done)
          | (go_simp; with_reducible rfl)
      try simp only [Act.put, List.getElem_toArray, List.getElem_cons_zero, List.getElem_cons_succ, List.setIfInBounds_toArray, List.set_cons_zero, List.set_cons_succ]
      refine wpAnyH_take (i := 5) (v := ?_) rfl (by kernel_rfl) (by kernel_rfl) (by kernel_rfl) (fun _ _ _ h => h) (Or.inl ⟨by rfl, ?_⟩) (by assumption) ?_
      rotate_left
      · intro wz hSw
        (try dsimp only at hSw)
        first
          | (go_simp; done)
          | (go_simp; with_reducible rfl)
      try simp only [Act.put, List.getElem_toArray, List.getElem_cons_zero, List.getElem_cons_succ, List.setIfInBounds_toArray, List.set_cons_zero, List.set_cons_succ]
      refine wpAnyH_ready (rs := [6]) (by kernel_rfl) (by simp) ?_
      refine AllReadyH.cons rfl (fun K32 hK32 => ?_) AllReadyH.nil
      go_simp
      refine (print_calls S _ (L1.below ((Below.refl _ _).drew)) Hin.out).mono ?_
      rintro e w3 ⟨rfl, b3⟩
      have H3 := (H1.below ((Below.refl _ _).drew)).below b3
      refine hK32.out _ _ H3.cell (fun hHeld => ?_)
      clear hK32 K32
      try simp only [Act.put, List.getElem_toArray, List.getElem_cons_zero, List.getElem_cons_succ, List.setIfInBounds_toArray, List.set_cons_zero, List.set_cons_succ]
      obtain ⟨D, hM, hT⟩ := H3.mp
      refine wpAnyH_ready (rs := [7]) (by kernel_rfl) (by simp) ?_
      refine AllReadyH.cons rfl (fun K33 hK33 => ?_) AllReadyH.nil
      refine step_of_list rfl ?_
      refine wpList_mapUpdate_own _ rfl _ _ _ 59 rfl 9 9 keyed Tryd.underlying59 _ m N D rfl hM (by unfold maxLen; omega) _ _ (klS k) rfl rfl (key_of hk) (.lit (.string (txt S).data.toList)) [] (plainElem_string Tryd.underlying9 (Nat.le_trans (txt_le Hin.out) (by decide))) ?_
      intro w4 hown4 hturn4
      refine ⟨rfl, ?_⟩
      have O4 := Only.of_grown hturn4
      have hp4 := O4.heap H3.hp (fun e => by injection e with e; exact H3.gm e.symm)
      have c4 : w4.cell? ⟨g, 0, none⟩ = some (.map (some m)) := by unfold World.cell?; simp only [hp4]; rfl
      refine hK33.out _ _ c4 (fun hHeld => ?_)
      clear hK33 K33
      try simp only [Act.put, List.getElem_toArray, List.getElem_cons_zero, List.getElem_cons_succ, List.setIfInBounds_toArray, List.set_cons_zero, List.set_cons_succ]
      refine wpAnyH_done (by kernel_rfl) ?_ _
      go_wp2_with fail
      go_ret2
      have hres : incV l k n = .tuple #[.int .i64 S, .int .i64 0] ∧ incL l k n = setL l k (txt S) := by
        unfold incV incL; rw [HB.out]; exact ⟨Had.out, by show (if inR (_ + n) then setL l k (txt (_ + n)) else l) = _; rw [← HS.out]; exact if_pos Hin.out⟩
      rw [hres.1, hres.2]
      refine ⟨rfl, ⟨hp4, ⟨_, hown4, hT.put (hM.tidy keyed) H3.ris k _⟩, H3.gB, H3.mB, H3.gm, ris_set H3.ris k _, ?_⟩, ?_⟩
      · rw [set_len l H3.ris]
        have := H3.len
        split <;> omega
      · exact (O1.trans (Only.of_below (((Below.refl _ _).drew).trans b3)) (fun b hb => .inr (Nat.le_trans O1.size hb))).trans (O4.mono (S' := fun b => b = m) (fun b hb => by injection hb with hb; exact hb.symm)) (fun b hb => .inl hb)
    · have Hin := Lib.hid hin
      have had : addD 0 n = .tuple #[.int .i64 0, .int .i64 11] := by unfold addD; rw [← hS, if_neg hin]
      have hres : incV l k n = .tuple #[.int .i64 0, .int .i64 11] ∧ incL l k n = l := by
        unfold incV incL; rw [HB.out]; exact ⟨had, if_neg (by rw [← hS]; exact hin)⟩
      rw [had] at Ha
      have Hres := Lib.hid hres
      clear had hS hin hres
      refine (Ha.out _).mono ?_
      rintro e w2 ⟨rfl, rfl⟩
      go_wp2_with fail
      go_ret2
      rw [Hres.out.1, Hres.out.2]
      exact ⟨rfl, more H1 (by omega), O1⟩
  · rw [hg] at hlk
    have hp := Lib.hid (parse_calls s w hL (hv s hg))
    have hbd : Hid (baseD l k = parseD s.data.toList) := by show _ = _; unfold baseD; rw [hg]
    clear hg h
    go_enter Tryd.func16, Tryd.ntmps16
    go_wp2_with fail
    rcases hpd : parseD s.data.toList with _ | M
    · have hres : incV l k n = .tuple #[.int .i64 0, .int .i64 10] ∧ incL l k n = l := by
        unfold incV incL; rw [hbd.out, hpd]; exact ⟨rfl, rfl⟩
      rw [hpd, show parseV none = .tuple #[.int .i64 0, .int .i64 10] from rfl] at hp
      have Hres := Lib.hid hres
      clear hpd hres
      refine hp.out.mono ?_
      rintro e w1 ⟨rfl, b1⟩
      go_wp2_with fail
      go_ret2
      rw [Hres.out.1, Hres.out.2]
      exact ⟨rfl, more (H.out.below b1) (by omega), mono' (Only.of_below b1) (fun b hb hk => absurd hk (by omega))⟩
    · have HB : Hid (baseD l k = some M) := by show _ = _; rw [hbd.out, hpd]
      have ha := fun W => add_calls M n W (baseD_in HB.out) hn
      have Ha := Lib.hid ha
      rw [hpd, show parseV (some M) = .tuple #[.int .i64 M, .int .i64 0] from rfl] at hp
      clear ha hpd
      refine hp.out.mono ?_
      rintro e w1 ⟨rfl, b1⟩
      have H1 := H.out.below b1
      have L1 := hL.below b1
      have O1 : Only (fun b => b = m) w w1 := mono' (Only.of_below b1) (fun b hb hk => absurd hk (by omega))
      clear hp
      go_wp2_with fail
      obtain ⟨S, hS⟩ : ∃ S, S = M + n := ⟨_, rfl⟩
      have HS := Lib.hid hS
      by_cases hin : inR S
      · have Hin := Lib.hid hin
        have had : addD M n = .tuple #[.int .i64 S, .int .i64 0] := by unfold addD; rw [← hS, if_pos hin]
        have Had := Lib.hid had
        rw [had] at Ha
        clear had hS hin
        refine (Ha.out _).mono ?_
        rintro e w2 ⟨rfl, rfl⟩
        go_upto_region 13 with fail
        refine wp_region_held_drew (S := fun w' => w'.cell? ⟨g, 0, none⟩ = some (.map (some m))) (by kernel_rfl) (show _ = _ from H1.cell) (fun hHeld => ?_)
        refine wpAnyH_take (i := 0) (v := ?_) rfl (by kernel_rfl) (by kernel_rfl) (by kernel_rfl) (fun _ _ _ h => h) (Or.inl ⟨by rfl, ?_⟩) (by assumption) ?_
        rotate_left
        · intro wz hSw
          (try dsimp only at hSw)
          first
            | (go_simp; done)
            | (go_simp; with_reducible rfl)
        try simp only [Act.put, List.getElem_toArray, List.getElem_cons_zero, List.getElem_cons_succ, List.setIfInBounds_toArray, List.set_cons_zero, List.set_cons_succ]
        refine wpAnyH_take (i := 1) (v := ?_) rfl (by kernel_rfl) (by kernel_rfl) (by kernel_rfl) (fun _ _ _ h => h) (Or.inl ⟨by rfl, ?_⟩) (by assumption) ?_
        rotate_left
        · intro wz hSw
          (try dsimp only at hSw)
          first
            | (go_simp; done)
            | (go_simp; with_reducible rfl)
        try simp only [Act.put, List.getElem_toArray, List.getElem_cons_zero, List.getElem_cons_succ, List.setIfInBounds_toArray, List.set_cons_zero, List.set_cons_succ]
        refine wpAnyH_take (i := 2) (v := ?_) rfl (by kernel_rfl) (by kernel_rfl) (by kernel_rfl) (fun _ _ _ h => h) (Or.inl ⟨by rfl, ?_⟩) (by assumption) ?_
        rotate_left
        · intro wz hSw
          (try dsimp only at hSw)
          first
            | (go_simp; done)
            | (go_simp; with_reducible rfl)
        try simp only [Act.put, List.getElem_toArray, List.getElem_cons_zero, List.getElem_cons_succ, List.setIfInBounds_toArray, List.set_cons_zero, List.set_cons_succ]
        refine wpAnyH_take (i := 3) (v := ?_) rfl (by kernel_rfl) (by kernel_rfl) (by kernel_rfl) (fun _ _ _ h => h) (Or.inl ⟨by rfl, ?_⟩) (by assumption) ?_
        rotate_left
        · intro wz hSw
          (try dsimp only at hSw)
          first
            | (go_simp; done)
            | (go_simp; with_reducible rfl)
        try simp only [Act.put, List.getElem_toArray, List.getElem_cons_zero, List.getElem_cons_succ, List.setIfInBounds_toArray, List.set_cons_zero, List.set_cons_succ]
        refine wpAnyH_take (i := 4) (v := ?_) rfl (by kernel_rfl) (by kernel_rfl) (by kernel_rfl) (fun _ _ _ h => h) (Or.inl ⟨by rfl, ?_⟩) (by assumption) ?_
        rotate_left
        · intro wz hSw
          (try dsimp only at hSw)
          first
            | (go_simp; done)
            | (go_simp; with_reducible rfl)
        try simp only [Act.put, List.getElem_toArray, List.getElem_cons_zero, List.getElem_cons_succ, List.setIfInBounds_toArray, List.set_cons_zero, List.set_cons_succ]
        refine wpAnyH_take (i := 5) (v := ?_) rfl (by kernel_rfl) (by kernel_rfl) (by kernel_rfl) (fun _ _ _ h => h) (Or.inl ⟨by rfl, ?_⟩) (by assumption) ?_
        rotate_left
        · intro wz hSw
          (try dsimp only at hSw)
          first
            | (go_simp; done)
            | (go_simp; with_reducible rfl)
        try simp only [Act.put, List.getElem_toArray, List.getElem_cons_zero, List.getElem_cons_succ, List.setIfInBounds_toArray, List.set_cons_zero, List.set_cons_succ]
        refine wpAnyH_ready (rs := [6]) (by kernel_rfl) (by simp) ?_
        refine AllReadyH.cons rfl (fun K32 hK32 => ?_) AllReadyH.nil
        go_simp
        refine (print_calls S _ (L1.below ((Below.refl _ _).drew)) Hin.out).mono ?_
        rintro e w3 ⟨rfl, b3⟩
        have H3 := (H1.below ((Below.refl _ _).drew)).below b3
        refine hK32.out _ _ H3.cell (fun hHeld => ?_)
        clear hK32 K32
        try simp only [Act.put, List.getElem_toArray, List.getElem_cons_zero, List.getElem_cons_succ, List.setIfInBounds_toArray, List.set_cons_zero, List.set_cons_succ]
        obtain ⟨D, hM, hT⟩ := H3.mp
        refine wpAnyH_ready (rs := [7]) (by kernel_rfl) (by simp) ?_
        refine AllReadyH.cons rfl (fun K33 hK33 => ?_) AllReadyH.nil
        refine step_of_list rfl ?_
        refine wpList_mapUpdate_own _ rfl _ _ _ 59 rfl 9 9 keyed Tryd.underlying59 _ m N D rfl hM (by unfold maxLen; omega) _ _ (klS k) rfl rfl (key_of hk) (.lit (.string (txt S).data.toList)) [] (plainElem_string Tryd.underlying9 (Nat.le_trans (txt_le Hin.out) (by decide))) ?_
        intro w4 hown4 hturn4
        refine ⟨rfl, ?_⟩
        have O4 := Only.of_grown hturn4
        have hp4 := O4.heap H3.hp (fun e => by injection e with e; exact H3.gm e.symm)
        have c4 : w4.cell? ⟨g, 0, none⟩ = some (.map (some m)) := by unfold World.cell?; simp only [hp4]; rfl
        refine hK33.out _ _ c4 (fun hHeld => ?_)
        clear hK33 K33
        try simp only [Act.put, List.getElem_toArray, List.getElem_cons_zero, List.getElem_cons_succ, List.setIfInBounds_toArray, List.set_cons_zero, List.set_cons_succ]
        refine wpAnyH_done (by kernel_rfl) ?_ _
        go_wp2_with fail
        go_ret2
        have hres : incV l k n = .tuple #[.int .i64 S, .int .i64 0] ∧ incL l k n = setL l k (txt S) := by
          unfold incV incL; rw [HB.out]; exact ⟨Had.out, by show (if inR (_ + n) then setL l k (txt (_ + n)) else l) = _; rw [← HS.out]; exact if_pos Hin.out⟩
        rw [hres.1, hres.2]
        refine ⟨rfl, ⟨hp4, ⟨_, hown4, hT.put (hM.tidy keyed) H3.ris k _⟩, H3.gB, H3.mB, H3.gm, ris_set H3.ris k _, ?_⟩, ?_⟩
        · rw [set_len l H3.ris]
          have := H3.len
          split <;> omega
        · exact (O1.trans (Only.of_below (((Below.refl _ _).drew).trans b3)) (fun b hb => .inr (Nat.le_trans O1.size hb))).trans (O4.mono (S' := fun b => b = m) (fun b hb => by injection hb with hb; exact hb.symm)) (fun b hb => .inl hb)
      · have Hin := Lib.hid hin
        have had : addD M n = .tuple #[.int .i64 0, .int .i64 11] := by unfold addD; rw [← hS, if_neg hin]
        have hres : incV l k n = .tuple #[.int .i64 0, .int .i64 11] ∧ incL l k n = l := by
          unfold incV incL; rw [HB.out]; exact ⟨had, if_neg (by rw [← hS]; exact hin)⟩
        rw [had] at Ha
        have Hres := Lib.hid hres
        clear had hS hin hres
        refine (Ha.out _).mono ?_
        rintro e w2 ⟨rfl, rfl⟩
        go_wp2_with fail
        go_ret2
        rw [Hres.out.1, Hres.out.2]
        exact ⟨rfl, more H1 (by omega), O1⟩
end Go.Proofs.YthgdkmbcibfehaaDoor.DcC
