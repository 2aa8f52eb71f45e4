/-
  done, and a row of changes. Conditions: as stated.
-/
import Derived.Test.YtjofbagaobdmoaaGreatSqH
set_option maxRecDepth 100000
set_option linter.unusedSimpArgs false
set_option linter.unusedVariables false
namespace Go.Proofs.YtjofbagaobdmoaaGreat.SrA
open Go.RowKit Go.Proofs.YtjofbagaobdmoaaGreat.Mem Go.Proofs.YtjofbagaobdmoaaGreat.VaC Go.Proofs.YtjofbagaobdmoaaGreat.VaE Go.Proofs.YtjofbagaobdmoaaGreat.VaH Go.Proofs.YtjofbagaobdmoaaGreat.VaI Go.Proofs.YtjofbagaobdmoaaGreat.VaX Go.Proofs.YtjofbagaobdmoaaGreat.DuA Go.Proofs.YtjofbagaobdmoaaGreat.SpA Go.Proofs.YtjofbagaobdmoaaGreat.SpB Go.Proofs.YtjofbagaobdmoaaGreat.SpC Go.Proofs.YtjofbagaobdmoaaGreat.SpD Go.Proofs.YtjofbagaobdmoaaGreat.SpE Go.Proofs.YtjofbagaobdmoaaGreat.SpF Go.Proofs.YtjofbagaobdmoaaGreat.SpG Go.Proofs.YtjofbagaobdmoaaGreat.SpH Go.Proofs.YtjofbagaobdmoaaGreat.SpI Go.Proofs.YtjofbagaobdmoaaGreat.SpJ Go.Proofs.YtjofbagaobdmoaaGreat.SpK Go.Proofs.YtjofbagaobdmoaaGreat.SpL Go.Proofs.YtjofbagaobdmoaaGreat.SpM Go.Proofs.YtjofbagaobdmoaaGreat.SpN Go.Proofs.YtjofbagaobdmoaaGreat.SpO Go.Proofs.YtjofbagaobdmoaaGreat.SpP Go.Proofs.YtjofbagaobdmoaaGreat.SpQ Go.Proofs.YtjofbagaobdmoaaGreat.SpR Go.Proofs.YtjofbagaobdmoaaGreat.SpS Go.Proofs.YtjofbagaobdmoaaGreat.SpT Go.Proofs.YtjofbagaobdmoaaGreat.SpU Go.Proofs.YtjofbagaobdmoaaGreat.SpV Go.Proofs.YtjofbagaobdmoaaGreat.SpW Go.Proofs.YtjofbagaobdmoaaGreat.SpY Go.Proofs.YtjofbagaobdmoaaGreat.SpZ
open Go.Proofs.YtjofbagaobdmoaaGreat.LawS (OV)
open Go.Proofs.YtjofbagaobdmoaaGreat.DsH (Ix IxS okk keyed key_of)
open Go.Proofs.YtjofbagaobdmoaaGreat.DsK (OwnKs RdKs keysV keysV_one elKs)



def ovV (o : OV) : Value := .agg #[.int .i64 o.kind, .string o.key, .int .i64 o.x.kind, .string o.x.text, .slice o.x.LA o.x.ln o.x.lc, .slice o.x.FA o.x.fn o.x.fc, .slice o.x.KA o.x.kn o.x.kc, .int .i64 o.due, .slice o.EA o.en o.ec]
def poOf (o : OV) : PO := ⟨o.kind, o.key, pvOf o.x, o.due⟩
set_option maxHeartbeats 4000000 in
theorem done_su {w : World} {B g N : Nat} {s : PS} {Kp : Nat → Prop} (h : Su w B g N s Kp) (o : OV) (hk : o.key.size ≤ 100000000) (hx : Vok w (fun q => ¬ Kp q) o.x (pvOf o.x)) (hN : N ≤ 400000000) (hc : s.cnt ≤ 4000000000000000000) (hch : s.ch.length ≤ 1000000000) :
    Calls Tryz.prog 31 #[.pointer (some ⟨g, 0, none⟩), ovV o] w fun e w' => e = .returned (.tuple #[]) ∧ Su w' B g (doneN s N (poOf o)) (doneS s (poOf o)) Kp ∧ Only (fun k => ¬ Kp k) w w' := by
  obtain ⟨W1, hW1⟩ : ∃ W1, w.alloc (.cells o.cells.toArray 57) = W1 := ⟨_, rfl⟩
  have b1 : Below w.heap.size w W1 := by rw [← hW1]; exact (Below.refl _ _).alloc (Nat.le_refl _) _
  have hbx : W1.heap[w.heap.size]? = some (.cells o.cells.toArray 57 (0, 0)) := by rw [← hW1]; exact heap_alloc_new w _
  obtain ⟨kind, key, x, due, EA, en, ec⟩ := o
  have z0 : W1.cell? ⟨w.heap.size, 0, none⟩ = some (.int .i64 kind) := by simp [World.cell?, hbx, OV.cells]
  have z1 : W1.cell? ⟨w.heap.size, 1, none⟩ = some (.string key) := by simp [World.cell?, hbx, OV.cells]
  have z2 : W1.cell? ⟨w.heap.size, 2, none⟩ = some (.int .i64 x.kind) := by simp [World.cell?, hbx, OV.cells]
  have z3 : W1.cell? ⟨w.heap.size, 3, none⟩ = some (.string x.text) := by simp [World.cell?, hbx, OV.cells]
  have z4 : W1.cell? ⟨w.heap.size, 4, none⟩ = some (.slice x.LA x.ln x.lc) := by simp [World.cell?, hbx, OV.cells]
  have z5 : W1.cell? ⟨w.heap.size, 5, none⟩ = some (.slice x.FA x.fn x.fc) := by simp [World.cell?, hbx, OV.cells]
  have z6 : W1.cell? ⟨w.heap.size, 6, none⟩ = some (.slice x.KA x.kn x.kc) := by simp [World.cell?, hbx, OV.cells]
  have z7 : W1.cell? ⟨w.heap.size, 7, none⟩ = some (.int .i64 due) := by simp [World.cell?, hbx, OV.cells]
  have O1 : Only (fun k => ¬ Kp k) w W1 := SpU.only_b b1
  have h1 := h.below b1
  have hx1 := hx.below b1
  dsimp only [poOf] at hk hx1 ⊢
  unfold OV.cells at hW1
  unfold ovV
  have HW := Lib.hid hW1
  have HS := Lib.hid (And.intro h1 (And.intro hx1 O1))
  clear h hx hbx b1 hW1 h1 hx1 O1
  by_cases k0 : kind = 0
  · subst k0
    go_enter Tryz.func31, Tryz.ntmps31
    go_upto_region 1 with fail
    rw [HW.out]
    go_wp2_with fail
    obtain ⟨h1, hx1, O1⟩ := HS.out
    refine (put_su h1 key (x := x) due rfl rfl hk hx1 (by omega) (by omega) hch).mono ?_
    rintro e w2 ⟨rfl, S2, O2⟩
    go_wp2_with fail
    refine bodyPost_end (results_none rfl _ _ _) rfl ?_
    exact ⟨rfl, S2, O1.trans O2 (fun q e => .inl e)⟩
  by_cases k1 : kind = 1
  · subst k1
    go_enter Tryz.func31, Tryz.ntmps31
    go_upto_region 1 with fail
    rw [HW.out]
    go_wp2_with fail
    obtain ⟨h1, hx1, O1⟩ := HS.out
    refine (drop_su h1 key rfl rfl hk (by omega) (by omega) hch).mono ?_
    rintro e w2 ⟨rfl, S2, O2⟩
    go_wp2_with fail
    refine bodyPost_end (results_none rfl _ _ _) rfl ?_
    exact ⟨rfl, S2, O1.trans O2 (fun q e => .inl e)⟩
  by_cases k2 : kind = 2
  · subst k2
    go_enter Tryz.func31, Tryz.ntmps31
    go_upto_region 1 with fail
    rw [HW.out]
    go_wp2_with fail
    obtain ⟨h1, hx1, O1⟩ := HS.out
    refine (setDue_su h1 key due rfl rfl hk (by omega) (by omega) hch).mono ?_
    rintro e w2 ⟨rfl, S2, O2⟩
    go_wp2_with fail
    refine bodyPost_end (results_none rfl _ _ _) rfl ?_
    exact ⟨rfl, S2, O1.trans O2 (fun q e => .inl e)⟩
  by_cases k3 : kind = 3
  · subst k3
    go_enter Tryz.func31, Tryz.ntmps31
    go_upto_region 1 with fail
    rw [HW.out]
    go_wp2_with fail
    obtain ⟨h1, hx1, O1⟩ := HS.out
    refine (clear_su h1 rfl rfl hN hc hch).mono ?_
    rintro e w2 ⟨rfl, S2, O2⟩
    go_wp2_with fail
    refine bodyPost_end (results_none rfl _ _ _) rfl ?_
    exact ⟨rfl, S2, O1.trans O2 (fun q e => .inl e)⟩
  · have q0 : (kind == 0) = false := by simpa using k0
    have q1 : (kind == 1) = false := by simpa using k1
    have q2 : (kind == 2) = false := by simpa using k2
    have q3 : (kind == 3) = false := by simpa using k3
    go_enter Tryz.func31, Tryz.ntmps31
    go_upto_region 1 with fail
    rw [HW.out]
    go_wp2_with fail
    refine bodyPost_end (results_none rfl _ _ _) rfl ?_
    obtain ⟨h1, hx1, O1⟩ := HS.out
    have e1 : doneS s ⟨kind, key, pvOf x, due⟩ = s := by unfold doneS; dsimp only; rw [if_neg k0, if_neg k1, if_neg k2, if_neg k3]
    have e2 : doneN s N ⟨kind, key, pvOf x, due⟩ = N := by unfold doneN; dsimp only; rw [if_neg k0, if_neg k1, if_neg k2, if_neg k3]
    rw [e1, e2]
    exact ⟨rfl, h1, O1⟩
end Go.Proofs.YtjofbagaobdmoaaGreat.SrA
