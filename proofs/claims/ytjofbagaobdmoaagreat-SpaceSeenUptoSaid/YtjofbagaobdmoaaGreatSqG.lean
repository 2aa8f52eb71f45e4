/-
  SameEntries of what reads alike; done; again. Conditions: as stated.
-/
import Derived.Test.YtjofbagaobdmoaaGreatSqF
import Derived.Test.YtjofbagaobdmoaaGreatLawS
set_option maxRecDepth 100000
set_option linter.unusedSimpArgs false
set_option linter.unusedVariables false
namespace Go.Proofs.YtjofbagaobdmoaaGreat.SpY
open Go.RowKit Go.Proofs.YtjofbagaobdmoaaGreat.Mem Go.Proofs.YtjofbagaobdmoaaGreat.VaC Go.Proofs.YtjofbagaobdmoaaGreat.VaE Go.Proofs.YtjofbagaobdmoaaGreat.VaH Go.Proofs.YtjofbagaobdmoaaGreat.VaI Go.Proofs.YtjofbagaobdmoaaGreat.VaX Go.Proofs.YtjofbagaobdmoaaGreat.DuA Go.Proofs.YtjofbagaobdmoaaGreat.SpA Go.Proofs.YtjofbagaobdmoaaGreat.SpB Go.Proofs.YtjofbagaobdmoaaGreat.SpC Go.Proofs.YtjofbagaobdmoaaGreat.SpD Go.Proofs.YtjofbagaobdmoaaGreat.SpE Go.Proofs.YtjofbagaobdmoaaGreat.SpF Go.Proofs.YtjofbagaobdmoaaGreat.SpG Go.Proofs.YtjofbagaobdmoaaGreat.SpH Go.Proofs.YtjofbagaobdmoaaGreat.SpI Go.Proofs.YtjofbagaobdmoaaGreat.SpJ Go.Proofs.YtjofbagaobdmoaaGreat.SpK Go.Proofs.YtjofbagaobdmoaaGreat.SpL Go.Proofs.YtjofbagaobdmoaaGreat.SpM Go.Proofs.YtjofbagaobdmoaaGreat.SpN Go.Proofs.YtjofbagaobdmoaaGreat.SpO Go.Proofs.YtjofbagaobdmoaaGreat.SpP Go.Proofs.YtjofbagaobdmoaaGreat.SpQ Go.Proofs.YtjofbagaobdmoaaGreat.SpR Go.Proofs.YtjofbagaobdmoaaGreat.SpS Go.Proofs.YtjofbagaobdmoaaGreat.SpT Go.Proofs.YtjofbagaobdmoaaGreat.SpU Go.Proofs.YtjofbagaobdmoaaGreat.SpV Go.Proofs.YtjofbagaobdmoaaGreat.SpW
open Go.Proofs.YtjofbagaobdmoaaGreat.DsH (Ix IxS okk keyed key_of)
open Go.Proofs.YtjofbagaobdmoaaGreat.DsK (OwnKs RdKs keysV keysV_one elKs)



/-- An element of a row of entries. -/
abbrev SE (q : Addr) (ky : ByteArray) (x : VV) (due : Int) (ver : Nat) (w : World) : Prop := w.cell? q = some (.string ky) ∧ w.cell? ⟨q.block, q.off + 1, none⟩ = some (.int .i64 x.kind) ∧ w.cell? ⟨q.block, q.off + 2, none⟩ = some (.string x.text) ∧ w.cell? ⟨q.block, q.off + 3, none⟩ = some (.slice x.LA x.ln x.lc) ∧ w.cell? ⟨q.block, q.off + 4, none⟩ = some (.slice x.FA x.fn x.fc) ∧ w.cell? ⟨q.block, q.off + 5, none⟩ = some (.slice x.KA x.kn x.kc) ∧ w.cell? ⟨q.block, q.off + 6, none⟩ = some (.int .i64 due) ∧ w.cell? ⟨q.block, q.off + 7, none⟩ = some (.int .u64 ver)
theorem se_below {q q2 : Addr} {ky ky2 : ByteArray} {x x2 : VV} {due due2 : Int} {ver ver2 : Nat} {w w' : World} (h : SE q ky x due ver w ∧ SE q2 ky2 x2 due2 ver2 w) (hb : Below w.heap.size w w') : SE q ky x due ver w' ∧ SE q2 ky2 x2 due2 ver2 w' := by
  obtain ⟨⟨a0, a1, a2, a3, a4, a5, a6, a7⟩, b0, b1, b2, b3, b4, b5, b6, b7⟩ := h
  exact ⟨⟨below_c a0 hb, below_c a1 hb, below_c a2 hb, below_c a3 hb, below_c a4 hb, below_c a5 hb, below_c a6 hb, below_c a7 hb⟩, below_c b0 hb, below_c b1 hb, below_c b2 hb, below_c b3 hb, below_c b4 hb, below_c b5 hb, below_c b6 hb, below_c b7 hb⟩
set_option maxHeartbeats 8000000 in
theorem sameEntries_eq (A B : Option Addr) (n c d : Nat) (es es' : List EN) (l : List (ByteArray × PH)) {S S' : Nat → Prop} (w : World) (ha : Rd w 8 A n c (rows EN.cells es)) (hb0 : Rd w 8 B n d (rows EN.cells es')) (h1 : ENs w S es l) (h2 : ENs w S' es' l) :
    Calls Tryz.prog 32 #[.slice A n c, .slice B n d] w fun e w' => e = .returned (.bool true) ∧ Below w.heap.size w w' := by
  have hen : es.length = n := rd_rows_len en_len (by decide) ha
  have hen' : es'.length = n := rd_rows_len en_len (by decide) hb0
  have hln : l.length = n := by rw [← h1.1]; exact hen
  have hnn : ((n : Int) != (n : Int)) = false := by simp
  have hcap := ha.cap
  have hbig := ha.big
  unfold maxLen at hbig
  have H := Lib.hid (And.intro ha (And.intro hb0 (And.intro h1 (And.intro h2 (And.intro hen (And.intro hen' hln))))))
  clear ha hb0 h1 h2 hen hen' hln
  go_enter Tryz.func32, Tryz.ntmps32
  go_wp2_with fail
  go_loopw [5] (fun i wr => ∃ (k : Nat), k ≤ n ∧ i = .int .i64 k ∧ Below w.heap.size w wr) (fun i _ => n - (intOf i).toNat)
  case atStart => exact ⟨0, Nat.zero_le _, rfl, Below.refl _ _⟩
  case round =>
    obtain ⟨k, hk, rfl, hb⟩ := hrel
    by_cases hlt : k < n
    · obtain ⟨ha, hb0, h1, h2, hen, hen', hln⟩ := H.out
      obtain ⟨e0, he0⟩ : ∃ e0, es[k]? = some e0 := ⟨_, List.getElem?_eq_getElem (by omega)⟩
      obtain ⟨e1, he1⟩ : ∃ e1, es'[k]? = some e1 := ⟨_, List.getElem?_eq_getElem (by omega)⟩
      obtain ⟨p0, hp0⟩ : ∃ p0, l[k]? = some p0 := ⟨_, List.getElem?_eq_getElem (by omega)⟩
      obtain ⟨r1, r2, r3, r4⟩ := h1.2 k e0 p0 he0 hp0
      obtain ⟨q1, q2, q3, q4⟩ := h2.2 k e1 p0 he1 hp0
      obtain ⟨pa, rfl, cx⟩ := rd_rows_get en_len ha he0 (by decide)
      obtain ⟨pb, rfl, cy⟩ := rd_rows_get en_len hb0 he1 (by decide)
      obtain ⟨ky, hky⟩ : ∃ ky, p0.1 = ky := ⟨_, rfl⟩
      obtain ⟨dd, hdd⟩ : ∃ dd, p0.2.due = dd := ⟨_, rfl⟩
      obtain ⟨vv, hvv⟩ : ∃ vv, p0.2.ver = vv := ⟨_, rfl⟩
      rw [hky] at r1 q1
      rw [hdd] at r2 q2
      rw [hvv] at r3 q3
      obtain ⟨key0, x0, due0, ver0⟩ := e0
      obtain ⟨key1, x1, due1, ver1⟩ := e1
      simp only at r1 r2 r3 q1 q2 q3
      subst r1 r2 r3
      subst q1 q2 q3
      have g0 : wr.cell? (pa.add (k * 8)) = some (.string key1) := below_c (cx 0 _ rfl) hb
      have g1 : wr.cell? ⟨(pa.add (k * 8)).block, (pa.add (k * 8)).off + 1, none⟩ = some (.int .i64 x0.kind) := below_c (cx 1 _ rfl) hb
      have g2 : wr.cell? ⟨(pa.add (k * 8)).block, (pa.add (k * 8)).off + 2, none⟩ = some (.string x0.text) := below_c (cx 2 _ rfl) hb
      have g3 : wr.cell? ⟨(pa.add (k * 8)).block, (pa.add (k * 8)).off + 3, none⟩ = some (.slice x0.LA x0.ln x0.lc) := below_c (cx 3 _ rfl) hb
      have g4 : wr.cell? ⟨(pa.add (k * 8)).block, (pa.add (k * 8)).off + 4, none⟩ = some (.slice x0.FA x0.fn x0.fc) := below_c (cx 4 _ rfl) hb
      have g5 : wr.cell? ⟨(pa.add (k * 8)).block, (pa.add (k * 8)).off + 5, none⟩ = some (.slice x0.KA x0.kn x0.kc) := below_c (cx 5 _ rfl) hb
      have g6 : wr.cell? ⟨(pa.add (k * 8)).block, (pa.add (k * 8)).off + 6, none⟩ = some (.int .i64 due1) := below_c (cx 6 _ rfl) hb
      have g7 : wr.cell? ⟨(pa.add (k * 8)).block, (pa.add (k * 8)).off + 7, none⟩ = some (.int .u64 ver1) := below_c (cx 7 _ rfl) hb
      have f0 : wr.cell? (pb.add (k * 8)) = some (.string key1) := below_c (cy 0 _ rfl) hb
      have f1 : wr.cell? ⟨(pb.add (k * 8)).block, (pb.add (k * 8)).off + 1, none⟩ = some (.int .i64 x1.kind) := below_c (cy 1 _ rfl) hb
      have f2 : wr.cell? ⟨(pb.add (k * 8)).block, (pb.add (k * 8)).off + 2, none⟩ = some (.string x1.text) := below_c (cy 2 _ rfl) hb
      have f3 : wr.cell? ⟨(pb.add (k * 8)).block, (pb.add (k * 8)).off + 3, none⟩ = some (.slice x1.LA x1.ln x1.lc) := below_c (cy 3 _ rfl) hb
      have f4 : wr.cell? ⟨(pb.add (k * 8)).block, (pb.add (k * 8)).off + 4, none⟩ = some (.slice x1.FA x1.fn x1.fc) := below_c (cy 4 _ rfl) hb
      have f5 : wr.cell? ⟨(pb.add (k * 8)).block, (pb.add (k * 8)).off + 5, none⟩ = some (.slice x1.KA x1.kn x1.kc) := below_c (cy 5 _ rfl) hb
      have f6 : wr.cell? ⟨(pb.add (k * 8)).block, (pb.add (k * 8)).off + 6, none⟩ = some (.int .i64 due1) := below_c (cy 6 _ rfl) hb
      have f7 : wr.cell? ⟨(pb.add (k * 8)).block, (pb.add (k * 8)).off + 7, none⟩ = some (.int .u64 ver1) := below_c (cy 7 _ rfl) hb

      have hs := sameR_calls x0 x1 wr.drew (((r4.below hb).below ((Below.refl _ _).drew)).rd) (((q4.below hb).below ((Below.refl _ _).drew)).rd)
      have hsv : sameV x0 x1 = true := by rw [pv_same]; exact decide_eq_true (by rw [r4.pv, q4.pv])
      rw [hsv] at hs
      unfold VV.val at hs
      have hkq : (key1.toList == key1.toList) = true := by simp
      have hdq : (due1 != due1) = false := by simp
      have hvq : ((ver1 : Int) != (ver1 : Int)) = false := by simp
      have hkn : ((k : Nat) : Int) < (n : Int) := by omega
      have HB := Lib.hid hb
      clear ha hb0 h1 h2 he0 he1 hp0 r4 q4 cx cy hb hky hdd hvv
      go_upto_region 6 with fail
      go_region_held3 (fun w' => SE (pa.add (k * 8)) key1 x0 due1 ver1 w' ∧ SE (pb.add (k * 8)) key1 x1 due1 ver1 w')
        (first | exact ⟨⟨g0, g1, g2, g3, g4, g5, g6, g7⟩, f0, f1, f2, f3, f4, f5, f6, f7⟩ | exact se_below (by assumption) (by assumption))
        (first
          | (go_at_call 35; refine hs.mono ?_; rintro e w4 ⟨rfl, b4⟩))
      all_goals (
        have b9 : Below w.heap.size w w4 := HB.out.trans ((((Below.refl _ _).drew).trans b4).mono HB.out.size)
        go_wp2_with fail
        exact ⟨⟨k + 1, by omega, by go_num, b9⟩, by simp [intOf]; omega⟩)
    · obtain rfl : k = n := by omega
      go_wp2_with fail
      go_ret
      exact ⟨rfl, hb⟩
end Go.Proofs.YtjofbagaobdmoaaGreat.SpY
