/-
  again: effects done on one of two spaces. Conditions: as stated.
-/
import Derived.Test.YtjofbagaobdmoaaGreatSqL
set_option maxRecDepth 100000
set_option linter.unusedSimpArgs false
set_option linter.unusedVariables false
namespace Go.Proofs.YtjofbagaobdmoaaGreat.SrE
open Go.RowKit Go.Proofs.YtjofbagaobdmoaaGreat.Mem Go.Proofs.YtjofbagaobdmoaaGreat.VaC Go.Proofs.YtjofbagaobdmoaaGreat.VaE Go.Proofs.YtjofbagaobdmoaaGreat.VaH Go.Proofs.YtjofbagaobdmoaaGreat.VaI Go.Proofs.YtjofbagaobdmoaaGreat.VaX Go.Proofs.YtjofbagaobdmoaaGreat.DuA Go.Proofs.YtjofbagaobdmoaaGreat.SpA Go.Proofs.YtjofbagaobdmoaaGreat.SpB Go.Proofs.YtjofbagaobdmoaaGreat.SpC Go.Proofs.YtjofbagaobdmoaaGreat.SpD Go.Proofs.YtjofbagaobdmoaaGreat.SpE Go.Proofs.YtjofbagaobdmoaaGreat.SpF Go.Proofs.YtjofbagaobdmoaaGreat.SpG Go.Proofs.YtjofbagaobdmoaaGreat.SpH Go.Proofs.YtjofbagaobdmoaaGreat.SpI Go.Proofs.YtjofbagaobdmoaaGreat.SpJ Go.Proofs.YtjofbagaobdmoaaGreat.SpK Go.Proofs.YtjofbagaobdmoaaGreat.SpL Go.Proofs.YtjofbagaobdmoaaGreat.SpM Go.Proofs.YtjofbagaobdmoaaGreat.SpN Go.Proofs.YtjofbagaobdmoaaGreat.SpO Go.Proofs.YtjofbagaobdmoaaGreat.SpP Go.Proofs.YtjofbagaobdmoaaGreat.SpQ Go.Proofs.YtjofbagaobdmoaaGreat.SpR Go.Proofs.YtjofbagaobdmoaaGreat.SpS Go.Proofs.YtjofbagaobdmoaaGreat.SpT Go.Proofs.YtjofbagaobdmoaaGreat.SpU Go.Proofs.YtjofbagaobdmoaaGreat.SpV Go.Proofs.YtjofbagaobdmoaaGreat.SpW Go.Proofs.YtjofbagaobdmoaaGreat.SpY Go.Proofs.YtjofbagaobdmoaaGreat.SpZ Go.Proofs.YtjofbagaobdmoaaGreat.SrA Go.Proofs.YtjofbagaobdmoaaGreat.SrB Go.Proofs.YtjofbagaobdmoaaGreat.SrC Go.Proofs.YtjofbagaobdmoaaGreat.SrD
open Go.Proofs.YtjofbagaobdmoaaGreat.LawS (OV)
open Go.Proofs.YtjofbagaobdmoaaGreat.DsH (Ix IxS okk keyed key_of)
open Go.Proofs.YtjofbagaobdmoaaGreat.DsK (OwnKs RdKs keysV keysV_one elKs)



/-- An element of a row of effects. -/
abbrev EC (q : Addr) (kd : Int) (ky : ByteArray) (x : VV) (due : Int) (w : World) : Prop := w.cell? q = some (.int .i64 kd) ∧ w.cell? ⟨q.block, q.off + 1, none⟩ = some (.string ky) ∧ w.cell? ⟨q.block, q.off + 2, none⟩ = some (.int .i64 x.kind) ∧ w.cell? ⟨q.block, q.off + 3, none⟩ = some (.string x.text) ∧ w.cell? ⟨q.block, q.off + 4, none⟩ = some (.slice x.LA x.ln x.lc) ∧ w.cell? ⟨q.block, q.off + 5, none⟩ = some (.slice x.FA x.fn x.fc) ∧ w.cell? ⟨q.block, q.off + 6, none⟩ = some (.slice x.KA x.kn x.kc) ∧ w.cell? ⟨q.block, q.off + 7, none⟩ = some (.int .i64 due)
theorem ec_below {q : Addr} {kd : Int} {ky : ByteArray} {x : VV} {due : Int} {w w' : World} (h : EC q kd ky x due w) (hb : Below w.heap.size w w') : EC q kd ky x due w' := by
  obtain ⟨a0, a1, a2, a3, a4, a5, a6, a7⟩ := h
  exact ⟨below_c a0 hb, below_c a1 hb, below_c a2 hb, below_c a3 hb, below_c a4 hb, below_c a5 hb, below_c a6 hb, below_c a7 hb⟩
theorem ec_only {q : Addr} {kd : Int} {ky : ByteArray} {x : VV} {due : Int} {w w' : World} {S : Nat → Prop} (h : EC q kd ky x due w) (ho : Only S w w') (hn : ¬ S q.block) : EC q kd ky x due w' := by
  obtain ⟨a0, a1, a2, a3, a4, a5, a6, a7⟩ := h
  exact ⟨ho.cell a0 hn, ho.cell a1 hn, ho.cell a2 hn, ho.cell a3 hn, ho.cell a4 hn, ho.cell a5 hn, ho.cell a6 hn, ho.cell a7 hn⟩
theorem dn1 {u : PS} {p : PE} (h : p.kind = 1) : doneS u (opOf p) = putS u p.key p.v p.due := by unfold doneS opOf; simp [h]
theorem dn2 {u : PS} {p : PE} (h : p.kind = 2) : doneS u (opOf p) = dropS u p.key := by unfold doneS opOf; simp [h]
theorem dn3 {u : PS} {p : PE} (h : p.kind = 3) : doneS u (opOf p) = dueS u p.key p.due := by unfold doneS opOf; simp [h]
theorem dn4 {u : PS} {p : PE} (h : p.kind = 4) : doneS u (opOf p) = clearS u := by unfold doneS opOf; simp [h]
theorem nn1 {u : PS} {N : Nat} {p : PE} (h : p.kind = 1) : doneN u N (opOf p) = N + 2 := by unfold doneN opOf; simp [h]
theorem nn2 {u : PS} {N : Nat} {p : PE} (h : p.kind = 2) : doneN u N (opOf p) = N + 1 := by unfold doneN opOf; simp [h]
theorem nn3 {u : PS} {N : Nat} {p : PE} (h : p.kind = 3) : doneN u N (opOf p) = N + 2 := by unfold doneN opOf; simp [h]
theorem nn4 {u : PS} {N : Nat} {p : PE} (h : p.kind = 4) : doneN u N (opOf p) = N + u.l.length := by unfold doneN opOf; simp [h]
set_option maxHeartbeats 8000000 in
theorem again_pr {w : World} {B gs gt N M j : Nat} {s t : PS} {Kp : Nat → Prop} (h : Pr w B gs gt N M s t Kp) (A : Option Addr) (n c : Nat) (es : List EV) (ch : List PE) (hr : Rd w 8 A n c (rows EV.cells es)) (hA : ∀ ad, A = some ad → Kp ad.block) (he : EVs w (fun q => ¬ Kp q) es ch) (hkd : ∀ e ∈ ch, 1 ≤ e.kind ∧ e.kind ≤ 4) (hky : ∀ e ∈ ch, e.key.size ≤ 100000000)
    (hB : Bo s N j 0 ∨ ∃ Z, Bo s N j Z) (hj : j + n ≤ 10000000) :
    Calls Tryz.prog 34 #[.pointer (some ⟨gs, 0, none⟩), .slice A n c] w fun e w' => e = .returned (.tuple #[]) ∧ ∃ N', Pr w' B gs gt N' M (againS s ch) t Kp ∧ (∃ Z, Bo (againS s ch) N' (j + n) Z) ∧ Only (fun k => ¬ Kp k) w w' := by
  have hen : es.length = n := rd_rows_len ev_len (by decide) hr
  have hln : ch.length = n := by rw [← he.1]; exact hen
  have hB' : ∃ Z, Bo s N j Z := hB.elim (fun h => ⟨_, h⟩) id
  have hcap := hr.cap
  have hbig := hr.big
  unfold maxLen at hbig
  have H := Lib.hid (And.intro h (And.intro hr (And.intro hA (And.intro he (And.intro hkd (And.intro hky (And.intro hB' (And.intro hen hln))))))))
  clear h hr hA he hkd hky hB hB' hen hln
  go_enter Tryz.func34, Tryz.ntmps34
  go_wp2_with fail
  go_loopw [4] (fun i wr => ∃ (k N' : Nat), k ≤ n ∧ i = .int .i64 k ∧ Pr wr B gs gt N' M (againS s (ch.take k)) t Kp ∧ (∃ Z, Bo (againS s (ch.take k)) N' (j + k) Z) ∧ Only (fun q => ¬ Kp q) w wr) (fun i _ => n - (intOf i).toNat)
  case atStart => exact ⟨0, N, Nat.zero_le _, rfl, H.out.1, H.out.2.2.2.2.2.2.1, Only.refl _ _⟩
  case round =>
    obtain ⟨k, N', hk, rfl, hS, ⟨Z, hB⟩, ho⟩ := hrel
    by_cases hlt : k < n
    · obtain ⟨-, hr, hA, he, hkd, hky, -, hen, hln⟩ := H.out
      obtain ⟨e0, he0⟩ : ∃ e0, es[k]? = some e0 := ⟨_, List.getElem?_eq_getElem (by omega)⟩
      obtain ⟨p0, hp0⟩ : ∃ p0, ch[k]? = some p0 := ⟨_, List.getElem?_eq_getElem (by omega)⟩
      have hmem : p0 ∈ ch := List.mem_of_getElem? hp0
      obtain ⟨r1, r2, r3, r4⟩ := he.2 k e0 p0 he0 hp0
      obtain ⟨pa, rfl, cx⟩ := rd_rows_get ev_len hr he0 (by decide)
      have hpa : ∀ m, Kp (pa.add m).block := fun m => by rw [Mem.add_block]; exact hA pa rfl
      have g0 : wr.cell? (pa.add (k * 8)) = some (.int .i64 e0.kind) := ho.cell (cx 0 _ rfl) (fun q => q (hpa _))
      have g1 : wr.cell? ⟨(pa.add (k * 8)).block, (pa.add (k * 8)).off + 1, none⟩ = some (.string e0.key) := ho.cell (cx 1 _ rfl) (fun q => q (hpa _))
      have g2 : wr.cell? ⟨(pa.add (k * 8)).block, (pa.add (k * 8)).off + 2, none⟩ = some (.int .i64 e0.x.kind) := ho.cell (cx 2 _ rfl) (fun q => q (hpa _))
      have g3 : wr.cell? ⟨(pa.add (k * 8)).block, (pa.add (k * 8)).off + 3, none⟩ = some (.string e0.x.text) := ho.cell (cx 3 _ rfl) (fun q => q (hpa _))
      have g4 : wr.cell? ⟨(pa.add (k * 8)).block, (pa.add (k * 8)).off + 4, none⟩ = some (.slice e0.x.LA e0.x.ln e0.x.lc) := ho.cell (cx 4 _ rfl) (fun q => q (hpa _))
      have g5 : wr.cell? ⟨(pa.add (k * 8)).block, (pa.add (k * 8)).off + 5, none⟩ = some (.slice e0.x.FA e0.x.fn e0.x.fc) := ho.cell (cx 5 _ rfl) (fun q => q (hpa _))
      have g6 : wr.cell? ⟨(pa.add (k * 8)).block, (pa.add (k * 8)).off + 6, none⟩ = some (.slice e0.x.KA e0.x.kn e0.x.kc) := ho.cell (cx 6 _ rfl) (fun q => q (hpa _))
      have g7 : wr.cell? ⟨(pa.add (k * 8)).block, (pa.add (k * 8)).off + 7, none⟩ = some (.int .i64 e0.due) := ho.cell (cx 7 _ rfl) (fun q => q (hpa _))
      have hkn : ((k : Nat) : Int) < (n : Int) := by omega
      obtain ⟨kd, key, x, due⟩ := e0
      simp only at r1 r2 r3 r4
      have hk4 := hkd p0 hmem
      have hkey : key.size ≤ 100000000 := by rw [r2]; exact hky p0 hmem
      have hv : Vok wr (fun q => ¬ Kp q) x p0.v := r4.move ho (fun _ _ e => e) (fun _ _ e => e)
      have e9 : againS s (ch.take (k + 1)) = doneS (againS s (ch.take k)) (opOf p0) := by rw [List.take_add_one, hp0]; exact again_snoc _ _ _
      have hin : Inv (againS s (ch.take k)) := by obtain ⟨⟨F, G, -, -, hs, -⟩, -⟩ := hS; exact hs.inv
      have B2 := bo_done hB hin (opOf p0)
      rw [Nat.add_assoc] at B2
      have HO := Lib.hid ho
      have hp0k : ¬ ¬ Kp (pa.add (k * 8)).block := fun q => q (hpa _)
      simp only at g0 g1 g2 g3 g4 g5 g6 g7
      by_cases kk1 : kd = 1
      · subst kk1
        have hp9 : p0.kind = 1 := r1.symm
        rw [dn1 hp9] at e9
        rw [nn1 hp9, dn1 hp9] at B2
        rw [← r2] at e9 B2
        rw [← r3] at e9 B2
        have hS9 := hS.below ((Below.refl _ _).drew)
        have hd := put_pr hS9 key (x := x) (p := p0.v) due rfl rfl (hv.below ((Below.refl _ _).drew)) hkey (by have := hB.n; omega) (by have := hB.c; omega) (by have := hB.h; omega)
        unfold VV.val at hd
        clear hB hr hA he hkd hky he0 hp0 cx hpa hS hS9 ho r4 hmem hv r1 r2 r3 hp9 hk4 hin
        go_upto_region 5 with fail
        go_region_held3 (fun w' => EC (pa.add (k * 8)) 1 key x due w')
          (first | exact ⟨g0, g1, g2, g3, g4, g5, g6, g7⟩ | exact ec_below (by assumption) (by assumption) | exact ec_only (by assumption) (by assumption) hp0k)
          (first
            | (go_at_call 10; refine hd.mono ?_; rintro e w4 ⟨rfl, S4, O4⟩))
        all_goals (
          have O5 : Only (fun q => ¬ Kp q) wr w4 := (SpU.only_b ((Below.refl _ _).drew) : Only (fun q => ¬ Kp q) wr wr.drew).trans O4 (fun q e => .inl e)
          go_wp2_with fail
          exact ⟨⟨k + 1, _, by omega, by go_num, by rw [e9]; exact S4, by rw [e9]; exact ⟨_, B2⟩, HO.out.trans O5 (fun q e => .inl e)⟩, by simp [intOf]; omega⟩)
      by_cases kk2 : kd = 2
      · subst kk2
        have hp9 : p0.kind = 2 := r1.symm
        rw [dn2 hp9] at e9
        rw [nn2 hp9, dn2 hp9] at B2
        rw [← r2] at e9 B2
        have hS9 := hS
        have hd := drop_pr hS9 key rfl rfl hkey (by have := hB.n; omega) (by have := hB.c; omega) (by have := hB.h; omega)
        clear hB hr hA he hkd hky he0 hp0 cx hpa hS hS9 ho r4 hmem hv r1 r2 r3 hp9 hk4 hin
        go_wp2_with fail
        refine hd.mono ?_
        rintro e w4 ⟨rfl, S4, O4⟩
        go_wp2_with fail
        exact ⟨⟨k + 1, _, by omega, by go_num, by rw [e9]; exact S4, by rw [e9]; exact ⟨_, B2⟩, HO.out.trans O4 (fun q e => .inl e)⟩, by simp [intOf]; omega⟩
      by_cases kk3 : kd = 3
      · subst kk3
        have hp9 : p0.kind = 3 := r1.symm
        rw [dn3 hp9] at e9
        rw [nn3 hp9, dn3 hp9] at B2
        rw [← r2] at e9 B2
        rw [← r3] at e9 B2
        have hS9 := hS.below ((Below.refl _ _).drew)
        have hd := setDue_pr hS9 key due rfl rfl hkey (by have := hB.n; omega) (by have := hB.c; omega) (by have := hB.h; omega)
        clear hB hr hA he hkd hky he0 hp0 cx hpa hS hS9 ho r4 hmem hv r1 r2 r3 hp9 hk4 hin
        go_upto_region 9 with fail
        go_region_held3 (fun w' => EC (pa.add (k * 8)) 3 key x due w')
          (first | exact ⟨g0, g1, g2, g3, g4, g5, g6, g7⟩ | exact ec_below (by assumption) (by assumption) | exact ec_only (by assumption) (by assumption) hp0k)
          (first
            | (go_at_call 13; refine hd.mono ?_; rintro e w4 ⟨rfl, S4, O4⟩))
        all_goals (
          have O5 : Only (fun q => ¬ Kp q) wr w4 := (SpU.only_b ((Below.refl _ _).drew) : Only (fun q => ¬ Kp q) wr wr.drew).trans O4 (fun q e => .inl e)
          go_wp2_with fail
          exact ⟨⟨k + 1, _, by omega, by go_num, by rw [e9]; exact S4, by rw [e9]; exact ⟨_, B2⟩, HO.out.trans O5 (fun q e => .inl e)⟩, by simp [intOf]; omega⟩)
      · obtain rfl : kd = 4 := by omega
        have hp9 : p0.kind = 4 := r1.symm
        rw [dn4 hp9] at e9
        rw [nn4 hp9, dn4 hp9] at B2
        have hS9 := hS
        have hd := clear_pr hS9 rfl rfl (by have := hB.n; omega) (by have := hB.c; omega) (by have := hB.h; omega)
        clear hB hr hA he hkd hky he0 hp0 cx hpa hS hS9 ho r4 hmem hv r1 r2 r3 hp9 hk4 hin
        go_wp2_with fail
        refine hd.mono ?_
        rintro e w4 ⟨rfl, S4, O4⟩
        go_wp2_with fail
        exact ⟨⟨k + 1, _, by omega, by go_num, by rw [e9]; exact S4, by rw [e9]; exact ⟨_, B2⟩, HO.out.trans O4 (fun q e => .inl e)⟩, by simp [intOf]; omega⟩
    · obtain rfl : k = n := by omega
      go_wp2_with fail
      refine bodyPost_end (results_none rfl _ _ _) rfl ?_
      rw [List.take_of_length_le (Nat.le_of_eq H.out.2.2.2.2.2.2.2.2)] at hS hB
      exact ⟨rfl, N', hS, ⟨Z, hB⟩, ho⟩
end Go.Proofs.YtjofbagaobdmoaaGreat.SrE
