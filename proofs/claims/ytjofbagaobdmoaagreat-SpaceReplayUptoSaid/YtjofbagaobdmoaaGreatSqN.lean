/-
  SpaceReplay: the law's walk. Conditions: as stated.
-/
import Derived.Test.YtjofbagaobdmoaaGreatSqM
set_option maxRecDepth 100000
set_option linter.unusedSimpArgs false
set_option linter.unusedVariables false
namespace Go.Proofs.YtjofbagaobdmoaaGreat.SrF
open Go.RowKit Go.Proofs.YtjofbagaobdmoaaGreat.Mem Go.Proofs.YtjofbagaobdmoaaGreat.VaC Go.Proofs.YtjofbagaobdmoaaGreat.VaE Go.Proofs.YtjofbagaobdmoaaGreat.VaH Go.Proofs.YtjofbagaobdmoaaGreat.VaI Go.Proofs.YtjofbagaobdmoaaGreat.VaX Go.Proofs.YtjofbagaobdmoaaGreat.DuA Go.Proofs.YtjofbagaobdmoaaGreat.SpA Go.Proofs.YtjofbagaobdmoaaGreat.SpB Go.Proofs.YtjofbagaobdmoaaGreat.SpC Go.Proofs.YtjofbagaobdmoaaGreat.SpD Go.Proofs.YtjofbagaobdmoaaGreat.SpE Go.Proofs.YtjofbagaobdmoaaGreat.SpF Go.Proofs.YtjofbagaobdmoaaGreat.SpG Go.Proofs.YtjofbagaobdmoaaGreat.SpH Go.Proofs.YtjofbagaobdmoaaGreat.SpI Go.Proofs.YtjofbagaobdmoaaGreat.SpJ Go.Proofs.YtjofbagaobdmoaaGreat.SpK Go.Proofs.YtjofbagaobdmoaaGreat.SpL Go.Proofs.YtjofbagaobdmoaaGreat.SpM Go.Proofs.YtjofbagaobdmoaaGreat.SpN Go.Proofs.YtjofbagaobdmoaaGreat.SpO Go.Proofs.YtjofbagaobdmoaaGreat.SpP Go.Proofs.YtjofbagaobdmoaaGreat.SpQ Go.Proofs.YtjofbagaobdmoaaGreat.SpR Go.Proofs.YtjofbagaobdmoaaGreat.SpS Go.Proofs.YtjofbagaobdmoaaGreat.SpT Go.Proofs.YtjofbagaobdmoaaGreat.SpU Go.Proofs.YtjofbagaobdmoaaGreat.SpV Go.Proofs.YtjofbagaobdmoaaGreat.SpW Go.Proofs.YtjofbagaobdmoaaGreat.SpY Go.Proofs.YtjofbagaobdmoaaGreat.SpZ Go.Proofs.YtjofbagaobdmoaaGreat.SrA Go.Proofs.YtjofbagaobdmoaaGreat.SrB Go.Proofs.YtjofbagaobdmoaaGreat.SrC Go.Proofs.YtjofbagaobdmoaaGreat.SrD Go.Proofs.YtjofbagaobdmoaaGreat.SrE
open Go.Proofs.YtjofbagaobdmoaaGreat.LawS (OV)
open Go.Proofs.YtjofbagaobdmoaaGreat.DsH (Ix IxS okk keyed key_of)
open Go.Proofs.YtjofbagaobdmoaaGreat.DsK (OwnKs RdKs keysV keysV_one elKs)

section
variable {w w' : World} {B gs gt N M : Nat} {s t : PS} {Kp : Nat → Prop}
theorem su_of (h : Pr w B gs gt N M s t Kp) : Su w B gs N s Kp := by
  obtain ⟨⟨F, G, e1, e2, hs, ht, x1, x2, hd, hk⟩, hz⟩ := h
  exact ⟨⟨{ F with X := fun _ => False }, e1, hs.ghost (fun k _ e => e.elim), fun k e => e, fun k q => ⟨(hk k q).1, (hk k q).2.1⟩⟩, hz⟩
theorem pr_keep (h : Pr w B gs gt N M s t Kp) (hb : Below w.heap.size w w') {Kq : Nat → Prop} (hq : ∀ k, Kq k → Kp k ∨ (w.heap.size ≤ k ∧ k < w'.heap.size)) : Pr w' B gs gt N M s t Kq := by
  obtain ⟨⟨F, G, e1, e2, hs, ht, x1, x2, hd, hk⟩, hz⟩ := h
  refine ⟨⟨F, G, e1, e2, hs.below hb, ht.below hb, x1, x2, hd, fun k q => ?_⟩, Nat.le_trans hz hb.size⟩
  rcases hq k q with h1 | h1
  · exact ⟨Nat.lt_of_lt_of_le (hk k h1).1 hb.size, (hk k h1).2⟩
  · exact ⟨h1.2, fun e => by have := (hs.lt k e).2; omega, fun e => by have := (ht.lt k e).2; omega⟩
theorem pr_su {W w1 w2 : World} (hs : Su w1 W.heap.size gs 0 ps0 (fun k => k < W.heap.size)) (b1 : Below W.heap.size W w1) (ht : Su w2 w1.heap.size gt 0 ps0 (fun k => k < w1.heap.size)) (b2 : Below w1.heap.size w1 w2) : Pr w2 W.heap.size gs gt 0 0 ps0 ps0 (fun k => k < W.heap.size) := by
  obtain ⟨⟨F, rfl, hs, -, -⟩, -⟩ := hs
  obtain ⟨⟨G, rfl, ht, -, -⟩, -⟩ := ht
  exact pr_new hs b1 ht b2
end
theorem note_keys {s : PS} {e : PE} (h : ∀ x ∈ s.ch, x.key.size ≤ 100000000) (he : e.key.size ≤ 100000000) : ∀ x ∈ (noteP s e).ch, x.key.size ≤ 100000000 := by
  intro x hx
  unfold noteP at hx
  dsimp only at hx
  split at hx
  · rcases List.mem_append.1 hx with hx | hx
    · exact h x hx
    · rw [List.mem_singleton.1 hx]; exact he
  · exact h x hx
theorem ch_keys {t : PS} (h : ∀ e ∈ t.ch, e.key.size ≤ 100000000) (o : PO) (ho : o.key.size ≤ 100000000) : ∀ e ∈ (doneS t o).ch, e.key.size ≤ 100000000 := by
  unfold doneS putS dropS dueS clearS
  split
  · split
    · exact note_keys (s := { touchP t o.key with l := setK lt t.l o.key ⟨o.v, o.due, t.cnt + 1⟩ }) h ho
    · exact h
  split
  · split
    · exact note_keys (s := { touchP t o.key with l := dropK t.l o.key }) h ho
    · exact h
  split
  · split
    · split
      · exact h
      · exact note_keys (s := { touchP t o.key with l := setK lt t.l o.key ⟨_, o.due, t.cnt + 1⟩ }) h ho
    · exact h
  split
  · split
    · exact h
    · exact note_keys (by rw [gone_ch]; exact h) (Nat.zero_le _)
  · exact h
theorem named_iff {t : PS} (hi : Inv t) (k : ByteArray) : (keysL t.bf).any (fun x => x.toList == k.toList) = (getK t.bf k).isSome := by
  unfold keysL
  rw [Bool.eq_iff_iff, List.any_eq_true]
  constructor
  · rintro ⟨x, hx, he⟩
    rw [beq_iff_eq] at he
    obtain rfl := DuB.toL_inj he
    obtain ⟨⟨y, p⟩, hm, rfl⟩ := List.mem_map.1 hx
    rw [(mem_getR DuB.linS hi.risb).2 hm]; rfl
  · intro h
    cases hg : getK t.bf k with
    | none => rw [hg] at h; cases h
    | some p => exact ⟨k, List.mem_map.2 ⟨(k, p), (mem_getR DuB.linS hi.risb).1 hg, rfl⟩, by simp⟩
set_option maxHeartbeats 16000000 in
theorem replay_upto (a0 : Option Addr) (n0 c0 : Nat) (z0 : List OV) (a1 : Option Addr) (n1 c1 : Nat) (z1 : List OV) (W : World)
    (R0 : Rd W 9 a0 n0 c0 (z0.flatMap OV.cells)) (L0 : z0.length = n0) (K0 : ∀ x ∈ z0, OV.ok W x) (M0 : (z0.map OV.wt).sum ≤ 1048576)
    (R1 : Rd W 9 a1 n1 c1 (z1.flatMap OV.cells)) (L1 : z1.length = n1) (K1 : ∀ x ∈ z1, OV.ok W x) (M1 : (z1.map OV.wt).sum ≤ 1048576) :
    Calls Tryz.prog 5 #[.slice a0 n0 c0, .slice a1 n1 c1] W fun e w' => e = .returned (.bool true) ∧ Below W.heap.size W w' := by
  have hle : ∀ l : List OV, l.length ≤ (l.map OV.wt).sum := fun l => by
    induction l with
    | nil => simp
    | cons a r ih => simp only [List.map_cons, List.sum_cons, List.length_cons]; have : 1 ≤ a.wt := by unfold OV.wt; omega
                     omega
  have hN0 : n0 ≤ 1048576 := by have := hle z0; omega
  have hN1 : n1 ≤ 1048576 := by have := hle z1; omega
  have hcap0 := R0.cap
  have hbig0 := R0.big
  have hcap1 := R1.cap
  have hbig1 := R1.big
  unfold maxLen at hbig0 hbig1
  have H0 := Lib.hid (And.intro R0 (And.intro L0 (And.intro K0 M0)))
  have H1 := Lib.hid (And.intro R1 (And.intro L1 (And.intro K1 M1)))
  clear R0 L0 K0 M0 R1 L1 K1 M1 hle
  go_enter Tryz.func5, Tryz.ntmps5
  go_wp2_with fail
  refine (su_new W).mono ?_
  rintro e w1 ⟨gs, rfl, S1, B1⟩
  have HS1 := Lib.hid (And.intro S1 B1)
  clear S1 B1
  go_wp2_with fail
  refine (su_new w1).mono ?_
  rintro e w2 ⟨gt, rfl, S2, B2⟩
  have HP := Lib.hid (show Pr w2 W.heap.size gs gt 0 0 ps0 ps0 (fun q => q < W.heap.size) ∧ Only (fun q => ¬ q < W.heap.size) W w2 from ⟨pr_su HS1.out.1 HS1.out.2 S2 B2, SpU.only_b (SpX.bb HS1.out.2 B2)⟩)
  clear S2 B2 HS1
  go_wp2_with fail
  go_loopw [7] (fun i wr => ∃ (k N Z : Nat) (s : PS), k ≤ n0 ∧ i = .int .i64 k ∧ Pr wr W.heap.size gs gt N N s s (fun q => q < W.heap.size) ∧ Bo s N k Z ∧ s.on = false ∧ s.ld = false ∧ Only (fun q => ¬ q < W.heap.size) W wr) (fun i _ => n0 - (intOf i).toNat)
  case atStart =>
    obtain ⟨S1, O1⟩ := HP.out
    exact ⟨0, 0, 0, ps0, Nat.zero_le _, rfl, S1, ⟨Nat.le_refl _, Nat.le_refl _, Nat.le_refl _, Nat.le_refl _⟩, rfl, rfl, O1⟩
  case round =>
    obtain ⟨k, N, Z, s, hk, rfl, hS, hB, hon, hld, ho⟩ := hrel
    by_cases hlt : k < n0
    · obtain ⟨R0, L0, K0, M0⟩ := H0.out
      obtain ⟨o, hgo⟩ : ∃ o, z0[k]? = some o := ⟨_, List.getElem?_eq_getElem (by omega)⟩
      have hok := K0 o (List.mem_of_getElem? hgo)
      obtain ⟨ad, had, hal⟩ := R0.lt (by intro e; have := rows_len (c := OV.cells) LawS.ov_len z0; unfold rows at this; rw [e] at this; simp at this; omega)
      obtain ⟨pa, rfl, cx⟩ := rd_rows_get (c := OV.cells) LawS.ov_len R0 hgo (by decide)
      injection had with had
      subst had
      have hpa : ∀ m, (pa.add m).block < W.heap.size := fun m => by rw [Mem.add_block]; exact hal
      have g0 : wr.cell? (pa.add (k * 9)) = some (.int .i64 o.kind) := ho.cell (cx 0 _ rfl) (fun q => q (hpa _))
      have g1 : wr.cell? ⟨(pa.add (k * 9)).block, (pa.add (k * 9)).off + 1, none⟩ = some (.string o.key) := ho.cell (cx 1 _ rfl) (fun q => q (hpa _))
      have g2 : wr.cell? ⟨(pa.add (k * 9)).block, (pa.add (k * 9)).off + 2, none⟩ = some (.int .i64 o.x.kind) := ho.cell (cx 2 _ rfl) (fun q => q (hpa _))
      have g3 : wr.cell? ⟨(pa.add (k * 9)).block, (pa.add (k * 9)).off + 3, none⟩ = some (.string o.x.text) := ho.cell (cx 3 _ rfl) (fun q => q (hpa _))
      have g4 : wr.cell? ⟨(pa.add (k * 9)).block, (pa.add (k * 9)).off + 4, none⟩ = some (.slice o.x.LA o.x.ln o.x.lc) := ho.cell (cx 4 _ rfl) (fun q => q (hpa _))
      have g5 : wr.cell? ⟨(pa.add (k * 9)).block, (pa.add (k * 9)).off + 5, none⟩ = some (.slice o.x.FA o.x.fn o.x.fc) := ho.cell (cx 5 _ rfl) (fun q => q (hpa _))
      have g6 : wr.cell? ⟨(pa.add (k * 9)).block, (pa.add (k * 9)).off + 6, none⟩ = some (.slice o.x.KA o.x.kn o.x.kc) := ho.cell (cx 6 _ rfl) (fun q => q (hpa _))
      have g7 : wr.cell? ⟨(pa.add (k * 9)).block, (pa.add (k * 9)).off + 7, none⟩ = some (.int .i64 o.due) := ho.cell (cx 7 _ rfl) (fun q => q (hpa _))
      have g8 : wr.cell? ⟨(pa.add (k * 9)).block, (pa.add (k * 9)).off + 8, none⟩ = some (.slice o.EA o.en o.ec) := ho.cell (cx 8 _ rfl) (fun q => q (hpa _))
      have hv : Vok wr (fun q => ¬ q < W.heap.size) o.x (pvOf o.x) := (vok_arg hok.rd hok.sm).move ho (fun _ _ e => e) (fun _ _ e => e)
      have hkn : ((k : Nat) : Int) < (n0 : Int) := by omega
      have hd := done_pr hS o (by have := hok.key; omega) hv (by have := hB.n; omega) (by have := hB.c; omega) (by have := hB.h; omega)
      have HR := Lib.hid (And.intro hS (And.intro hB (And.intro hon (And.intro hld (And.intro ho (And.intro hok (And.intro cx (And.intro hpa hv))))))))
      unfold ovV at hd
      clear R0 L0 K0 M0 hok cx hpa hal hS hB hon hld ho hgo hv
      go_wp2_with fail
      refine hd.mono ?_
      rintro e w2 ⟨rfl, S2, O2⟩
      obtain ⟨hS, hB, hon, hld, ho, hok, cx, hpa, hv⟩ := HR.out
      have B2 := bo_done hB (su_of hS).inv (poOf o)
      obtain ⟨d1, d2, -⟩ := done_on s (poOf o)
      have O3 := ho.trans O2 (fun q e => .inl e)
      clear hd g0 g1 g2 g3 g4 g5 g6 g7 g8
      have g0 : w2.cell? (pa.add (k * 9)) = some (.int .i64 o.kind) := O3.cell (cx 0 _ rfl) (fun q => q (hpa _))
      have g1 : w2.cell? ⟨(pa.add (k * 9)).block, (pa.add (k * 9)).off + 1, none⟩ = some (.string o.key) := O3.cell (cx 1 _ rfl) (fun q => q (hpa _))
      have g2 : w2.cell? ⟨(pa.add (k * 9)).block, (pa.add (k * 9)).off + 2, none⟩ = some (.int .i64 o.x.kind) := O3.cell (cx 2 _ rfl) (fun q => q (hpa _))
      have g3 : w2.cell? ⟨(pa.add (k * 9)).block, (pa.add (k * 9)).off + 3, none⟩ = some (.string o.x.text) := O3.cell (cx 3 _ rfl) (fun q => q (hpa _))
      have g4 : w2.cell? ⟨(pa.add (k * 9)).block, (pa.add (k * 9)).off + 4, none⟩ = some (.slice o.x.LA o.x.ln o.x.lc) := O3.cell (cx 4 _ rfl) (fun q => q (hpa _))
      have g5 : w2.cell? ⟨(pa.add (k * 9)).block, (pa.add (k * 9)).off + 5, none⟩ = some (.slice o.x.FA o.x.fn o.x.fc) := O3.cell (cx 5 _ rfl) (fun q => q (hpa _))
      have g6 : w2.cell? ⟨(pa.add (k * 9)).block, (pa.add (k * 9)).off + 6, none⟩ = some (.slice o.x.KA o.x.kn o.x.kc) := O3.cell (cx 6 _ rfl) (fun q => q (hpa _))
      have g7 : w2.cell? ⟨(pa.add (k * 9)).block, (pa.add (k * 9)).off + 7, none⟩ = some (.int .i64 o.due) := O3.cell (cx 7 _ rfl) (fun q => q (hpa _))
      have g8 : w2.cell? ⟨(pa.add (k * 9)).block, (pa.add (k * 9)).off + 8, none⟩ = some (.slice o.EA o.en o.ec) := O3.cell (cx 8 _ rfl) (fun q => q (hpa _))
      have hd := done_pr S2.swap o (by have := hok.key; omega) (hv.move O2 (fun _ _ e => e) (fun _ _ e => e)) (by have := hB.n; omega) (by have := hB.c; omega) (by have := hB.h; omega)
      have d3 := d1.trans hon
      have d4 := d2.trans hld
      have HR2 := Lib.hid (And.intro B2 (And.intro d3 (And.intro d4 O3)))
      unfold ovV at hd
      clear hok cx hpa hS hB hon hld ho hv S2 B2 O2 O3 d1 d2 d3 d4 HR
      go_wp2_with fail
      refine hd.mono ?_
      rintro e w3 ⟨rfl, S3, O4⟩
      clear hd g0 g1 g2 g3 g4 g5 g6 g7 g8
      go_wp2_with fail
      obtain ⟨B2, d3, d4, O3⟩ := HR2.out
      exact ⟨⟨k + 1, _, _, _, by omega, by go_num, S3.swap, B2, d3, d4, O3.trans O4 (fun q e => .inl e)⟩, by simp [intOf]; omega⟩
    · obtain rfl : k = n0 := by omega
      go_upto_region 9 with fail
      clear HP
      have hi0 := (su_of hS).inv
      have hNk := hB.n
      obtain ⟨cn, hcn⟩ : ∃ cn, (s.cnt : Int) = cn := ⟨_, rfl⟩
      have HB := Lib.hid (And.intro hB (And.intro hi0 (And.intro hcn (And.intro hon hld))))
      have HO := Lib.hid ho
      clear hB hi0 hcn hon hld ho
      go_wp2_with fail
      refine (counter_su (su_of hS) HB.out.2.2.1).mono ?_
      rintro e w3 ⟨rfl, e3⟩
      subst e3
      have hon := HB.out.2.2.2.1
      have hld := HB.out.2.2.2.2
      have HM := mark_pr hS hld (r := 0) (by rw [hon]; rfl) rfl
      clear hS
      go_wp2_with fail
      refine HM.mono ?_
      rintro e w9 ⟨rfl, S9, O9⟩
      have HS9' : (Pr w9 W.heap.size gs gt N N (markS s) s (fun q => q < W.heap.size) ∧ Bo (markS s) N k Z ∧ Rp s (markS s) ∧ Tv (markS s) ∧ (∀ e ∈ (markS s).ch, e.key.size ≤ 100000000) ∧ (markS s).at_ = s.cnt ∧ Only (fun q => ¬ q < W.heap.size) W w9) := by
        refine ⟨S9, ?_, (rp_mark hon).1, (rp_mark hon).2, ?_, ?_, HO.out.trans O9 (fun q e => .inl e)⟩
        · have hB := HB.out.1
          unfold markS
          rw [hon]
          exact ⟨hB.n, hB.c, Nat.zero_le _, hB.z⟩
        · unfold markS
          rw [hon]
          intro e he; cases he
        · unfold markS
          rw [hon]; rfl
      have HS9 := Lib.hid HS9'
      clear S9 O9 HM HO hon hld HS9'
      go_wp2_with fail
      go_loopw [9] (fun i wq => ∃ (k2 N2 Z2 : Nat) (t : PS), k2 ≤ n1 ∧ i = .int .i64 k2 ∧ Pr wq W.heap.size gs gt N2 N t s (fun q => q < W.heap.size) ∧ Bo t N2 (k + k2) Z2 ∧ Rp s t ∧ Tv t ∧ (∀ e ∈ t.ch, e.key.size ≤ 100000000) ∧ t.at_ = s.cnt ∧ Only (fun q => ¬ q < W.heap.size) W wq) (fun i _ => n1 - (intOf i).toNat)
      case atStart =>
        obtain ⟨S9, B9, r1, r2, r3, r4, O9⟩ := HS9.out
        exact ⟨0, N, Z, _, Nat.zero_le _, rfl, S9, B9, r1, r2, r3, r4, O9⟩
      case round =>
        obtain ⟨k2, N2, Z2, t, hk2, rfl, hS, hB, hrp, htv, hky, hat, ho⟩ := hrel
        by_cases hlt : k2 < n1
        · obtain ⟨R1, L1, K1, M1⟩ := H1.out
          obtain ⟨o, hgo⟩ : ∃ o, z1[k2]? = some o := ⟨_, List.getElem?_eq_getElem (by omega)⟩
          have hok := K1 o (List.mem_of_getElem? hgo)
          obtain ⟨ad, had, hal⟩ := R1.lt (by intro e; have := rows_len (c := OV.cells) LawS.ov_len z1; unfold rows at this; rw [e] at this; simp at this; omega)
          obtain ⟨pa, rfl, cx⟩ := rd_rows_get (c := OV.cells) LawS.ov_len R1 hgo (by decide)
          injection had with had
          subst had
          have hpa : ∀ m, (pa.add m).block < W.heap.size := fun m => by rw [Mem.add_block]; exact hal
          have g0 : wr.cell? (pa.add (k2 * 9)) = some (.int .i64 o.kind) := ho.cell (cx 0 _ rfl) (fun q => q (hpa _))
          have g1 : wr.cell? ⟨(pa.add (k2 * 9)).block, (pa.add (k2 * 9)).off + 1, none⟩ = some (.string o.key) := ho.cell (cx 1 _ rfl) (fun q => q (hpa _))
          have g2 : wr.cell? ⟨(pa.add (k2 * 9)).block, (pa.add (k2 * 9)).off + 2, none⟩ = some (.int .i64 o.x.kind) := ho.cell (cx 2 _ rfl) (fun q => q (hpa _))
          have g3 : wr.cell? ⟨(pa.add (k2 * 9)).block, (pa.add (k2 * 9)).off + 3, none⟩ = some (.string o.x.text) := ho.cell (cx 3 _ rfl) (fun q => q (hpa _))
          have g4 : wr.cell? ⟨(pa.add (k2 * 9)).block, (pa.add (k2 * 9)).off + 4, none⟩ = some (.slice o.x.LA o.x.ln o.x.lc) := ho.cell (cx 4 _ rfl) (fun q => q (hpa _))
          have g5 : wr.cell? ⟨(pa.add (k2 * 9)).block, (pa.add (k2 * 9)).off + 5, none⟩ = some (.slice o.x.FA o.x.fn o.x.fc) := ho.cell (cx 5 _ rfl) (fun q => q (hpa _))
          have g6 : wr.cell? ⟨(pa.add (k2 * 9)).block, (pa.add (k2 * 9)).off + 6, none⟩ = some (.slice o.x.KA o.x.kn o.x.kc) := ho.cell (cx 6 _ rfl) (fun q => q (hpa _))
          have g7 : wr.cell? ⟨(pa.add (k2 * 9)).block, (pa.add (k2 * 9)).off + 7, none⟩ = some (.int .i64 o.due) := ho.cell (cx 7 _ rfl) (fun q => q (hpa _))
          have g8 : wr.cell? ⟨(pa.add (k2 * 9)).block, (pa.add (k2 * 9)).off + 8, none⟩ = some (.slice o.EA o.en o.ec) := ho.cell (cx 8 _ rfl) (fun q => q (hpa _))
          have hv : Vok wr (fun q => ¬ q < W.heap.size) o.x (pvOf o.x) := (vok_arg hok.rd hok.sm).move ho (fun _ _ e => e) (fun _ _ e => e)
          have hkn : ((k2 : Nat) : Int) < (n1 : Int) := by omega
          have hokk : o.key.size ≤ 100000000 := by have := hok.key; omega
          have hd := done_pr hS o hokk hv (by have := hB.n; omega) (by have := hB.c; omega) (by have := hB.h; omega)
          have HR := Lib.hid (And.intro hS (And.intro hB (And.intro hrp (And.intro htv (And.intro hky (And.intro hat ho))))))
          unfold ovV at hd
          clear R1 L1 K1 M1 hok cx hpa hal hS hB hrp htv hky hat ho hgo hv
          go_wp2_with fail
          refine hd.mono ?_
          rintro e w2 ⟨rfl, S2, O2⟩
          obtain ⟨hS, hB, hrp, htv, hky, hat, ho⟩ := HR.out
          have B2 := bo_done hB (su_of hS).inv (poOf o)
          rw [Nat.add_assoc] at B2
          obtain ⟨d1, d2, d3⟩ := done_on t (poOf o)
          have P2 := rp_done hrp (poOf o) d1
          have T2 := tv_done htv (su_of hS).inv hrp.on (poOf o)
          have C2 := ch_keys hky (poOf o) hokk
          have A2 := d3.trans hat
          have HR2 := Lib.hid (And.intro S2 (And.intro B2 (And.intro P2 (And.intro T2 (And.intro C2 (And.intro A2 (ho.trans O2 (fun q e => .inl e))))))))
          clear hS hB hrp htv hky hat ho HR S2 B2 P2 T2 C2 A2 O2 d1 d2 d3 hd g0 g1 g2 g3 g4 g5 g6 g7 g8
          go_wp2_with fail
          obtain ⟨S2, B2, P2, T2, C2, A2, O3⟩ := HR2.out
          exact ⟨⟨k2 + 1, _, _, _, by omega, by go_num, S2, B2, P2, T2, C2, A2, O3⟩, by simp [intOf]; omega⟩
        · obtain rfl : k2 = n1 := by omega
          go_upto_region 16 with fail
          obtain ⟨WS, hWS⟩ : ∃ WS, wr.heap.size = WS := ⟨_, rfl⟩
          have hi := (su_of hS).inv
          have hNt := hB.n
          have hch := hB.h
          obtain ⟨m, hm⟩ : ∃ m, t.ch.length = m := ⟨_, rfl⟩
          obtain ⟨TL, hTL⟩ : ∃ TL, keysL t.bf = TL := ⟨_, rfl⟩
          obtain ⟨p, hp⟩ : ∃ p, TL.length = p := ⟨_, rfl⟩
          obtain ⟨mm, hmm⟩ : ∃ mm, t.l.length = mm := ⟨_, rfl⟩
          rw [hm] at hch
          have hmmb : mm ≤ 100000000 := by omega
          have hpp : TL.length ≤ mm ∨ True := .inr trivial
          have HL := Lib.hid (And.intro hB (And.intro hrp (And.intro htv (And.intro hky (And.intro hat (And.intro hi (And.intro hm (And.intro hTL (And.intro hp hmm)))))))))
          have HO2 := Lib.hid ho
          clear hB hrp htv hky hat hi hm hTL hp hmm ho HS9 hpp
          go_wp2_with fail
          refine (changes_su (su_of hS) rfl (by have := HL.out.2.2.2.2.2.2.1; omega)).mono ?_
          rintro e w6 ⟨v6, es6, rfl, F6, B6⟩
          obtain ⟨A6, c6, rfl⟩ := own_form F6.own
          have hl6 : es6.length = m := F6.rel.1.trans HL.out.2.2.2.2.2.2.1
          have HF := Lib.hid (And.intro F6 hl6)
          rw [hl6]
          have S6 := su_of (hS.below B6)
          have HB6 := Lib.hid B6
          clear F6 B6 hl6
          go_wp2_with fail
          refine (touched_su S6 HL.out.2.2.2.2.2.2.2.1 (by omega)).mono ?_
          rintro e w7 ⟨v7, rfl, O7, B7⟩
          obtain ⟨A7, c7, rfl⟩ := own_form O7
          rw [HL.out.2.2.2.2.2.2.2.2.1] at O7 ⊢
          have hag := by
            obtain ⟨F6, hl6⟩ := HF.out
            obtain ⟨hB, hrp, htv, hky, hat, hi, hm, hTL, hp, hmm⟩ := HL.out
            have P8 := pr_keep hS (SpX.bb HB6.out B7) (Kq := fun q => q < W.heap.size ∨ (WS ≤ q ∧ q < w7.heap.size)) (fun q e => e.imp id (fun e => ⟨by rw [hWS]; exact e.1, e.2⟩))
            have F7 := F6.below B7
            have rd7 := Rd.of_own F7.own
            rw [hl6] at rd7
            refine again_pr P8.swap A6 m c6 es6 t.ch rd7 (fun ad e => .inr ?_) (F7.rel.move (Only.refl (fun _ => False) w7) (fun _ _ e => e.elim) (fun q hq e => .inl ?_)) hrp.kinds hky (.inr ⟨_, HB.out.1⟩) (by omega)
            · have := F7.own.lt ad.block (by rw [e]; rfl)
              rw [hWS] at this
              exact this
            · by_cases hw : q < WS
              · rw [hWS]; exact hw
              · exact absurd (.inr ⟨Nat.not_lt.1 hw, hq⟩) e
          have O27 : Only (fun q => ¬ q < W.heap.size) W w7 := HO2.out.trans (SpU.only_b (SpX.bb HB6.out B7) : Only (fun q => ¬ q < W.heap.size) wr w7) (fun q e => .inl e)
          have HT := Lib.hid (And.intro O7 (And.intro B7 O27))
          clear hS S6 O7 B7 O27
          go_wp2_with fail
          refine hag.mono ?_
          clear hag
          rintro e w8 ⟨rfl, N9, S9, ⟨Z9, B9⟩, O9⟩
          obtain ⟨u, hu⟩ : ∃ u, againS s t.ch = u := ⟨_, rfl⟩
          rw [hu] at S9 B9
          have hul : u.l = t.l := by rw [← hu]; exact HL.out.2.1.eqv.1
          have huc : u.cnt = t.cnt := by rw [← hu]; exact HL.out.2.1.eqv.2
          have P9 := S9.swap
          have hN9 := B9.n
          obtain ⟨w9z, hw9z⟩ : ∃ z, w8.heap.size = z := ⟨_, rfl⟩
          obtain ⟨TB, hTB⟩ : ∃ b, decide (0 < m) = b := ⟨_, rfl⟩
          obtain ⟨dn, hdn⟩ : ∃ dn, (t.cnt : Int) = dn := ⟨_, rfl⟩
          have hT : decide (cn < dn) = TB ∧ decide (0 < p) = TB := by
            obtain ⟨hB, hrp, htv, hky, hat, hi, hm, hTL, hp, hmm⟩ := HL.out
            have hcn := HB.out.2.2.1
            have hpl : p = t.bf.length := by rw [← hp, ← hTL]; exact List.length_map ..
            by_cases h0 : t.ch = []
            · obtain ⟨q1, q2⟩ := hrp.none h0
              rw [h0] at hm
              rw [q2] at hpl
              simp only [List.length_nil] at hm hpl
              rw [← hTB]
              constructor
              · exact decide_eq_decide.2 (by omega)
              · exact decide_eq_decide.2 (by omega)
            · obtain ⟨q1, q2⟩ := hrp.some h0
              have h1 := List.length_pos_iff.2 h0
              have h2 := List.length_pos_iff.2 q2
              rw [← hTB]
              constructor
              · exact decide_eq_decide.2 (by omega)
              · exact decide_eq_decide.2 (by omega)
          obtain ⟨hT1, hT2⟩ := hT
          have HE := Lib.hid (And.intro hul (And.intro huc (And.intro O9 hdn)))
          clear S9 B9 hul huc hu O9 hdn
          go_wp2_with fail
          refine (entries_su (su_of P9) (l := t.l) rfl (by omega)).mono ?_
          rintro e w10 ⟨v10, es10, rfl, F10, B10⟩
          obtain ⟨A10, c10, rfl⟩ := own_form F10.own
          have hl10 : es10.length = mm := F10.rel.1.trans HL.out.2.2.2.2.2.2.2.2.2
          rw [hl10]
          have P10 := P9.below B10
          have rd10 := Rd.of_own (F10.own)
          rw [hl10] at rd10
          clear P9
          go_wp2_with fail
          refine (entries_su (su_of P10.swap) (l := t.l) HE.out.1 (by omega)).mono ?_
          rintro e w11 ⟨v11, es11, rfl, F11, B11⟩
          obtain ⟨A11, c11, rfl⟩ := own_form F11.own
          have hl11 : es11.length = mm := F11.rel.1.trans HL.out.2.2.2.2.2.2.2.2.2
          rw [hl11]
          have P11 := P10.below B11
          have hse := by
            have F10' := F10.below B11
            have rd10' := Rd.of_own F10'.own
            rw [hl10] at rd10'
            have rd11 := Rd.of_own F11.own
            rw [hl11] at rd11
            exact sameEntries_eq A10 A11 mm c10 c11 es10 es11 t.l w11 rd10' rd11 F10'.rel F11.rel
          have HB11 := Lib.hid (SpX.bb B10 B11)
          clear P10 rd10 F10 F11 B10 B11 hl10 hl11
          go_wp2_with fail
          refine hse.mono ?_
          clear hse
          rintro e w12 ⟨rfl, B12⟩
          have P12 := P11.below B12
          have HB12 := Lib.hid (SpX.bb HB11.out B12)
          have hdd : (dn != dn) = false := by simp
          have hbb : (TB != TB) = false := by simp
          clear P11 B12 HB11
          go_wp2_with fail
          refine (counter_su (su_of P12) HE.out.2.2.2).mono ?_
          rintro e w12' ⟨rfl, e12⟩
          subst e12
          go_wp2_with fail
          refine (counter_su (su_of P12.swap) (r := dn) (by rw [HE.out.2.1]; exact HE.out.2.2.2)).mono ?_
          rintro e w12' ⟨rfl, e12⟩
          subst e12
          go_wp2_with fail
          refine (counter_su (su_of P12) HE.out.2.2.2).mono ?_
          rintro e w12' ⟨rfl, e12⟩
          subst e12
          go_wp2_with fail
          refine (entries_su (su_of P12) (l := t.l) rfl (by omega)).mono ?_
          rintro e w14 ⟨v14, es14, rfl, F14, B14⟩
          obtain ⟨A14, c14, rfl⟩ := own_form F14.own
          have hl14 : es14.length = mm := F14.rel.1.trans HL.out.2.2.2.2.2.2.2.2.2
          rw [hl14]
          have rd14 := Rd.of_own F14.own
          rw [hl14] at rd14
          have hkt : RdKs w14 A7 p c7 TL := by
            obtain ⟨O7, B7, -⟩ := HT.out
            have h8 := own_only O7 HE.out.2.2.1 (fun q hq e => e (.inr (by have h1 := O7.lt q hq; have h2 := HB6.out.size; omega)))
            have := own_only h8 (Only.of_below (SpX.bb HB12.out B14)) (fun q hq e => by have := (h8.lt q hq).2; omega)
            rw [HL.out.2.2.2.2.2.2.2.2.1] at this
            exact Rd.of_own this
          have P14 := P12.below B14
          have HB14 := Lib.hid (SpX.bb HB12.out B14)
          have HR := Lib.hid (And.intro rd14 (And.intro F14.rel hkt))
          have hcap14 := rd14.cap
          have hbig14 := rd14.big
          have hcap7 := hkt.cap
          have hbig7 := hkt.big
          unfold maxLen at hbig14 hbig7
          clear P12 B14 F14 rd14 hkt hl14 HB12
          go_wp2_with fail
          go_loopw [13] (fun i wr => ∃ j : Nat, j ≤ mm ∧ i = .int .i64 j ∧ Below w14.heap.size w14 wr) (fun i _ => mm - (intOf i).toNat)
          case atStart => exact ⟨0, Nat.zero_le _, rfl, Below.refl _ _⟩
          case round =>
            obtain ⟨j, hj, rfl, hb⟩ := hrel
            by_cases hlt : j < mm
            · obtain ⟨rd14, rel14, hkt⟩ := HR.out
              have hen : es14.length = mm := rd_rows_len en_len (by decide) rd14
              have hln : t.l.length = mm := HL.out.2.2.2.2.2.2.2.2.2
              obtain ⟨e0, he0⟩ : ∃ e0, es14[j]? = some e0 := ⟨_, List.getElem?_eq_getElem (by omega)⟩
              obtain ⟨p0, hp0⟩ : ∃ p0, t.l[j]? = some p0 := ⟨_, List.getElem?_eq_getElem (by omega)⟩
              obtain ⟨r1, r2, r3, -⟩ := rel14.2 j e0 p0 he0 hp0
              obtain ⟨pa, rfl, cx⟩ := rd_rows_get en_len rd14 he0 (by decide)
              obtain ⟨key, x0, due0, ver0⟩ := e0
              simp only at r1 r2 r3
              obtain ⟨nb, hnb⟩ : ∃ nb, (getK t.bf key).isSome = nb := ⟨_, rfl⟩
              have hver : decide (cn < (ver0 : Int)) = nb := by
                obtain ⟨hB, hrp, htv, hky, hat, hi, hm, hTL, hp, hmm⟩ := HL.out
                have h1 := tv_iff htv hi hrp.on (List.mem_of_getElem? hp0)
                rw [← r1, ← r3, hnb, hat] at h1
                rw [h1]
                have := HB.out.2.2.1
                exact decide_eq_decide.2 (by omega)
              have hnm : TL.any (fun x => x.toList == key.toList) = nb := by
                obtain ⟨hB, hrp, htv, hky, hat, hi, hm, hTL, hp, hmm⟩ := HL.out
                rw [← hTL, named_iff hi]; exact hnb
              have c0 : w14.cell? (pa.add (j * 8)) = some (.string key) := cx 0 _ rfl
              have c7' : w14.cell? ⟨(pa.add (j * 8)).block, (pa.add (j * 8)).off + 7, none⟩ = some (.int .u64 ver0) := cx 7 _ rfl
              have HC := Lib.hid (And.intro c0 (And.intro c7' (And.intro hnm hb)))
              have hjn : ((j : Nat) : Int) < (mm : Int) := by omega
              have hnn : (nb != nb) = false := by simp
              have hb2 : Below w14.heap.size w14 wr := hb
              clear rd14 rel14 hen hln he0 hp0 r1 r2 r3 cx hnb c0 c7' hnm hb hkt
              go_wp2_with fail
              go_loopw [14, 15] (fun nm i wq => ∃ r : Nat, r ≤ p ∧ i = .int .i64 r ∧ nm = .bool ((TL.take r).any (fun x => x.toList == key.toList)) ∧ Below w14.heap.size w14 wq) (fun _ i _ => p - (intOf i).toNat)
              case atStart => exact ⟨0, Nat.zero_le _, rfl, rfl, hb2⟩
              case round =>
                obtain ⟨r, hr, rfl, rfl, hb3⟩ := hrel
                by_cases hlt2 : r < p
                · obtain ⟨x, hx⟩ : ∃ x, TL[r]? = some x := ⟨_, List.getElem?_eq_getElem (by rw [HL.out.2.2.2.2.2.2.2.2.1]; exact hlt2)⟩
                  obtain ⟨pb, rfl, k1⟩ := HR.out.2.2.get r (.string x) (by simp [keysV, hx])
                  have k2 : wr.cell? (pb.add r) = some (.string x) := below_c k1 hb3
                  have g0 : wr.cell? (pa.add (j * 8)) = some (.string key) := below_c HC.out.1 hb3
                  have hrn : ((r : Nat) : Int) < (p : Int) := by omega
                  have hst : (TL.take (r + 1)).any (fun x => x.toList == key.toList) = ((TL.take r).any (fun x => x.toList == key.toList) || (x.toList == key.toList)) := by
                    rw [List.take_add_one, hx, Option.toList_some, List.any_append]; simp
                  obtain ⟨a, ha⟩ : ∃ a, (TL.take r).any (fun x => x.toList == key.toList) = a := ⟨_, rfl⟩
                  rw [ha] at hst ⊢
                  have HS := Lib.hid (And.intro hst hb3)
                  clear hst ha hb3 k1 hx hb2
                  by_cases hq : a = true
                  · subst hq
                    go_wp2_with fail
                    go_quiet (fail)
                    go_wp2_with fail
                    exact ⟨⟨r + 1, by omega, by go_num, by rw [HS.out.1]; simp, below_drawn_' HS.out.2 _⟩, by simp [intOf]; omega⟩
                  · obtain rfl : a = false := by simpa using hq
                    clear hq
                    go_wp2_with fail
                    go_quiet (fail)
                    go_wp2_with fail
                    exact ⟨⟨r + 1, by omega, by go_num, by rw [HS.out.1]; simp, below_drawn_' HS.out.2 _⟩, by simp [intOf]; omega⟩
                · obtain rfl : r = p := by omega
                  have hnm := HC.out.2.2.1
                  rw [List.take_of_length_le (Nat.le_of_eq HL.out.2.2.2.2.2.2.2.2.1)]
                  rw [hnm]
                  have g7 : wr.cell? ⟨(pa.add (j * 8)).block, (pa.add (j * 8)).off + 7, none⟩ = some (.int .u64 ver0) := below_c HC.out.2.1 hb3
                  clear hnm hb2
                  go_wp2_with fail
                  exact ⟨⟨j + 1, by omega, by go_num, hb3⟩, by simp [intOf]; omega⟩
            · obtain rfl : j = mm := by omega
              have P15 := P14.below hb
              go_wp2_with fail
              refine (keep_pr P15 (r := 0) (by rw [HL.out.2.1.on]; rfl) rfl).mono ?_
              rintro e w16 ⟨rfl, P16, O16⟩
              have hkl : (keepS t).l = t.l := by unfold keepS; rw [HL.out.2.1.on]; rfl
              have hWb : Below W.heap.size W w16 := by
                have O8 : Only (fun q => ¬ q < W.heap.size) W w8 := HT.out.2.2.trans HE.out.2.2.1 (fun q e => .inl (fun h => e (.inl h)))
                have O15 := O8.trans (SpU.only_b (SpX.bb HB14.out hb) : Only (fun q => ¬ q < W.heap.size) w8 wr) (fun q e => .inl e)
                exact (O15.trans O16 (fun q e => .inl (fun h => e (.inl h)))).below (Nat.le_refl _) (fun q e => Nat.not_lt.1 e)
              clear P15 O16 hb P14
              go_wp2_with fail
              refine (entries_su (su_of P16) (l := t.l) hkl (by omega)).mono ?_
              rintro e w17 ⟨v17, es17, rfl, F17, B17⟩
              obtain ⟨A17, c17, rfl⟩ := own_form F17.own
              have hl17 : es17.length = j := F17.rel.1.trans HL.out.2.2.2.2.2.2.2.2.2
              rw [hl17]
              have P17 := P16.below B17
              clear P16
              go_wp2_with fail
              refine (entries_su (su_of P17.swap) (l := t.l) HE.out.1 (by omega)).mono ?_
              rintro e w18 ⟨v18, es18, rfl, F18, B18⟩
              obtain ⟨A18, c18, rfl⟩ := own_form F18.own
              have hl18 : es18.length = j := F18.rel.1.trans HL.out.2.2.2.2.2.2.2.2.2
              rw [hl18]
              have hse := by
                have F17' := F17.below B18
                have rd17 := Rd.of_own F17'.own
                rw [hl17] at rd17
                have rd18 := Rd.of_own F18.own
                rw [hl18] at rd18
                exact sameEntries_eq A17 A18 j c17 c18 es17 es18 t.l w18 rd17 rd18 F17'.rel F18.rel
              have hB18 := SpX.bb hWb (SpX.bb B17 B18)
              clear P17 F17 F18 B17 B18 hl17 hl18 hWb
              go_wp2_with fail
              refine hse.mono ?_
              clear hse
              rintro e w19 ⟨rfl, B19⟩
              have hB19 := SpX.bb hB18 B19
              clear hB18 B19
              go_wp2_with fail
              refine (sure_calls _).mono ?_
              rintro e w20 ⟨rfl, B20⟩
              go_wp2_with fail
              go_ret
              exact ⟨rfl, SpX.bb hB19 B20⟩
end Go.Proofs.YtjofbagaobdmoaaGreat.SrF
