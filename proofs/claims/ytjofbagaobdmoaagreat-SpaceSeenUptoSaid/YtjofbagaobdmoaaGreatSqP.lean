/-
  SpaceSeen: the law's walk. Conditions: as stated.
-/
import Derived.Test.YtjofbagaobdmoaaGreatSqM
import Derived.Test.YtjofbagaobdmoaaGreatSqO
set_option maxRecDepth 100000
set_option linter.unusedSimpArgs false
set_option linter.unusedVariables false
namespace Go.Proofs.YtjofbagaobdmoaaGreat.SrH
open Go.RowKit Go.Proofs.YtjofbagaobdmoaaGreat.Mem Go.Proofs.YtjofbagaobdmoaaGreat.VaC Go.Proofs.YtjofbagaobdmoaaGreat.VaE Go.Proofs.YtjofbagaobdmoaaGreat.VaH Go.Proofs.YtjofbagaobdmoaaGreat.VaI Go.Proofs.YtjofbagaobdmoaaGreat.VaX Go.Proofs.YtjofbagaobdmoaaGreat.DuA Go.Proofs.YtjofbagaobdmoaaGreat.SpA Go.Proofs.YtjofbagaobdmoaaGreat.SpB Go.Proofs.YtjofbagaobdmoaaGreat.SpC Go.Proofs.YtjofbagaobdmoaaGreat.SpD Go.Proofs.YtjofbagaobdmoaaGreat.SpE Go.Proofs.YtjofbagaobdmoaaGreat.SpF Go.Proofs.YtjofbagaobdmoaaGreat.SpG Go.Proofs.YtjofbagaobdmoaaGreat.SpH Go.Proofs.YtjofbagaobdmoaaGreat.SpI Go.Proofs.YtjofbagaobdmoaaGreat.SpJ Go.Proofs.YtjofbagaobdmoaaGreat.SpK Go.Proofs.YtjofbagaobdmoaaGreat.SpL Go.Proofs.YtjofbagaobdmoaaGreat.SpM Go.Proofs.YtjofbagaobdmoaaGreat.SpN Go.Proofs.YtjofbagaobdmoaaGreat.SpO Go.Proofs.YtjofbagaobdmoaaGreat.SpP Go.Proofs.YtjofbagaobdmoaaGreat.SpQ Go.Proofs.YtjofbagaobdmoaaGreat.SpR Go.Proofs.YtjofbagaobdmoaaGreat.SpS Go.Proofs.YtjofbagaobdmoaaGreat.SpT Go.Proofs.YtjofbagaobdmoaaGreat.SpU Go.Proofs.YtjofbagaobdmoaaGreat.SpV Go.Proofs.YtjofbagaobdmoaaGreat.SpW Go.Proofs.YtjofbagaobdmoaaGreat.SpY Go.Proofs.YtjofbagaobdmoaaGreat.SpZ Go.Proofs.YtjofbagaobdmoaaGreat.SrA Go.Proofs.YtjofbagaobdmoaaGreat.SrB Go.Proofs.YtjofbagaobdmoaaGreat.SrC Go.Proofs.YtjofbagaobdmoaaGreat.SrD Go.Proofs.YtjofbagaobdmoaaGreat.SrG
open Go.Proofs.YtjofbagaobdmoaaGreat.LawS (OV)
open Go.Proofs.YtjofbagaobdmoaaGreat.DsH (Ix IxS okk keyed key_of)
open Go.Proofs.YtjofbagaobdmoaaGreat.DsK (OwnKs RdKs keysV keysV_one elKs)

/-- What a round keeps: an element of a row of entries, and a box. -/
abbrev SK (B5 : World) (q : Addr) (ky : ByteArray) (x : VV) (bx : Nat) (y : VV) (w : World) : Prop := Below B5.heap.size B5 w ∧ w.cell? q = some (.string ky) ∧ w.cell? ⟨q.block, q.off + 1, none⟩ = some (.int .i64 x.kind) ∧ w.cell? ⟨q.block, q.off + 2, none⟩ = some (.string x.text) ∧ w.cell? ⟨q.block, q.off + 3, none⟩ = some (.slice x.LA x.ln x.lc) ∧ w.cell? ⟨q.block, q.off + 4, none⟩ = some (.slice x.FA x.fn x.fc) ∧ w.cell? ⟨q.block, q.off + 5, none⟩ = some (.slice x.KA x.kn x.kc) ∧ w.cell? ⟨bx, 0, none⟩ = some (.int .i64 y.kind) ∧ w.cell? ⟨bx, 1, none⟩ = some (.string y.text) ∧ w.cell? ⟨bx, 2, none⟩ = some (.slice y.LA y.ln y.lc) ∧ w.cell? ⟨bx, 3, none⟩ = some (.slice y.FA y.fn y.fc) ∧ w.cell? ⟨bx, 4, none⟩ = some (.slice y.KA y.kn y.kc)
theorem sk_below {B5 : World} {q : Addr} {ky : ByteArray} {x : VV} {bx : Nat} {y : VV} {w w' : World} (h : SK B5 q ky x bx y w) (hb : Below w.heap.size w w') : SK B5 q ky x bx y w' := by
  obtain ⟨a, a0, a1, a2, a3, a4, a5, b0, b1, b2, b3, b4⟩ := h
  exact ⟨SpX.bb a hb, below_c a0 hb, below_c a1 hb, below_c a2 hb, below_c a3 hb, below_c a4 hb, below_c a5 hb, below_c b0 hb, below_c b1 hb, below_c b2 hb, below_c b3 hb, below_c b4 hb⟩
theorem lt_ge {a b : ByteArray} (h : lt a b = true) : lt b a = false := by
  cases hc : lt b a
  · rfl
  · have := DuB.linS.tr h hc
    rw [DuB.linS.irr] at this; cases this
set_option maxHeartbeats 16000000 in
theorem seen_upto (a0 : Option Addr) (n0 c0 : Nat) (z0 : List OV) (now : Int) (W : World)
    (R0 : Rd W 9 a0 n0 c0 (z0.flatMap OV.cells)) (L0 : z0.length = n0) (K0 : ∀ x ∈ z0, OV.ok W x) (M0 : (z0.map OV.wt).sum ≤ 1048576) (hn1 : -9223372036854775808 ≤ now) (hn2 : now ≤ 9223372036854775807) :
    Calls Tryz.prog 6 #[.slice a0 n0 c0, .int .i64 now] W fun e w' => e = .returned (.bool true) ∧ Below W.heap.size W w' := by
  have hle : ∀ l : List OV, l.length ≤ (l.map OV.wt).sum := fun l => by
    induction l with
    | nil => simp
    | cons a r ih => simp only [List.map_cons, List.sum_cons, List.length_cons]; have : 1 ≤ a.wt := by unfold OV.wt; omega
                     omega
  have hN0 : n0 ≤ 1048576 := by have := hle z0; omega
  have hcap0 := R0.cap
  have hbig0 := R0.big
  unfold maxLen at hbig0
  have H0 := Lib.hid (And.intro R0 (And.intro L0 (And.intro K0 M0)))
  clear R0 L0 K0 M0 hle
  go_enter Tryz.func6, Tryz.ntmps6
  go_wp2_with fail
  refine (su_new W).mono ?_
  rintro e w1 ⟨g, rfl, S1, B1⟩
  have HS1 := Lib.hid (And.intro S1 B1)
  clear S1 B1
  go_wp2_with fail
  go_loopw [6] (fun i wr => ∃ (k N Z : Nat) (s : PS), k ≤ n0 ∧ i = .int .i64 k ∧ Su wr W.heap.size g N s (fun q => q < W.heap.size) ∧ Bo s N k Z ∧ Only (fun q => ¬ q < W.heap.size) W wr) (fun i _ => n0 - (intOf i).toNat)
  case atStart =>
    obtain ⟨S1, B1⟩ := HS1.out
    exact ⟨0, 0, 0, ps0, Nat.zero_le _, rfl, S1, ⟨Nat.le_refl _, Nat.le_refl _, Nat.le_refl _, Nat.le_refl _⟩, SpU.only_b B1⟩
  case round =>
    obtain ⟨k, N, Z, s, hk, rfl, hS, hB, ho⟩ := hrel
    by_cases hlt : k < n0
    · obtain ⟨R0, L0, K0, M0⟩ := H0.out
      obtain ⟨o, hgo⟩ : ∃ o, z0[k]? = some o := ⟨_, List.getElem?_eq_getElem (by omega)⟩
      have hok := K0 o (List.mem_of_getElem? hgo)
      obtain ⟨ad, had, hal⟩ := R0.lt (by intro e; have := rows_len (c := OV.cells) LawS.ov_len z0; unfold rows at this; rw [e] at this; simp at this; omega)
      obtain ⟨pa, rfl, cx⟩ := rd_rows_get (c := OV.cells) LawS.ov_len R0 hgo (by decide)
      injection had with had
      subst had
      have hpa : ∀ m, (pa.add m).block < W.heap.size := fun m => by rw [Mem.add_block]; exact hal
      have g0 : wr.cell? (pa.add (k * 9)) = some (.int .i64 o.kind) := ho.cell (cx 0 _ rfl) (fun q => q (hpa _))
      have g1 : wr.cell? ⟨(pa.add (k * 9)).block, (pa.add (k * 9)).off + 1, none⟩ = some (.string o.key) := ho.cell (cx 1 _ rfl) (fun q => q (hpa _))
      have g2 : wr.cell? ⟨(pa.add (k * 9)).block, (pa.add (k * 9)).off + 2, none⟩ = some (.int .i64 o.x.kind) := ho.cell (cx 2 _ rfl) (fun q => q (hpa _))
      have g3 : wr.cell? ⟨(pa.add (k * 9)).block, (pa.add (k * 9)).off + 3, none⟩ = some (.string o.x.text) := ho.cell (cx 3 _ rfl) (fun q => q (hpa _))
      have g4 : wr.cell? ⟨(pa.add (k * 9)).block, (pa.add (k * 9)).off + 4, none⟩ = some (.slice o.x.LA o.x.ln o.x.lc) := ho.cell (cx 4 _ rfl) (fun q => q (hpa _))
      have g5 : wr.cell? ⟨(pa.add (k * 9)).block, (pa.add (k * 9)).off + 5, none⟩ = some (.slice o.x.FA o.x.fn o.x.fc) := ho.cell (cx 5 _ rfl) (fun q => q (hpa _))
      have g6 : wr.cell? ⟨(pa.add (k * 9)).block, (pa.add (k * 9)).off + 6, none⟩ = some (.slice o.x.KA o.x.kn o.x.kc) := ho.cell (cx 6 _ rfl) (fun q => q (hpa _))
      have g7 : wr.cell? ⟨(pa.add (k * 9)).block, (pa.add (k * 9)).off + 7, none⟩ = some (.int .i64 o.due) := ho.cell (cx 7 _ rfl) (fun q => q (hpa _))
      have g8 : wr.cell? ⟨(pa.add (k * 9)).block, (pa.add (k * 9)).off + 8, none⟩ = some (.slice o.EA o.en o.ec) := ho.cell (cx 8 _ rfl) (fun q => q (hpa _))
      have hv : Vok wr (fun q => ¬ q < W.heap.size) o.x (pvOf o.x) := (vok_arg hok.rd hok.sm).move ho (fun _ _ e => e) (fun _ _ e => e)
      have hkn : ((k : Nat) : Int) < (n0 : Int) := by omega
      have hd := done_su hS o (by have := hok.key; omega) hv (by have := hB.n; omega) (by have := hB.c; omega) (by have := hB.h; omega)
      have HR := Lib.hid (And.intro hS (And.intro hB ho))
      unfold ovV at hd
      clear R0 L0 K0 M0 hok cx hpa hal hS hB ho hgo hv
      go_wp2_with fail
      refine hd.mono ?_
      rintro e w2 ⟨rfl, S2, O2⟩
      obtain ⟨hS, hB, ho⟩ := HR.out
      have B2 := bo_done hB hS.inv (poOf o)
      have O3 := ho.trans O2 (fun q e => .inl e)
      clear hS hB ho O2 hd g0 g1 g2 g3 g4 g5 g6 g7 g8
      go_wp2_with fail
      exact ⟨⟨k + 1, _, _, _, by omega, by go_num, S2, B2, O3⟩, by simp [intOf]; omega⟩
    · obtain rfl : k = n0 := by omega
      go_upto_region 8 with fail
      clear HS1
      have hi := hS.inv
      have hNk := hB.n
      obtain ⟨m, hm⟩ : ∃ m, s.l.length = m := ⟨_, rfl⟩
      obtain ⟨KL, hKL⟩ : ∃ KL, keysP s now = KL := ⟨_, rfl⟩
      obtain ⟨RL, hRL⟩ : ∃ RL, reach s now = RL := ⟨_, rfl⟩
      obtain ⟨kn, hkn⟩ : ∃ kn, KL.length = kn := ⟨_, rfl⟩
      obtain ⟨rn, hrn⟩ : ∃ rn, RL.length = rn := ⟨_, rfl⟩
      have hall : m = kn + rn := by rw [← hm, all_len hi now, hKL, hkn, hRL, hrn]
      rw [hm] at hNk
      have hmb : m ≤ 100000000 := by omega
      have HL := Lib.hid (And.intro hi (And.intro hm (And.intro hKL (And.intro hRL (And.intro hkn hrn)))))
      have HO := Lib.hid ho
      clear hi hm hKL hRL hkn hrn hB ho
      go_wp2_with fail
      refine (entries_su hS (l := s.l) rfl (by omega)).mono ?_
      rintro e w6 ⟨v6, es6, rfl, F6, B6⟩
      obtain ⟨A6, c6, rfl⟩ := own_form F6.own
      have hl6 : es6.length = m := F6.rel.1.trans HL.out.2.1
      rw [hl6]
      have rd6 := Rd.of_own F6.own
      rw [hl6] at rd6
      have S6 := hS.below B6
      have HF := Lib.hid (And.intro rd6 (And.intro F6.rel B6))
      clear F6 rd6 B6 hl6
      go_wp2_with fail
      refine (keys_su S6 now (l := KL) HL.out.2.2.1 (by omega)).mono ?_
      rintro e w7 ⟨A7, rfl, rd7, -, -, B7⟩
      rw [HL.out.2.2.2.2.1] at rd7 ⊢
      have S7 := S6.below B7
      have HF7 := Lib.hid (And.intro rd7 B7)
      clear rd7 B7
      go_wp2_with fail
      refine (stale_su S7 now 1073741824 (l := RL.map (·.2)) (by rw [stale_is HL.out.1 now (by rw [HL.out.2.1]; omega), HL.out.2.2.2.1]) (by omega)).mono ?_
      rintro e w8 ⟨v8, rfl, O8, B8⟩
      obtain ⟨A8, c8, rfl⟩ := own_form O8
      have rd8 := Rd.of_own O8
      rw [List.length_map, HL.out.2.2.2.2.2] at rd8 ⊢
      have S8 := S7.below B8
      have HW : Only (fun q => ¬ q < W.heap.size) W w8 := HO.out.trans (SpU.only_b (SpX.bb (SpX.bb HF.out.2.2 HF7.out.2) B8) : Only (fun q => ¬ q < W.heap.size) wr w8) (fun q e => .inl e)
      have HR := Lib.hid (And.intro (HF.out.1.below (SpX.bb HF7.out.2 B8)) (And.intro (HF.out.2.1.move (SpU.only_b (SpX.bb HF7.out.2 B8) : Only (fun _ => False) w6 w8) (fun _ _ e => e.elim) (fun _ _ e => e)) (And.intro (HF7.out.1.below B8) (And.intro rd8 HW))))
      have hcap6 := HR.out.1.cap
      have hbig6 := HR.out.1.big
      have hcap8 := rd8.cap
      have hbig8 := rd8.big
      unfold maxLen at hbig6 hbig8
      clear S6 S7 rd8 O8 B8 HW HO HF HF7
      have hne1 : ((m : Int) != ((kn : Int) + (rn : Int))) = false := by
        have : (m : Int) = (kn : Int) + (rn : Int) := by omega
        rw [this]; simp
      have hne2 : ((kn : Int) != (kn : Int)) = false := by simp
      go_wp2_with fail
      refine (len_su S8 now (r := kn) (by rw [HL.out.2.2.1, HL.out.2.2.2.2.1]) (by omega)).mono ?_
      rintro e w9 ⟨rfl, B9⟩
      have S9 := S8.below B9
      have HR9 := Lib.hid (And.intro (HR.out.1.below B9) (And.intro (HR.out.2.1.move (SpU.only_b B9 : Only (fun _ => False) w8 w9) (fun _ _ e => e.elim) (fun _ _ e => e)) (And.intro (HR.out.2.2.1.below B9) (And.intro (HR.out.2.2.2.1.below B9) (HR.out.2.2.2.2.trans (SpU.only_b B9 : Only (fun q => ¬ q < W.heap.size) w8 w9) (fun q e => .inl e))))))
      clear S8 B9 HR hS
      go_wp2_with fail
      go_loopw [10, 11] (fun kv i wr => ∃ j : Nat, j ≤ m ∧ i = .int .i64 j ∧ kv = .int .i64 (rankN s now j) ∧ Below w9.heap.size w9 wr) (fun _ i _ => m - (intOf i).toNat)
      case atStart => exact ⟨0, Nat.zero_le _, rfl, rfl, Below.refl _ _⟩
      case round =>
        obtain ⟨j, hj, rfl, rfl, hb⟩ := hrel
        by_cases hlt : j < m
        · obtain ⟨rd6, rel6, rd7, rd8, -⟩ := HR9.out
          have hen : es6.length = m := rd_rows_len en_len (by decide) rd6
          have hln := HL.out.2.1
          obtain ⟨e0, he0⟩ : ∃ e0, es6[j]? = some e0 := ⟨_, List.getElem?_eq_getElem (by omega)⟩
          obtain ⟨p0, hp0⟩ : ∃ p0, s.l[j]? = some p0 := ⟨_, List.getElem?_eq_getElem (by omega)⟩
          obtain ⟨r1, r2, r3, r4⟩ := rel6.2 j e0 p0 he0 hp0
          obtain ⟨pa, rfl, cx⟩ := rd_rows_get en_len rd6 he0 (by decide)
          obtain ⟨key, x0, due0, ver0⟩ := e0
          simp only at r1 r2 r3 r4
          have hks : key.size ≤ 100000000 := by rw [r1]; exact HL.out.1.key _ (List.mem_of_getElem? hp0)
          have hgt : getK s.l key = some p0.2 := by rw [r1]; exact (mem_getR DuB.linS HL.out.1.ris).2 (List.mem_of_getElem? hp0)
          obtain ⟨b, hb0⟩ : ∃ b, notO now p0 = b := ⟨_, rfl⟩
          have hov : overB p0.2.due now = !b := by rw [← hb0]; unfold notO; simp
          obtain ⟨gv, hgv⟩ : ∃ gv, ((seenP s key now).getD ph0).v = gv := ⟨_, rfl⟩
          have hsn : (seenP s key now).isSome = b := by unfold seenP; rw [hgt]; show (if overB p0.2.due now then none else some p0.2).isSome = b; rw [hov]; cases b <;> rfl
          have hgb : b = true → gv = p0.2.v := by
            intro hb1
            rw [← hgv]; unfold seenP; rw [hgt]; show ((if overB p0.2.due now then none else some p0.2).getD ph0).v = _; rw [hov, hb1]; rfl
          have hoS : overS s key now = !b := by unfold overS; rw [hgt]; exact hov
          have hrk := rank_step now hp0
          rw [hb0] at hrk
          have hat := fun h => rank_at HL.out.1 now hp0 (hb0.trans h)
          have hkl := HL.out.2.2.1
          rw [hkl] at hat
          obtain ⟨rj, hrj⟩ : ∃ rj, rankN s now j = rj := ⟨_, rfl⟩
          rw [hrj] at hrk hat ⊢
          rw [← r1] at hat
          have c0 : w9.cell? (pa.add (j * 8)) = some (.string key) := cx 0 _ rfl
          have c1 : w9.cell? ⟨(pa.add (j * 8)).block, (pa.add (j * 8)).off + 1, none⟩ = some (.int .i64 x0.kind) := cx 1 _ rfl
          have c2 : w9.cell? ⟨(pa.add (j * 8)).block, (pa.add (j * 8)).off + 2, none⟩ = some (.string x0.text) := cx 2 _ rfl
          have c3 : w9.cell? ⟨(pa.add (j * 8)).block, (pa.add (j * 8)).off + 3, none⟩ = some (.slice x0.LA x0.ln x0.lc) := cx 3 _ rfl
          have c4 : w9.cell? ⟨(pa.add (j * 8)).block, (pa.add (j * 8)).off + 4, none⟩ = some (.slice x0.FA x0.fn x0.fc) := cx 4 _ rfl
          have c5 : w9.cell? ⟨(pa.add (j * 8)).block, (pa.add (j * 8)).off + 5, none⟩ = some (.slice x0.KA x0.kn x0.kc) := cx 5 _ rfl
          have HP : ∀ j', j = j' + 1 → ∃ kp, w9.cell? (pa.add (j' * 8)) = some (.string kp) ∧ lt kp key = true := by
            intro j' hj'
            obtain ⟨e1, he1⟩ : ∃ e1, es6[j']? = some e1 := ⟨_, List.getElem?_eq_getElem (by omega)⟩
            obtain ⟨p1, hp1⟩ : ∃ p1, s.l[j']? = some p1 := ⟨_, List.getElem?_eq_getElem (by omega)⟩
            obtain ⟨q1, -⟩ := rel6.2 j' e1 p1 he1 hp1
            obtain ⟨pb, hpb, cy⟩ := rd_rows_get en_len rd6 he1 (by decide)
            injection hpb with hpb
            subst hpb
            refine ⟨e1.key, cy 0 _ rfl, ?_⟩
            rw [q1, r1]
            exact ris_ord HL.out.1 hp1 (by rw [← hj']; exact hp0)
          have HV := Lib.hid (And.intro r4 (And.intro hgb (And.intro hoS (And.intro hrk (And.intro hat hb)))))
          have HC := Lib.hid (And.intro c0 (And.intro c1 (And.intro c2 (And.intro c3 (And.intro c4 c5)))))
          have HPP := Lib.hid HP
          have hjm : ((j : Nat) : Int) < (m : Int) := by omega
          have g0 : wr.cell? (pa.add (j * 8)) = some (.string key) := below_c c0 hb
          have hget := get_su (S9.below hb) key now hsn hgv hks
          clear rd6 rel6 rd7 rd8 hen hln he0 hp0 r1 r2 r3 r4 cx hgt hb0 hov hgv hsn hgb hoS hrk hat hkl c0 c1 c2 c3 c4 c5 HP hb hrj
          go_wp2_with fail
          refine hget.mono ?_
          rintro e w4 ⟨y, rfl, vy, -, -, b4⟩
          have HY := Lib.hid (And.intro vy b4)
          unfold VV.val
          clear vy b4 hget g0
          go_upto_region 16 with fail
          generalize hW5 : w4.alloc _ = W5
          have b5 : Below w4.heap.size w4 W5 := by rw [← hW5]; exact (Below.refl _ _).alloc (Nat.le_refl _) _
          have hbx := heap_alloc_new w4 (.cells #[.int .i64 y.kind, .string y.text, .slice y.LA y.ln y.lc, .slice y.FA y.fn y.fc, .slice y.KA y.kn y.kc] 27)
          rw [hW5] at hbx
          have y0 : W5.cell? ⟨w4.heap.size, 0, none⟩ = some (.int .i64 y.kind) := by simp [World.cell?, hbx]
          have y1 : W5.cell? ⟨w4.heap.size, 1, none⟩ = some (.string y.text) := by simp [World.cell?, hbx]
          have y2 : W5.cell? ⟨w4.heap.size, 2, none⟩ = some (.slice y.LA y.ln y.lc) := by simp [World.cell?, hbx]
          have y3 : W5.cell? ⟨w4.heap.size, 3, none⟩ = some (.slice y.FA y.fn y.fc) := by simp [World.cell?, hbx]
          have y4 : W5.cell? ⟨w4.heap.size, 4, none⟩ = some (.slice y.KA y.kn y.kc) := by simp [World.cell?, hbx]
          obtain ⟨bx, hbx9⟩ : ∃ bx, w4.heap.size = bx := ⟨_, rfl⟩
          obtain ⟨vy, b4⟩ := HY.out
          obtain ⟨r4, hgb, hoS, hrk, hat, hb⟩ := HV.out
          obtain ⟨c0, c1, c2, c3, c4, c5⟩ := HC.out
          have b95 : Below w9.heap.size w9 W5 := SpX.bb (SpX.bb hb b4) b5
          have g0 := below_c c0 b95
          have g1 := below_c c1 b95
          have g2 := below_c c2 b95
          have g3 := below_c c3 b95
          have g4 := below_c c4 b95
          have g5 := below_c c5 b95
          have S5 := S9.below b95
          have hSK : SK W5 (pa.add (j * 8)) key x0 bx y W5 := ⟨Below.refl _ _, g0, g1, g2, g3, g4, g5, by rw [← hbx9]; exact ⟨y0, y1, y2, y3, y4⟩⟩
          have vx5 := r4.below b95
          have vy5 := vy.below b5
          have hvs : b = true → sameV y x0 = true := fun h => by rw [pv_same]; exact decide_eq_true (by rw [vy5.pv, vx5.pv, hgb h])
          have HOS := Lib.hid (And.intro hoS hks)
          have HVS := Lib.hid hvs
          have HD := Lib.hid (And.intro hrk (And.intro hat (And.intro b95 HPP)))
          have HRX := Lib.hid (And.intro vx5 vy5)
          rw [hbx9]
          clear hW5 b5 hbx y0 y1 y2 y3 y4 vy b4 r4 hgb hoS hrk hat hb c0 c1 c2 c3 c4 c5 g0 g1 g2 g3 g4 g5 vx5 vy5 HY HV HC hbx9 HPP hks hvs
          rcases Nat.eq_zero_or_pos j with hj0 | hj0
          · have hjz : decide (0 < j) = false := decide_eq_false (by omega)
            have HB5 := Lib.hid (And.intro b95 hj0)
            clear b95 hj0
            cases b with
            | false =>
              refine wp_region_held_drew (S := fun w' => SK W5 (pa.add (j * 8)) key x0 bx y w') (by kernel_rfl) (sk_below hSK ((Below.refl _ _).drew)) (fun hHeld => ?_)
              refine wpAnyH_take (i := 0) (v := ?_) rfl (by kernel_rfl) (by kernel_rfl) (by kernel_rfl) (fun _ _ _ h => h) (Or.inl ⟨by rfl, ?_⟩) (by assumption) ?_
              rotate_left
              · intro wz hSw
                (try dsimp only at hSw)
                first
                  | (go_simp; done)
                  | (go_simp; with_reducible rfl)
              try simp only [Act.put, List.getElem_toArray, List.getElem_cons_zero, List.getElem_cons_succ, List.setIfInBounds_toArray, List.set_cons_zero, List.set_cons_succ]
              refine wpAnyH_take (i := 1) (v := ?_) rfl (by kernel_rfl) (by kernel_rfl) (by kernel_rfl) (fun _ _ _ h => h) (Or.inl ⟨by rfl, ?_⟩) (by assumption) ?_
              rotate_left
              · intro wz hSw
                (try dsimp only at hSw)
                first
                  | (go_simp; done)
                  | (go_simp; with_reducible rfl)
              try simp only [Act.put, List.getElem_toArray, List.getElem_cons_zero, List.getElem_cons_succ, List.setIfInBounds_toArray, List.set_cons_zero, List.set_cons_succ]
              refine wpAnyH_take (i := 2) (v := ?_) rfl (by kernel_rfl) (by kernel_rfl) (by kernel_rfl) (fun _ _ _ h => h) (Or.inl ⟨by rfl, ?_⟩) (by assumption) ?_
              rotate_left
              · intro wz hSw
                (try dsimp only at hSw)
                first
                  | (go_simp; done)
                  | (go_simp; with_reducible rfl)
              try simp only [Act.put, List.getElem_toArray, List.getElem_cons_zero, List.getElem_cons_succ, List.setIfInBounds_toArray, List.set_cons_zero, List.set_cons_succ]
              refine wpAnyH_take (i := 3) (v := ?_) rfl (by kernel_rfl) (by kernel_rfl) (by kernel_rfl) (fun _ _ _ h => h) (Or.inl ⟨by rfl, ?_⟩) (by assumption) ?_
              rotate_left
              · intro wz hSw
                (try dsimp only at hSw)
                first
                  | (go_simp; done)
                  | (go_simp; with_reducible rfl)
              try simp only [Act.put, List.getElem_toArray, List.getElem_cons_zero, List.getElem_cons_succ, List.setIfInBounds_toArray, List.set_cons_zero, List.set_cons_succ]
              refine wpAnyH_take (i := 4) (v := ?_) rfl (by kernel_rfl) (by kernel_rfl) (by kernel_rfl) (fun _ _ _ h => h) (Or.inl ⟨by rfl, ?_⟩) (by assumption) ?_
              rotate_left
              · intro wz hSw
                (try dsimp only at hSw)
                first
                  | (go_simp; done)
                  | (go_simp; with_reducible rfl)
              try simp only [Act.put, List.getElem_toArray, List.getElem_cons_zero, List.getElem_cons_succ, List.setIfInBounds_toArray, List.set_cons_zero, List.set_cons_succ]
              refine wpAnyH_take (i := 5) (v := ?_) rfl (by kernel_rfl) (by kernel_rfl) (by kernel_rfl) (fun _ _ _ h => h) (Or.inl ⟨by rfl, ?_⟩) (by assumption) ?_
              rotate_left
              · intro wz hSw
                (try dsimp only at hSw)
                first
                  | (go_simp; done)
                  | (go_simp; with_reducible rfl)
              try simp only [Act.put, List.getElem_toArray, List.getElem_cons_zero, List.getElem_cons_succ, List.setIfInBounds_toArray, List.set_cons_zero, List.set_cons_succ]
              refine wpAnyH_take (i := 6) (v := ?_) rfl (by kernel_rfl) (by kernel_rfl) (by kernel_rfl) (fun _ _ _ h => h) (Or.inl ⟨by rfl, ?_⟩) (by assumption) ?_
              rotate_left
              · intro wz hSw
                (try dsimp only at hSw)
                first
                  | (go_simp; done)
                  | (go_simp; with_reducible rfl)
              try simp only [Act.put, List.getElem_toArray, List.getElem_cons_zero, List.getElem_cons_succ, List.setIfInBounds_toArray, List.set_cons_zero, List.set_cons_succ]
              refine wpAnyH_take (i := 7) (v := ?_) rfl (by kernel_rfl) (by kernel_rfl) (by kernel_rfl) (fun _ _ _ h => h) (Or.inl ⟨by rfl, ?_⟩) (by assumption) ?_
              rotate_left
              · intro wz hSw
                (try dsimp only at hSw)
                first
                  | (go_simp; done)
                  | (go_simp; with_reducible rfl)
              try simp only [Act.put, List.getElem_toArray, List.getElem_cons_zero, List.getElem_cons_succ, List.setIfInBounds_toArray, List.set_cons_zero, List.set_cons_succ]
              refine wpAnyH_ready (rs := [8]) (by kernel_rfl) (by simp) ?_
              refine AllReadyH.cons rfl (fun K8 hK8 => ?_) AllReadyH.nil
              go_simp
              refine (over_su (S5.below hHeld.1) key now (r := true) HOS.out.1 HOS.out.2).mono ?_
              rintro e wv ⟨rfl, ew⟩
              subst ew
              refine hK8.out _ _ (hHeld) (fun hHeld => ?_)
              clear hK8 K8
              try simp only [Act.put, List.getElem_toArray, List.getElem_cons_zero, List.getElem_cons_succ, List.setIfInBounds_toArray, List.set_cons_zero, List.set_cons_succ]
              refine wpAnyH_take (i := 9) (v := ?_) rfl (by kernel_rfl) (by kernel_rfl) (by kernel_rfl) (fun _ _ _ h => h) (Or.inl ⟨by rfl, ?_⟩) (by assumption) ?_
              rotate_left
              · intro wz hSw
                (try dsimp only at hSw)
                first
                  | (go_simp; done)
                  | (go_simp; with_reducible rfl)
              try simp only [Act.put, List.getElem_toArray, List.getElem_cons_zero, List.getElem_cons_succ, List.setIfInBounds_toArray, List.set_cons_zero, List.set_cons_succ]
              refine wpAnyH_take (i := 10) (v := ?_) rfl (by kernel_rfl) (by kernel_rfl) (by kernel_rfl) (fun _ _ _ h => h) (Or.inl ⟨by rfl, ?_⟩) (by assumption) ?_
              rotate_left
              · intro wz hSw
                (try dsimp only at hSw)
                first
                  | (go_simp; done)
                  | (go_simp; with_reducible rfl)
              try simp only [Act.put, List.getElem_toArray, List.getElem_cons_zero, List.getElem_cons_succ, List.setIfInBounds_toArray, List.set_cons_zero, List.set_cons_succ]
              refine wpAnyH_take (i := 11) (v := ?_) rfl (by kernel_rfl) (by kernel_rfl) (by kernel_rfl) (fun _ _ _ h => h) (Or.inl ⟨by rfl, ?_⟩) (by assumption) ?_
              rotate_left
              · intro wz hSw
                (try dsimp only at hSw)
                first
                  | (go_simp; done)
                  | (go_simp; with_reducible rfl)
              try simp only [Act.put, List.getElem_toArray, List.getElem_cons_zero, List.getElem_cons_succ, List.setIfInBounds_toArray, List.set_cons_zero, List.set_cons_succ]
              refine wpAnyH_take (i := 12) (v := ?_) rfl (by kernel_rfl) (by kernel_rfl) (by kernel_rfl) (fun _ _ _ h => h) (Or.inl ⟨by rfl, ?_⟩) (by assumption) ?_
              rotate_left
              · intro wz hSw
                (try dsimp only at hSw)
                first
                  | (go_simp; done)
                  | (go_simp; with_reducible rfl)
              try simp only [Act.put, List.getElem_toArray, List.getElem_cons_zero, List.getElem_cons_succ, List.setIfInBounds_toArray, List.set_cons_zero, List.set_cons_succ]
              refine wpAnyH_take (i := 13) (v := ?_) rfl (by kernel_rfl) (by kernel_rfl) (by kernel_rfl) (fun _ _ _ h => h) (Or.inl ⟨by rfl, ?_⟩) (by assumption) ?_
              rotate_left
              · intro wz hSw
                (try dsimp only at hSw)
                first
                  | (go_simp; done)
                  | (go_simp; with_reducible rfl)
              try simp only [Act.put, List.getElem_toArray, List.getElem_cons_zero, List.getElem_cons_succ, List.setIfInBounds_toArray, List.set_cons_zero, List.set_cons_succ]
              refine wpAnyH_take (i := 14) (v := undef) rfl (by kernel_rfl) (by kernel_rfl) (by kernel_rfl) (fun _ _ _ h => h) (Or.inr ⟨by rfl, rfl⟩) (by assumption) ?_
              try simp only [Act.put, List.getElem_toArray, List.getElem_cons_zero, List.getElem_cons_succ, List.setIfInBounds_toArray, List.set_cons_zero, List.set_cons_succ]
              refine wpAnyH_take (i := 15) (v := undef) rfl (by kernel_rfl) (by kernel_rfl) (by kernel_rfl) (fun _ _ _ h => h) (Or.inr ⟨by rfl, rfl⟩) (by assumption) ?_
              try simp only [Act.put, List.getElem_toArray, List.getElem_cons_zero, List.getElem_cons_succ, List.setIfInBounds_toArray, List.set_cons_zero, List.set_cons_succ]
              refine wpAnyH_take (i := 16) (v := undef) rfl (by kernel_rfl) (by kernel_rfl) (by kernel_rfl) (fun _ _ _ h => h) (Or.inr ⟨by rfl, rfl⟩) (by assumption) ?_
              try simp only [Act.put, List.getElem_toArray, List.getElem_cons_zero, List.getElem_cons_succ, List.setIfInBounds_toArray, List.set_cons_zero, List.set_cons_succ]
              refine wpAnyH_take (i := 17) (v := undef) rfl (by kernel_rfl) (by kernel_rfl) (by kernel_rfl) (fun _ _ _ h => h) (Or.inr ⟨by rfl, rfl⟩) (by assumption) ?_
              try simp only [Act.put, List.getElem_toArray, List.getElem_cons_zero, List.getElem_cons_succ, List.setIfInBounds_toArray, List.set_cons_zero, List.set_cons_succ]
              refine wpAnyH_take (i := 18) (v := undef) rfl (by kernel_rfl) (by kernel_rfl) (by kernel_rfl) (fun _ _ _ h => h) (Or.inr ⟨by rfl, rfl⟩) (by assumption) ?_
              try simp only [Act.put, List.getElem_toArray, List.getElem_cons_zero, List.getElem_cons_succ, List.setIfInBounds_toArray, List.set_cons_zero, List.set_cons_succ]
              refine wpAnyH_take (i := 19) (v := undef) rfl (by kernel_rfl) (by kernel_rfl) (by kernel_rfl) (fun _ _ _ h => h) (Or.inr ⟨by rfl, rfl⟩) (by assumption) ?_
              try simp only [Act.put, List.getElem_toArray, List.getElem_cons_zero, List.getElem_cons_succ, List.setIfInBounds_toArray, List.set_cons_zero, List.set_cons_succ]
              refine wpAnyH_take (i := 20) (v := undef) rfl (by kernel_rfl) (by kernel_rfl) (by kernel_rfl) (fun _ _ _ h => h) (Or.inr ⟨by rfl, rfl⟩) (by assumption) ?_
              try simp only [Act.put, List.getElem_toArray, List.getElem_cons_zero, List.getElem_cons_succ, List.setIfInBounds_toArray, List.set_cons_zero, List.set_cons_succ]
              refine wpAnyH_take (i := 21) (v := undef) rfl (by kernel_rfl) (by kernel_rfl) (by kernel_rfl) (fun _ _ _ h => h) (Or.inr ⟨by rfl, rfl⟩) (by assumption) ?_
              try simp only [Act.put, List.getElem_toArray, List.getElem_cons_zero, List.getElem_cons_succ, List.setIfInBounds_toArray, List.set_cons_zero, List.set_cons_succ]
              refine wpAnyH_take (i := 22) (v := undef) rfl (by kernel_rfl) (by kernel_rfl) (by kernel_rfl) (fun _ _ _ h => h) (Or.inr ⟨by rfl, rfl⟩) (by assumption) ?_
              try simp only [Act.put, List.getElem_toArray, List.getElem_cons_zero, List.getElem_cons_succ, List.setIfInBounds_toArray, List.set_cons_zero, List.set_cons_succ]
              refine wpAnyH_take (i := 23) (v := undef) rfl (by kernel_rfl) (by kernel_rfl) (by kernel_rfl) (fun _ _ _ h => h) (Or.inr ⟨by rfl, rfl⟩) (by assumption) ?_
              try simp only [Act.put, List.getElem_toArray, List.getElem_cons_zero, List.getElem_cons_succ, List.setIfInBounds_toArray, List.set_cons_zero, List.set_cons_succ]
              refine wpAnyH_take (i := 24) (v := undef) rfl (by kernel_rfl) (by kernel_rfl) (by kernel_rfl) (fun _ _ _ h => h) (Or.inr ⟨by rfl, rfl⟩) (by assumption) ?_
              try simp only [Act.put, List.getElem_toArray, List.getElem_cons_zero, List.getElem_cons_succ, List.setIfInBounds_toArray, List.set_cons_zero, List.set_cons_succ]
              refine wpAnyH_take (i := 25) (v := undef) rfl (by kernel_rfl) (by kernel_rfl) (by kernel_rfl) (fun _ _ _ h => h) (Or.inr ⟨by rfl, rfl⟩) (by assumption) ?_
              try simp only [Act.put, List.getElem_toArray, List.getElem_cons_zero, List.getElem_cons_succ, List.setIfInBounds_toArray, List.set_cons_zero, List.set_cons_succ]
              refine wpAnyH_take (i := 26) (v := ?_) rfl (by kernel_rfl) (by kernel_rfl) (by kernel_rfl) (fun _ _ _ h => h) (Or.inl ⟨by rfl, ?_⟩) (by assumption) ?_
              rotate_left
              · intro wz hSw
                (try dsimp only at hSw)
                first
                  | (go_simp; done)
                  | (go_simp; with_reducible rfl)
              try simp only [Act.put, List.getElem_toArray, List.getElem_cons_zero, List.getElem_cons_succ, List.setIfInBounds_toArray, List.set_cons_zero, List.set_cons_succ]
              refine wpAnyH_take (i := 27) (v := ?_) rfl (by kernel_rfl) (by kernel_rfl) (by kernel_rfl) (fun _ _ _ h => h) (Or.inl ⟨by rfl, ?_⟩) (by assumption) ?_
              rotate_left
              · intro wz hSw
                (try dsimp only at hSw)
                first
                  | (go_simp; done)
                  | (go_simp; with_reducible rfl)
              try simp only [Act.put, List.getElem_toArray, List.getElem_cons_zero, List.getElem_cons_succ, List.setIfInBounds_toArray, List.set_cons_zero, List.set_cons_succ]
              refine wpAnyH_take (i := 28) (v := ?_) rfl (by kernel_rfl) (by kernel_rfl) (by kernel_rfl) (fun _ _ _ h => h) (Or.inl ⟨by rfl, ?_⟩) (by assumption) ?_
              rotate_left
              · intro wz hSw
                (try dsimp only at hSw)
                first
                  | (go_simp; done)
                  | (go_simp; with_reducible rfl)
              try simp only [Act.put, List.getElem_toArray, List.getElem_cons_zero, List.getElem_cons_succ, List.setIfInBounds_toArray, List.set_cons_zero, List.set_cons_succ]
              refine wpAnyH_take (i := 29) (v := ?_) rfl (by kernel_rfl) (by kernel_rfl) (by kernel_rfl) (fun _ _ _ h => h) (Or.inl ⟨by rfl, ?_⟩) (by assumption) ?_
              rotate_left
              · intro wz hSw
                (try dsimp only at hSw)
                first
                  | (go_simp; done)
                  | (go_simp; with_reducible rfl)
              try simp only [Act.put, List.getElem_toArray, List.getElem_cons_zero, List.getElem_cons_succ, List.setIfInBounds_toArray, List.set_cons_zero, List.set_cons_succ]
              refine wpAnyH_take (i := 30) (v := ?_) rfl (by kernel_rfl) (by kernel_rfl) (by kernel_rfl) (fun _ _ _ h => h) (Or.inl ⟨by rfl, ?_⟩) (by assumption) ?_
              rotate_left
              · intro wz hSw
                (try dsimp only at hSw)
                first
                  | (go_simp; done)
                  | (go_simp; with_reducible rfl)
              try simp only [Act.put, List.getElem_toArray, List.getElem_cons_zero, List.getElem_cons_succ, List.setIfInBounds_toArray, List.set_cons_zero, List.set_cons_succ]
              refine wpAnyH_take (i := 31) (v := undef) rfl (by kernel_rfl) (by kernel_rfl) (by kernel_rfl) (fun _ _ _ h => h) (Or.inr ⟨by rfl, rfl⟩) (by assumption) ?_
              try simp only [Act.put, List.getElem_toArray, List.getElem_cons_zero, List.getElem_cons_succ, List.setIfInBounds_toArray, List.set_cons_zero, List.set_cons_succ]
              refine wpAnyH_take (i := 32) (v := undef) rfl (by kernel_rfl) (by kernel_rfl) (by kernel_rfl) (fun _ _ _ h => h) (Or.inr ⟨by rfl, rfl⟩) (by assumption) ?_
              try simp only [Act.put, List.getElem_toArray, List.getElem_cons_zero, List.getElem_cons_succ, List.setIfInBounds_toArray, List.set_cons_zero, List.set_cons_succ]
              refine wpAnyH_take (i := 33) (v := undef) rfl (by kernel_rfl) (by kernel_rfl) (by kernel_rfl) (fun _ _ _ h => h) (Or.inr ⟨by rfl, rfl⟩) (by assumption) ?_
              try simp only [Act.put, List.getElem_toArray, List.getElem_cons_zero, List.getElem_cons_succ, List.setIfInBounds_toArray, List.set_cons_zero, List.set_cons_succ]
              refine wpAnyH_take (i := 34) (v := undef) rfl (by kernel_rfl) (by kernel_rfl) (by kernel_rfl) (fun _ _ _ h => h) (Or.inr ⟨by rfl, rfl⟩) (by assumption) ?_
              try simp only [Act.put, List.getElem_toArray, List.getElem_cons_zero, List.getElem_cons_succ, List.setIfInBounds_toArray, List.set_cons_zero, List.set_cons_succ]
              refine wpAnyH_take (i := 35) (v := undef) rfl (by kernel_rfl) (by kernel_rfl) (by kernel_rfl) (fun _ _ _ h => h) (Or.inr ⟨by rfl, rfl⟩) (by assumption) ?_
              try simp only [Act.put, List.getElem_toArray, List.getElem_cons_zero, List.getElem_cons_succ, List.setIfInBounds_toArray, List.set_cons_zero, List.set_cons_succ]
              refine wpAnyH_take (i := 36) (v := undef) rfl (by kernel_rfl) (by kernel_rfl) (by kernel_rfl) (fun _ _ _ h => h) (Or.inr ⟨by rfl, rfl⟩) (by assumption) ?_
              try simp only [Act.put, List.getElem_toArray, List.getElem_cons_zero, List.getElem_cons_succ, List.setIfInBounds_toArray, List.set_cons_zero, List.set_cons_succ]
              refine wpAnyH_take (i := 37) (v := undef) rfl (by kernel_rfl) (by kernel_rfl) (by kernel_rfl) (fun _ _ _ h => h) (Or.inr ⟨by rfl, rfl⟩) (by assumption) ?_
              try simp only [Act.put, List.getElem_toArray, List.getElem_cons_zero, List.getElem_cons_succ, List.setIfInBounds_toArray, List.set_cons_zero, List.set_cons_succ]
              refine wpAnyH_take (i := 38) (v := undef) rfl (by kernel_rfl) (by kernel_rfl) (by kernel_rfl) (fun _ _ _ h => h) (Or.inr ⟨by rfl, rfl⟩) (by assumption) ?_
              try simp only [Act.put, List.getElem_toArray, List.getElem_cons_zero, List.getElem_cons_succ, List.setIfInBounds_toArray, List.set_cons_zero, List.set_cons_succ]
              refine wpAnyH_take (i := 39) (v := ?_) rfl (by kernel_rfl) (by kernel_rfl) (by kernel_rfl) (fun _ _ _ h => h) (Or.inl ⟨by rfl, ?_⟩) (by assumption) ?_
              rotate_left
              · intro wz hSw
                (try dsimp only at hSw)
                first
                  | (go_simp; done)
                  | (go_simp; with_reducible rfl)
              try simp only [Act.put, List.getElem_toArray, List.getElem_cons_zero, List.getElem_cons_succ, List.setIfInBounds_toArray, List.set_cons_zero, List.set_cons_succ]
              refine wpAnyH_take (i := 40) (v := ?_) rfl (by kernel_rfl) (by kernel_rfl) (by kernel_rfl) (fun _ _ _ h => h) (Or.inl ⟨by rfl, ?_⟩) (by assumption) ?_
              rotate_left
              · intro wz hSw
                (try dsimp only at hSw)
                first
                  | (go_simp; done)
                  | (go_simp; with_reducible rfl)
              try simp only [Act.put, List.getElem_toArray, List.getElem_cons_zero, List.getElem_cons_succ, List.setIfInBounds_toArray, List.set_cons_zero, List.set_cons_succ]
              refine wpAnyH_done (by kernel_rfl) ?_ _
              have hbe := SpX.bb HB5.out.1 hHeld.1
              have HBE := Lib.hid hbe
              clear hbe hHeld
              go_wp2_with fail
              exact ⟨⟨j + 1, by omega, by go_num, by rw [HD.out.1]; simp, HBE.out⟩, by simp [intOf]; omega⟩
            | true =>
              refine wp_region_held_drew (S := fun w' => SK W5 (pa.add (j * 8)) key x0 bx y w') (by kernel_rfl) (sk_below hSK ((Below.refl _ _).drew)) (fun hHeld => ?_)
              refine wpAnyH_take (i := 0) (v := ?_) rfl (by kernel_rfl) (by kernel_rfl) (by kernel_rfl) (fun _ _ _ h => h) (Or.inl ⟨by rfl, ?_⟩) (by assumption) ?_
              rotate_left
              · intro wz hSw
                (try dsimp only at hSw)
                first
                  | (go_simp; done)
                  | (go_simp; with_reducible rfl)
              try simp only [Act.put, List.getElem_toArray, List.getElem_cons_zero, List.getElem_cons_succ, List.setIfInBounds_toArray, List.set_cons_zero, List.set_cons_succ]
              refine wpAnyH_take (i := 1) (v := ?_) rfl (by kernel_rfl) (by kernel_rfl) (by kernel_rfl) (fun _ _ _ h => h) (Or.inl ⟨by rfl, ?_⟩) (by assumption) ?_
              rotate_left
              · intro wz hSw
                (try dsimp only at hSw)
                first
                  | (go_simp; done)
                  | (go_simp; with_reducible rfl)
              try simp only [Act.put, List.getElem_toArray, List.getElem_cons_zero, List.getElem_cons_succ, List.setIfInBounds_toArray, List.set_cons_zero, List.set_cons_succ]
              refine wpAnyH_take (i := 2) (v := ?_) rfl (by kernel_rfl) (by kernel_rfl) (by kernel_rfl) (fun _ _ _ h => h) (Or.inl ⟨by rfl, ?_⟩) (by assumption) ?_
              rotate_left
              · intro wz hSw
                (try dsimp only at hSw)
                first
                  | (go_simp; done)
                  | (go_simp; with_reducible rfl)
              try simp only [Act.put, List.getElem_toArray, List.getElem_cons_zero, List.getElem_cons_succ, List.setIfInBounds_toArray, List.set_cons_zero, List.set_cons_succ]
              refine wpAnyH_take (i := 3) (v := ?_) rfl (by kernel_rfl) (by kernel_rfl) (by kernel_rfl) (fun _ _ _ h => h) (Or.inl ⟨by rfl, ?_⟩) (by assumption) ?_
              rotate_left
              · intro wz hSw
                (try dsimp only at hSw)
                first
                  | (go_simp; done)
                  | (go_simp; with_reducible rfl)
              try simp only [Act.put, List.getElem_toArray, List.getElem_cons_zero, List.getElem_cons_succ, List.setIfInBounds_toArray, List.set_cons_zero, List.set_cons_succ]
              refine wpAnyH_take (i := 4) (v := ?_) rfl (by kernel_rfl) (by kernel_rfl) (by kernel_rfl) (fun _ _ _ h => h) (Or.inl ⟨by rfl, ?_⟩) (by assumption) ?_
              rotate_left
              · intro wz hSw
                (try dsimp only at hSw)
                first
                  | (go_simp; done)
                  | (go_simp; with_reducible rfl)
              try simp only [Act.put, List.getElem_toArray, List.getElem_cons_zero, List.getElem_cons_succ, List.setIfInBounds_toArray, List.set_cons_zero, List.set_cons_succ]
              refine wpAnyH_take (i := 5) (v := ?_) rfl (by kernel_rfl) (by kernel_rfl) (by kernel_rfl) (fun _ _ _ h => h) (Or.inl ⟨by rfl, ?_⟩) (by assumption) ?_
              rotate_left
              · intro wz hSw
                (try dsimp only at hSw)
                first
                  | (go_simp; done)
                  | (go_simp; with_reducible rfl)
              try simp only [Act.put, List.getElem_toArray, List.getElem_cons_zero, List.getElem_cons_succ, List.setIfInBounds_toArray, List.set_cons_zero, List.set_cons_succ]
              refine wpAnyH_take (i := 6) (v := ?_) rfl (by kernel_rfl) (by kernel_rfl) (by kernel_rfl) (fun _ _ _ h => h) (Or.inl ⟨by rfl, ?_⟩) (by assumption) ?_
              rotate_left
              · intro wz hSw
                (try dsimp only at hSw)
                first
                  | (go_simp; done)
                  | (go_simp; with_reducible rfl)
              try simp only [Act.put, List.getElem_toArray, List.getElem_cons_zero, List.getElem_cons_succ, List.setIfInBounds_toArray, List.set_cons_zero, List.set_cons_succ]
              refine wpAnyH_take (i := 7) (v := ?_) rfl (by kernel_rfl) (by kernel_rfl) (by kernel_rfl) (fun _ _ _ h => h) (Or.inl ⟨by rfl, ?_⟩) (by assumption) ?_
              rotate_left
              · intro wz hSw
                (try dsimp only at hSw)
                first
                  | (go_simp; done)
                  | (go_simp; with_reducible rfl)
              try simp only [Act.put, List.getElem_toArray, List.getElem_cons_zero, List.getElem_cons_succ, List.setIfInBounds_toArray, List.set_cons_zero, List.set_cons_succ]
              refine wpAnyH_ready (rs := [8]) (by kernel_rfl) (by simp) ?_
              refine AllReadyH.cons rfl (fun K8 hK8 => ?_) AllReadyH.nil
              go_simp
              refine (over_su (S5.below hHeld.1) key now (r := false) HOS.out.1 HOS.out.2).mono ?_
              rintro e wv ⟨rfl, ew⟩
              subst ew
              refine hK8.out _ _ (hHeld) (fun hHeld => ?_)
              clear hK8 K8
              try simp only [Act.put, List.getElem_toArray, List.getElem_cons_zero, List.getElem_cons_succ, List.setIfInBounds_toArray, List.set_cons_zero, List.set_cons_succ]
              refine wpAnyH_take (i := 9) (v := ?_) rfl (by kernel_rfl) (by kernel_rfl) (by kernel_rfl) (fun _ _ _ h => h) (Or.inl ⟨by rfl, ?_⟩) (by assumption) ?_
              rotate_left
              · intro wz hSw
                (try dsimp only at hSw)
                first
                  | (go_simp; done)
                  | (go_simp; with_reducible rfl)
              try simp only [Act.put, List.getElem_toArray, List.getElem_cons_zero, List.getElem_cons_succ, List.setIfInBounds_toArray, List.set_cons_zero, List.set_cons_succ]
              refine wpAnyH_take (i := 10) (v := ?_) rfl (by kernel_rfl) (by kernel_rfl) (by kernel_rfl) (fun _ _ _ h => h) (Or.inl ⟨by rfl, ?_⟩) (by assumption) ?_
              rotate_left
              · intro wz hSw
                (try dsimp only at hSw)
                first
                  | (go_simp; done)
                  | (go_simp; with_reducible rfl)
              try simp only [Act.put, List.getElem_toArray, List.getElem_cons_zero, List.getElem_cons_succ, List.setIfInBounds_toArray, List.set_cons_zero, List.set_cons_succ]
              refine wpAnyH_take (i := 11) (v := ?_) rfl (by kernel_rfl) (by kernel_rfl) (by kernel_rfl) (fun _ _ _ h => h) (Or.inl ⟨by rfl, ?_⟩) (by assumption) ?_
              rotate_left
              · intro wz hSw
                (try dsimp only at hSw)
                first
                  | (go_simp; done)
                  | (go_simp; with_reducible rfl)
              try simp only [Act.put, List.getElem_toArray, List.getElem_cons_zero, List.getElem_cons_succ, List.setIfInBounds_toArray, List.set_cons_zero, List.set_cons_succ]
              refine wpAnyH_take (i := 12) (v := ?_) rfl (by kernel_rfl) (by kernel_rfl) (by kernel_rfl) (fun _ _ _ h => h) (Or.inl ⟨by rfl, ?_⟩) (by assumption) ?_
              rotate_left
              · intro wz hSw
                (try dsimp only at hSw)
                first
                  | (go_simp; done)
                  | (go_simp; with_reducible rfl)
              try simp only [Act.put, List.getElem_toArray, List.getElem_cons_zero, List.getElem_cons_succ, List.setIfInBounds_toArray, List.set_cons_zero, List.set_cons_succ]
              refine wpAnyH_take (i := 13) (v := ?_) rfl (by kernel_rfl) (by kernel_rfl) (by kernel_rfl) (fun _ _ _ h => h) (Or.inl ⟨by rfl, ?_⟩) (by assumption) ?_
              rotate_left
              · intro wz hSw
                (try dsimp only at hSw)
                first
                  | (go_simp; done)
                  | (go_simp; with_reducible rfl)
              try simp only [Act.put, List.getElem_toArray, List.getElem_cons_zero, List.getElem_cons_succ, List.setIfInBounds_toArray, List.set_cons_zero, List.set_cons_succ]
              refine wpAnyH_take (i := 14) (v := undef) rfl (by kernel_rfl) (by kernel_rfl) (by kernel_rfl) (fun _ _ _ h => h) (Or.inr ⟨by rfl, rfl⟩) (by assumption) ?_
              try simp only [Act.put, List.getElem_toArray, List.getElem_cons_zero, List.getElem_cons_succ, List.setIfInBounds_toArray, List.set_cons_zero, List.set_cons_succ]
              refine wpAnyH_take (i := 15) (v := undef) rfl (by kernel_rfl) (by kernel_rfl) (by kernel_rfl) (fun _ _ _ h => h) (Or.inr ⟨by rfl, rfl⟩) (by assumption) ?_
              try simp only [Act.put, List.getElem_toArray, List.getElem_cons_zero, List.getElem_cons_succ, List.setIfInBounds_toArray, List.set_cons_zero, List.set_cons_succ]
              refine wpAnyH_take (i := 16) (v := undef) rfl (by kernel_rfl) (by kernel_rfl) (by kernel_rfl) (fun _ _ _ h => h) (Or.inr ⟨by rfl, rfl⟩) (by assumption) ?_
              try simp only [Act.put, List.getElem_toArray, List.getElem_cons_zero, List.getElem_cons_succ, List.setIfInBounds_toArray, List.set_cons_zero, List.set_cons_succ]
              refine wpAnyH_take (i := 17) (v := undef) rfl (by kernel_rfl) (by kernel_rfl) (by kernel_rfl) (fun _ _ _ h => h) (Or.inr ⟨by rfl, rfl⟩) (by assumption) ?_
              try simp only [Act.put, List.getElem_toArray, List.getElem_cons_zero, List.getElem_cons_succ, List.setIfInBounds_toArray, List.set_cons_zero, List.set_cons_succ]
              refine wpAnyH_take (i := 18) (v := undef) rfl (by kernel_rfl) (by kernel_rfl) (by kernel_rfl) (fun _ _ _ h => h) (Or.inr ⟨by rfl, rfl⟩) (by assumption) ?_
              try simp only [Act.put, List.getElem_toArray, List.getElem_cons_zero, List.getElem_cons_succ, List.setIfInBounds_toArray, List.set_cons_zero, List.set_cons_succ]
              refine wpAnyH_take (i := 19) (v := undef) rfl (by kernel_rfl) (by kernel_rfl) (by kernel_rfl) (fun _ _ _ h => h) (Or.inr ⟨by rfl, rfl⟩) (by assumption) ?_
              try simp only [Act.put, List.getElem_toArray, List.getElem_cons_zero, List.getElem_cons_succ, List.setIfInBounds_toArray, List.set_cons_zero, List.set_cons_succ]
              refine wpAnyH_take (i := 20) (v := undef) rfl (by kernel_rfl) (by kernel_rfl) (by kernel_rfl) (fun _ _ _ h => h) (Or.inr ⟨by rfl, rfl⟩) (by assumption) ?_
              try simp only [Act.put, List.getElem_toArray, List.getElem_cons_zero, List.getElem_cons_succ, List.setIfInBounds_toArray, List.set_cons_zero, List.set_cons_succ]
              refine wpAnyH_take (i := 21) (v := undef) rfl (by kernel_rfl) (by kernel_rfl) (by kernel_rfl) (fun _ _ _ h => h) (Or.inr ⟨by rfl, rfl⟩) (by assumption) ?_
              try simp only [Act.put, List.getElem_toArray, List.getElem_cons_zero, List.getElem_cons_succ, List.setIfInBounds_toArray, List.set_cons_zero, List.set_cons_succ]
              refine wpAnyH_take (i := 22) (v := undef) rfl (by kernel_rfl) (by kernel_rfl) (by kernel_rfl) (fun _ _ _ h => h) (Or.inr ⟨by rfl, rfl⟩) (by assumption) ?_
              try simp only [Act.put, List.getElem_toArray, List.getElem_cons_zero, List.getElem_cons_succ, List.setIfInBounds_toArray, List.set_cons_zero, List.set_cons_succ]
              refine wpAnyH_take (i := 23) (v := undef) rfl (by kernel_rfl) (by kernel_rfl) (by kernel_rfl) (fun _ _ _ h => h) (Or.inr ⟨by rfl, rfl⟩) (by assumption) ?_
              try simp only [Act.put, List.getElem_toArray, List.getElem_cons_zero, List.getElem_cons_succ, List.setIfInBounds_toArray, List.set_cons_zero, List.set_cons_succ]
              refine wpAnyH_take (i := 24) (v := undef) rfl (by kernel_rfl) (by kernel_rfl) (by kernel_rfl) (fun _ _ _ h => h) (Or.inr ⟨by rfl, rfl⟩) (by assumption) ?_
              try simp only [Act.put, List.getElem_toArray, List.getElem_cons_zero, List.getElem_cons_succ, List.setIfInBounds_toArray, List.set_cons_zero, List.set_cons_succ]
              refine wpAnyH_take (i := 25) (v := undef) rfl (by kernel_rfl) (by kernel_rfl) (by kernel_rfl) (fun _ _ _ h => h) (Or.inr ⟨by rfl, rfl⟩) (by assumption) ?_
              try simp only [Act.put, List.getElem_toArray, List.getElem_cons_zero, List.getElem_cons_succ, List.setIfInBounds_toArray, List.set_cons_zero, List.set_cons_succ]
              refine wpAnyH_take (i := 26) (v := ?_) rfl (by kernel_rfl) (by kernel_rfl) (by kernel_rfl) (fun _ _ _ h => h) (Or.inl ⟨by rfl, ?_⟩) (by assumption) ?_
              rotate_left
              · intro wz hSw
                (try dsimp only at hSw)
                first
                  | (go_simp; done)
                  | (go_simp; with_reducible rfl)
              try simp only [Act.put, List.getElem_toArray, List.getElem_cons_zero, List.getElem_cons_succ, List.setIfInBounds_toArray, List.set_cons_zero, List.set_cons_succ]
              refine wpAnyH_take (i := 27) (v := ?_) rfl (by kernel_rfl) (by kernel_rfl) (by kernel_rfl) (fun _ _ _ h => h) (Or.inl ⟨by rfl, ?_⟩) (by assumption) ?_
              rotate_left
              · intro wz hSw
                (try dsimp only at hSw)
                first
                  | (go_simp; done)
                  | (go_simp; with_reducible rfl)
              try simp only [Act.put, List.getElem_toArray, List.getElem_cons_zero, List.getElem_cons_succ, List.setIfInBounds_toArray, List.set_cons_zero, List.set_cons_succ]
              refine wpAnyH_take (i := 28) (v := ?_) rfl (by kernel_rfl) (by kernel_rfl) (by kernel_rfl) (fun _ _ _ h => h) (Or.inl ⟨by rfl, ?_⟩) (by assumption) ?_
              rotate_left
              · intro wz hSw
                (try dsimp only at hSw)
                first
                  | (go_simp; done)
                  | (go_simp; with_reducible rfl)
              try simp only [Act.put, List.getElem_toArray, List.getElem_cons_zero, List.getElem_cons_succ, List.setIfInBounds_toArray, List.set_cons_zero, List.set_cons_succ]
              refine wpAnyH_take (i := 29) (v := ?_) rfl (by kernel_rfl) (by kernel_rfl) (by kernel_rfl) (fun _ _ _ h => h) (Or.inl ⟨by rfl, ?_⟩) (by assumption) ?_
              rotate_left
              · intro wz hSw
                (try dsimp only at hSw)
                first
                  | (go_simp; done)
                  | (go_simp; with_reducible rfl)
              try simp only [Act.put, List.getElem_toArray, List.getElem_cons_zero, List.getElem_cons_succ, List.setIfInBounds_toArray, List.set_cons_zero, List.set_cons_succ]
              refine wpAnyH_take (i := 30) (v := ?_) rfl (by kernel_rfl) (by kernel_rfl) (by kernel_rfl) (fun _ _ _ h => h) (Or.inl ⟨by rfl, ?_⟩) (by assumption) ?_
              rotate_left
              · intro wz hSw
                (try dsimp only at hSw)
                first
                  | (go_simp; done)
                  | (go_simp; with_reducible rfl)
              try simp only [Act.put, List.getElem_toArray, List.getElem_cons_zero, List.getElem_cons_succ, List.setIfInBounds_toArray, List.set_cons_zero, List.set_cons_succ]
              refine wpAnyH_take (i := 31) (v := ?_) rfl (by kernel_rfl) (by kernel_rfl) (by kernel_rfl) (fun _ _ _ h => h) (Or.inl ⟨by rfl, ?_⟩) (by assumption) ?_
              rotate_left
              · intro wz hSw
                (try dsimp only at hSw)
                first
                  | (go_simp; done)
                  | (go_simp; with_reducible rfl)
              try simp only [Act.put, List.getElem_toArray, List.getElem_cons_zero, List.getElem_cons_succ, List.setIfInBounds_toArray, List.set_cons_zero, List.set_cons_succ]
              refine wpAnyH_take (i := 32) (v := ?_) rfl (by kernel_rfl) (by kernel_rfl) (by kernel_rfl) (fun _ _ _ h => h) (Or.inl ⟨by rfl, ?_⟩) (by assumption) ?_
              rotate_left
              · intro wz hSw
                (try dsimp only at hSw)
                first
                  | (go_simp; done)
                  | (go_simp; with_reducible rfl)
              try simp only [Act.put, List.getElem_toArray, List.getElem_cons_zero, List.getElem_cons_succ, List.setIfInBounds_toArray, List.set_cons_zero, List.set_cons_succ]
              refine wpAnyH_take (i := 33) (v := ?_) rfl (by kernel_rfl) (by kernel_rfl) (by kernel_rfl) (fun _ _ _ h => h) (Or.inl ⟨by rfl, ?_⟩) (by assumption) ?_
              rotate_left
              · intro wz hSw
                (try dsimp only at hSw)
                first
                  | (go_simp; done)
                  | (go_simp; with_reducible rfl)
              try simp only [Act.put, List.getElem_toArray, List.getElem_cons_zero, List.getElem_cons_succ, List.setIfInBounds_toArray, List.set_cons_zero, List.set_cons_succ]
              refine wpAnyH_take (i := 34) (v := ?_) rfl (by kernel_rfl) (by kernel_rfl) (by kernel_rfl) (fun _ _ _ h => h) (Or.inl ⟨by rfl, ?_⟩) (by assumption) ?_
              rotate_left
              · intro wz hSw
                (try dsimp only at hSw)
                first
                  | (go_simp; done)
                  | (go_simp; with_reducible rfl)
              try simp only [Act.put, List.getElem_toArray, List.getElem_cons_zero, List.getElem_cons_succ, List.setIfInBounds_toArray, List.set_cons_zero, List.set_cons_succ]
              refine wpAnyH_take (i := 35) (v := ?_) rfl (by kernel_rfl) (by kernel_rfl) (by kernel_rfl) (fun _ _ _ h => h) (Or.inl ⟨by rfl, ?_⟩) (by assumption) ?_
              rotate_left
              · intro wz hSw
                (try dsimp only at hSw)
                first
                  | (go_simp; done)
                  | (go_simp; with_reducible rfl)
              try simp only [Act.put, List.getElem_toArray, List.getElem_cons_zero, List.getElem_cons_succ, List.setIfInBounds_toArray, List.set_cons_zero, List.set_cons_succ]
              refine wpAnyH_take (i := 36) (v := ?_) rfl (by kernel_rfl) (by kernel_rfl) (by kernel_rfl) (fun _ _ _ h => h) (Or.inl ⟨by rfl, ?_⟩) (by assumption) ?_
              rotate_left
              · intro wz hSw
                (try dsimp only at hSw)
                first
                  | (go_simp; done)
                  | (go_simp; with_reducible rfl)
              try simp only [Act.put, List.getElem_toArray, List.getElem_cons_zero, List.getElem_cons_succ, List.setIfInBounds_toArray, List.set_cons_zero, List.set_cons_succ]
              refine wpAnyH_ready (rs := [37]) (by kernel_rfl) (by simp) ?_
              refine AllReadyH.cons rfl (fun K37 hK37 => ?_) AllReadyH.nil
              go_simp
              refine (sameR_calls y x0 _ ((HRX.out.2.below hHeld.1).rd) ((HRX.out.1.below hHeld.1).rd)).mono ?_
              rintro e wv ⟨rfl, bv⟩
              rw [HVS.out rfl]
              refine hK37.out _ _ (sk_below hHeld bv) (fun hHeld => ?_)
              clear hK37 K37
              try simp only [Act.put, List.getElem_toArray, List.getElem_cons_zero, List.getElem_cons_succ, List.setIfInBounds_toArray, List.set_cons_zero, List.set_cons_succ]
              refine wpAnyH_take (i := 38) (v := ?_) rfl (by kernel_rfl) (by kernel_rfl) (by kernel_rfl) (fun _ _ _ h => h) (Or.inl ⟨by rfl, ?_⟩) (by assumption) ?_
              rotate_left
              · intro wz hSw
                (try dsimp only at hSw)
                first
                  | (go_simp; done)
                  | (go_simp; with_reducible rfl)
              try simp only [Act.put, List.getElem_toArray, List.getElem_cons_zero, List.getElem_cons_succ, List.setIfInBounds_toArray, List.set_cons_zero, List.set_cons_succ]
              refine wpAnyH_take (i := 39) (v := ?_) rfl (by kernel_rfl) (by kernel_rfl) (by kernel_rfl) (fun _ _ _ h => h) (Or.inl ⟨by rfl, ?_⟩) (by assumption) ?_
              rotate_left
              · intro wz hSw
                (try dsimp only at hSw)
                first
                  | (go_simp; done)
                  | (go_simp; with_reducible rfl)
              try simp only [Act.put, List.getElem_toArray, List.getElem_cons_zero, List.getElem_cons_succ, List.setIfInBounds_toArray, List.set_cons_zero, List.set_cons_succ]
              refine wpAnyH_take (i := 40) (v := ?_) rfl (by kernel_rfl) (by kernel_rfl) (by kernel_rfl) (fun _ _ _ h => h) (Or.inl ⟨by rfl, ?_⟩) (by assumption) ?_
              rotate_left
              · intro wz hSw
                (try dsimp only at hSw)
                first
                  | (go_simp; done)
                  | (go_simp; with_reducible rfl)
              try simp only [Act.put, List.getElem_toArray, List.getElem_cons_zero, List.getElem_cons_succ, List.setIfInBounds_toArray, List.set_cons_zero, List.set_cons_succ]
              refine wpAnyH_done (by kernel_rfl) ?_ _
              have hbe := SpX.bb HB5.out.1 hHeld.1
              have hk7 := HD.out.2.1 rfl
              obtain ⟨-, -, rd7, -, -⟩ := HR9.out
              have hkk : rj < kn := by have := (List.getElem?_eq_some_iff.1 hk7).1; rw [HL.out.2.2.2.2.1] at this; exact this
              obtain ⟨pc, rfl, k7⟩ := rd7.get rj (.string key) (by simp [keysV, hk7])
              have k7' := below_c k7 hbe
              have k0' := hHeld.2.1
              have hself : (key.toList != key.toList) = false := by simp
              have hrkn : ((rj : Nat) : Int) < (kn : Int) := by omega
              have HBE := Lib.hid hbe
              clear hk7 rd7 k7 hkk hbe hHeld
              go_wp2_with fail
              go_quiet (fail)
              go_wp2_with fail
              exact ⟨⟨j + 1, by omega, by go_num, by rw [HD.out.1]; simp, below_drawn_' HBE.out _⟩, by simp [intOf]; omega⟩
          · obtain ⟨j', hj'⟩ : ∃ j', j = j' + 1 := ⟨j - 1, by omega⟩
            have hjz : decide (0 < j) = true := decide_eq_true (by omega)
            have hjm' : ((j' : Nat) : Int) < (kn : Int) + (rn : Int) := by omega
            have hjs : ((j : Nat) : Int) - 1 = (j' : Int) := by omega
            have hwj : IntKind.i64.wrap (j' : Int) = (j' : Int) := Go.IntWalk.i64_in _ (by omega)
            obtain ⟨kp, hkp, hlp⟩ := HD.out.2.2.2.out j' hj'
            have hkp5 := below_c hkp b95
            have hbl : Op.bytesLess kp.toList key.toList = true := hlp
            have HB5 := Lib.hid (And.intro b95 (And.intro hj0 (And.intro hj' hkp)))
            clear b95 hj0 hj' hkp hlp
            cases b with
            | false =>
              refine wp_region_held_drew (S := fun w' => SK W5 (pa.add (j * 8)) key x0 bx y w' ∧ w'.cell? (pa.add (j' * 8)) = some (.string kp)) (by kernel_rfl) (⟨sk_below hSK ((Below.refl _ _).drew), below_c hkp5 ((Below.refl _ _).drew)⟩) (fun hHeld => ?_)
              refine wpAnyH_take (i := 0) (v := ?_) rfl (by kernel_rfl) (by kernel_rfl) (by kernel_rfl) (fun _ _ _ h => h) (Or.inl ⟨by rfl, ?_⟩) (by assumption) ?_
              rotate_left
              · intro wz hSw
                (try dsimp only at hSw)
                first
                  | (go_simp; done)
                  | (go_simp; with_reducible rfl)
              try simp only [Act.put, List.getElem_toArray, List.getElem_cons_zero, List.getElem_cons_succ, List.setIfInBounds_toArray, List.set_cons_zero, List.set_cons_succ]
              refine wpAnyH_take (i := 1) (v := ?_) rfl (by kernel_rfl) (by kernel_rfl) (by kernel_rfl) (fun _ _ _ h => h) (Or.inl ⟨by rfl, ?_⟩) (by assumption) ?_
              rotate_left
              · intro wz hSw
                (try dsimp only at hSw)
                first
                  | (go_simp; done)
                  | (go_simp; with_reducible rfl)
              try simp only [Act.put, List.getElem_toArray, List.getElem_cons_zero, List.getElem_cons_succ, List.setIfInBounds_toArray, List.set_cons_zero, List.set_cons_succ]
              refine wpAnyH_take (i := 2) (v := ?_) rfl (by kernel_rfl) (by kernel_rfl) (by kernel_rfl) (fun _ _ _ h => h) (Or.inl ⟨by rfl, ?_⟩) (by assumption) ?_
              rotate_left
              · intro wz hSw
                (try dsimp only at hSw)
                first
                  | (go_simp; done)
                  | (go_simp; with_reducible rfl)
              try simp only [Act.put, List.getElem_toArray, List.getElem_cons_zero, List.getElem_cons_succ, List.setIfInBounds_toArray, List.set_cons_zero, List.set_cons_succ]
              refine wpAnyH_take (i := 3) (v := ?_) rfl (by kernel_rfl) (by kernel_rfl) (by kernel_rfl) (fun _ _ _ h => h) (Or.inl ⟨by rfl, ?_⟩) (by assumption) ?_
              rotate_left
              · intro wz hSw
                (try dsimp only at hSw)
                first
                  | (go_simp; done)
                  | (go_simp; with_reducible rfl)
              try simp only [Act.put, List.getElem_toArray, List.getElem_cons_zero, List.getElem_cons_succ, List.setIfInBounds_toArray, List.set_cons_zero, List.set_cons_succ]
              refine wpAnyH_take (i := 4) (v := ?_) rfl (by kernel_rfl) (by kernel_rfl) (by kernel_rfl) (fun _ _ _ h => h) (Or.inl ⟨by rfl, ?_⟩) (by assumption) ?_
              rotate_left
              · intro wz hSw
                (try dsimp only at hSw)
                first
                  | (go_simp; done)
                  | (go_simp; with_reducible rfl)
              try simp only [Act.put, List.getElem_toArray, List.getElem_cons_zero, List.getElem_cons_succ, List.setIfInBounds_toArray, List.set_cons_zero, List.set_cons_succ]
              refine wpAnyH_take (i := 5) (v := ?_) rfl (by kernel_rfl) (by kernel_rfl) (by kernel_rfl) (fun _ _ _ h => h) (Or.inl ⟨by rfl, ?_⟩) (by assumption) ?_
              rotate_left
              · intro wz hSw
                (try dsimp only at hSw)
                first
                  | (go_simp; done)
                  | (go_simp; with_reducible rfl)
              try simp only [Act.put, List.getElem_toArray, List.getElem_cons_zero, List.getElem_cons_succ, List.setIfInBounds_toArray, List.set_cons_zero, List.set_cons_succ]
              refine wpAnyH_take (i := 6) (v := ?_) rfl (by kernel_rfl) (by kernel_rfl) (by kernel_rfl) (fun _ _ _ h => h) (Or.inl ⟨by rfl, ?_⟩) (by assumption) ?_
              rotate_left
              · intro wz hSw
                (try dsimp only at hSw)
                first
                  | (go_simp; done)
                  | (go_simp; with_reducible rfl)
              try simp only [Act.put, List.getElem_toArray, List.getElem_cons_zero, List.getElem_cons_succ, List.setIfInBounds_toArray, List.set_cons_zero, List.set_cons_succ]
              refine wpAnyH_take (i := 7) (v := ?_) rfl (by kernel_rfl) (by kernel_rfl) (by kernel_rfl) (fun _ _ _ h => h) (Or.inl ⟨by rfl, ?_⟩) (by assumption) ?_
              rotate_left
              · intro wz hSw
                (try dsimp only at hSw)
                first
                  | (go_simp; done)
                  | (go_simp; with_reducible rfl)
              try simp only [Act.put, List.getElem_toArray, List.getElem_cons_zero, List.getElem_cons_succ, List.setIfInBounds_toArray, List.set_cons_zero, List.set_cons_succ]
              refine wpAnyH_ready (rs := [8]) (by kernel_rfl) (by simp) ?_
              refine AllReadyH.cons rfl (fun K8 hK8 => ?_) AllReadyH.nil
              go_simp
              refine (over_su (S5.below hHeld.1.1) key now (r := true) HOS.out.1 HOS.out.2).mono ?_
              rintro e wv ⟨rfl, ew⟩
              subst ew
              refine hK8.out _ _ (hHeld) (fun hHeld => ?_)
              clear hK8 K8
              try simp only [Act.put, List.getElem_toArray, List.getElem_cons_zero, List.getElem_cons_succ, List.setIfInBounds_toArray, List.set_cons_zero, List.set_cons_succ]
              refine wpAnyH_take (i := 9) (v := ?_) rfl (by kernel_rfl) (by kernel_rfl) (by kernel_rfl) (fun _ _ _ h => h) (Or.inl ⟨by rfl, ?_⟩) (by assumption) ?_
              rotate_left
              · intro wz hSw
                (try dsimp only at hSw)
                first
                  | (go_simp; done)
                  | (go_simp; with_reducible rfl)
              try simp only [Act.put, List.getElem_toArray, List.getElem_cons_zero, List.getElem_cons_succ, List.setIfInBounds_toArray, List.set_cons_zero, List.set_cons_succ]
              refine wpAnyH_take (i := 10) (v := ?_) rfl (by kernel_rfl) (by kernel_rfl) (by kernel_rfl) (fun _ _ _ h => h) (Or.inl ⟨by rfl, ?_⟩) (by assumption) ?_
              rotate_left
              · intro wz hSw
                (try dsimp only at hSw)
                first
                  | (go_simp; done)
                  | (go_simp; with_reducible rfl)
              try simp only [Act.put, List.getElem_toArray, List.getElem_cons_zero, List.getElem_cons_succ, List.setIfInBounds_toArray, List.set_cons_zero, List.set_cons_succ]
              refine wpAnyH_take (i := 11) (v := ?_) rfl (by kernel_rfl) (by kernel_rfl) (by kernel_rfl) (fun _ _ _ h => h) (Or.inl ⟨by rfl, ?_⟩) (by assumption) ?_
              rotate_left
              · intro wz hSw
                (try dsimp only at hSw)
                first
                  | (go_simp; done)
                  | (go_simp; with_reducible rfl)
              try simp only [Act.put, List.getElem_toArray, List.getElem_cons_zero, List.getElem_cons_succ, List.setIfInBounds_toArray, List.set_cons_zero, List.set_cons_succ]
              refine wpAnyH_take (i := 12) (v := ?_) rfl (by kernel_rfl) (by kernel_rfl) (by kernel_rfl) (fun _ _ _ h => h) (Or.inl ⟨by rfl, ?_⟩) (by assumption) ?_
              rotate_left
              · intro wz hSw
                (try dsimp only at hSw)
                first
                  | (go_simp; done)
                  | (go_simp; with_reducible rfl)
              try simp only [Act.put, List.getElem_toArray, List.getElem_cons_zero, List.getElem_cons_succ, List.setIfInBounds_toArray, List.set_cons_zero, List.set_cons_succ]
              refine wpAnyH_take (i := 13) (v := ?_) rfl (by kernel_rfl) (by kernel_rfl) (by kernel_rfl) (fun _ _ _ h => h) (Or.inl ⟨by rfl, ?_⟩) (by assumption) ?_
              rotate_left
              · intro wz hSw
                (try dsimp only at hSw)
                first
                  | (go_simp; done)
                  | (go_simp; with_reducible rfl)
              try simp only [Act.put, List.getElem_toArray, List.getElem_cons_zero, List.getElem_cons_succ, List.setIfInBounds_toArray, List.set_cons_zero, List.set_cons_succ]
              refine wpAnyH_take (i := 14) (v := ?_) rfl (by kernel_rfl) (by kernel_rfl) (by kernel_rfl) (fun _ _ _ h => h) (Or.inl ⟨by rfl, ?_⟩) (by assumption) ?_
              rotate_left
              · intro wz hSw
                (try dsimp only at hSw)
                first
                  | (go_simp; done)
                  | (go_simp; with_reducible rfl)
              try simp only [Act.put, List.getElem_toArray, List.getElem_cons_zero, List.getElem_cons_succ, List.setIfInBounds_toArray, List.set_cons_zero, List.set_cons_succ]
              refine wpAnyH_take (i := 15) (v := ?_) rfl (by kernel_rfl) (by kernel_rfl) (by kernel_rfl) (fun _ _ _ h => h) (Or.inl ⟨by rfl, ?_⟩) (by assumption) ?_
              rotate_left
              · intro wz hSw
                (try dsimp only at hSw)
                first
                  | (go_simp; done)
                  | (go_simp; with_reducible rfl)
              try simp only [Act.put, List.getElem_toArray, List.getElem_cons_zero, List.getElem_cons_succ, List.setIfInBounds_toArray, List.set_cons_zero, List.set_cons_succ]
              refine wpAnyH_take (i := 16) (v := ?_) rfl (by kernel_rfl) (by kernel_rfl) (by kernel_rfl) (fun _ _ _ h => h) (Or.inl ⟨by rfl, ?_⟩) (by assumption) ?_
              rotate_left
              · intro wz hSw
                (try dsimp only at hSw)
                first
                  | (go_simp; done)
                  | (go_simp; with_reducible rfl)
              try simp only [Act.put, List.getElem_toArray, List.getElem_cons_zero, List.getElem_cons_succ, List.setIfInBounds_toArray, List.set_cons_zero, List.set_cons_succ]
              refine wpAnyH_take (i := 17) (v := ?_) rfl (by kernel_rfl) (by kernel_rfl) (by kernel_rfl) (fun _ _ _ h => h) (Or.inl ⟨by rfl, ?_⟩) (by assumption) ?_
              rotate_left
              · intro wz hSw
                (try dsimp only at hSw)
                first
                  | (go_simp; done)
                  | (go_simp; with_reducible rfl)
              try simp only [Act.put, List.getElem_toArray, List.getElem_cons_zero, List.getElem_cons_succ, List.setIfInBounds_toArray, List.set_cons_zero, List.set_cons_succ]
              refine wpAnyH_take (i := 18) (v := ?_) rfl (by kernel_rfl) (by kernel_rfl) (by kernel_rfl) (fun _ _ _ h => h) (Or.inl ⟨by rfl, ?_⟩) (by assumption) ?_
              rotate_left
              · intro wz hSw
                (try dsimp only at hSw)
                first
                  | (go_simp; done)
                  | (go_simp; with_reducible rfl)
              try simp only [Act.put, List.getElem_toArray, List.getElem_cons_zero, List.getElem_cons_succ, List.setIfInBounds_toArray, List.set_cons_zero, List.set_cons_succ]
              refine wpAnyH_take (i := 19) (v := ?_) rfl (by kernel_rfl) (by kernel_rfl) (by kernel_rfl) (fun _ _ _ h => h) (Or.inl ⟨by rfl, ?_⟩) (by assumption) ?_
              rotate_left
              · intro wz hSw
                (try dsimp only at hSw)
                first
                  | (go_simp; done)
                  | (go_simp; with_reducible rfl)
              try simp only [Act.put, List.getElem_toArray, List.getElem_cons_zero, List.getElem_cons_succ, List.setIfInBounds_toArray, List.set_cons_zero, List.set_cons_succ]
              refine wpAnyH_take (i := 20) (v := ?_) rfl (by kernel_rfl) (by kernel_rfl) (by kernel_rfl) (fun _ _ _ h => h) (Or.inl ⟨by rfl, ?_⟩) (by assumption) ?_
              rotate_left
              · intro wz hSw
                (try dsimp only at hSw)
                first
                  | (go_simp; done)
                  | (go_simp; with_reducible rfl)
              try simp only [Act.put, List.getElem_toArray, List.getElem_cons_zero, List.getElem_cons_succ, List.setIfInBounds_toArray, List.set_cons_zero, List.set_cons_succ]
              refine wpAnyH_take (i := 21) (v := ?_) rfl (by kernel_rfl) (by kernel_rfl) (by kernel_rfl) (fun _ _ _ h => h) (Or.inl ⟨by rfl, ?_⟩) (by assumption) ?_
              rotate_left
              · intro wz hSw
                (try dsimp only at hSw)
                first
                  | (go_simp; done)
                  | (go_simp; with_reducible rfl)
              try simp only [Act.put, List.getElem_toArray, List.getElem_cons_zero, List.getElem_cons_succ, List.setIfInBounds_toArray, List.set_cons_zero, List.set_cons_succ]
              refine wpAnyH_take (i := 22) (v := ?_) rfl (by kernel_rfl) (by kernel_rfl) (by kernel_rfl) (fun _ _ _ h => h) (Or.inl ⟨by rfl, ?_⟩) (by assumption) ?_
              rotate_left
              · intro wz hSw
                (try dsimp only at hSw)
                first
                  | (go_simp; done)
                  | (go_simp; with_reducible rfl)
              try simp only [Act.put, List.getElem_toArray, List.getElem_cons_zero, List.getElem_cons_succ, List.setIfInBounds_toArray, List.set_cons_zero, List.set_cons_succ]
              refine wpAnyH_take (i := 23) (v := ?_) rfl (by kernel_rfl) (by kernel_rfl) (by kernel_rfl) (fun _ _ _ h => h) (Or.inl ⟨by rfl, ?_⟩) (by assumption) ?_
              rotate_left
              · intro wz hSw
                (try dsimp only at hSw)
                first
                  | (go_simp; done)
                  | (go_simp; with_reducible rfl)
              try simp only [Act.put, List.getElem_toArray, List.getElem_cons_zero, List.getElem_cons_succ, List.setIfInBounds_toArray, List.set_cons_zero, List.set_cons_succ]
              refine wpAnyH_take (i := 24) (v := ?_) rfl (by kernel_rfl) (by kernel_rfl) (by kernel_rfl) (fun _ _ _ h => h) (Or.inl ⟨by rfl, ?_⟩) (by assumption) ?_
              rotate_left
              · intro wz hSw
                (try dsimp only at hSw)
                first
                  | (go_simp; done)
                  | (go_simp; with_reducible rfl)
              try simp only [Act.put, List.getElem_toArray, List.getElem_cons_zero, List.getElem_cons_succ, List.setIfInBounds_toArray, List.set_cons_zero, List.set_cons_succ]
              refine wpAnyH_take (i := 25) (v := ?_) rfl (by kernel_rfl) (by kernel_rfl) (by kernel_rfl) (fun _ _ _ h => h) (Or.inl ⟨by rfl, ?_⟩) (by assumption) ?_
              rotate_left
              · intro wz hSw
                (try dsimp only at hSw)
                first
                  | (go_simp; done)
                  | (go_simp; with_reducible rfl)
              try simp only [Act.put, List.getElem_toArray, List.getElem_cons_zero, List.getElem_cons_succ, List.setIfInBounds_toArray, List.set_cons_zero, List.set_cons_succ]
              refine wpAnyH_take (i := 26) (v := ?_) rfl (by kernel_rfl) (by kernel_rfl) (by kernel_rfl) (fun _ _ _ h => h) (Or.inl ⟨by rfl, ?_⟩) (by assumption) ?_
              rotate_left
              · intro wz hSw
                (try dsimp only at hSw)
                first
                  | (go_simp; done)
                  | (go_simp; with_reducible rfl)
              try simp only [Act.put, List.getElem_toArray, List.getElem_cons_zero, List.getElem_cons_succ, List.setIfInBounds_toArray, List.set_cons_zero, List.set_cons_succ]
              refine wpAnyH_take (i := 27) (v := ?_) rfl (by kernel_rfl) (by kernel_rfl) (by kernel_rfl) (fun _ _ _ h => h) (Or.inl ⟨by rfl, ?_⟩) (by assumption) ?_
              rotate_left
              · intro wz hSw
                (try dsimp only at hSw)
                first
                  | (go_simp; done)
                  | (go_simp; with_reducible rfl)
              try simp only [Act.put, List.getElem_toArray, List.getElem_cons_zero, List.getElem_cons_succ, List.setIfInBounds_toArray, List.set_cons_zero, List.set_cons_succ]
              refine wpAnyH_take (i := 28) (v := ?_) rfl (by kernel_rfl) (by kernel_rfl) (by kernel_rfl) (fun _ _ _ h => h) (Or.inl ⟨by rfl, ?_⟩) (by assumption) ?_
              rotate_left
              · intro wz hSw
                (try dsimp only at hSw)
                first
                  | (go_simp; done)
                  | (go_simp; with_reducible rfl)
              try simp only [Act.put, List.getElem_toArray, List.getElem_cons_zero, List.getElem_cons_succ, List.setIfInBounds_toArray, List.set_cons_zero, List.set_cons_succ]
              refine wpAnyH_take (i := 29) (v := ?_) rfl (by kernel_rfl) (by kernel_rfl) (by kernel_rfl) (fun _ _ _ h => h) (Or.inl ⟨by rfl, ?_⟩) (by assumption) ?_
              rotate_left
              · intro wz hSw
                (try dsimp only at hSw)
                first
                  | (go_simp; done)
                  | (go_simp; with_reducible rfl)
              try simp only [Act.put, List.getElem_toArray, List.getElem_cons_zero, List.getElem_cons_succ, List.setIfInBounds_toArray, List.set_cons_zero, List.set_cons_succ]
              refine wpAnyH_take (i := 30) (v := ?_) rfl (by kernel_rfl) (by kernel_rfl) (by kernel_rfl) (fun _ _ _ h => h) (Or.inl ⟨by rfl, ?_⟩) (by assumption) ?_
              rotate_left
              · intro wz hSw
                (try dsimp only at hSw)
                first
                  | (go_simp; done)
                  | (go_simp; with_reducible rfl)
              try simp only [Act.put, List.getElem_toArray, List.getElem_cons_zero, List.getElem_cons_succ, List.setIfInBounds_toArray, List.set_cons_zero, List.set_cons_succ]
              refine wpAnyH_take (i := 31) (v := undef) rfl (by kernel_rfl) (by kernel_rfl) (by kernel_rfl) (fun _ _ _ h => h) (Or.inr ⟨by rfl, rfl⟩) (by assumption) ?_
              try simp only [Act.put, List.getElem_toArray, List.getElem_cons_zero, List.getElem_cons_succ, List.setIfInBounds_toArray, List.set_cons_zero, List.set_cons_succ]
              refine wpAnyH_take (i := 32) (v := undef) rfl (by kernel_rfl) (by kernel_rfl) (by kernel_rfl) (fun _ _ _ h => h) (Or.inr ⟨by rfl, rfl⟩) (by assumption) ?_
              try simp only [Act.put, List.getElem_toArray, List.getElem_cons_zero, List.getElem_cons_succ, List.setIfInBounds_toArray, List.set_cons_zero, List.set_cons_succ]
              refine wpAnyH_take (i := 33) (v := undef) rfl (by kernel_rfl) (by kernel_rfl) (by kernel_rfl) (fun _ _ _ h => h) (Or.inr ⟨by rfl, rfl⟩) (by assumption) ?_
              try simp only [Act.put, List.getElem_toArray, List.getElem_cons_zero, List.getElem_cons_succ, List.setIfInBounds_toArray, List.set_cons_zero, List.set_cons_succ]
              refine wpAnyH_take (i := 34) (v := undef) rfl (by kernel_rfl) (by kernel_rfl) (by kernel_rfl) (fun _ _ _ h => h) (Or.inr ⟨by rfl, rfl⟩) (by assumption) ?_
              try simp only [Act.put, List.getElem_toArray, List.getElem_cons_zero, List.getElem_cons_succ, List.setIfInBounds_toArray, List.set_cons_zero, List.set_cons_succ]
              refine wpAnyH_take (i := 35) (v := undef) rfl (by kernel_rfl) (by kernel_rfl) (by kernel_rfl) (fun _ _ _ h => h) (Or.inr ⟨by rfl, rfl⟩) (by assumption) ?_
              try simp only [Act.put, List.getElem_toArray, List.getElem_cons_zero, List.getElem_cons_succ, List.setIfInBounds_toArray, List.set_cons_zero, List.set_cons_succ]
              refine wpAnyH_take (i := 36) (v := undef) rfl (by kernel_rfl) (by kernel_rfl) (by kernel_rfl) (fun _ _ _ h => h) (Or.inr ⟨by rfl, rfl⟩) (by assumption) ?_
              try simp only [Act.put, List.getElem_toArray, List.getElem_cons_zero, List.getElem_cons_succ, List.setIfInBounds_toArray, List.set_cons_zero, List.set_cons_succ]
              refine wpAnyH_take (i := 37) (v := undef) rfl (by kernel_rfl) (by kernel_rfl) (by kernel_rfl) (fun _ _ _ h => h) (Or.inr ⟨by rfl, rfl⟩) (by assumption) ?_
              try simp only [Act.put, List.getElem_toArray, List.getElem_cons_zero, List.getElem_cons_succ, List.setIfInBounds_toArray, List.set_cons_zero, List.set_cons_succ]
              refine wpAnyH_take (i := 38) (v := undef) rfl (by kernel_rfl) (by kernel_rfl) (by kernel_rfl) (fun _ _ _ h => h) (Or.inr ⟨by rfl, rfl⟩) (by assumption) ?_
              try simp only [Act.put, List.getElem_toArray, List.getElem_cons_zero, List.getElem_cons_succ, List.setIfInBounds_toArray, List.set_cons_zero, List.set_cons_succ]
              refine wpAnyH_take (i := 39) (v := ?_) rfl (by kernel_rfl) (by kernel_rfl) (by kernel_rfl) (fun _ _ _ h => h) (Or.inl ⟨by rfl, ?_⟩) (by assumption) ?_
              rotate_left
              · intro wz hSw
                (try dsimp only at hSw)
                first
                  | (go_simp; done)
                  | (go_simp; with_reducible rfl)
              try simp only [Act.put, List.getElem_toArray, List.getElem_cons_zero, List.getElem_cons_succ, List.setIfInBounds_toArray, List.set_cons_zero, List.set_cons_succ]
              refine wpAnyH_take (i := 40) (v := ?_) rfl (by kernel_rfl) (by kernel_rfl) (by kernel_rfl) (fun _ _ _ h => h) (Or.inl ⟨by rfl, ?_⟩) (by assumption) ?_
              rotate_left
              · intro wz hSw
                (try dsimp only at hSw)
                first
                  | (go_simp; done)
                  | (go_simp; with_reducible rfl)
              try simp only [Act.put, List.getElem_toArray, List.getElem_cons_zero, List.getElem_cons_succ, List.setIfInBounds_toArray, List.set_cons_zero, List.set_cons_succ]
              refine wpAnyH_done (by kernel_rfl) ?_ _
              have hbe := SpX.bb HB5.out.1 hHeld.1.1
              have HBE := Lib.hid hbe
              clear hbe hHeld
              go_wp2_with fail
              exact ⟨⟨j + 1, by omega, by go_num, by rw [HD.out.1]; simp, HBE.out⟩, by simp [intOf]; omega⟩
            | true =>
              refine wp_region_held_drew (S := fun w' => SK W5 (pa.add (j * 8)) key x0 bx y w' ∧ w'.cell? (pa.add (j' * 8)) = some (.string kp)) (by kernel_rfl) (⟨sk_below hSK ((Below.refl _ _).drew), below_c hkp5 ((Below.refl _ _).drew)⟩) (fun hHeld => ?_)
              refine wpAnyH_take (i := 0) (v := ?_) rfl (by kernel_rfl) (by kernel_rfl) (by kernel_rfl) (fun _ _ _ h => h) (Or.inl ⟨by rfl, ?_⟩) (by assumption) ?_
              rotate_left
              · intro wz hSw
                (try dsimp only at hSw)
                first
                  | (go_simp; done)
                  | (go_simp; with_reducible rfl)
              try simp only [Act.put, List.getElem_toArray, List.getElem_cons_zero, List.getElem_cons_succ, List.setIfInBounds_toArray, List.set_cons_zero, List.set_cons_succ]
              refine wpAnyH_take (i := 1) (v := ?_) rfl (by kernel_rfl) (by kernel_rfl) (by kernel_rfl) (fun _ _ _ h => h) (Or.inl ⟨by rfl, ?_⟩) (by assumption) ?_
              rotate_left
              · intro wz hSw
                (try dsimp only at hSw)
                first
                  | (go_simp; done)
                  | (go_simp; with_reducible rfl)
              try simp only [Act.put, List.getElem_toArray, List.getElem_cons_zero, List.getElem_cons_succ, List.setIfInBounds_toArray, List.set_cons_zero, List.set_cons_succ]
              refine wpAnyH_take (i := 2) (v := ?_) rfl (by kernel_rfl) (by kernel_rfl) (by kernel_rfl) (fun _ _ _ h => h) (Or.inl ⟨by rfl, ?_⟩) (by assumption) ?_
              rotate_left
              · intro wz hSw
                (try dsimp only at hSw)
                first
                  | (go_simp; done)
                  | (go_simp; with_reducible rfl)
              try simp only [Act.put, List.getElem_toArray, List.getElem_cons_zero, List.getElem_cons_succ, List.setIfInBounds_toArray, List.set_cons_zero, List.set_cons_succ]
              refine wpAnyH_take (i := 3) (v := ?_) rfl (by kernel_rfl) (by kernel_rfl) (by kernel_rfl) (fun _ _ _ h => h) (Or.inl ⟨by rfl, ?_⟩) (by assumption) ?_
              rotate_left
              · intro wz hSw
                (try dsimp only at hSw)
                first
                  | (go_simp; done)
                  | (go_simp; with_reducible rfl)
              try simp only [Act.put, List.getElem_toArray, List.getElem_cons_zero, List.getElem_cons_succ, List.setIfInBounds_toArray, List.set_cons_zero, List.set_cons_succ]
              refine wpAnyH_take (i := 4) (v := ?_) rfl (by kernel_rfl) (by kernel_rfl) (by kernel_rfl) (fun _ _ _ h => h) (Or.inl ⟨by rfl, ?_⟩) (by assumption) ?_
              rotate_left
              · intro wz hSw
                (try dsimp only at hSw)
                first
                  | (go_simp; done)
                  | (go_simp; with_reducible rfl)
              try simp only [Act.put, List.getElem_toArray, List.getElem_cons_zero, List.getElem_cons_succ, List.setIfInBounds_toArray, List.set_cons_zero, List.set_cons_succ]
              refine wpAnyH_take (i := 5) (v := ?_) rfl (by kernel_rfl) (by kernel_rfl) (by kernel_rfl) (fun _ _ _ h => h) (Or.inl ⟨by rfl, ?_⟩) (by assumption) ?_
              rotate_left
              · intro wz hSw
                (try dsimp only at hSw)
                first
                  | (go_simp; done)
                  | (go_simp; with_reducible rfl)
              try simp only [Act.put, List.getElem_toArray, List.getElem_cons_zero, List.getElem_cons_succ, List.setIfInBounds_toArray, List.set_cons_zero, List.set_cons_succ]
              refine wpAnyH_take (i := 6) (v := ?_) rfl (by kernel_rfl) (by kernel_rfl) (by kernel_rfl) (fun _ _ _ h => h) (Or.inl ⟨by rfl, ?_⟩) (by assumption) ?_
              rotate_left
              · intro wz hSw
                (try dsimp only at hSw)
                first
                  | (go_simp; done)
                  | (go_simp; with_reducible rfl)
              try simp only [Act.put, List.getElem_toArray, List.getElem_cons_zero, List.getElem_cons_succ, List.setIfInBounds_toArray, List.set_cons_zero, List.set_cons_succ]
              refine wpAnyH_take (i := 7) (v := ?_) rfl (by kernel_rfl) (by kernel_rfl) (by kernel_rfl) (fun _ _ _ h => h) (Or.inl ⟨by rfl, ?_⟩) (by assumption) ?_
              rotate_left
              · intro wz hSw
                (try dsimp only at hSw)
                first
                  | (go_simp; done)
                  | (go_simp; with_reducible rfl)
              try simp only [Act.put, List.getElem_toArray, List.getElem_cons_zero, List.getElem_cons_succ, List.setIfInBounds_toArray, List.set_cons_zero, List.set_cons_succ]
              refine wpAnyH_ready (rs := [8]) (by kernel_rfl) (by simp) ?_
              refine AllReadyH.cons rfl (fun K8 hK8 => ?_) AllReadyH.nil
              go_simp
              refine (over_su (S5.below hHeld.1.1) key now (r := false) HOS.out.1 HOS.out.2).mono ?_
              rintro e wv ⟨rfl, ew⟩
              subst ew
              refine hK8.out _ _ (hHeld) (fun hHeld => ?_)
              clear hK8 K8
              try simp only [Act.put, List.getElem_toArray, List.getElem_cons_zero, List.getElem_cons_succ, List.setIfInBounds_toArray, List.set_cons_zero, List.set_cons_succ]
              refine wpAnyH_take (i := 9) (v := ?_) rfl (by kernel_rfl) (by kernel_rfl) (by kernel_rfl) (fun _ _ _ h => h) (Or.inl ⟨by rfl, ?_⟩) (by assumption) ?_
              rotate_left
              · intro wz hSw
                (try dsimp only at hSw)
                first
                  | (go_simp; done)
                  | (go_simp; with_reducible rfl)
              try simp only [Act.put, List.getElem_toArray, List.getElem_cons_zero, List.getElem_cons_succ, List.setIfInBounds_toArray, List.set_cons_zero, List.set_cons_succ]
              refine wpAnyH_take (i := 10) (v := ?_) rfl (by kernel_rfl) (by kernel_rfl) (by kernel_rfl) (fun _ _ _ h => h) (Or.inl ⟨by rfl, ?_⟩) (by assumption) ?_
              rotate_left
              · intro wz hSw
                (try dsimp only at hSw)
                first
                  | (go_simp; done)
                  | (go_simp; with_reducible rfl)
              try simp only [Act.put, List.getElem_toArray, List.getElem_cons_zero, List.getElem_cons_succ, List.setIfInBounds_toArray, List.set_cons_zero, List.set_cons_succ]
              refine wpAnyH_take (i := 11) (v := ?_) rfl (by kernel_rfl) (by kernel_rfl) (by kernel_rfl) (fun _ _ _ h => h) (Or.inl ⟨by rfl, ?_⟩) (by assumption) ?_
              rotate_left
              · intro wz hSw
                (try dsimp only at hSw)
                first
                  | (go_simp; done)
                  | (go_simp; with_reducible rfl)
              try simp only [Act.put, List.getElem_toArray, List.getElem_cons_zero, List.getElem_cons_succ, List.setIfInBounds_toArray, List.set_cons_zero, List.set_cons_succ]
              refine wpAnyH_take (i := 12) (v := ?_) rfl (by kernel_rfl) (by kernel_rfl) (by kernel_rfl) (fun _ _ _ h => h) (Or.inl ⟨by rfl, ?_⟩) (by assumption) ?_
              rotate_left
              · intro wz hSw
                (try dsimp only at hSw)
                first
                  | (go_simp; done)
                  | (go_simp; with_reducible rfl)
              try simp only [Act.put, List.getElem_toArray, List.getElem_cons_zero, List.getElem_cons_succ, List.setIfInBounds_toArray, List.set_cons_zero, List.set_cons_succ]
              refine wpAnyH_take (i := 13) (v := ?_) rfl (by kernel_rfl) (by kernel_rfl) (by kernel_rfl) (fun _ _ _ h => h) (Or.inl ⟨by rfl, ?_⟩) (by assumption) ?_
              rotate_left
              · intro wz hSw
                (try dsimp only at hSw)
                first
                  | (go_simp; done)
                  | (go_simp; with_reducible rfl)
              try simp only [Act.put, List.getElem_toArray, List.getElem_cons_zero, List.getElem_cons_succ, List.setIfInBounds_toArray, List.set_cons_zero, List.set_cons_succ]
              refine wpAnyH_take (i := 14) (v := ?_) rfl (by kernel_rfl) (by kernel_rfl) (by kernel_rfl) (fun _ _ _ h => h) (Or.inl ⟨by rfl, ?_⟩) (by assumption) ?_
              rotate_left
              · intro wz hSw
                (try dsimp only at hSw)
                first
                  | (go_simp; done)
                  | (go_simp; with_reducible rfl)
              try simp only [Act.put, List.getElem_toArray, List.getElem_cons_zero, List.getElem_cons_succ, List.setIfInBounds_toArray, List.set_cons_zero, List.set_cons_succ]
              refine wpAnyH_take (i := 15) (v := ?_) rfl (by kernel_rfl) (by kernel_rfl) (by kernel_rfl) (fun _ _ _ h => h) (Or.inl ⟨by rfl, ?_⟩) (by assumption) ?_
              rotate_left
              · intro wz hSw
                (try dsimp only at hSw)
                first
                  | (go_simp; done)
                  | (go_simp; with_reducible rfl)
              try simp only [Act.put, List.getElem_toArray, List.getElem_cons_zero, List.getElem_cons_succ, List.setIfInBounds_toArray, List.set_cons_zero, List.set_cons_succ]
              refine wpAnyH_take (i := 16) (v := ?_) rfl (by kernel_rfl) (by kernel_rfl) (by kernel_rfl) (fun _ _ _ h => h) (Or.inl ⟨by rfl, ?_⟩) (by assumption) ?_
              rotate_left
              · intro wz hSw
                (try dsimp only at hSw)
                first
                  | (go_simp; done)
                  | (go_simp; with_reducible rfl)
              try simp only [Act.put, List.getElem_toArray, List.getElem_cons_zero, List.getElem_cons_succ, List.setIfInBounds_toArray, List.set_cons_zero, List.set_cons_succ]
              refine wpAnyH_take (i := 17) (v := ?_) rfl (by kernel_rfl) (by kernel_rfl) (by kernel_rfl) (fun _ _ _ h => h) (Or.inl ⟨by rfl, ?_⟩) (by assumption) ?_
              rotate_left
              · intro wz hSw
                (try dsimp only at hSw)
                first
                  | (go_simp; done)
                  | (go_simp; with_reducible rfl)
              try simp only [Act.put, List.getElem_toArray, List.getElem_cons_zero, List.getElem_cons_succ, List.setIfInBounds_toArray, List.set_cons_zero, List.set_cons_succ]
              refine wpAnyH_take (i := 18) (v := ?_) rfl (by kernel_rfl) (by kernel_rfl) (by kernel_rfl) (fun _ _ _ h => h) (Or.inl ⟨by rfl, ?_⟩) (by assumption) ?_
              rotate_left
              · intro wz hSw
                (try dsimp only at hSw)
                first
                  | (go_simp; done)
                  | (go_simp; with_reducible rfl)
              try simp only [Act.put, List.getElem_toArray, List.getElem_cons_zero, List.getElem_cons_succ, List.setIfInBounds_toArray, List.set_cons_zero, List.set_cons_succ]
              refine wpAnyH_take (i := 19) (v := ?_) rfl (by kernel_rfl) (by kernel_rfl) (by kernel_rfl) (fun _ _ _ h => h) (Or.inl ⟨by rfl, ?_⟩) (by assumption) ?_
              rotate_left
              · intro wz hSw
                (try dsimp only at hSw)
                first
                  | (go_simp; done)
                  | (go_simp; with_reducible rfl)
              try simp only [Act.put, List.getElem_toArray, List.getElem_cons_zero, List.getElem_cons_succ, List.setIfInBounds_toArray, List.set_cons_zero, List.set_cons_succ]
              refine wpAnyH_take (i := 20) (v := ?_) rfl (by kernel_rfl) (by kernel_rfl) (by kernel_rfl) (fun _ _ _ h => h) (Or.inl ⟨by rfl, ?_⟩) (by assumption) ?_
              rotate_left
              · intro wz hSw
                (try dsimp only at hSw)
                first
                  | (go_simp; done)
                  | (go_simp; with_reducible rfl)
              try simp only [Act.put, List.getElem_toArray, List.getElem_cons_zero, List.getElem_cons_succ, List.setIfInBounds_toArray, List.set_cons_zero, List.set_cons_succ]
              refine wpAnyH_take (i := 21) (v := ?_) rfl (by kernel_rfl) (by kernel_rfl) (by kernel_rfl) (fun _ _ _ h => h) (Or.inl ⟨by rfl, ?_⟩) (by assumption) ?_
              rotate_left
              · intro wz hSw
                (try dsimp only at hSw)
                first
                  | (go_simp; done)
                  | (go_simp; with_reducible rfl)
              try simp only [Act.put, List.getElem_toArray, List.getElem_cons_zero, List.getElem_cons_succ, List.setIfInBounds_toArray, List.set_cons_zero, List.set_cons_succ]
              refine wpAnyH_take (i := 22) (v := ?_) rfl (by kernel_rfl) (by kernel_rfl) (by kernel_rfl) (fun _ _ _ h => h) (Or.inl ⟨by rfl, ?_⟩) (by assumption) ?_
              rotate_left
              · intro wz hSw
                (try dsimp only at hSw)
                first
                  | (go_simp; done)
                  | (go_simp; with_reducible rfl)
              try simp only [Act.put, List.getElem_toArray, List.getElem_cons_zero, List.getElem_cons_succ, List.setIfInBounds_toArray, List.set_cons_zero, List.set_cons_succ]
              refine wpAnyH_take (i := 23) (v := ?_) rfl (by kernel_rfl) (by kernel_rfl) (by kernel_rfl) (fun _ _ _ h => h) (Or.inl ⟨by rfl, ?_⟩) (by assumption) ?_
              rotate_left
              · intro wz hSw
                (try dsimp only at hSw)
                first
                  | (go_simp; done)
                  | (go_simp; with_reducible rfl)
              try simp only [Act.put, List.getElem_toArray, List.getElem_cons_zero, List.getElem_cons_succ, List.setIfInBounds_toArray, List.set_cons_zero, List.set_cons_succ]
              refine wpAnyH_take (i := 24) (v := ?_) rfl (by kernel_rfl) (by kernel_rfl) (by kernel_rfl) (fun _ _ _ h => h) (Or.inl ⟨by rfl, ?_⟩) (by assumption) ?_
              rotate_left
              · intro wz hSw
                (try dsimp only at hSw)
                first
                  | (go_simp; done)
                  | (go_simp; with_reducible rfl)
              try simp only [Act.put, List.getElem_toArray, List.getElem_cons_zero, List.getElem_cons_succ, List.setIfInBounds_toArray, List.set_cons_zero, List.set_cons_succ]
              refine wpAnyH_take (i := 25) (v := ?_) rfl (by kernel_rfl) (by kernel_rfl) (by kernel_rfl) (fun _ _ _ h => h) (Or.inl ⟨by rfl, ?_⟩) (by assumption) ?_
              rotate_left
              · intro wz hSw
                (try dsimp only at hSw)
                first
                  | (go_simp; done)
                  | (go_simp; with_reducible rfl)
              try simp only [Act.put, List.getElem_toArray, List.getElem_cons_zero, List.getElem_cons_succ, List.setIfInBounds_toArray, List.set_cons_zero, List.set_cons_succ]
              refine wpAnyH_take (i := 26) (v := ?_) rfl (by kernel_rfl) (by kernel_rfl) (by kernel_rfl) (fun _ _ _ h => h) (Or.inl ⟨by rfl, ?_⟩) (by assumption) ?_
              rotate_left
              · intro wz hSw
                (try dsimp only at hSw)
                first
                  | (go_simp; done)
                  | (go_simp; with_reducible rfl)
              try simp only [Act.put, List.getElem_toArray, List.getElem_cons_zero, List.getElem_cons_succ, List.setIfInBounds_toArray, List.set_cons_zero, List.set_cons_succ]
              refine wpAnyH_take (i := 27) (v := ?_) rfl (by kernel_rfl) (by kernel_rfl) (by kernel_rfl) (fun _ _ _ h => h) (Or.inl ⟨by rfl, ?_⟩) (by assumption) ?_
              rotate_left
              · intro wz hSw
                (try dsimp only at hSw)
                first
                  | (go_simp; done)
                  | (go_simp; with_reducible rfl)
              try simp only [Act.put, List.getElem_toArray, List.getElem_cons_zero, List.getElem_cons_succ, List.setIfInBounds_toArray, List.set_cons_zero, List.set_cons_succ]
              refine wpAnyH_take (i := 28) (v := ?_) rfl (by kernel_rfl) (by kernel_rfl) (by kernel_rfl) (fun _ _ _ h => h) (Or.inl ⟨by rfl, ?_⟩) (by assumption) ?_
              rotate_left
              · intro wz hSw
                (try dsimp only at hSw)
                first
                  | (go_simp; done)
                  | (go_simp; with_reducible rfl)
              try simp only [Act.put, List.getElem_toArray, List.getElem_cons_zero, List.getElem_cons_succ, List.setIfInBounds_toArray, List.set_cons_zero, List.set_cons_succ]
              refine wpAnyH_take (i := 29) (v := ?_) rfl (by kernel_rfl) (by kernel_rfl) (by kernel_rfl) (fun _ _ _ h => h) (Or.inl ⟨by rfl, ?_⟩) (by assumption) ?_
              rotate_left
              · intro wz hSw
                (try dsimp only at hSw)
                first
                  | (go_simp; done)
                  | (go_simp; with_reducible rfl)
              try simp only [Act.put, List.getElem_toArray, List.getElem_cons_zero, List.getElem_cons_succ, List.setIfInBounds_toArray, List.set_cons_zero, List.set_cons_succ]
              refine wpAnyH_take (i := 30) (v := ?_) rfl (by kernel_rfl) (by kernel_rfl) (by kernel_rfl) (fun _ _ _ h => h) (Or.inl ⟨by rfl, ?_⟩) (by assumption) ?_
              rotate_left
              · intro wz hSw
                (try dsimp only at hSw)
                first
                  | (go_simp; done)
                  | (go_simp; with_reducible rfl)
              try simp only [Act.put, List.getElem_toArray, List.getElem_cons_zero, List.getElem_cons_succ, List.setIfInBounds_toArray, List.set_cons_zero, List.set_cons_succ]
              refine wpAnyH_take (i := 31) (v := ?_) rfl (by kernel_rfl) (by kernel_rfl) (by kernel_rfl) (fun _ _ _ h => h) (Or.inl ⟨by rfl, ?_⟩) (by assumption) ?_
              rotate_left
              · intro wz hSw
                (try dsimp only at hSw)
                first
                  | (go_simp; done)
                  | (go_simp; with_reducible rfl)
              try simp only [Act.put, List.getElem_toArray, List.getElem_cons_zero, List.getElem_cons_succ, List.setIfInBounds_toArray, List.set_cons_zero, List.set_cons_succ]
              refine wpAnyH_take (i := 32) (v := ?_) rfl (by kernel_rfl) (by kernel_rfl) (by kernel_rfl) (fun _ _ _ h => h) (Or.inl ⟨by rfl, ?_⟩) (by assumption) ?_
              rotate_left
              · intro wz hSw
                (try dsimp only at hSw)
                first
                  | (go_simp; done)
                  | (go_simp; with_reducible rfl)
              try simp only [Act.put, List.getElem_toArray, List.getElem_cons_zero, List.getElem_cons_succ, List.setIfInBounds_toArray, List.set_cons_zero, List.set_cons_succ]
              refine wpAnyH_take (i := 33) (v := ?_) rfl (by kernel_rfl) (by kernel_rfl) (by kernel_rfl) (fun _ _ _ h => h) (Or.inl ⟨by rfl, ?_⟩) (by assumption) ?_
              rotate_left
              · intro wz hSw
                (try dsimp only at hSw)
                first
                  | (go_simp; done)
                  | (go_simp; with_reducible rfl)
              try simp only [Act.put, List.getElem_toArray, List.getElem_cons_zero, List.getElem_cons_succ, List.setIfInBounds_toArray, List.set_cons_zero, List.set_cons_succ]
              refine wpAnyH_take (i := 34) (v := ?_) rfl (by kernel_rfl) (by kernel_rfl) (by kernel_rfl) (fun _ _ _ h => h) (Or.inl ⟨by rfl, ?_⟩) (by assumption) ?_
              rotate_left
              · intro wz hSw
                (try dsimp only at hSw)
                first
                  | (go_simp; done)
                  | (go_simp; with_reducible rfl)
              try simp only [Act.put, List.getElem_toArray, List.getElem_cons_zero, List.getElem_cons_succ, List.setIfInBounds_toArray, List.set_cons_zero, List.set_cons_succ]
              refine wpAnyH_take (i := 35) (v := ?_) rfl (by kernel_rfl) (by kernel_rfl) (by kernel_rfl) (fun _ _ _ h => h) (Or.inl ⟨by rfl, ?_⟩) (by assumption) ?_
              rotate_left
              · intro wz hSw
                (try dsimp only at hSw)
                first
                  | (go_simp; done)
                  | (go_simp; with_reducible rfl)
              try simp only [Act.put, List.getElem_toArray, List.getElem_cons_zero, List.getElem_cons_succ, List.setIfInBounds_toArray, List.set_cons_zero, List.set_cons_succ]
              refine wpAnyH_take (i := 36) (v := ?_) rfl (by kernel_rfl) (by kernel_rfl) (by kernel_rfl) (fun _ _ _ h => h) (Or.inl ⟨by rfl, ?_⟩) (by assumption) ?_
              rotate_left
              · intro wz hSw
                (try dsimp only at hSw)
                first
                  | (go_simp; done)
                  | (go_simp; with_reducible rfl)
              try simp only [Act.put, List.getElem_toArray, List.getElem_cons_zero, List.getElem_cons_succ, List.setIfInBounds_toArray, List.set_cons_zero, List.set_cons_succ]
              refine wpAnyH_ready (rs := [37]) (by kernel_rfl) (by simp) ?_
              refine AllReadyH.cons rfl (fun K37 hK37 => ?_) AllReadyH.nil
              go_simp
              refine (sameR_calls y x0 _ ((HRX.out.2.below hHeld.1.1).rd) ((HRX.out.1.below hHeld.1.1).rd)).mono ?_
              rintro e wv ⟨rfl, bv⟩
              rw [HVS.out rfl]
              refine hK37.out _ _ (⟨sk_below hHeld.1 bv, below_c hHeld.2 bv⟩) (fun hHeld => ?_)
              clear hK37 K37
              try simp only [Act.put, List.getElem_toArray, List.getElem_cons_zero, List.getElem_cons_succ, List.setIfInBounds_toArray, List.set_cons_zero, List.set_cons_succ]
              refine wpAnyH_take (i := 38) (v := ?_) rfl (by kernel_rfl) (by kernel_rfl) (by kernel_rfl) (fun _ _ _ h => h) (Or.inl ⟨by rfl, ?_⟩) (by assumption) ?_
              rotate_left
              · intro wz hSw
                (try dsimp only at hSw)
                first
                  | (go_simp; done)
                  | (go_simp; with_reducible rfl)
              try simp only [Act.put, List.getElem_toArray, List.getElem_cons_zero, List.getElem_cons_succ, List.setIfInBounds_toArray, List.set_cons_zero, List.set_cons_succ]
              refine wpAnyH_take (i := 39) (v := ?_) rfl (by kernel_rfl) (by kernel_rfl) (by kernel_rfl) (fun _ _ _ h => h) (Or.inl ⟨by rfl, ?_⟩) (by assumption) ?_
              rotate_left
              · intro wz hSw
                (try dsimp only at hSw)
                first
                  | (go_simp; done)
                  | (go_simp; with_reducible rfl)
              try simp only [Act.put, List.getElem_toArray, List.getElem_cons_zero, List.getElem_cons_succ, List.setIfInBounds_toArray, List.set_cons_zero, List.set_cons_succ]
              refine wpAnyH_take (i := 40) (v := ?_) rfl (by kernel_rfl) (by kernel_rfl) (by kernel_rfl) (fun _ _ _ h => h) (Or.inl ⟨by rfl, ?_⟩) (by assumption) ?_
              rotate_left
              · intro wz hSw
                (try dsimp only at hSw)
                first
                  | (go_simp; done)
                  | (go_simp; with_reducible rfl)
              try simp only [Act.put, List.getElem_toArray, List.getElem_cons_zero, List.getElem_cons_succ, List.setIfInBounds_toArray, List.set_cons_zero, List.set_cons_succ]
              refine wpAnyH_done (by kernel_rfl) ?_ _
              have hbe := SpX.bb HB5.out.1 hHeld.1.1
              have hk7 := HD.out.2.1 rfl
              obtain ⟨-, -, rd7, -, -⟩ := HR9.out
              have hkk : rj < kn := by have := (List.getElem?_eq_some_iff.1 hk7).1; rw [HL.out.2.2.2.2.1] at this; exact this
              obtain ⟨pc, rfl, k7⟩ := rd7.get rj (.string key) (by simp [keysV, hk7])
              have k7' := below_c k7 hbe
              have k0' := hHeld.1.2.1
              have hself : (key.toList != key.toList) = false := by simp
              have hrkn : ((rj : Nat) : Int) < (kn : Int) := by omega
              have HBE := Lib.hid hbe
              clear hk7 rd7 k7 hkk hbe hHeld
              go_wp2_with fail
              go_quiet (fail)
              go_wp2_with fail
              exact ⟨⟨j + 1, by omega, by go_num, by rw [HD.out.1]; simp, below_drawn_' HBE.out _⟩, by simp [intOf]; omega⟩

        · obtain rfl : j = m := by omega
          have HB3 := Lib.hid hb
          clear hb
          go_wp2_with fail
          go_loopw [14, 15] (fun lv i wr => ∃ (q : Nat) (last : Int), q ≤ rn ∧ i = .int .i64 q ∧ lv = .int .i64 last ∧ ((q = 0 ∧ last = 0) ∨ ∃ q' x, q = q' + 1 ∧ RL[q']? = some x ∧ last = x.1) ∧ Below w9.heap.size w9 wr) (fun _ i _ => rn - (intOf i).toNat)
          case atStart => exact ⟨0, 0, Nat.zero_le _, rfl, rfl, .inl ⟨rfl, rfl⟩, HB3.out⟩
          case round =>
            obtain ⟨q, last, hq, rfl, rfl, hlast, hb⟩ := hrel
            by_cases hlt : q < rn
            · obtain ⟨-, -, -, rd8, -⟩ := HR9.out
              obtain ⟨x, hx⟩ : ∃ x, RL[q]? = some x := ⟨_, List.getElem?_eq_getElem (by rw [HL.out.2.2.2.2.2]; exact hlt)⟩
              obtain ⟨d, kx⟩ := x
              have hin := reach_in HL.out.1 (now := now) (d := d) (k := kx) (by rw [HL.out.2.2.2.1]; exact List.mem_of_getElem? hx)
              obtain ⟨pb, rfl, k1⟩ := rd8.get q (.string kx) (by simp [keysV, hx])
              have HX := Lib.hid (And.intro hin (And.intro hlast (And.intro hx k1)))
              have hqn : ((q : Nat) : Int) < (rn : Int) := by omega
              clear hin hlast hx k1 rd8
              go_wp2_with fail
              go_loopw [16, 17] (fun fv i wq => ∃ r : Nat, r ≤ j ∧ i = .int .i64 r ∧ fv = .int .i64 (fnd s kx r) ∧ Below w9.heap.size w9 wq) (fun _ i _ => j - (intOf i).toNat)
              case atStart => exact ⟨0, Nat.zero_le _, rfl, rfl, hb⟩
              case round =>
                obtain ⟨r, hr, rfl, rfl, hb3⟩ := hrel
                clear hb
                by_cases hlt2 : r < j
                · obtain ⟨rd6, rel6, -, -, -⟩ := HR9.out
                  have hen : es6.length = j := rd_rows_len en_len (by decide) rd6
                  have hln := HL.out.2.1
                  obtain ⟨e0, he0⟩ : ∃ e0, es6[r]? = some e0 := ⟨_, List.getElem?_eq_getElem (by omega)⟩
                  obtain ⟨p0, hp0⟩ : ∃ p0, s.l[r]? = some p0 := ⟨_, List.getElem?_eq_getElem (by omega)⟩
                  obtain ⟨r1, r2, -, -⟩ := rel6.2 r e0 p0 he0 hp0
                  obtain ⟨pa, rfl, cx⟩ := rd_rows_get en_len rd6 he0 (by decide)
                  obtain ⟨key, x0, due0, ver0⟩ := e0
                  simp only at r1 r2
                  have g0 : wr.cell? (pa.add (r * 8)) = some (.string key) := below_c (cx 0 _ rfl) hb3
                  have g6 : wr.cell? ⟨(pa.add (r * 8)).block, (pa.add (r * 8)).off + 6, none⟩ = some (.int .i64 due0) := below_c (cx 6 _ rfl) hb3
                  have k2 : wr.cell? (pb.add q) = some (.string kx) := below_c HX.out.2.2.2 hb3
                  have hrn : ((r : Nat) : Int) < (j : Int) := by omega
                  have HB4 := Lib.hid hb3
                  by_cases hkk : key = kx
                  · subst hkk
                    have hst : fnd s key (r + 1) = due0 := by rw [r1, fnd_eq HL.out.1 hp0, r2]
                    have hself : (key.toList == key.toList) = true := by simp
                    have HST := Lib.hid hst
                    clear hst rd6 rel6 hen hln he0 hp0 r1 r2 cx hb3
                    go_wp2_with fail
                    go_quiet (fail)
                    go_wp2_with fail
                    exact ⟨⟨r + 1, by omega, by go_num, by rw [HST.out], below_drawn_' HB4.out _⟩, by simp [intOf]; omega⟩
                  · have hst : fnd s kx (r + 1) = fnd s kx r := fnd_ne hp0 (by rw [← r1]; exact hkk)
                    have hself := SpR.tl_ne hkk
                    have HST := Lib.hid hst
                    clear hst rd6 rel6 hen hln he0 hp0 r1 r2 cx hb3 hkk
                    go_wp2_with fail
                    go_quiet (fail)
                    go_wp2_with fail
                    exact ⟨⟨r + 1, by omega, by go_num, by rw [HST.out], below_drawn_' HB4.out _⟩, by simp [intOf]; omega⟩
                · obtain rfl : r = j := by omega
                  obtain ⟨⟨h1, h2, h3, h4⟩, hlast, hx, k1⟩ := HX.out
                  rw [HL.out.2.1] at h1
                  rw [h1]
                  have k2 : wr.cell? (pb.add q) = some (.string kx) := below_c k1 hb3
                  have f1 : decide (d < 1) = false := decide_eq_false (by omega)
                  have f2 : decide (now < d) = false := decide_eq_false (by omega)
                  have HB4 := Lib.hid hb3
                  have HZ := Lib.hid (And.intro hx k1)
                  clear h1 h4 hx k1 hb3
                  rcases hlast with ⟨e1, e2⟩ | ⟨q', x, e1, hx', e2⟩
                  · have f3 : decide (d < last) = false := decide_eq_false (by omega)
                    have f4 : (d == last) = false := by rw [beq_eq_false_iff_ne]; omega
                    clear h2 h3
                    have HQ := Lib.hid (And.intro e1 e2)
                    clear e1 e2
                    go_wp2_with fail
                    go_quiet (fail)
                    go_wp2_with fail
                    exact ⟨⟨q + 1, d, by omega, by go_num, rfl, .inr ⟨q, _, rfl, HZ.out.1, rfl⟩, below_drawn_' HB4.out _⟩, by simp [intOf]; omega⟩
                  · have hord := reach_ord HL.out.1 (now := now) (i := q') (x := x) (y := (d, kx)) (by rw [HL.out.2.2.2.1]; exact hx') (by rw [HL.out.2.2.2.1, ← e1]; exact HZ.out.1)
                    have f3 : decide (d < last) = false := decide_eq_false (by have := hord.1; simp only at this; omega)
                    by_cases heq : d = last
                    · have f4 : (d == last) = true := by rw [heq]; simp
                      have hl := hord.2 (by rw [← e2, ← heq])
                      have k3 : wr.cell? (pb.add q') = some (.string x.2) := by
                        obtain ⟨pb', hpb, k3⟩ := HR9.out.2.2.2.1.get q' (.string x.2) (by simp [keysV, hx'])
                        injection hpb with hpb
                        subst hpb
                        exact below_c k3 HB4.out
                      obtain ⟨k0, hk0⟩ : ∃ k0, x.2 = k0 := ⟨_, rfl⟩
                      rw [hk0] at k3 hl
                      simp only at hl
                      have hbl : Op.bytesLess k0.toList kx.toList = true := hl
                      clear hl
                      have hqn' : ((q' : Nat) : Int) < (rn : Int) := by omega
                      have hqs : ((q : Nat) : Int) - 1 = (q' : Int) := by omega
                      have HQ := Lib.hid (And.intro e1 (And.intro e2 heq))
                      clear e1 e2 heq hx' hord h2 h3 hk0
                      go_wp2_with fail
                      go_quiet (fail)
                      go_wp2_with fail
                      exact ⟨⟨q + 1, d, by omega, by go_num, rfl, .inr ⟨q, _, rfl, HZ.out.1, rfl⟩, below_drawn_' HB4.out _⟩, by simp [intOf]; omega⟩
                    · have f4 : (d == last) = false := by rw [beq_eq_false_iff_ne]; exact heq
                      have HQ := Lib.hid (And.intro e1 (And.intro e2 (And.intro hx' heq)))
                      clear e1 e2 hx' hord h2 h3 heq
                      go_wp2_with fail
                      go_quiet (fail)
                      go_wp2_with fail
                      exact ⟨⟨q + 1, d, by omega, by go_num, rfl, .inr ⟨q, _, rfl, HZ.out.1, rfl⟩, below_drawn_' HB4.out _⟩, by simp [intOf]; omega⟩
            · obtain rfl : q = rn := by omega
              go_wp2_with fail
              refine (sure_calls _).mono ?_
              rintro e w20 ⟨rfl, B20⟩
              go_wp2_with fail
              go_ret
              exact ⟨rfl, SpX.bb ((HR9.out.2.2.2.2.trans (SpU.only_b hb : Only (fun q => ¬ q < W.heap.size) w9 wr) (fun q e => .inl e)).below (Nat.le_refl _) (fun q e => Nat.not_lt.1 e)) B20⟩
end Go.Proofs.YtjofbagaobdmoaaGreat.SrH
