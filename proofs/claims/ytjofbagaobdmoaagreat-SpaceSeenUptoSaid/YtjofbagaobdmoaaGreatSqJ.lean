/-
  SpaceBack. Conditions: as stated.
-/
import Derived.Test.YtjofbagaobdmoaaGreatSqI
set_option maxRecDepth 100000
set_option linter.unusedSimpArgs false
set_option linter.unusedVariables false
namespace Go.Proofs.YtjofbagaobdmoaaGreat.SrB
open Go.RowKit Go.Proofs.YtjofbagaobdmoaaGreat.Mem Go.Proofs.YtjofbagaobdmoaaGreat.VaC Go.Proofs.YtjofbagaobdmoaaGreat.VaE Go.Proofs.YtjofbagaobdmoaaGreat.VaH Go.Proofs.YtjofbagaobdmoaaGreat.VaI Go.Proofs.YtjofbagaobdmoaaGreat.VaX Go.Proofs.YtjofbagaobdmoaaGreat.DuA Go.Proofs.YtjofbagaobdmoaaGreat.SpA Go.Proofs.YtjofbagaobdmoaaGreat.SpB Go.Proofs.YtjofbagaobdmoaaGreat.SpC Go.Proofs.YtjofbagaobdmoaaGreat.SpD Go.Proofs.YtjofbagaobdmoaaGreat.SpE Go.Proofs.YtjofbagaobdmoaaGreat.SpF Go.Proofs.YtjofbagaobdmoaaGreat.SpG Go.Proofs.YtjofbagaobdmoaaGreat.SpH Go.Proofs.YtjofbagaobdmoaaGreat.SpI Go.Proofs.YtjofbagaobdmoaaGreat.SpJ Go.Proofs.YtjofbagaobdmoaaGreat.SpK Go.Proofs.YtjofbagaobdmoaaGreat.SpL Go.Proofs.YtjofbagaobdmoaaGreat.SpM Go.Proofs.YtjofbagaobdmoaaGreat.SpN Go.Proofs.YtjofbagaobdmoaaGreat.SpO Go.Proofs.YtjofbagaobdmoaaGreat.SpP Go.Proofs.YtjofbagaobdmoaaGreat.SpQ Go.Proofs.YtjofbagaobdmoaaGreat.SpR Go.Proofs.YtjofbagaobdmoaaGreat.SpS Go.Proofs.YtjofbagaobdmoaaGreat.SpT Go.Proofs.YtjofbagaobdmoaaGreat.SpU Go.Proofs.YtjofbagaobdmoaaGreat.SpV Go.Proofs.YtjofbagaobdmoaaGreat.SpW Go.Proofs.YtjofbagaobdmoaaGreat.SpY Go.Proofs.YtjofbagaobdmoaaGreat.SpZ Go.Proofs.YtjofbagaobdmoaaGreat.SrA
open Go.Proofs.YtjofbagaobdmoaaGreat.LawS (OV)
open Go.Proofs.YtjofbagaobdmoaaGreat.DsH (Ix IxS okk keyed key_of)
open Go.Proofs.YtjofbagaobdmoaaGreat.DsK (OwnKs RdKs keysV keysV_one elKs)



theorem done_on (s : PS) (o : PO) : (doneS s o).on = s.on ∧ (doneS s o).ld = s.ld ∧ (doneS s o).at_ = s.at_ := by
  have hg : ∀ (ks : List ByteArray) (s : PS), (ks.foldl goneP s).on = s.on ∧ (ks.foldl goneP s).ld = s.ld ∧ (ks.foldl goneP s).at_ = s.at_ := by
    intro ks
    induction ks with
    | nil => intro s; exact ⟨rfl, rfl, rfl⟩
    | cons k r ih => intro s; rw [List.foldl_cons]; exact ih (goneP s k)
  unfold doneS putS dropS dueS clearS
  split
  · split <;> exact ⟨rfl, rfl, rfl⟩
  split
  · split <;> exact ⟨rfl, rfl, rfl⟩
  split
  · split
    · split <;> exact ⟨rfl, rfl, rfl⟩
    · exact ⟨rfl, rfl, rfl⟩
  split
  · split
    · exact ⟨rfl, rfl, rfl⟩
    · exact hg _ s
  · exact ⟨rfl, rfl, rfl⟩
def ZS (l : List OV) : Nat := (l.map (fun o => (poOf o).wt)).sum
theorem zs_snoc (l : List OV) (o : OV) : ZS (l ++ [o]) = ZS l + (poOf o).wt := by simp [ZS]
theorem zs_take {l : List OV} {k : Nat} {o : OV} (h : l[k]? = some o) : ZS (l.take (k + 1)) = ZS (l.take k) + (poOf o).wt := by
  rw [List.take_add_one, h]; exact zs_snoc _ _
theorem zs_le {W : World} : ∀ {l : List OV}, (∀ o ∈ l, OV.ok W o) → ZS l ≤ 32 * (l.map OV.wt).sum
  | [], _ => by simp [ZS]
  | o :: r, h => by
    have ih := zs_le (fun x hx => h x (by simp [hx]) : ∀ x ∈ r, OV.ok W x)
    have he := enc_pv (h o (by simp)).rd
    unfold ZS at ih ⊢
    simp only [List.map_cons, List.sum_cons]
    have : (poOf o).wt ≤ 32 * o.wt := by
      unfold PO.wt poOf OV.wt
      dsimp only
      rw [← he]; omega
    omega
/-- What a row of changes is, as it lies in what is kept. -/
structure Arow (W w : World) (A : Option Addr) (n c : Nat) (z : List OV) : Prop where
  rd : Rd w 9 A n c (z.flatMap OV.cells)
  len : z.length = n
  ok : ∀ o ∈ z, OV.ok W o
  sum : (z.map OV.wt).sum ≤ 1048576
-- the walk
theorem vok_arg {W : World} {x : VV} (h : RdV W x) (hs : Sm x) : Vok W (fun q => ¬ q < W.heap.size) x (pvOf x) := by
  refine ⟨h, ⟨?_, ?_, ?_⟩, rfl, (sm_pv h).1 hs⟩
  · intro ad e hn hS
    obtain ⟨ad', e', hlt⟩ := Rd.lt h.1 (ne_strs hn)
    rw [e] at e'; injection e' with e'; subst e'; exact hS hlt
  · intro ad e hn hS
    obtain ⟨ad', e', hlt⟩ := Rd.lt h.2 (ne_flds hn)
    rw [e] at e'; injection e' with e'; subst e'; exact hS hlt
  · intro ad e hn hS
    obtain ⟨ad', e', hlt⟩ := Rd.lt h.3 (ne_rnks hn)
    rw [e] at e'; injection e' with e'; subst e'; exact hS hlt
set_option maxHeartbeats 16000000 in
theorem back_upto (a0 : Option Addr) (n0 c0 : Nat) (z0 : List OV) (a1 : Option Addr) (n1 c1 : Nat) (z1 : List OV) (now : Int) (W : World)
    (R0 : Rd W 9 a0 n0 c0 (z0.flatMap OV.cells)) (L0 : z0.length = n0) (K0 : ∀ x ∈ z0, OV.ok W x) (M0 : (z0.map OV.wt).sum ≤ 1048576)
    (R1 : Rd W 9 a1 n1 c1 (z1.flatMap OV.cells)) (L1 : z1.length = n1) (K1 : ∀ x ∈ z1, OV.ok W x) (M1 : (z1.map OV.wt).sum ≤ 1048576) (hn1 : -9223372036854775808 ≤ now) (hn2 : now ≤ 9223372036854775807) :
    Calls Tryz.prog 4 #[.slice a0 n0 c0, .slice a1 n1 c1, .int .i64 now] W fun e w' => e = .returned (.bool true) ∧ Below W.heap.size W w' := by
  have hle : ∀ l : List OV, l.length ≤ (l.map OV.wt).sum := fun l => by
    induction l with
    | nil => simp
    | cons a r ih => simp only [List.map_cons, List.sum_cons, List.length_cons]; have : 1 ≤ a.wt := by unfold OV.wt; omega
                     omega
  have hN0 : n0 ≤ 1048576 := by have := hle z0; omega
  have hN1 : n1 ≤ 1048576 := by have := hle z1; omega
  have hcap0 := R0.cap
  have hbig0 := R0.big
  have hcap1 := R1.cap
  have hbig1 := R1.big
  unfold maxLen at hbig0 hbig1
  have H0 := Lib.hid (And.intro R0 (And.intro L0 (And.intro K0 M0)))
  have H1 := Lib.hid (And.intro R1 (And.intro L1 (And.intro K1 M1)))
  clear R0 L0 K0 M0 R1 L1 K1 M1 hle
  go_enter Tryz.func4, Tryz.ntmps4
  go_wp2_with fail
  refine (su_new W).mono ?_
  rintro e w1 ⟨g, rfl, S1, B1⟩
  have HS1 := Lib.hid (And.intro S1 B1)
  clear S1 B1
  go_wp2_with fail
  go_loopw [8] (fun i wr => ∃ (k N : Nat) (s : PS), k ≤ n0 ∧ i = .int .i64 k ∧ Su wr W.heap.size g N s (fun q => q < W.heap.size) ∧ Bo s N k (ZS (z0.take k)) ∧ s.on = false ∧ s.ld = false ∧ Only (fun q => ¬ q < W.heap.size) W wr) (fun i _ => n0 - (intOf i).toNat)
  case atStart =>
    obtain ⟨S1, B1⟩ := HS1.out
    exact ⟨0, 0, ps0, Nat.zero_le _, rfl, S1, ⟨Nat.le_refl _, Nat.le_refl _, Nat.le_refl _, Nat.zero_le _⟩, rfl, rfl, SpU.only_b B1⟩
  case round =>
    obtain ⟨k, N, s, hk, rfl, hS, hB, hon, hld, ho⟩ := hrel
    by_cases hlt : k < n0
    · obtain ⟨R0, L0, K0, M0⟩ := H0.out
      obtain ⟨o, hgo⟩ : ∃ o, z0[k]? = some o := ⟨_, List.getElem?_eq_getElem (by omega)⟩
      have hok := K0 o (List.mem_of_getElem? hgo)
      obtain ⟨ad, had, hal⟩ := R0.lt (by intro e; have := rows_len (c := OV.cells) LawS.ov_len z0; unfold rows at this; rw [e] at this; simp at this; omega)
      obtain ⟨pa, rfl, cx⟩ := rd_rows_get (c := OV.cells) LawS.ov_len R0 hgo (by decide)
      injection had with had
      subst had
      have hpa : ∀ m, (pa.add m).block < W.heap.size := fun m => by rw [Mem.add_block]; exact hal
      have g0 : wr.cell? (pa.add (k * 9)) = some (.int .i64 o.kind) := ho.cell (cx 0 _ rfl) (fun q => q (hpa _))
      have g1 : wr.cell? ⟨(pa.add (k * 9)).block, (pa.add (k * 9)).off + 1, none⟩ = some (.string o.key) := ho.cell (cx 1 _ rfl) (fun q => q (hpa _))
      have g2 : wr.cell? ⟨(pa.add (k * 9)).block, (pa.add (k * 9)).off + 2, none⟩ = some (.int .i64 o.x.kind) := ho.cell (cx 2 _ rfl) (fun q => q (hpa _))
      have g3 : wr.cell? ⟨(pa.add (k * 9)).block, (pa.add (k * 9)).off + 3, none⟩ = some (.string o.x.text) := ho.cell (cx 3 _ rfl) (fun q => q (hpa _))
      have g4 : wr.cell? ⟨(pa.add (k * 9)).block, (pa.add (k * 9)).off + 4, none⟩ = some (.slice o.x.LA o.x.ln o.x.lc) := ho.cell (cx 4 _ rfl) (fun q => q (hpa _))
      have g5 : wr.cell? ⟨(pa.add (k * 9)).block, (pa.add (k * 9)).off + 5, none⟩ = some (.slice o.x.FA o.x.fn o.x.fc) := ho.cell (cx 5 _ rfl) (fun q => q (hpa _))
      have g6 : wr.cell? ⟨(pa.add (k * 9)).block, (pa.add (k * 9)).off + 6, none⟩ = some (.slice o.x.KA o.x.kn o.x.kc) := ho.cell (cx 6 _ rfl) (fun q => q (hpa _))
      have g7 : wr.cell? ⟨(pa.add (k * 9)).block, (pa.add (k * 9)).off + 7, none⟩ = some (.int .i64 o.due) := ho.cell (cx 7 _ rfl) (fun q => q (hpa _))
      have g8 : wr.cell? ⟨(pa.add (k * 9)).block, (pa.add (k * 9)).off + 8, none⟩ = some (.slice o.EA o.en o.ec) := ho.cell (cx 8 _ rfl) (fun q => q (hpa _))
      have hv : Vok wr (fun q => ¬ q < W.heap.size) o.x (pvOf o.x) := (vok_arg hok.rd hok.sm).move ho (fun _ _ e => e) (fun _ _ e => e)
      have hkn : ((k : Nat) : Int) < (n0 : Int) := by omega
      have hd := done_su hS o (by have := hok.key; omega) hv (by have := hB.n; omega) (by have := hB.c; omega) (by have := hB.h; omega)
      have HR := Lib.hid (And.intro hS (And.intro hB (And.intro hon (And.intro hld (And.intro ho hgo)))))
      unfold ovV at hd
      clear R0 L0 K0 M0 hok cx hpa hal hS hB hon hld ho hgo hv
      go_wp2_with fail
      refine hd.mono ?_
      rintro e w2 ⟨rfl, S2, O2⟩
      obtain ⟨hS, hB, hon, hld, ho, hgo⟩ := HR.out
      have B2 := bo_done hB hS.inv (poOf o)
      rw [← zs_take hgo] at B2
      obtain ⟨d1, d2, -⟩ := done_on s (poOf o)
      have O3 := ho.trans O2 (fun q e => .inl e)
      clear hS hB ho hgo O2 hd g0 g1 g2 g3 g4 g5 g6 g7 g8
      go_wp2_with fail
      exact ⟨⟨k + 1, _, _, by omega, by go_num, S2, B2, d1.trans hon, d2.trans hld, O3⟩, by simp [intOf]; omega⟩
    · obtain rfl : k = n0 := by omega
      go_upto_region 8 with fail
      clear HS1
      obtain ⟨WS, hWS⟩ : ∃ WS, wr.heap.size = WS := ⟨_, rfl⟩
      have hi0 := hS.inv
      have hNk := hB.n
      have hZ : ZS (z0.take k) ≤ 33554432 := by
        obtain ⟨R0, L0, K0, M0⟩ := H0.out
        rw [List.take_of_length_le (Nat.le_of_eq L0)]
        exact Nat.le_trans (zs_le K0) (by omega)
      obtain ⟨by0, hbb⟩ : ∃ by0, (⟨(bytesL s.l).toArray⟩ : ByteArray) = by0 := ⟨_, rfl⟩
      obtain ⟨cn, hcn⟩ : ∃ cn, (s.cnt : Int) = cn := ⟨_, rfl⟩
      obtain ⟨L, hL⟩ : ∃ L, peekL (duesOf lt PH.due s.l) now 1073741824 = L := ⟨_, rfl⟩
      obtain ⟨m, hm⟩ : ∃ m, s.l.length = m := ⟨_, rfl⟩
      have HB := Lib.hid (And.intro hB (And.intro hZ (And.intro hi0 (And.intro hbb (And.intro hcn (And.intro hL (And.intro hm (And.intro hon hld))))))))
      have HO := Lib.hid ho
      have hbz := hB.z
      clear hB hi0 hbb hcn hL hm hon hld ho
      go_wp2_with fail
      refine (entries_su hS (l := s.l) rfl (by omega)).mono ?_
      rintro e w6 ⟨v6, es6, rfl, F6, B6⟩
      obtain ⟨A6, c6, rfl⟩ := own_form F6.own
      have hl6 : es6.length = m := F6.rel.1.trans HB.out.2.2.2.2.2.2.1
      have HF := Lib.hid F6
      rw [hl6]
      have S6 := hS.below B6
      have HS5 := Lib.hid (And.intro hS (And.intro B6 hl6))
      clear F6 hS B6 hl6
      go_wp2_with fail
      refine (bytes_su S6 HB.out.2.2.2.1 (by omega) (by omega)).mono ?_
      rintro e w7 ⟨rfl, B7⟩
      have S7 := S6.below B7
      clear S6
      go_wp2_with fail
      refine (counter_su S7 HB.out.2.2.2.2.1).mono ?_
      rintro e w7' ⟨rfl, rfl⟩
      go_wp2_with fail
      refine (stale_su S7 now 1073741824 HB.out.2.2.2.2.2.1 (by omega)).mono ?_
      rintro e w8 ⟨v8, rfl, O8, B8⟩
      obtain ⟨A8, c8, rfl⟩ := own_form O8
      have HT := Lib.hid O8
      obtain ⟨hS, B6, hl6⟩ := HS5.out
      have B58 : Below wr.heap.size wr w8 := SpX.bb (SpX.bb B6 B7) B8
      have S8 := hS.keep B58 (Kq := fun q => q < W.heap.size ∨ (WS ≤ q ∧ q < w8.heap.size)) (fun q e => e.imp id (fun e => ⟨by rw [hWS]; exact e.1, e.2⟩))
      have O08 : Only (fun q => ¬ q < W.heap.size) W w8 := HO.out.trans (SpU.only_b B58 : Only (fun _ => False) wr w8) (fun q e => e.elim)
      have H8 := Lib.hid (And.intro B6 (And.intro B7 (And.intro B8 O08)))
      have hon := HB.out.2.2.2.2.2.2.2.1
      have hld := HB.out.2.2.2.2.2.2.2.2
      have HM := mark_su S8 hld (r := 0) (by rw [hon]; rfl) rfl
      have hO0 := on_mark hon
      have hB0 : Bo (markS s) N k (ZS (z0.take k)) := by
        have hB := HB.out.1
        unfold markS
        rw [hon]
        exact ⟨hB.n, hB.c, Nat.zero_le _, hB.z⟩
      have hl0 : (markS s).ld = false := by unfold markS; rw [hon]; exact hld
      have HM0 := Lib.hid (And.intro hO0 (And.intro hB0 hl0))
      clear S7 hS B6 B7 B8 O8 B58 S8 O08 hon hld hO0 hB0 hl0 hl6 HS5
      go_wp2_with fail
      refine HM.mono ?_
      rintro e w9 ⟨rfl, S9, O9⟩
      have HS9 := Lib.hid (And.intro S9 O9)
      clear S9 O9 HM
      go_wp2_with fail
      go_loopw [13] (fun i wq => ∃ (k2 N2 : Nat) (t : PS), k2 ≤ n1 ∧ i = .int .i64 k2 ∧ Su wq W.heap.size g N2 t (fun q => q < W.heap.size ∨ (WS ≤ q ∧ q < w8.heap.size)) ∧ Bo t N2 (k + k2) (ZS (z0.take k) + ZS (z1.take k2)) ∧ On s t ∧ t.ld = false ∧ Only (fun q => ¬ (q < W.heap.size ∨ (WS ≤ q ∧ q < w8.heap.size))) w8 wq ∧ Only (fun q => ¬ q < W.heap.size) W wq) (fun i _ => n1 - (intOf i).toNat)
      case atStart =>
        obtain ⟨S9, O9⟩ := HS9.out
        obtain ⟨hO0, hB0, hl0⟩ := HM0.out
        exact ⟨0, N, _, Nat.zero_le _, rfl, S9, hB0, hO0, hl0, O9, H8.out.2.2.2.trans O9 (fun q e => .inl (fun h => e (.inl h)))⟩
      case round =>
        obtain ⟨k, N, t, hk, rfl, hS, hB, hon, hld, ho8, ho⟩ := hrel
        by_cases hlt : k < n1
        · obtain ⟨R1, L1, K1, M1⟩ := H1.out
          obtain ⟨o, hgo⟩ : ∃ o, z1[k]? = some o := ⟨_, List.getElem?_eq_getElem (by omega)⟩
          have hok := K1 o (List.mem_of_getElem? hgo)
          obtain ⟨ad, had, hal⟩ := R1.lt (by intro e; have := rows_len (c := OV.cells) LawS.ov_len z1; unfold rows at this; rw [e] at this; simp at this; omega)
          obtain ⟨pa, rfl, cx⟩ := rd_rows_get (c := OV.cells) LawS.ov_len R1 hgo (by decide)
          injection had with had
          subst had
          have hpa : ∀ m, (pa.add m).block < W.heap.size := fun m => by rw [Mem.add_block]; exact hal
          have g0 : wr.cell? (pa.add (k * 9)) = some (.int .i64 o.kind) := ho.cell (cx 0 _ rfl) (fun q => q (hpa _))
          have g1 : wr.cell? ⟨(pa.add (k * 9)).block, (pa.add (k * 9)).off + 1, none⟩ = some (.string o.key) := ho.cell (cx 1 _ rfl) (fun q => q (hpa _))
          have g2 : wr.cell? ⟨(pa.add (k * 9)).block, (pa.add (k * 9)).off + 2, none⟩ = some (.int .i64 o.x.kind) := ho.cell (cx 2 _ rfl) (fun q => q (hpa _))
          have g3 : wr.cell? ⟨(pa.add (k * 9)).block, (pa.add (k * 9)).off + 3, none⟩ = some (.string o.x.text) := ho.cell (cx 3 _ rfl) (fun q => q (hpa _))
          have g4 : wr.cell? ⟨(pa.add (k * 9)).block, (pa.add (k * 9)).off + 4, none⟩ = some (.slice o.x.LA o.x.ln o.x.lc) := ho.cell (cx 4 _ rfl) (fun q => q (hpa _))
          have g5 : wr.cell? ⟨(pa.add (k * 9)).block, (pa.add (k * 9)).off + 5, none⟩ = some (.slice o.x.FA o.x.fn o.x.fc) := ho.cell (cx 5 _ rfl) (fun q => q (hpa _))
          have g6 : wr.cell? ⟨(pa.add (k * 9)).block, (pa.add (k * 9)).off + 6, none⟩ = some (.slice o.x.KA o.x.kn o.x.kc) := ho.cell (cx 6 _ rfl) (fun q => q (hpa _))
          have g7 : wr.cell? ⟨(pa.add (k * 9)).block, (pa.add (k * 9)).off + 7, none⟩ = some (.int .i64 o.due) := ho.cell (cx 7 _ rfl) (fun q => q (hpa _))
          have g8 : wr.cell? ⟨(pa.add (k * 9)).block, (pa.add (k * 9)).off + 8, none⟩ = some (.slice o.EA o.en o.ec) := ho.cell (cx 8 _ rfl) (fun q => q (hpa _))
          have hv : Vok wr (fun q => ¬ (q < W.heap.size ∨ (WS ≤ q ∧ q < w8.heap.size))) o.x (pvOf o.x) := (vok_arg hok.rd hok.sm).move ho (fun _ _ e => e) (fun _ _ e h => e (.inl h))
          have hkn : ((k : Nat) : Int) < (n1 : Int) := by omega
          have hd := done_su hS o (by have := hok.key; omega) hv (by have := hB.n; omega) (by have := hB.c; omega) (by have := hB.h; omega)
          have HR := Lib.hid (And.intro hS (And.intro hB (And.intro hon (And.intro hld (And.intro ho8 (And.intro ho hgo))))))
          unfold ovV at hd
          clear R1 L1 K1 M1 hok cx hpa hal hS hB hon hld ho ho8 hgo hv
          go_wp2_with fail
          refine hd.mono ?_
          rintro e w2 ⟨rfl, S2, O2⟩
          obtain ⟨hS, hB, hon, hld, ho8, ho, hgo⟩ := HR.out
          have B2 := bo_done hB hS.inv (poOf o)
          rw [Nat.add_assoc, Nat.add_assoc, ← zs_take hgo] at B2
          have N2 := on_done hon hS.inv (poOf o)
          obtain ⟨d1, d2, -⟩ := done_on t (poOf o)
          have O3 := ho.trans O2 (fun q e => .inl (fun h => e (.inl h)))
          have O38 := ho8.trans O2 (fun q e => .inl e)
          clear hS hB ho ho8 hon hgo O2 hd g0 g1 g2 g3 g4 g5 g6 g7 g8
          go_wp2_with fail
          exact ⟨⟨k + 1, _, _, by omega, by go_num, S2, B2, N2, d2.trans hld, O38, O3⟩, by simp [intOf]; omega⟩
        · obtain rfl : k = n1 := by omega
          have hi := hS.inv
          have hNt := hB.n
          obtain ⟨bl, bc, bch, bbf⟩ := back_law hon hi HB.out.2.2.1
          have HMk := mark_su hS hld (r := 140) (by rw [hon.on]; rfl) (s' := t) (by unfold markS; rw [if_pos hon.on])
          have HL := Lib.hid (And.intro ho8 (And.intro ho (And.intro hon (And.intro bl (And.intro bc (And.intro bch bbf))))))
          clear hS hB hi ho8 ho bl bc bch bbf hld hon
          go_wp2_with fail
          refine HMk.mono ?_
          rintro e w10 ⟨rfl, S10, O10⟩
          clear HMk
          go_wp2_with fail
          refine (loadM_su S10 none 0 0 HL.out.2.2.1.on).mono ?_
          rintro e w11 ⟨rfl, e11⟩
          subst e11
          go_wp2_with fail
          refine (back_su S10 (r := 0) (by rw [HL.out.2.2.1.on]; rfl) rfl (by omega)).mono ?_
          rintro e w12 ⟨rfl, S12, O12⟩
          have HO12 := Lib.hid (And.intro ((HL.out.1.trans O10 (fun q e => .inl e)).trans O12 (fun q e => .inl e)) ((HL.out.2.1.trans O10 (fun q e => .inl (fun h => e (.inl h)))).trans O12 (fun q e => .inl (fun h => e (.inl h)))))
          clear S10 O10 O12
          go_wp2_with fail
          refine (entries_su S12 (l := s.l) HL.out.2.2.2.1 (by omega)).mono ?_
          rintro e w13 ⟨v13, es13, rfl, F13, B13⟩
          obtain ⟨A13, c13, rfl⟩ := own_form F13.own
          have hl13 : es13.length = m := F13.rel.1.trans HB.out.2.2.2.2.2.2.1
          have rd13 := Rd.of_own F13.own
          rw [hl13] at rd13 ⊢
          have S13 := S12.below B13
          have hsm : Calls Tryz.prog 32 #[.slice A13 m c13, .slice A6 m c6] w13 fun e w' => e = .returned (.bool true) ∧ Below w13.heap.size w13 w' := by
            obtain ⟨B6, B7, B8, -⟩ := H8.out
            have F6 := HF.out
            rw [hWS] at F6
            have hl6 : es6.length = m := F6.rel.1.trans HB.out.2.2.2.2.2.2.1
            have F8 := F6.below (SpX.bb B7 B8)
            have O813 := HO12.out.1.trans (SpU.only_b B13 : Only (fun _ => False) w12 w13) (fun q e => e.elim)
            have own13 := own_only F8.own O813 (fun q hq e => e (.inr (F8.own.lt q hq)))
            have rel13 := F8.rel.move O813 (fun q hq e => by
              by_cases hw : q < WS
              · exact .inl hw
              · exact absurd (.inr ⟨Nat.not_lt.1 hw, hq⟩) e) (fun q _ e => e)
            have rd6 := Rd.of_own own13
            rw [hl6] at rd6
            exact sameEntries_eq A13 A6 m c13 c6 es13 es6 s.l w13 rd13 rd6 F13.rel rel13
          have HO13 := Lib.hid B13
          clear F13 S12 rd13 hl13 B13
          go_wp2_with fail
          refine hsm.mono ?_
          rintro e w14 ⟨rfl, B14⟩
          have S14 := S13.below B14
          clear S13 hsm
          go_wp2_with fail
          refine (bytes_su S14 (b := by0) (by rw [HL.out.2.2.2.1]; exact HB.out.2.2.2.1) (by omega) (by rw [HL.out.2.2.2.1]; omega)).mono ?_
          rintro e w15 ⟨rfl, B15⟩
          have S15 := S14.below B15
          have hself : (by0.toList == by0.toList) = true := by simp
          have hself2 : (cn == cn) = true := by simp
          clear S14
          go_wp2_with fail
          refine (counter_su S15 (r := cn) (by rw [HL.out.2.2.2.2.1]; exact HB.out.2.2.2.2.1)).mono ?_
          rintro e w15' ⟨rfl, e15⟩
          subst e15
          go_wp2_with fail
          refine (stale_su S15 now 1073741824 (l := L) (by rw [HL.out.2.2.2.1]; exact HB.out.2.2.2.2.2.1) (by omega)).mono ?_
          rintro e w16 ⟨v16, rfl, O16, B16⟩
          obtain ⟨A16, c16, rfl⟩ := own_form O16
          have S16 := S15.below B16
          have B1216 := SpX.bb (SpX.bb (SpX.bb HO13.out B14) B15) B16
          have hst : Calls Tryz.prog 33 #[.slice A16 L.length c16, .slice A8 L.length c8] w16 fun e w' => e = .returned (.bool true) ∧ Below w16.heap.size w16 w' := by
            obtain ⟨B6, B7, B8, -⟩ := H8.out
            have z6 := B6.size
            have z7 := B7.size
            have O816 := HO12.out.1.trans (SpU.only_b B1216 : Only (fun _ => False) w12 w16) (fun q e => e.elim)
            have own16 := own_only HT.out O816 (fun q hq e => e (.inr (by have := HT.out.lt q hq; omega)))
            exact sameT_su A16 A8 L.length L.length c16 c8 L L w16 (r := true) (Rd.of_own O16) (Rd.of_own own16) (decide_eq_true rfl)
          clear S15 B14 B15 B16 O16
          go_wp2_with fail
          refine hst.mono ?_
          rintro e w17 ⟨rfl, B17⟩
          have S17 := S16.below B17
          clear hst S16
          go_wp2_with fail
          refine (changes_su S17 (l := []) HL.out.2.2.2.2.2.1 (by simp)).mono ?_
          rintro e w18 ⟨v18, es18, rfl, F18, B18⟩
          obtain ⟨A18, c18, rfl⟩ := own_form F18.own
          have hl18 : es18.length = 0 := F18.rel.1
          rw [hl18]
          have S18 := S17.below B18
          clear F18 hl18 S17
          go_wp2_with fail
          refine (touched_su S18 (l := []) (by rw [HL.out.2.2.2.2.2.2]; rfl) (by omega)).mono ?_
          rintro e w19 ⟨v19, rfl, O19, B19⟩
          obtain ⟨A19, c19, rfl⟩ := own_form O19
          clear O19 S18
          simp only [List.length_nil]
          go_wp2_with fail
          refine (sure_calls _).mono ?_
          rintro e w20 ⟨rfl, B20⟩
          go_wp2_with fail
          go_ret
          have BW : Below W.heap.size W w12 := HO12.out.2.below (Nat.le_refl _) (fun q e => Nat.not_lt.1 e)
          exact ⟨rfl, SpX.bb (SpX.bb (SpX.bb (SpX.bb (SpX.bb BW B1216) B17) B18) B19) B20⟩
end Go.Proofs.YtjofbagaobdmoaaGreat.SrB
