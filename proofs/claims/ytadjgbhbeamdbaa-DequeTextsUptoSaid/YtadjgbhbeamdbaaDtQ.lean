/-
  What a Deque's PushFront leaves. Conditions: as stated.
-/
import Derived.Test.YtadjgbhbeamdbaaDtP
import Derived.BigRegion
import Derived.Laws.CopyOwn
set_option maxRecDepth 100000
set_option linter.unusedSimpArgs false
set_option linter.unusedVariables false
namespace Go.Proofs.Ytadjgbhbeamdbaa.DtQ
open Go.RowKit Go.Proofs.Ytadjgbhbeamdbaa.Mem Go.Proofs.Ytadjgbhbeamdbaa.DtA Go.Proofs.Ytadjgbhbeamdbaa.DtB Go.Proofs.Ytadjgbhbeamdbaa.DtD Go.Proofs.Ytadjgbhbeamdbaa.DtF Go.Proofs.Ytadjgbhbeamdbaa.DtG Go.Proofs.Ytadjgbhbeamdbaa.DtI Go.Proofs.Ytadjgbhbeamdbaa.DtO Go.Proofs.Ytadjgbhbeamdbaa.DtP

theorem put_dqf {w : World} {B g f b c n i : Nat} {ys : List ByteArray} (h : DqF w B g (.slice (some ⟨b, 0, none⟩) n c) ys f) (hi : i < ys.length) (x : ByteArray) :
    DqF ((w.setCell ⟨b, i, none⟩ (.string x)).drew) B g (.slice (some ⟨b, 0, none⟩) n c) (ys.set i x) f := by
  have hbg : ¬ g = b := fun e => h.ne (by rw [e]; rfl)
  have ho := ((Only.refl (fun k => k = b) w).put (p := ⟨b, i, none⟩) (.inl rfl) (.string x))
  exact ⟨ho.heap h.hp hbg, h.ge, own_put h.own x, by rw [List.length_set]; exact h.le, h.ne⟩

theorem rd_pos {w : World} {A : Option Addr} {n c : Nat} {l : List ByteArray} (hr : RdI w A n c l) (w' : World) (hh : w'.heap = w.heap) (h : 0 < (ints l).length) :
    ∃ ad, A = some ad ∧ ∀ j v, (ints l)[j]? = some v → w'.cell? (ad.add j) = some v := by
  obtain ⟨ad, e, hc⟩ := hr.some_ (fun e => by rw [e] at h; exact absurd h (by decide))
  exact ⟨ad, e, fun j v hj => by have := hc j v hj; simpa [World.cell?, hh] using this⟩

set_option maxHeartbeats 2000000 in
theorem pushFront_calls (B g N N' : Nat) (v : Value) (l : List ByteArray) (A : Option Addr) (n c : Nat) (k : List ByteArray) (w : World) (hd : Dqn w B g v l N) (hr : RdI w A n c k) (hN : N ≤ N') (hN2 : n + l.length + l.length ≤ N') (hN3 : N' ≤ 8796093022208)
    (hB : B ≤ w.heap.size) (hsep : n ≠ 0 → ∀ ad, A = some ad → ad.block ≠ g ∧ v.ownBlock ≠ some ad.block) :
    Calls Try.prog 7 #[.pointer (some ⟨g, 0, none⟩), .slice A n c] w fun e w' => e = .returned (.tuple #[]) ∧ Turns B g v (k.reverse ++ l) N' w w' := by
  obtain rfl := rdi_len hr
  by_cases hk0 : k.length = 0
  · have hz : ((k.length : Int) == 0) = true := by rw [hk0]; rfl
    have hkn := List.eq_nil_of_length_eq_zero hk0
    have HK := Lib.hid hkn
    clear hkn hk0
    go_enter Try.func7, Try.ntmps7
    go_wp2_with fail
    refine bodyPost_ret (results_none rfl _ _ _) rfl ?_
    exact ⟨rfl, v, by rw [HK.out]; simpa using hd.more hN, Only.refl _ _, .inl rfl⟩
  have hdl := hd.lt
  have hol := hd.olt
  have hz : ((k.length : Int) == 0) = false := by simpa using hk0
  have hdq := hd.dq (by omega)
  obtain ⟨xs, f, hF, hxl, hn⟩ := hd
  have HL := Lib.hid hxl
  have hxn : f + l.length = xs.length := by rw [← hxl, List.length_drop]; have := hF.le; omega
  clear hxl
  obtain ⟨x0, x1, z0, z1⟩ := hF.cells
  obtain ⟨p0, rfl⟩ : ∃ p, A = some p := by
    obtain ⟨ad, e, _⟩ := hr.get 0 (.string (k[0]'(Nat.pos_of_ne_zero hk0))) (by simp [ints])
    exact ⟨ad, e⟩
  have hsepA := hsep hk0 p0 rfl
  have hplt : p0.block < w.heap.size := by
    obtain ⟨ad, e, h⟩ := hr.lt (by intro e; have := congrArg List.length e; rw [ints_len] at this; exact hk0 this)
    injection e with e; subst e; exact h
  by_cases hfn : f < k.length
  · have hfi : (f : Int) < (k.length : Int) := by omega
    obtain ⟨i, hi, iz0, iz1, iz2⟩ := elI.info
    have hsz : (Try.prog.info? 9).map (·.size) = some 1 := by rw [hi]; simp [iz1]
    obtain ⟨R, hR⟩ : ∃ R, R = k.length + l.length := ⟨_, rfl⟩
    obtain ⟨M, hM⟩ : ∃ M, M = R + l.length := ⟨_, rfl⟩
    have hRi : (k.length : Int) + (l.length : Int) = (R : Int) := by omega
    have hMi : (R : Int) + (l.length : Int) = (M : Int) := by omega
    have HI := Lib.hid (And.intro hi (And.intro iz0 (And.intro iz1 (And.intro iz2 hsz))))
    have HR := Lib.hid hR
    have HM := Lib.hid hM
    have hR44 : k.length ≤ R ∧ R ≤ M ∧ M ≤ 8796093022208 := by omega
    obtain ⟨hkR, hRM, hM44⟩ := hR44
    clear hi iz0 iz1 iz2 hsz hR hM
    go_enter Try.func7, Try.ntmps7
    go_wp2_with fail
    refine (len_calls B g v l w hdq).mono ?_
    rintro e w1 ⟨rfl, nd1, rfl⟩
    have hdq1 := hdq.drawn nd1
    have hO1 : ∀ S : Nat → Prop, Only S w (w.drewN nd1) := fun S => (Only.refl S w).drawn nd1
    generalize w.drewN nd1 = w1 at hdq1 hO1 ⊢
    go_wp2_with fail
    refine (len_calls B g v l w1 hdq1).mono ?_
    rintro e w2 ⟨rfl, nd2, rfl⟩
    have hdq2 := hdq1.drawn nd2
    have hO2 : ∀ S : Nat → Prop, Only S w (w1.drewN nd2) := fun S => (hO1 S).drawn nd2
    generalize w1.drewN nd2 = w2 at hdq2 hO2 ⊢
    have hs2 : w.heap.size ≤ w2.heap.size := (hO2 (fun _ => False)).size
    have hF2' := hF.only (hO2 (fun _ => False)) id (fun _ _ => id)
    clear x0 x1 z0 z1
    go_wp2_with (at_make; refine wpList_make_full _ rfl (.tmp 30) (.tmp 30) 26 rfl B 9 i (.string ⟨#[]⟩) 1 elI.ht HI.out.1 HI.out.2.1 HI.out.2.2.1 .i64 .i64 _ _ M rfl rfl rfl rfl (by rw [HI.out.2.2.2.1]; omega) (by unfold maxLen; omega) (by omega) ?_; intro w3 o3 g3)
    rw [show (Value.string ⟨#[]⟩).cells = #[Value.string ⟨#[]⟩] from rfl, toList_madeCells_one, Nat.mul_one] at o3
    obtain ⟨b, hb⟩ : ∃ b, b = w2.heap.size := ⟨_, rfl⟩
    rw [← hb] at o3 ⊢
    have hgb : b ≠ g := by have := hF2'.hp; have := (Array.getElem?_eq_some_iff.1 this).1; omega
    obtain ⟨cur, hcb, hcs, hct⟩ : ∃ cur : Array Value, w3.heap[b]? = some (.cells cur.toList.toArray 9 (0, 0)) ∧ cur.size = M ∧ cur.toList = List.replicate M (.string ⟨#[]⟩) := by
      rcases o3.2 with ⟨e, _⟩ | ⟨b', cap, cur, e, _, h1, _, _, h2, h3⟩
      · cases e
      injection e with e1 _ e3
      injection e1 with e1
      injection e1 with e1
      subst e1 e3
      refine ⟨cur, by simpa using h1, by omega, ?_⟩
      rw [List.take_of_length_le (by simp; omega)] at h3
      simpa using h3
    have hbel3 : Below w2.heap.size w2 w3 := (Only.of_grown g3).below (Nat.le_refl _) (fun b hb => by cases hb)
    have hdq3 := dq_below hdq2 hbel3
    have HB := Lib.hid hb
    clear o3 g3 hb
    have q0 : (0 : Int) ≤ (R : Int) := by omega
    have q1 : (R : Int) ≤ (M : Int) := by omega
    have hbel5 : ∀ nd, Below w2.heap.size w2 (w3.drewN nd) := fun nd => below_drawn hbel3 nd
    have hMR : M = R ∨ ¬ M = R := by omega
    rcases hMR with hMR | hMR
    · subst hMR
      have hl0 : l.length = 0 := by have := HM.out; omega
      have HL0 := Lib.hid hl0
      clear hl0
      have hcl : cur.toList.length = M := by rw [Array.length_toList]; exact hcs
      go_region_held3 (fun w' => Dq w' B g v l)
        (first | exact hdq3.drawn 1 | assumption | exact Dq.drawn (by assumption) _ | exact dq_below hdq2 hb5)
        (first
          | (go_at_call 36; refine (all_calls B g v l _ (by assumption)).mono ?_; rintro e w4 ⟨A4, n4, c4, nd4, rfl, hr4, hn4, hA4, rfl⟩; obtain rfl := hn4)
          | (refine step_copy_splice rfl (.tmp 34) (.tmp 36) 26 26 rfl 9 elI.ht HI.out.2.2.2.2 _ _ _ _ _ _ rfl rfl b M cur.toList 9 hcb (ints l) (by rw [ints_len, HL0.out]; rfl) (fun h => absurd h (by rw [ints_len, HL0.out]; exact Nat.lt_irrefl 0)) (by rw [ints_len, hcl]; have := HM.out; omega) (ints_one l) w2.heap.size w2 (hbel5 _) (by rw [HB.out]; exact Nat.le_refl _) ?_; intro w5 hg5 hb5))
      have hspl : splice cur.toList M (ints l) = ints (List.replicate M ⟨#[]⟩ ++ l) := by
        unfold splice
        rw [hct, ints_len, List.take_replicate, List.drop_replicate, Nat.min_eq_left hRM, show M - (M + l.length) = 0 by (have := HM.out; omega)]
        simp [ints]
      have hcells := hg5.out
      rw [hspl] at hcells
      have hlM : (List.replicate M (⟨#[]⟩ : ByteArray) ++ l).length = M := by have := HM.out; rw [List.length_append, List.length_replicate]; omega
      have hown5 : OwnI w5 B (.slice (some ⟨b, 0, none⟩) M M) (List.replicate M ⟨#[]⟩ ++ l) :=
        own_of hlM (by have := HB.out; omega) hcells (Nat.le_refl _) (by unfold maxLen; omega) (by rw [List.size_toArray, ints_len]; exact hlM) (fun j hj => by simp)
      have hg2 := (Array.getElem?_eq_some_iff.1 hF2'.hp).1
      have hF5 := hF2'.only (Only.of_below hb5) (by omega) (fun j hj => by have := (hF2'.own.lt j hj).2; omega)
      obtain ⟨x0, x1, z0, z1⟩ := hF5.cells
      have hdr0 : (List.replicate M (⟨#[]⟩ : ByteArray) ++ l).drop M = l := by rw [List.drop_append_of_le_length (by simp), List.drop_eq_nil_of_le (by simp)]; rfl
      have hleR : f ≤ (List.replicate M (⟨#[]⟩ : ByteArray) ++ l).length := by rw [List.length_append, List.length_replicate]; omega
      have hleR2 : M ≤ (List.replicate M (⟨#[]⟩ : ByteArray) ++ l).length := by rw [List.length_append, List.length_replicate]; omega
      generalize List.replicate M (⟨#[]⟩ : ByteArray) ++ l = xs0 at hown5 hdr0 hleR hleR2 hlM
      go_wp2_with fail
      have hF6 := dqf_set1 (dqf_set0 hF5.hp hF5.ge hown5 hleR (fun e => hgb (by injection e))) hleR2
      have hOW : Only (fun q => q = g ∨ v.ownBlock = some q) w ((w5.setCell ⟨g, 0, none⟩ (.slice (some ⟨b, 0, none⟩) M M)).setCell ⟨g, 1, none⟩ (.int .i64 M)) :=
        (((hO2 _).trans (Only.of_below hb5) (fun q hq => .inr (Nat.le_trans hs2 hq))).put (p := ⟨g, 0, none⟩) (.inl (.inl rfl)) _).put (p := ⟨g, 1, none⟩) (.inl (.inl rfl)) _
      generalize (w5.setCell ⟨g, 0, none⟩ (.slice (some ⟨b, 0, none⟩) M M)).setCell ⟨g, 1, none⟩ (.int .i64 M) = w6 at hF6 hOW ⊢
      have hwb : w.heap.size ≤ b := by have := HB.out; omega
      have hrd2 := hr.only hOW (fun ad e h => by injection e with e; subst e; exact h.elim hsepA.1 hsepA.2)
      have hsep2 : ∀ ad, some p0 = some ad → ¬ (ad.block = g ∨ ad.block = b) := fun ad e h => by
        injection e with e; subst e
        exact h.elim hsepA.1 (fun h => by omega)
      have hvb : (Value.slice (some ⟨b, 0, none⟩) M M).ownBlock = v.ownBlock ∨ ∃ k, (Value.slice (some ⟨b, 0, none⟩) M M).ownBlock = some k ∧ w.heap.size ≤ k := .inr ⟨b, rfl, hwb⟩
      have hbq : (b = g ∨ v.ownBlock = some b) ∨ w.heap.size ≤ b := .inr hwb
      have hMN : M ≤ N' := by have := HM.out; have := HR.out; omega
      clear x0 x1 z0 z1 hb5 hg5 hcells hspl hct hcs hcb hbel3 hbel5 hdq3 hdq2 hO2 hF5 hown5 q0 q1
      go_loopw [48] (fun i wr => ∃ (j : Nat) (ys : List ByteArray), j ≤ k.length ∧ i = .int .i64 j ∧ DqF wr B g (.slice (some ⟨b, 0, none⟩) M M) ys (M - j) ∧ ys.length = M ∧ Hid (ys.drop (M - j) = (k.take j).reverse ++ l) ∧ Only (fun q => q = g ∨ q = b) w6 wr) (fun i _ => k.length - (intOf i).toNat)
      case atStart => exact ⟨0, xs0, Nat.zero_le _, rfl, hF6, hlM, by simpa [Hid] using hdr0, Only.refl _ _⟩
      case round =>
        obtain ⟨j, ys, h1, rfl, hFr, hyl, hD, hO⟩ := hrel
        by_cases hlt : j < k.length
        · obtain ⟨x, hx⟩ : ∃ x, k[j]? = some x := ⟨_, List.getElem?_eq_getElem hlt⟩
          obtain ⟨p, hpe, cp⟩ := (hrd2.only hO hsep2).get j (.string x) (by simp [ints, hx])
          injection hpe with hpe
          subst hpe
          obtain ⟨F, hFj⟩ : ∃ F, M - j = F + 1 := ⟨M - j - 1, by omega⟩
          rw [hFj] at hFr hD
          obtain ⟨x0, x1, z0, z1⟩ := hFr.cells
          rw [Int.natCast_add] at x1
          have HX := Lib.hid hx
          have HFj := Lib.hid hFj
          have hle := hFr.le
          have hFx : F < M := by omega
          clear hx hFj
          go_wp2_with fail
          have hF1 := dqf_set1 hFr (f' := F) (by omega)
          have hO1 := hO.put (p := ⟨g, 1, none⟩) (.inl (.inl rfl)) (.int .i64 F)
          generalize wr.setCell ⟨g, 1, none⟩ (.int .i64 F) = w5 at hF1 hO1 ⊢
          clear x0 x1 z0 z1
          obtain ⟨x0, x1, z0, z1⟩ := hF1.cells
          obtain ⟨rc, rf⟩ := row_cells hF1.own
          have q0 := rf F hFx
          obtain ⟨u, q1⟩ := Option.isSome_iff_exists.1 (rc F hFx)
          have q2 : (F : Int) < (M : Int) := by omega
          have q3 : (0 : Int) ≤ (F : Int) := by omega
          clear rc rf
          go_region
          go_wp2_with fail
          have hF6 := put_dqf hF1 (i := F) (by omega) x
          have hdr : (ys.set F x).drop F = x :: ys.drop (F + 1) := by
            rw [List.drop_eq_getElem_cons (by simp; omega), List.getElem_set_self, List.drop_set_of_lt (by omega)]
          have hj := HFj.out
          refine ⟨⟨j + 1, ys.set F x, by omega, by go_num, by rw [show M - (j + 1) = F by omega]; exact hF6, by simp [hyl], ?_, (hO1.put (p := ⟨b, F, none⟩) (.inl (.inr rfl)) _).drew⟩, by simp [intOf]; omega⟩
          show (ys.set F x).drop (M - (j + 1)) = _
          rw [show M - (j + 1) = F by omega, hdr, hD.out, List.take_add_one, HX.out]
          simp
        · obtain rfl : j = k.length := by omega
          go_wp2_with fail
          go_end0
          refine ⟨rfl, _, ⟨ys, _, hFr, ?_, by omega⟩, hOW.trans hO (fun q hq => ?_), hvb⟩
          · rw [hD.out, List.take_length]
          · rcases hq with h | h
            · exact .inl (.inl h)
            · subst h; exact hbq
    · have hMl : M - R = l.length := by have := HM.out; omega
      have HML := Lib.hid hMl
      clear hMl
      have hcl : cur.toList.length = M := by rw [Array.length_toList]; exact hcs
      go_region_held3 (fun w' => Dq w' B g v l)
        (first | exact hdq3.drawn 1 | assumption | exact Dq.drawn (by assumption) _ | exact dq_below hdq2 hb5)
        (first
          | (go_at_call 36; refine (all_calls B g v l _ (by assumption)).mono ?_; rintro e w4 ⟨A4, n4, c4, nd4, rfl, hr4, hn4, hA4, rfl⟩; obtain rfl := hn4)
          | (refine step_copy_splice rfl (.tmp 34) (.tmp 36) 26 26 rfl 9 elI.ht HI.out.2.2.2.2 _ _ _ _ _ _ rfl rfl b R cur.toList 9 hcb (ints l) (by rw [ints_len, HML.out]; exact (Nat.min_self _).symm) (fun h => ⟨rfl, rd_pos hr4 _ rfl h⟩) (by rw [ints_len, hcl]; have := HM.out; omega) (ints_one l) w2.heap.size w2 (hbel5 _) (by rw [HB.out]; exact Nat.le_refl _) ?_; intro w5 hg5 hb5))
      have hspl : splice cur.toList R (ints l) = ints (List.replicate R ⟨#[]⟩ ++ l) := by
        unfold splice
        rw [hct, ints_len, List.take_replicate, List.drop_replicate, Nat.min_eq_left hRM, show M - (R + l.length) = 0 by (have := HM.out; omega)]
        simp [ints]
      have hcells := hg5.out
      rw [hspl] at hcells
      have hlM : (List.replicate R (⟨#[]⟩ : ByteArray) ++ l).length = M := by have := HM.out; rw [List.length_append, List.length_replicate]; omega
      have hown5 : OwnI w5 B (.slice (some ⟨b, 0, none⟩) M M) (List.replicate R ⟨#[]⟩ ++ l) :=
        own_of hlM (by have := HB.out; omega) hcells (Nat.le_refl _) (by unfold maxLen; omega) (by rw [List.size_toArray, ints_len]; exact hlM) (fun j hj => by simp)
      have hg2 := (Array.getElem?_eq_some_iff.1 hF2'.hp).1
      have hF5 := hF2'.only (Only.of_below hb5) (by omega) (fun j hj => by have := (hF2'.own.lt j hj).2; omega)
      obtain ⟨x0, x1, z0, z1⟩ := hF5.cells
      have hdr0 : (List.replicate R (⟨#[]⟩ : ByteArray) ++ l).drop R = l := by rw [List.drop_append_of_le_length (by simp), List.drop_eq_nil_of_le (by simp)]; rfl
      have hleR : f ≤ (List.replicate R (⟨#[]⟩ : ByteArray) ++ l).length := by rw [List.length_append, List.length_replicate]; omega
      have hleR2 : R ≤ (List.replicate R (⟨#[]⟩ : ByteArray) ++ l).length := by rw [List.length_append, List.length_replicate]; omega
      generalize List.replicate R (⟨#[]⟩ : ByteArray) ++ l = xs0 at hown5 hdr0 hleR hleR2 hlM
      go_wp2_with fail
      have hF6 := dqf_set1 (dqf_set0 hF5.hp hF5.ge hown5 hleR (fun e => hgb (by injection e))) hleR2
      have hOW : Only (fun q => q = g ∨ v.ownBlock = some q) w ((w5.setCell ⟨g, 0, none⟩ (.slice (some ⟨b, 0, none⟩) M M)).setCell ⟨g, 1, none⟩ (.int .i64 R)) :=
        (((hO2 _).trans (Only.of_below hb5) (fun q hq => .inr (Nat.le_trans hs2 hq))).put (p := ⟨g, 0, none⟩) (.inl (.inl rfl)) _).put (p := ⟨g, 1, none⟩) (.inl (.inl rfl)) _
      generalize (w5.setCell ⟨g, 0, none⟩ (.slice (some ⟨b, 0, none⟩) M M)).setCell ⟨g, 1, none⟩ (.int .i64 R) = w6 at hF6 hOW ⊢
      have hwb : w.heap.size ≤ b := by have := HB.out; omega
      have hrd2 := hr.only hOW (fun ad e h => by injection e with e; subst e; exact h.elim hsepA.1 hsepA.2)
      have hsep2 : ∀ ad, some p0 = some ad → ¬ (ad.block = g ∨ ad.block = b) := fun ad e h => by
        injection e with e; subst e
        exact h.elim hsepA.1 (fun h => by omega)
      have hvb : (Value.slice (some ⟨b, 0, none⟩) M M).ownBlock = v.ownBlock ∨ ∃ k, (Value.slice (some ⟨b, 0, none⟩) M M).ownBlock = some k ∧ w.heap.size ≤ k := .inr ⟨b, rfl, hwb⟩
      have hbq : (b = g ∨ v.ownBlock = some b) ∨ w.heap.size ≤ b := .inr hwb
      have hMN : M ≤ N' := by have := HM.out; have := HR.out; omega
      clear x0 x1 z0 z1 hb5 hg5 hcells hspl hct hcs hcb hbel3 hbel5 hdq3 hdq2 hO2 hF5 hown5 q0 q1
      go_loopw [48] (fun i wr => ∃ (j : Nat) (ys : List ByteArray), j ≤ k.length ∧ i = .int .i64 j ∧ DqF wr B g (.slice (some ⟨b, 0, none⟩) M M) ys (R - j) ∧ ys.length = M ∧ Hid (ys.drop (R - j) = (k.take j).reverse ++ l) ∧ Only (fun q => q = g ∨ q = b) w6 wr) (fun i _ => k.length - (intOf i).toNat)
      case atStart => exact ⟨0, xs0, Nat.zero_le _, rfl, hF6, hlM, by simpa [Hid] using hdr0, Only.refl _ _⟩
      case round =>
        obtain ⟨j, ys, h1, rfl, hFr, hyl, hD, hO⟩ := hrel
        by_cases hlt : j < k.length
        · obtain ⟨x, hx⟩ : ∃ x, k[j]? = some x := ⟨_, List.getElem?_eq_getElem hlt⟩
          obtain ⟨p, hpe, cp⟩ := (hrd2.only hO hsep2).get j (.string x) (by simp [ints, hx])
          injection hpe with hpe
          subst hpe
          obtain ⟨F, hFj⟩ : ∃ F, R - j = F + 1 := ⟨R - j - 1, by omega⟩
          rw [hFj] at hFr hD
          obtain ⟨x0, x1, z0, z1⟩ := hFr.cells
          rw [Int.natCast_add] at x1
          have HX := Lib.hid hx
          have HFj := Lib.hid hFj
          have hle := hFr.le
          have hFx : F < M := by omega
          clear hx hFj
          go_wp2_with fail
          have hF1 := dqf_set1 hFr (f' := F) (by omega)
          have hO1 := hO.put (p := ⟨g, 1, none⟩) (.inl (.inl rfl)) (.int .i64 F)
          generalize wr.setCell ⟨g, 1, none⟩ (.int .i64 F) = w5 at hF1 hO1 ⊢
          clear x0 x1 z0 z1
          obtain ⟨x0, x1, z0, z1⟩ := hF1.cells
          obtain ⟨rc, rf⟩ := row_cells hF1.own
          have q0 := rf F hFx
          obtain ⟨u, q1⟩ := Option.isSome_iff_exists.1 (rc F hFx)
          have q2 : (F : Int) < (M : Int) := by omega
          have q3 : (0 : Int) ≤ (F : Int) := by omega
          clear rc rf
          go_region
          go_wp2_with fail
          have hF6 := put_dqf hF1 (i := F) (by omega) x
          have hdr : (ys.set F x).drop F = x :: ys.drop (F + 1) := by
            rw [List.drop_eq_getElem_cons (by simp; omega), List.getElem_set_self, List.drop_set_of_lt (by omega)]
          have hj := HFj.out
          refine ⟨⟨j + 1, ys.set F x, by omega, by go_num, by rw [show R - (j + 1) = F by omega]; exact hF6, by simp [hyl], ?_, (hO1.put (p := ⟨b, F, none⟩) (.inl (.inr rfl)) _).drew⟩, by simp [intOf]; omega⟩
          show (ys.set F x).drop (R - (j + 1)) = _
          rw [show R - (j + 1) = F by omega, hdr, hD.out, List.take_add_one, HX.out]
          simp
        · obtain rfl : j = k.length := by omega
          go_wp2_with fail
          go_end0
          refine ⟨rfl, _, ⟨ys, _, hFr, ?_, by omega⟩, hOW.trans hO (fun q hq => ?_), hvb⟩
          · rw [hD.out, List.take_length]
          · rcases hq with h | h
            · exact .inl (.inl h)
            · subst h; exact hbq
  · have hfi : ¬ (f : Int) < (k.length : Int) := by omega
    have hle := hF.le
    obtain ⟨b, c0, rfl⟩ : ∃ b c0, v = .slice (some ⟨b, 0, none⟩) xs.length c0 := by
      rcases hF.own.2 with ⟨e, h0⟩ | ⟨b, cap, cur, e, _⟩
      · omega
      · exact ⟨b, cap, e⟩
    obtain ⟨xs0, hxs0⟩ : ∃ xs0, xs0 = xs := ⟨_, rfl⟩
    obtain ⟨F0, hf0⟩ : ∃ F0, F0 = f := ⟨_, rfl⟩
    have hF2 := hF
    have hD0 : xs0.drop F0 = l := by rw [hxs0, hf0]; exact HL.out
    rw [← hxs0, ← hf0] at hF2
    have hrd2 := hr
    obtain ⟨w2, hw2⟩ : ∃ w2, w2 = w := ⟨_, rfl⟩
    rw [← hw2] at hF2 hrd2
    have hsep2 : ∀ ad, some p0 = some ad → ¬ (ad.block = g ∨ ad.block = b) := fun ad e h => by
      injection e with e; subst e
      exact h.elim hsepA.1 (fun h => hsepA.2 (by rw [h]; rfl))
    have hOW : Only (fun q => q = g ∨ (Value.slice (some ⟨b, 0, none⟩) xs.length c0).ownBlock = some q) w w2 := hw2 ▸ Only.refl _ _
    have hvb : (Value.slice (some ⟨b, 0, none⟩) xs0.length c0).ownBlock = (Value.slice (some ⟨b, 0, none⟩) xs.length c0).ownBlock ∨ ∃ k, (Value.slice (some ⟨b, 0, none⟩) xs0.length c0).ownBlock = some k ∧ w.heap.size ≤ k := .inl rfl
    have hbq : (b = g ∨ (Value.slice (some ⟨b, 0, none⟩) xs.length c0).ownBlock = some b) ∨ w.heap.size ≤ b := .inl (.inr rfl)
    have hX : xs0.length ≤ N' := by rw [hxs0]; omega
    have hkF : k.length ≤ F0 := by omega
    have HX0 := Lib.hid hxs0
    have HF0 := Lib.hid hf0
    have HW2 := Lib.hid hw2
    clear hxs0 hf0
    go_enter Try.func7, Try.ntmps7
    go_wp2_with fail
    rw [← hw2]
    clear hw2
    go_loopw [48] (fun i wr => ∃ (j : Nat) (ys : List ByteArray), j ≤ k.length ∧ i = .int .i64 j ∧ DqF wr B g (.slice (some ⟨b, 0, none⟩) xs0.length c0) ys (F0 - j) ∧ ys.length = xs0.length ∧ Hid (ys.drop (F0 - j) = (k.take j).reverse ++ l) ∧ Only (fun q => q = g ∨ q = b) w2 wr) (fun i _ => k.length - (intOf i).toNat)
    case atStart => exact ⟨0, xs0, Nat.zero_le _, rfl, hF2, rfl, by simpa [Hid] using hD0, Only.refl _ _⟩
    case round =>
      obtain ⟨j, ys, h1, rfl, hFr, hyl, hD, hO⟩ := hrel
      by_cases hlt : j < k.length
      · obtain ⟨x, hx⟩ : ∃ x, k[j]? = some x := ⟨_, List.getElem?_eq_getElem hlt⟩
        obtain ⟨p, hpe, cp⟩ := (hrd2.only hO hsep2).get j (.string x) (by simp [ints, hx])
        injection hpe with hpe
        subst hpe
        obtain ⟨F, hFj⟩ : ∃ F, F0 - j = F + 1 := ⟨F0 - j - 1, by omega⟩
        rw [hFj] at hFr hD
        obtain ⟨x0, x1, z0, z1⟩ := hFr.cells
        rw [Int.natCast_add] at x1
        have HX := Lib.hid hx
        have HFj := Lib.hid hFj
        have hle := hFr.le
        have hFx : F < xs0.length := by omega
        clear hx hFj
        go_wp2_with fail
        have hF1 := dqf_set1 hFr (f' := F) (by omega)
        have hO1 := hO.put (p := ⟨g, 1, none⟩) (.inl (.inl rfl)) (.int .i64 F)
        generalize wr.setCell ⟨g, 1, none⟩ (.int .i64 F) = w5 at hF1 hO1 ⊢
        clear x0 x1 z0 z1
        obtain ⟨x0, x1, z0, z1⟩ := hF1.cells
        obtain ⟨rc, rf⟩ := row_cells hF1.own
        have q0 := rf F hFx
        obtain ⟨u, q1⟩ := Option.isSome_iff_exists.1 (rc F hFx)
        have q2 : (F : Int) < (xs0.length : Int) := by omega
        have q3 : (0 : Int) ≤ (F : Int) := by omega
        clear rc rf
        go_region
        go_wp2_with fail
        have hF6 := put_dqf hF1 (i := F) (by omega) x
        have hdr : (ys.set F x).drop F = x :: ys.drop (F + 1) := by
          rw [List.drop_eq_getElem_cons (by simp; omega), List.getElem_set_self, List.drop_set_of_lt (by omega)]
        have hj := HFj.out
        refine ⟨⟨j + 1, ys.set F x, by omega, by go_num, by rw [show F0 - (j + 1) = F by omega]; exact hF6, by simp [hyl], ?_, (hO1.put (p := ⟨b, F, none⟩) (.inl (.inr rfl)) _).drew⟩, by simp [intOf]; omega⟩
        show (ys.set F x).drop (F0 - (j + 1)) = _
        rw [show F0 - (j + 1) = F by omega, hdr, hD.out, List.take_add_one, HX.out]
        simp
      · obtain rfl : j = k.length := by omega
        go_wp2_with fail
        go_end0
        refine ⟨rfl, _, ⟨ys, _, hFr, ?_, by omega⟩, hOW.trans hO (fun q hq => ?_), hvb⟩
        · rw [hD.out, List.take_length]
        · rcases hq with h | h
          · exact .inl (.inl h)
          · subst h; exact hbq
end Go.Proofs.Ytadjgbhbeamdbaa.DtQ
