/-
  EffectBack: the law's walk. Conditions: as stated.
-/
import Derived.Test.YtgmnnpbbiejbnaaGreatEfM
import Derived.Test.YtgmnnpbbiejbnaaGreatEfO
set_option maxRecDepth 100000
set_option linter.unusedSimpArgs false
set_option linter.unusedVariables false
namespace Go.Proofs.YtgmnnpbbiejbnaaGreat.EfP
open Go.RowKit Go.Proofs.YtgmnnpbbiejbnaaGreat.Mem Go.Proofs.YtgmnnpbbiejbnaaGreat.VaA Go.Proofs.YtgmnnpbbiejbnaaGreat.VaC Go.Proofs.YtgmnnpbbiejbnaaGreat.VaE Go.Proofs.YtgmnnpbbiejbnaaGreat.VaH Go.Proofs.YtgmnnpbbiejbnaaGreat.VaI Go.Proofs.YtgmnnpbbiejbnaaGreat.VaX Go.Proofs.YtgmnnpbbiejbnaaGreat.DuA Go.Proofs.YtgmnnpbbiejbnaaGreat.SpA Go.Proofs.YtgmnnpbbiejbnaaGreat.SpB Go.Proofs.YtgmnnpbbiejbnaaGreat.SpC Go.Proofs.YtgmnnpbbiejbnaaGreat.SpD Go.Proofs.YtgmnnpbbiejbnaaGreat.SpE Go.Proofs.YtgmnnpbbiejbnaaGreat.SpF Go.Proofs.YtgmnnpbbiejbnaaGreat.SpG Go.Proofs.YtgmnnpbbiejbnaaGreat.EfA Go.Proofs.YtgmnnpbbiejbnaaGreat.EfB Go.Proofs.YtgmnnpbbiejbnaaGreat.EfD Go.Proofs.YtgmnnpbbiejbnaaGreat.EfE Go.Proofs.YtgmnnpbbiejbnaaGreat.EfF Go.Proofs.YtgmnnpbbiejbnaaGreat.EfG Go.Proofs.YtgmnnpbbiejbnaaGreat.EfH Go.Proofs.YtgmnnpbbiejbnaaGreat.EfI Go.Proofs.YtgmnnpbbiejbnaaGreat.EfM Go.Proofs.YtgmnnpbbiejbnaaGreat.EfO Go.Proofs.YtgmnnpbbiejbnaaGreat.SpH Go.Proofs.YtgmnnpbbiejbnaaGreat.SpI Go.Proofs.YtgmnnpbbiejbnaaGreat.SpJ Go.Proofs.YtgmnnpbbiejbnaaGreat.SpK Go.Proofs.YtgmnnpbbiejbnaaGreat.SpM Go.Proofs.YtgmnnpbbiejbnaaGreat.SpO Go.Proofs.YtgmnnpbbiejbnaaGreat.SpP Go.Proofs.YtgmnnpbbiejbnaaGreat.SpR Go.Proofs.YtgmnnpbbiejbnaaGreat.SpV Go.Proofs.YtgmnnpbbiejbnaaGreat.SpZ Go.Proofs.YtgmnnpbbiejbnaaGreat.SrC
open Go.Proofs.YtgmnnpbbiejbnaaGreat.VaP (unle unle_lt)
open Go.Proofs.YtgmnnpbbiejbnaaGreat.VbA (decD)
open Go.Proofs.YtgmnnpbbiejbnaaGreat.VbB (NwW DecPost)
open Go.Proofs.YtgmnnpbbiejbnaaGreat.EfL (sure_calls)
open Go.Proofs.YtgmnnpbbiejbnaaGreat.LawS (wtE okE)

theorem encR_ok {ps : List PE} (h : ps.all mayP = true) : EfB.encR ps = (⟨(encL ps).toArray⟩, 0) := by unfold EfB.encR; rw [h]; rfl
theorem encR_no {ps : List PE} (h : ps.all mayP = false) : EfB.encR ps = (⟨#[]⟩, 160) := by unfold EfB.encR; rw [h]; rfl
theorem key_le {p : PE} (h : mayP p = true) : p.key.size ≤ (bytesE p).length := by
  have hxx : p.key.data.toList.length = p.key.size := by rw [Array.length_toList]; rfl
  unfold mayP at h
  unfold bytesE
  split at h
  · rename_i k; rw [if_pos k]; simp only [List.length_cons, List.length_append, le_len, hxx]; omega
  · rename_i k1
    rw [if_neg k1]
    split at h
    · rename_i k; rw [if_pos k]; simp only [List.length_cons, List.length_append, le_len, hxx]; omega
    · rename_i k2
      rw [if_neg k2]
      split at h
      · rename_i k; rw [if_pos k]; simp only [List.length_cons, List.length_append, le_len, hxx]; omega
      · rename_i k3
        rw [if_neg k3]
        split at h
        · simp only [Bool.and_eq_true, decide_eq_true_eq] at h
          rw [h.2]; exact Nat.zero_le _
        · cases h
theorem key_all {l : List PE} (h : l.all mayP = true) : ∀ p ∈ l, p.key.size ≤ (encL l).length := by
  intro p hp
  have h1 := key_le (List.all_eq_true.1 h p hp)
  obtain ⟨a, b, rfl⟩ := List.append_of_mem hp
  unfold encL
  simp only [List.flatMap_append, List.flatMap_cons, List.length_append]
  omega
theorem fine_of {W : World} {z : List EV} (hz : ∀ e ∈ z, okE W e) (hm : (z.map peOf).all mayP = true) : ∀ p ∈ z.map peOf, Fine p := by
  intro p hp
  have hmp := List.all_eq_true.1 hm p hp
  obtain ⟨e, he, rfl⟩ := List.mem_map.1 hp
  have ok := hz e he
  have l1 := VaC.rds_len ok.rd.l
  have l2 := VaC.rdf_len ok.rd.f
  have l3 := VaC.rdk_len ok.rd.k
  have s1 := ok.sm.ln
  have s2 := ok.sm.fn
  have s3 := ok.sm.kn
  have s4 := ok.key
  exact ⟨hmp, by show e.key.size ≤ _; omega, by show e.x.list.length < _; omega, by show e.x.flds.length < _; omega, by show e.x.rank.length < _; omega⟩
/-- Is the program's answer at bytes what it should be: what follows their reading. -/
theorem dec_enc_row {s : ByteArray} {w : World} {B : Nat} {v : Value} {es : List EV} {l : List PE} (hd : decAll s = some l) (hF : Fv w B v es l) (hs : s.size ≤ 100000000) :
    es.map peOf = l ∧ (∀ e ∈ es, RdV w e.x ∧ Sm e.x ∧ e.key.size ≤ 100000000) ∧ EfB.encR l = (s, 0) ∧ (encL l).length ≤ 1000000000000 := by
  obtain ⟨a1, a2⟩ := decF_is _ hd
  obtain ⟨m1, m2⟩ := evs_map hF.rel
  have hz : (encL l).length = s.size := by rw [← a2]; exact VcQ.size_list s
  refine ⟨m1, fun e he => ⟨(m2 e he).1, (m2 e he).2, ?_⟩, ?_, by omega⟩
  · have h1 : peOf e ∈ l := by rw [← m1]; exact List.mem_map_of_mem he
    have h2 := key_all a1 _ h1
    have h3 : (peOf e).key = e.key := rfl
    rw [h3] at h2; omega
  · rw [encR_ok a1, ← a2]
set_option maxHeartbeats 8000000 in
theorem back_upto (a0 : Option Addr) (n0 c0 : Nat) (z0 : List EV) (s : ByteArray) (W : World) (R0 : Rd W 8 a0 n0 c0 (z0.flatMap EV.cells)) (L0 : z0.length = n0) (K0 : ∀ x ∈ z0, okE W x) (M0 : (z0.map wtE).sum ≤ 1048576) (hs : s.size ≤ 1048576) :
    Calls Tryz.prog 5 #[.slice a0 n0 c0, .string s] W fun e w' => e = .returned (.bool true) ∧ Below W.heap.size W w' := by
  have hn0 : n0 ≤ 1048576 := by have := row_n (l := z0); omega
  have hsz : (encL (z0.map peOf)).length ≤ 33554432 := Nat.le_trans (encL_le K0) (by omega)
  have hok : ∀ e ∈ z0, RdV W e.x ∧ Sm e.x ∧ e.key.size ≤ 100000000 := fun e he => ⟨(K0 e he).rd, (K0 e he).sm, by have := (K0 e he).key; omega⟩
  have hcap := R0.cap
  have hbig := R0.big
  unfold maxLen at hbig
  have hen := EfB.encode_calls a0 n0 c0 z0 W R0 hok (by omega)
  have hdc2 := fun w => decode_calls s w (by omega)
  obtain ⟨ps, hps⟩ : ∃ ps, z0.map peOf = ps := ⟨_, rfl⟩
  rw [hps] at hen hsz
  cases hm : ps.all mayP with
  | true =>
    have hfi := fine_of K0 (by rw [hps]; exact hm)
    rw [hps] at hfi
    obtain ⟨S, hS⟩ : ∃ S : ByteArray, (⟨(encL ps).toArray⟩ : ByteArray) = S := ⟨_, rfl⟩
    rw [encR_ok hm, hS] at hen
    dsimp only at hen
    have hSl : S.data.toList = encL ps := by rw [← hS]
    have hSz : S.size ≤ 100000000 := by have := VcQ.size_list S; rw [hSl] at this; omega
    have hdS : decAll S = some ps := decF_enc ps hfi hSl (Nat.le_refl _)
    have H := Lib.hid (And.intro R0 (And.intro L0 (And.intro hok (And.intro hps (And.intro hdS hSz)))))
    clear R0 L0 K0 M0 hok hsz hps hm hfi hS hSl hdS
    go_enter Tryz.func5, Tryz.ntmps5
    go_wp2_with fail
    refine hen.mono ?_
    clear hen
    rintro e w1 ⟨rfl, b1⟩
    have HB1 := Lib.hid b1
    clear b1
    go_wp2_with fail
    refine (decode_calls S w1 hSz).mono ?_
    rintro e w2 ⟨b2, h2⟩
    obtain ⟨R0, L0, hok, hps, hdS, -⟩ := H.out
    rw [hdS] at h2
    dsimp only at h2
    obtain ⟨v2, es2, rfl, F2⟩ := h2
    obtain ⟨A2, c2, rfl⟩ := own_form F2.own
    obtain ⟨hmap, hval⟩ := evs_map F2.rel
    have hl2 : es2.length = n0 := by have := F2.rel.1; rw [← hps, List.length_map] at this; omega
    have rd2 := Rd.of_own F2.own
    rw [hl2] at rd2 ⊢
    have b02 := EfA.bb HB1.out b2
    have hse := sameEffects_eq A2 a0 n0 c2 c0 es2 z0 w2 rd2 (R0.below b02) (fun e he => (hval e he).1) (fun e he => (hok e he).1.below b02) (by rw [hmap, hps])
    have HB2 := Lib.hid b02
    clear R0 L0 hok hps hdS F2 hmap hval hl2 rd2 b02 b2
    go_wp2_with fail
    refine hse.mono ?_
    clear hse
    rintro e w3 ⟨rfl, b3⟩
    have HB3 := Lib.hid (EfA.bb HB2.out b3)
    clear b3 H
    cases hd : decAll s with
    | none =>
      go_wp2_with fail
      refine (hdc2 _).mono ?_
      clear hdc2
      rintro e wa ⟨ba, ha⟩
      rw [hd] at ha
      dsimp only at ha
      subst ha
      have HA := Lib.hid (EfA.bb HB3.out ba)
      clear ba
      go_wp2_with fail
      refine (sure_calls _).mono ?_
      rintro e wb ⟨rfl, bb⟩
      go_wp2_with fail
      go_ret
      exact ⟨rfl, EfA.bb HA.out bb⟩
    | some l =>
      go_wp2_with fail
      refine (hdc2 _).mono ?_
      clear hdc2
      rintro e wa ⟨ba, ha⟩
      rw [hd] at ha
      dsimp only at ha
      obtain ⟨va, ea, rfl, Fa⟩ := ha
      obtain ⟨Aa, ca, rfl⟩ := own_form Fa.own
      obtain ⟨m1, m2, m3, m4⟩ := dec_enc_row hd Fa (by omega)
      have hee := EfB.encode_calls Aa ea.length ca ea wa (Rd.of_own Fa.own) m2 (by rw [m1]; exact m4)
      rw [m1, m3] at hee
      dsimp only at hee
      have HA := Lib.hid (EfA.bb HB3.out ba)
      have hs0 : (s.toList == s.toList) = true := by simp
      clear ba Fa m1 m2 m3 m4
      go_wp2_with fail
      refine hee.mono ?_
      clear hee
      rintro e wc ⟨rfl, bc⟩
      have HC := Lib.hid (EfA.bb HA.out bc)
      clear bc
      go_wp2_with fail
      refine (sure_calls _).mono ?_
      rintro e wb ⟨rfl, bb⟩
      go_wp2_with fail
      go_ret
      exact ⟨rfl, EfA.bb HC.out bb⟩
  | false =>
    rw [encR_no hm] at hen
    dsimp only at hen
    have H := Lib.hid (And.intro R0 (And.intro L0 (And.intro hok (And.intro hps hm))))
    clear R0 L0 K0 M0 hok hsz hps hm
    go_enter Tryz.func5, Tryz.ntmps5
    go_wp2_with fail
    refine hen.mono ?_
    clear hen
    rintro e w1 ⟨rfl, b1⟩
    have HB1 := Lib.hid b1
    clear b1
    go_wp2_with fail
    go_loopw [9, 10] (fun f i wr => ∃ k : Nat, k ≤ n0 ∧ i = .int .i64 k ∧ f = .bool ((ps.take k).all mayP) ∧ Below w1.heap.size w1 wr) (fun _ i _ => n0 - (intOf i).toNat)
    case atStart => exact ⟨0, Nat.zero_le _, rfl, rfl, Below.refl _ _⟩
    case round =>
      obtain ⟨k, hk, rfl, rfl, hb⟩ := hrel
      by_cases hlt : k < n0
      · obtain ⟨R0, L0, hok, hps, hm⟩ := H.out
        obtain ⟨e0, he0⟩ : ∃ e0, z0[k]? = some e0 := ⟨_, List.getElem?_eq_getElem (by omega)⟩
        obtain ⟨rv, sm, -⟩ := hok e0 (List.mem_of_getElem? he0)
        have hp0 : ps[k]? = some (peOf e0) := by rw [← hps, List.getElem?_map, he0]; rfl
        have hst : (ps.take (k + 1)).all mayP = ((ps.take k).all mayP && mayP (peOf e0)) := by
          rw [List.take_add_one, hp0, Option.toList_some, List.all_append]; simp
        obtain ⟨pa, rfl, cx⟩ := rd_rows_get (c := EV.cells) ev_len R0 he0 (by decide)
        have hbW : Below W.heap.size W wr := EfA.bb HB1.out hb
        have hmy := mayR_calls e0 wr (rv.below hbW) sm
        obtain ⟨kd, key, x, due⟩ := e0
        dsimp only at rv sm
        obtain ⟨mb, hmb⟩ : ∃ mb, mayP (peOf ⟨kd, key, x, due⟩) = mb := ⟨_, rfl⟩
        rw [hmb] at hmy hst
        unfold evV at hmy
        dsimp only at hmy
        have g0 : wr.cell? (pa.add (k * 8)) = some (.int .i64 kd) := below_c (cx 0 _ rfl) hbW
        have g1 : wr.cell? ⟨(pa.add (k * 8)).block, (pa.add (k * 8)).off + 1, none⟩ = some (.string key) := below_c (cx 1 _ rfl) hbW
        have g2 : wr.cell? ⟨(pa.add (k * 8)).block, (pa.add (k * 8)).off + 2, none⟩ = some (.int .i64 x.kind) := below_c (cx 2 _ rfl) hbW
        have g3 : wr.cell? ⟨(pa.add (k * 8)).block, (pa.add (k * 8)).off + 3, none⟩ = some (.string x.text) := below_c (cx 3 _ rfl) hbW
        have g4 : wr.cell? ⟨(pa.add (k * 8)).block, (pa.add (k * 8)).off + 4, none⟩ = some (.slice x.LA x.ln x.lc) := below_c (cx 4 _ rfl) hbW
        have g5 : wr.cell? ⟨(pa.add (k * 8)).block, (pa.add (k * 8)).off + 5, none⟩ = some (.slice x.FA x.fn x.fc) := below_c (cx 5 _ rfl) hbW
        have g6 : wr.cell? ⟨(pa.add (k * 8)).block, (pa.add (k * 8)).off + 6, none⟩ = some (.slice x.KA x.kn x.kc) := below_c (cx 6 _ rfl) hbW
        have g7 : wr.cell? ⟨(pa.add (k * 8)).block, (pa.add (k * 8)).off + 7, none⟩ = some (.int .i64 due) := below_c (cx 7 _ rfl) hbW
        obtain ⟨fb, hfb⟩ : ∃ fb, (ps.take k).all mayP = fb := ⟨_, rfl⟩
        rw [hfb] at hst ⊢
        have hkn : ((k : Nat) : Int) < (n0 : Int) := by omega
        have HQ := Lib.hid (And.intro hst hb)
        clear R0 L0 hok hps hm he0 rv sm hp0 hst cx hbW hmb hfb hb
        cases fb with
        | true =>
          go_wp2_with fail
          refine hmy.mono ?_
          clear hmy g0 g1 g2 g3 g4 g5 g6 g7
          rintro e w4 ⟨rfl, b4⟩
          go_wp2_with fail
          exact ⟨⟨k + 1, by omega, by go_num, by rw [HQ.out.1]; simp, EfA.bb HQ.out.2 b4⟩, by simp [intOf]; omega⟩
        | false =>
          clear hmy g0 g1 g2 g3 g4 g5 g6 g7
          go_wp2_with fail
          exact ⟨⟨k + 1, by omega, by go_num, by rw [HQ.out.1]; simp, HQ.out.2⟩, by simp [intOf]; omega⟩
      · obtain rfl : k = n0 := by omega
        obtain ⟨R0, L0, hok, hps, hm⟩ := H.out
        rw [List.take_of_length_le (by rw [← hps, List.length_map]; omega), hm]
        have HB3 := Lib.hid (EfA.bb HB1.out hb)
        clear R0 L0 hok hps hm hb
        cases hd : decAll s with
        | none =>
          go_wp2_with fail
          refine (hdc2 _).mono ?_
          clear hdc2
          rintro e wa ⟨ba, ha⟩
          rw [hd] at ha
          dsimp only at ha
          subst ha
          have HA := Lib.hid (EfA.bb HB3.out ba)
          clear ba
          go_wp2_with fail
          refine (sure_calls _).mono ?_
          rintro e wb ⟨rfl, bb⟩
          go_wp2_with fail
          go_ret
          exact ⟨rfl, EfA.bb HA.out bb⟩
        | some l =>
          go_wp2_with fail
          refine (hdc2 _).mono ?_
          clear hdc2
          rintro e wa ⟨ba, ha⟩
          rw [hd] at ha
          dsimp only at ha
          obtain ⟨va, ea, rfl, Fa⟩ := ha
          obtain ⟨Aa, ca, rfl⟩ := own_form Fa.own
          obtain ⟨m1, m2, m3, m4⟩ := dec_enc_row hd Fa (by omega)
          have hee := EfB.encode_calls Aa ea.length ca ea wa (Rd.of_own Fa.own) m2 (by rw [m1]; exact m4)
          rw [m1, m3] at hee
          dsimp only at hee
          have HA := Lib.hid (EfA.bb HB3.out ba)
          have hs0 : (s.toList == s.toList) = true := by simp
          clear ba Fa m1 m2 m3 m4
          go_wp2_with fail
          refine hee.mono ?_
          clear hee
          rintro e wc ⟨rfl, bc⟩
          have HC := Lib.hid (EfA.bb HA.out bc)
          clear bc
          go_wp2_with fail
          refine (sure_calls _).mono ?_
          rintro e wb ⟨rfl, bb⟩
          go_wp2_with fail
          go_ret
          exact ⟨rfl, EfA.bb HC.out bb⟩
end Go.Proofs.YtgmnnpbbiejbnaaGreat.EfP
