/-
  Two spaces side by side. Conditions: as stated.
-/
import Derived.Test.YtjofbagaobdmoaaGreatSqJ
import Derived.Test.YtjofbagaobdmoaaGreatSqK
set_option maxRecDepth 100000
set_option linter.unusedSimpArgs false
set_option linter.unusedVariables false
namespace Go.Proofs.YtjofbagaobdmoaaGreat.SrD
open Go.RowKit Go.Proofs.YtjofbagaobdmoaaGreat.Mem Go.Proofs.YtjofbagaobdmoaaGreat.VaC Go.Proofs.YtjofbagaobdmoaaGreat.VaE Go.Proofs.YtjofbagaobdmoaaGreat.VaH Go.Proofs.YtjofbagaobdmoaaGreat.VaI Go.Proofs.YtjofbagaobdmoaaGreat.VaX Go.Proofs.YtjofbagaobdmoaaGreat.DuA Go.Proofs.YtjofbagaobdmoaaGreat.SpA Go.Proofs.YtjofbagaobdmoaaGreat.SpB Go.Proofs.YtjofbagaobdmoaaGreat.SpC Go.Proofs.YtjofbagaobdmoaaGreat.SpD Go.Proofs.YtjofbagaobdmoaaGreat.SpE Go.Proofs.YtjofbagaobdmoaaGreat.SpF Go.Proofs.YtjofbagaobdmoaaGreat.SpG Go.Proofs.YtjofbagaobdmoaaGreat.SpH Go.Proofs.YtjofbagaobdmoaaGreat.SpI Go.Proofs.YtjofbagaobdmoaaGreat.SpJ Go.Proofs.YtjofbagaobdmoaaGreat.SpK Go.Proofs.YtjofbagaobdmoaaGreat.SpL Go.Proofs.YtjofbagaobdmoaaGreat.SpM Go.Proofs.YtjofbagaobdmoaaGreat.SpN Go.Proofs.YtjofbagaobdmoaaGreat.SpO Go.Proofs.YtjofbagaobdmoaaGreat.SpP Go.Proofs.YtjofbagaobdmoaaGreat.SpQ Go.Proofs.YtjofbagaobdmoaaGreat.SpR Go.Proofs.YtjofbagaobdmoaaGreat.SpS Go.Proofs.YtjofbagaobdmoaaGreat.SpT Go.Proofs.YtjofbagaobdmoaaGreat.SpU Go.Proofs.YtjofbagaobdmoaaGreat.SpV Go.Proofs.YtjofbagaobdmoaaGreat.SpW Go.Proofs.YtjofbagaobdmoaaGreat.SpY Go.Proofs.YtjofbagaobdmoaaGreat.SpZ Go.Proofs.YtjofbagaobdmoaaGreat.SrA Go.Proofs.YtjofbagaobdmoaaGreat.SrB Go.Proofs.YtjofbagaobdmoaaGreat.SrC
open Go.Proofs.YtjofbagaobdmoaaGreat.LawS (OV)
open Go.Proofs.YtjofbagaobdmoaaGreat.DsH (Ix IxS okk keyed key_of)
open Go.Proofs.YtjofbagaobdmoaaGreat.DsK (OwnKs RdKs keysV keysV_one elKs)



/-- Two spaces, apart from each other and from Kp. -/
structure Pr (w : World) (B gs gt N M : Nat) (s t : PS) (Kp : Nat → Prop) : Prop where
  ex : ∃ F G : Lay, F.g = gs ∧ G.g = gt ∧ Sp w B F N s ∧ Sp w B G M t ∧ (∀ k, F.X k ↔ Ft G k) ∧ (∀ k, G.X k ↔ Ft F k) ∧ (∀ k, Ft F k → ¬ Ft G k) ∧ (∀ k, Kp k → k < w.heap.size ∧ ¬ Ft F k ∧ ¬ Ft G k)
  sz : B ≤ w.heap.size
section
variable {w w' : World} {B gs gt N M : Nat} {s t : PS} {Kp : Nat → Prop}
theorem Pr.swap (h : Pr w B gs gt N M s t Kp) : Pr w B gt gs M N t s Kp := by
  obtain ⟨⟨F, G, e1, e2, hs, ht, x1, x2, hd, hk⟩, hz⟩ := h
  exact ⟨⟨G, F, e2, e1, ht, hs, x2, x1, fun k a b => hd k b a, fun k q => ⟨(hk k q).1, (hk k q).2.2, (hk k q).2.1⟩⟩, hz⟩
theorem pr_turn {F G F' : Lay} {N' : Nat} {s' : PS} (ht : Sp w B G M t) (hs : Sp w' B F' N' s') (Mv : Moves F F' w w') (x1 : ∀ k, F.X k ↔ Ft G k) (x2 : ∀ k, G.X k ↔ Ft F k) (hd : ∀ k, Ft F k → ¬ Ft G k) (hk : ∀ k, Kp k → k < w.heap.size ∧ ¬ Ft F k ∧ ¬ Ft G k) (hz : B ≤ w.heap.size) :
    Pr w' B F.g G.g N' M s' t Kp ∧ Only (fun k => ¬ Kp k) w w' := by
  have h1 := ht.ghost (X' := fun k => Ft F k ∨ w.heap.size ≤ k) (fun k hk e => e.elim (x2 k).2 (fun e => by omega))
  have h2 := Sp.only h1 Mv.only (fun k a b => hd k b a) (fun k _ a => .inr (.inl a))
  have h3 := h2.ghost (X' := Ft F') (fun k _ e => Mv.sub k e)
  refine ⟨⟨⟨F', { G with X := Ft F' }, Mv.g, rfl, hs, h3, fun k => by rw [Mv.x]; exact x1 k, fun k => Iff.rfl, fun k a b => ?_, fun k q => ⟨Nat.lt_of_lt_of_le (hk k q).1 Mv.only.size, fun e => ?_, (hk k q).2.2⟩⟩, Nat.le_trans hz Mv.only.size⟩, Mv.only.mono (fun k e q => (hk k q).2.1 e)⟩
  · rcases Mv.sub k a with a | a
    · exact hd k a b
    · have := (ht.lt k b).2; omega
  · rcases Mv.sub k e with a | a
    · exact (hk k q).2.1 a
    · have := (hk k q).1; omega
theorem Pr.below (h : Pr w B gs gt N M s t Kp) (hb : Below w.heap.size w w') : Pr w' B gs gt N M s t Kp := by
  obtain ⟨⟨F, G, e1, e2, hs, ht, x1, x2, hd, hk⟩, hz⟩ := h
  exact ⟨⟨F, G, e1, e2, hs.below hb, ht.below hb, x1, x2, hd, fun k q => ⟨Nat.lt_of_lt_of_le (hk k q).1 hb.size, (hk k q).2⟩⟩, Nat.le_trans hz hb.size⟩
theorem put_pr (h : Pr w B gs gt N M s t Kp) (k : ByteArray) {x : VV} {p : PV} (due : Int) {r : Int} {s' : PS} (hr : putE p due = r) (he : putS s k p due = s') (hx : Vok w (fun q => ¬ Kp q) x p) (hk : k.size ≤ 100000000) (hN : N ≤ 999999999) (hc : s.cnt ≤ 4611686018427387903) (hch : s.ch.length ≤ 1000000000) :
    Calls Tryz.prog 10 #[.pointer (some ⟨gs, 0, none⟩), .string k, x.val, .int .i64 due] w fun e w' => e = .returned (.int .i64 r) ∧ Pr w' B gs gt (N + 2) M s' t Kp ∧ Only (fun k => ¬ Kp k) w w' := by
  obtain ⟨⟨F, G, rfl, rfl, hs, ht, x1, x2, hd, hk9⟩, hz⟩ := h
  have hX : ∀ k, F.X k → k < w.heap.size := fun q e => (ht.lt q ((x1 q).1 e)).2
  subst hr he
  refine (put_calls B F N s k x p due w hs hz hk (hx.move (Only.refl (fun _ => False) w) (fun _ _ e => e.elim) (fun q _ e q2 => (hk9 q q2).2.1 e)) hX hN hc hch).mono ?_
  rintro e w' ⟨rfl, F', hs', Mv⟩
  exact ⟨rfl, pr_turn ht hs' Mv x1 x2 hd hk9 hz⟩
theorem drop_pr (h : Pr w B gs gt N M s t Kp) (k : ByteArray) {r : Bool} {s' : PS} (hr : (getK s.l k).isSome = r) (he : dropS s k = s') (hk : k.size ≤ 100000000) (hN : N ≤ 999999999) (hc : s.cnt ≤ 4611686018427387903) (hch : s.ch.length ≤ 1000000000) :
    Calls Tryz.prog 12 #[.pointer (some ⟨gs, 0, none⟩), .string k] w fun e w' => e = .returned (.bool r) ∧ Pr w' B gs gt (N + 1) M s' t Kp ∧ Only (fun k => ¬ Kp k) w w' := by
  obtain ⟨⟨F, G, rfl, rfl, hs, ht, x1, x2, hd, hk9⟩, hz⟩ := h
  have hX : ∀ k, F.X k → k < w.heap.size := fun q e => (ht.lt q ((x1 q).1 e)).2
  subst hr he
  refine (drop_calls B F N s k w hs hz hk hX hN hc hch).mono ?_
  rintro e w' ⟨rfl, F', hs', Mv⟩
  exact ⟨rfl, pr_turn ht hs' Mv x1 x2 hd hk9 hz⟩
theorem setDue_pr (h : Pr w B gs gt N M s t Kp) (k : ByteArray) (due : Int) {r : Bool} {s' : PS} (hr : dueB s k due = r) (he : dueS s k due = s') (hk : k.size ≤ 100000000) (hN : N ≤ 999999999) (hc : s.cnt ≤ 4611686018427387903) (hch : s.ch.length ≤ 1000000000) :
    Calls Tryz.prog 13 #[.pointer (some ⟨gs, 0, none⟩), .string k, .int .i64 due] w fun e w' => e = .returned (.bool r) ∧ Pr w' B gs gt (N + 2) M s' t Kp ∧ Only (fun k => ¬ Kp k) w w' := by
  obtain ⟨⟨F, G, rfl, rfl, hs, ht, x1, x2, hd, hk9⟩, hz⟩ := h
  have hX : ∀ k, F.X k → k < w.heap.size := fun q e => (ht.lt q ((x1 q).1 e)).2
  subst hr he
  refine (setDue_calls B F N s k due w hs hz hk hX hN hc hch).mono ?_
  rintro e w' ⟨rfl, F', hs', Mv⟩
  exact ⟨rfl, pr_turn ht hs' Mv x1 x2 hd hk9 hz⟩
theorem clear_pr (h : Pr w B gs gt N M s t Kp) {r : Int} {s' : PS} (hr : (s.l.length : Int) = r) (he : clearS s = s') (hN : N ≤ 400000000) (hc : s.cnt ≤ 4000000000000000000) (hch : s.ch.length ≤ 1000000000) :
    Calls Tryz.prog 14 #[.pointer (some ⟨gs, 0, none⟩)] w fun e w' => e = .returned (.int .i64 r) ∧ Pr w' B gs gt (N + s.l.length) M s' t Kp ∧ Only (fun k => ¬ Kp k) w w' := by
  obtain ⟨⟨F, G, rfl, rfl, hs, ht, x1, x2, hd, hk9⟩, hz⟩ := h
  have hX : ∀ k, F.X k → k < w.heap.size := fun q e => (ht.lt q ((x1 q).1 e)).2
  subst hr he
  refine (clear_calls B F N s w hs hX hN hc hch).mono ?_
  rintro e w' ⟨rfl, F', hs', Mv⟩
  exact ⟨rfl, pr_turn ht hs' Mv x1 x2 hd hk9 hz⟩
theorem mark_pr (h : Pr w B gs gt N M s t Kp) {r : Int} {s' : PS} (hld : s.ld = false) (hr : (if s.on then 140 else 0) = r) (he : markS s = s') :
    Calls Tryz.prog 15 #[.pointer (some ⟨gs, 0, none⟩)] w fun e w' => e = .returned (.int .i64 r) ∧ Pr w' B gs gt (N) M s' t Kp ∧ Only (fun k => ¬ Kp k) w w' := by
  obtain ⟨⟨F, G, rfl, rfl, hs, ht, x1, x2, hd, hk9⟩, hz⟩ := h
  have hX : ∀ k, F.X k → k < w.heap.size := fun q e => (ht.lt q ((x1 q).1 e)).2
  subst hr he
  refine (mark_calls B F N s w hs hld).mono ?_
  rintro e w' ⟨rfl, F', hs', Mv⟩
  exact ⟨rfl, pr_turn ht hs' Mv x1 x2 hd hk9 hz⟩
theorem keep_pr (h : Pr w B gs gt N M s t Kp) {r : Int} {s' : PS} (hr : (if s.on then 0 else 140) = r) (he : keepS s = s') :
    Calls Tryz.prog 17 #[.pointer (some ⟨gs, 0, none⟩)] w fun e w' => e = .returned (.int .i64 r) ∧ Pr w' B gs gt (N) M s' t Kp ∧ Only (fun k => ¬ Kp k) w w' := by
  obtain ⟨⟨F, G, rfl, rfl, hs, ht, x1, x2, hd, hk9⟩, hz⟩ := h
  have hX : ∀ k, F.X k → k < w.heap.size := fun q e => (ht.lt q ((x1 q).1 e)).2
  subst hr he
  refine (keep_calls B F N s w hs).mono ?_
  rintro e w' ⟨rfl, F', hs', Mv⟩
  exact ⟨rfl, pr_turn ht hs' Mv x1 x2 hd hk9 hz⟩
set_option maxHeartbeats 4000000 in
theorem done_pr (h : Pr w B gs gt N M s t Kp) (o : OV) (hk : o.key.size ≤ 100000000) (hx : Vok w (fun q => ¬ Kp q) o.x (pvOf o.x)) (hN : N ≤ 400000000) (hc : s.cnt ≤ 4000000000000000000) (hch : s.ch.length ≤ 1000000000) :
    Calls Tryz.prog 31 #[.pointer (some ⟨gs, 0, none⟩), ovV o] w fun e w' => e = .returned (.tuple #[]) ∧ Pr w' B gs gt (doneN s N (poOf o)) M (doneS s (poOf o)) t Kp ∧ Only (fun k => ¬ Kp k) w w' := by
  obtain ⟨W1, hW1⟩ : ∃ W1, w.alloc (.cells o.cells.toArray 57) = W1 := ⟨_, rfl⟩
  have b1 : Below w.heap.size w W1 := by rw [← hW1]; exact (Below.refl _ _).alloc (Nat.le_refl _) _
  have hbx : W1.heap[w.heap.size]? = some (.cells o.cells.toArray 57 (0, 0)) := by rw [← hW1]; exact heap_alloc_new w _
  obtain ⟨kind, key, x, due, EA, en, ec⟩ := o
  have z0 : W1.cell? ⟨w.heap.size, 0, none⟩ = some (.int .i64 kind) := by simp [World.cell?, hbx, OV.cells]
  have z1 : W1.cell? ⟨w.heap.size, 1, none⟩ = some (.string key) := by simp [World.cell?, hbx, OV.cells]
  have z2 : W1.cell? ⟨w.heap.size, 2, none⟩ = some (.int .i64 x.kind) := by simp [World.cell?, hbx, OV.cells]
  have z3 : W1.cell? ⟨w.heap.size, 3, none⟩ = some (.string x.text) := by simp [World.cell?, hbx, OV.cells]
  have z4 : W1.cell? ⟨w.heap.size, 4, none⟩ = some (.slice x.LA x.ln x.lc) := by simp [World.cell?, hbx, OV.cells]
  have z5 : W1.cell? ⟨w.heap.size, 5, none⟩ = some (.slice x.FA x.fn x.fc) := by simp [World.cell?, hbx, OV.cells]
  have z6 : W1.cell? ⟨w.heap.size, 6, none⟩ = some (.slice x.KA x.kn x.kc) := by simp [World.cell?, hbx, OV.cells]
  have z7 : W1.cell? ⟨w.heap.size, 7, none⟩ = some (.int .i64 due) := by simp [World.cell?, hbx, OV.cells]
  have O1 : Only (fun k => ¬ Kp k) w W1 := SpU.only_b b1
  have h1 := h.below b1
  have hx1 := hx.below b1
  dsimp only [poOf] at hk hx1 ⊢
  unfold OV.cells at hW1
  unfold ovV
  have HW := Lib.hid hW1
  have HS := Lib.hid (And.intro h1 (And.intro hx1 O1))
  clear h hx hbx b1 hW1 h1 hx1 O1
  by_cases k0 : kind = 0
  · subst k0
    go_enter Tryz.func31, Tryz.ntmps31
    go_upto_region 1 with fail
    rw [HW.out]
    go_wp2_with fail
    obtain ⟨h1, hx1, O1⟩ := HS.out
    refine (put_pr h1 key (x := x) due rfl rfl hx1 hk (by omega) (by omega) hch).mono ?_
    rintro e w2 ⟨rfl, S2, O2⟩
    go_wp2_with fail
    refine bodyPost_end (results_none rfl _ _ _) rfl ?_
    exact ⟨rfl, S2, O1.trans O2 (fun q e => .inl e)⟩
  by_cases k1 : kind = 1
  · subst k1
    go_enter Tryz.func31, Tryz.ntmps31
    go_upto_region 1 with fail
    rw [HW.out]
    go_wp2_with fail
    obtain ⟨h1, hx1, O1⟩ := HS.out
    refine (drop_pr h1 key rfl rfl hk (by omega) (by omega) hch).mono ?_
    rintro e w2 ⟨rfl, S2, O2⟩
    go_wp2_with fail
    refine bodyPost_end (results_none rfl _ _ _) rfl ?_
    exact ⟨rfl, S2, O1.trans O2 (fun q e => .inl e)⟩
  by_cases k2 : kind = 2
  · subst k2
    go_enter Tryz.func31, Tryz.ntmps31
    go_upto_region 1 with fail
    rw [HW.out]
    go_wp2_with fail
    obtain ⟨h1, hx1, O1⟩ := HS.out
    refine (setDue_pr h1 key due rfl rfl hk (by omega) (by omega) hch).mono ?_
    rintro e w2 ⟨rfl, S2, O2⟩
    go_wp2_with fail
    refine bodyPost_end (results_none rfl _ _ _) rfl ?_
    exact ⟨rfl, S2, O1.trans O2 (fun q e => .inl e)⟩
  by_cases k3 : kind = 3
  · subst k3
    go_enter Tryz.func31, Tryz.ntmps31
    go_upto_region 1 with fail
    rw [HW.out]
    go_wp2_with fail
    obtain ⟨h1, hx1, O1⟩ := HS.out
    refine (clear_pr h1 rfl rfl hN hc hch).mono ?_
    rintro e w2 ⟨rfl, S2, O2⟩
    go_wp2_with fail
    refine bodyPost_end (results_none rfl _ _ _) rfl ?_
    exact ⟨rfl, S2, O1.trans O2 (fun q e => .inl e)⟩
  · have q0 : (kind == 0) = false := by simpa using k0
    have q1 : (kind == 1) = false := by simpa using k1
    have q2 : (kind == 2) = false := by simpa using k2
    have q3 : (kind == 3) = false := by simpa using k3
    go_enter Tryz.func31, Tryz.ntmps31
    go_upto_region 1 with fail
    rw [HW.out]
    go_wp2_with fail
    refine bodyPost_end (results_none rfl _ _ _) rfl ?_
    obtain ⟨h1, hx1, O1⟩ := HS.out
    have e1 : doneS s ⟨kind, key, pvOf x, due⟩ = s := by unfold doneS; dsimp only; rw [if_neg k0, if_neg k1, if_neg k2, if_neg k3]
    have e2 : doneN s N ⟨kind, key, pvOf x, due⟩ = N := by unfold doneN; dsimp only; rw [if_neg k0, if_neg k1, if_neg k2, if_neg k3]
    rw [e1, e2]
    exact ⟨rfl, h1, O1⟩
end
theorem sp0_ghost {w : World} {B : Nat} {F : Lay} {N : Nat} (h : Sp w B F N ps0) (X' : Nat → Prop) : Sp w B { F with X := X' } N ps0 := by
  obtain ⟨⟨L, hm, ht⟩, ix, bp, ⟨es, oe, he⟩, gB, mB, ap⟩ := h.sq
  refine ⟨h.hp, ⟨⟨L, hm, fun k => ⟨(ht k).1, fun p hp => by simp [ps0, getK] at hp⟩⟩, ix, ?_, ⟨es, oe, ⟨he.1, fun i e p _ hp => by simp [ps0] at hp⟩⟩, gB, mB, ⟨ap.gm, ap.gx, ap.gb, ap.gc, ap.bc⟩⟩, h.on, h.inv⟩
  rcases bp with bp | ⟨b, e, hb, L2, hm2, ht2⟩
  · exact .inl bp
  · exact .inr ⟨b, e, hb, L2, hm2, fun k => ⟨(ht2 k).1, fun p hp => by simp [ps0, getK] at hp⟩⟩
theorem sp_less {w : World} {B B' : Nat} {F : Lay} {N : Nat} {s : PS} (h : Sp w B F N s) (hB : B' ≤ B) : Sp w B' F N s := by
  obtain ⟨mp, ix, bp, ⟨es, oe, he⟩, gB, mB, ap⟩ := h.sq
  refine ⟨h.hp, ⟨mp, { ix with gB := Nat.le_trans hB ix.gB, mB := Nat.le_trans hB ix.mB, own := own_less ix.own hB }, ?_, ⟨es, own_less oe hB, he⟩, Nat.le_trans hB gB, Nat.le_trans hB mB, ap⟩, h.on, h.inv⟩
  rcases bp with bp | ⟨b, e, hb, L2, hm2, ht2⟩
  · exact .inl bp
  · exact .inr ⟨b, e, Nat.le_trans hB hb, L2, hm2, ht2⟩
/-- A second new space behind a first one. -/
theorem pr_new {W w1 w2 : World} {F G : Lay} (hs : Sp w1 W.heap.size F 0 ps0) (b1 : Below W.heap.size W w1) (ht : Sp w2 w1.heap.size G 0 ps0) (b2 : Below w1.heap.size w1 w2) : Pr w2 W.heap.size F.g G.g 0 0 ps0 ps0 (fun k => k < W.heap.size) := by
  have h1 := sp0_ghost (hs.below b2) (Ft G)
  have h2 := sp0_ghost (sp_less ht b1.size) (Ft F)
  have z1 := b1.size
  refine ⟨⟨{ F with X := Ft G }, { G with X := Ft F }, rfl, rfl, h1, h2, fun k => Iff.rfl, fun k => Iff.rfl, fun k a b => ?_, fun k q => ⟨by have := b2.size; omega, fun e => ?_, fun e => ?_⟩⟩, Nat.le_trans z1 b2.size⟩
  · have a1 := (hs.lt k a).2
    have a2 := (ht.lt k b).1
    omega
  · have := (hs.lt k e).1; omega
  · have := (ht.lt k e).1; omega
end Go.Proofs.YtjofbagaobdmoaaGreat.SrD
