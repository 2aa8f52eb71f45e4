/-
  Two spaces side by side, apart from each other and from a third set of blocks. Conditions: as stated.
-/
import Derived.Test.YtgmnnpbbiejbnaaGreatMgM
set_option maxRecDepth 100000
set_option linter.unusedSimpArgs false
set_option linter.unusedVariables false
namespace Go.Proofs.YtgmnnpbbiejbnaaGreat.EfR
open Go.RowKit Go.Proofs.YtgmnnpbbiejbnaaGreat.Mem Go.Proofs.YtgmnnpbbiejbnaaGreat.VaA Go.Proofs.YtgmnnpbbiejbnaaGreat.VaC Go.Proofs.YtgmnnpbbiejbnaaGreat.VaE Go.Proofs.YtgmnnpbbiejbnaaGreat.VaH Go.Proofs.YtgmnnpbbiejbnaaGreat.VaI Go.Proofs.YtgmnnpbbiejbnaaGreat.VaX Go.Proofs.YtgmnnpbbiejbnaaGreat.DuA Go.Proofs.YtgmnnpbbiejbnaaGreat.SpA Go.Proofs.YtgmnnpbbiejbnaaGreat.SpB Go.Proofs.YtgmnnpbbiejbnaaGreat.SpC Go.Proofs.YtgmnnpbbiejbnaaGreat.SpD Go.Proofs.YtgmnnpbbiejbnaaGreat.SpE Go.Proofs.YtgmnnpbbiejbnaaGreat.SpF Go.Proofs.YtgmnnpbbiejbnaaGreat.SpG Go.Proofs.YtgmnnpbbiejbnaaGreat.EfA Go.Proofs.YtgmnnpbbiejbnaaGreat.EfB Go.Proofs.YtgmnnpbbiejbnaaGreat.EfD Go.Proofs.YtgmnnpbbiejbnaaGreat.EfE Go.Proofs.YtgmnnpbbiejbnaaGreat.EfF Go.Proofs.YtgmnnpbbiejbnaaGreat.EfG Go.Proofs.YtgmnnpbbiejbnaaGreat.EfH Go.Proofs.YtgmnnpbbiejbnaaGreat.EfJ Go.Proofs.YtgmnnpbbiejbnaaGreat.SpH Go.Proofs.YtgmnnpbbiejbnaaGreat.SpI Go.Proofs.YtgmnnpbbiejbnaaGreat.SpJ Go.Proofs.YtgmnnpbbiejbnaaGreat.SpK Go.Proofs.YtgmnnpbbiejbnaaGreat.SpM Go.Proofs.YtgmnnpbbiejbnaaGreat.SpO Go.Proofs.YtgmnnpbbiejbnaaGreat.SpP Go.Proofs.YtgmnnpbbiejbnaaGreat.SpR Go.Proofs.YtgmnnpbbiejbnaaGreat.SpU Go.Proofs.YtgmnnpbbiejbnaaGreat.SpV Go.Proofs.YtgmnnpbbiejbnaaGreat.SpZ Go.Proofs.YtgmnnpbbiejbnaaGreat.SrC

/-- Two spaces, apart from each other and from Kp; their values keep out of Z besides. -/
structure Pz (w : World) (B gs gt N M : Nat) (s t : PS) (Kp Z : Nat → Prop) : Prop where
  ex : ∃ F G : Lay, F.g = gs ∧ G.g = gt ∧ Sp w B F N s ∧ Sp w B G M t ∧ (∀ k, F.X k ↔ Ft G k ∨ Z k) ∧ (∀ k, G.X k ↔ Ft F k ∨ Z k) ∧ (∀ k, Ft F k → ¬ Ft G k) ∧ (∀ k, Kp k → k < w.heap.size ∧ ¬ Ft F k ∧ ¬ Ft G k)
  zk : ∀ k, Z k → Kp k
  sz : B ≤ w.heap.size
section
variable {w w' : World} {B gs gt N M : Nat} {s t : PS} {Kp Z : Nat → Prop}
theorem Pz.swap (h : Pz w B gs gt N M s t Kp Z) : Pz w B gt gs M N t s Kp Z := by
  obtain ⟨⟨F, G, e1, e2, hs, ht, x1, x2, hd, hk⟩, hzk, hz⟩ := h
  exact ⟨⟨G, F, e2, e1, ht, hs, x2, x1, fun k a b => hd k b a, fun k q => ⟨(hk k q).1, (hk k q).2.2, (hk k q).2.1⟩⟩, hzk, hz⟩
theorem pz_turn {F G F' : Lay} {N' : Nat} {s' : PS} (ht : Sp w B G M t) (hs : Sp w' B F' N' s') (Mv : Moves F F' w w') (x1 : ∀ k, F.X k ↔ Ft G k ∨ Z k) (x2 : ∀ k, G.X k ↔ Ft F k ∨ Z k) (hd : ∀ k, Ft F k → ¬ Ft G k) (hk : ∀ k, Kp k → k < w.heap.size ∧ ¬ Ft F k ∧ ¬ Ft G k) (hzk : ∀ k, Z k → Kp k) (hz : B ≤ w.heap.size) :
    Pz w' B F.g G.g N' M s' t Kp Z ∧ Only (fun k => ¬ Kp k) w w' := by
  have h1 := ht.ghost (X' := fun k => Ft F k ∨ (Z k ∨ w.heap.size ≤ k)) (fun k hk e => (x2 k).2 (e.imp id (fun e => e.elim id (fun e => by omega))))
  have h2 := Sp.only h1 Mv.only (fun k a b => hd k b a) (fun k _ a => .inr (.inl a))
  have h3 := h2.ghost (X' := fun k => Ft F' k ∨ Z k) (fun k _ e => e.elim (fun e => (Mv.sub k e).imp id .inr) (fun e => .inr (.inl e)))
  refine ⟨⟨⟨F', { G with X := fun k => Ft F' k ∨ Z k }, Mv.g, rfl, hs, h3, fun k => by rw [Mv.x]; exact x1 k, fun k => Iff.rfl, fun k a b => ?_, fun k q => ⟨Nat.lt_of_lt_of_le (hk k q).1 Mv.only.size, fun e => ?_, (hk k q).2.2⟩⟩, hzk, Nat.le_trans hz Mv.only.size⟩, Mv.only.mono (fun k e q => (hk k q).2.1 e)⟩
  · rcases Mv.sub k a with a | a
    · exact hd k a b
    · have := (ht.lt k b).2; omega
  · rcases Mv.sub k e with a | a
    · exact (hk k q).2.1 a
    · have := (hk k q).1; omega
theorem Pz.below (h : Pz w B gs gt N M s t Kp Z) (hb : Below w.heap.size w w') : Pz w' B gs gt N M s t Kp Z := by
  obtain ⟨⟨F, G, e1, e2, hs, ht, x1, x2, hd, hk⟩, hzk, hz⟩ := h
  exact ⟨⟨F, G, e1, e2, hs.below hb, ht.below hb, x1, x2, hd, fun k q => ⟨Nat.lt_of_lt_of_le (hk k q).1 hb.size, (hk k q).2⟩⟩, hzk, Nat.le_trans hz hb.size⟩
theorem su_pz (h : Pz w B gs gt N M s t Kp Z) : Su w B gs N s Kp := by
  obtain ⟨⟨F, G, e1, e2, hs, ht, x1, x2, hd, hk⟩, hzk, hz⟩ := h
  exact ⟨⟨{ F with X := fun _ => False }, e1, hs.ghost (fun k _ e => e.elim), fun k e => e, fun k q => ⟨(hk k q).1, (hk k q).2.1⟩⟩, hz⟩
theorem pz_keep (h : Pz w B gs gt N M s t Kp Z) (hb : Below w.heap.size w w') {Kq : Nat → Prop} (hq : ∀ k, Kq k → Kp k ∨ (w.heap.size ≤ k ∧ k < w'.heap.size)) (hz : ∀ k, Z k → Kq k) : Pz w' B gs gt N M s t Kq Z := by
  obtain ⟨⟨F, G, e1, e2, hs, ht, x1, x2, hd, hk⟩, hzk, hz0⟩ := h
  refine ⟨⟨F, G, e1, e2, hs.below hb, ht.below hb, x1, x2, hd, fun k q => ?_⟩, hz, Nat.le_trans hz0 hb.size⟩
  rcases hq k q with h1 | h1
  · exact ⟨Nat.lt_of_lt_of_le (hk k h1).1 hb.size, (hk k h1).2⟩
  · exact ⟨h1.2, fun e => by have := (hs.lt k e).2; omega, fun e => by have := (ht.lt k e).2; omega⟩
theorem Pz.more (h : Pz w B gs gt N M s t Kp Z) {N' : Nat} (hN : N ≤ N') : Pz w B gs gt N' M s t Kp Z := by
  obtain ⟨⟨F, G, e1, e2, hs, ht, x1, x2, hd, hk⟩, hzk, hz0⟩ := h
  exact ⟨⟨F, G, e1, e2, hs.more hN, ht, x1, x2, hd, hk⟩, hzk, hz0⟩
theorem put_pz (h : Pz w B gs gt N M s t Kp Z) (k : ByteArray) {x : VV} {p : PV} (due : Int) {r : Int} {s' : PS} (hr : putE p due = r) (he : putS s k p due = s') (hx : Vok w (fun q => ¬ Kp q) x p) (hk : k.size ≤ 100000000) (hN : N ≤ 999999999) (hc : s.cnt ≤ 4611686118427387903) (hch : s.ch.length ≤ 1000000000) :
    Calls Tryz.prog 47 #[.pointer (some ⟨gs, 0, none⟩), .string k, x.val, .int .i64 due] w fun e w' => e = .returned (.int .i64 r) ∧ Pz w' B gs gt (N + 2) M s' t Kp Z ∧ Only (fun k => ¬ Kp k) w w' := by
  obtain ⟨⟨F, G, rfl, rfl, hs, ht, x1, x2, hd, hk9⟩, hzk, hz⟩ := h
  have hX : ∀ k, F.X k → k < w.heap.size := fun q e => ((x1 q).1 e).elim (fun e => (ht.lt q e).2) (fun e => (hk9 q (hzk q e)).1)
  subst hr he
  refine (put_calls B F N s k x p due w hs hz hk (hx.move (Only.refl (fun _ => False) w) (fun _ _ e => e.elim) (fun q _ e q2 => (hk9 q q2).2.1 e)) hX hN hc hch).mono ?_
  rintro e w' ⟨rfl, F', hs', Mv⟩
  exact ⟨rfl, pz_turn ht hs' Mv x1 x2 hd hk9 hzk hz⟩
theorem drop_pz (h : Pz w B gs gt N M s t Kp Z) (k : ByteArray) {r : Bool} {s' : PS} (hr : (getK s.l k).isSome = r) (he : dropS s k = s') (hk : k.size ≤ 100000000) (hN : N ≤ 999999999) (hc : s.cnt ≤ 4611686118427387903) (hch : s.ch.length ≤ 1000000000) :
    Calls Tryz.prog 48 #[.pointer (some ⟨gs, 0, none⟩), .string k] w fun e w' => e = .returned (.bool r) ∧ Pz w' B gs gt (N + 1) M s' t Kp Z ∧ Only (fun k => ¬ Kp k) w w' := by
  obtain ⟨⟨F, G, rfl, rfl, hs, ht, x1, x2, hd, hk9⟩, hzk, hz⟩ := h
  have hX : ∀ k, F.X k → k < w.heap.size := fun q e => ((x1 q).1 e).elim (fun e => (ht.lt q e).2) (fun e => (hk9 q (hzk q e)).1)
  subst hr he
  refine (drop_calls B F N s k w hs hz hk hX hN hc hch).mono ?_
  rintro e w' ⟨rfl, F', hs', Mv⟩
  exact ⟨rfl, pz_turn ht hs' Mv x1 x2 hd hk9 hzk hz⟩
theorem setDue_pz (h : Pz w B gs gt N M s t Kp Z) (k : ByteArray) (due : Int) {r : Bool} {s' : PS} (hr : dueB s k due = r) (he : dueS s k due = s') (hk : k.size ≤ 100000000) (hN : N ≤ 999999999) (hc : s.cnt ≤ 4611686118427387903) (hch : s.ch.length ≤ 1000000000) :
    Calls Tryz.prog 49 #[.pointer (some ⟨gs, 0, none⟩), .string k, .int .i64 due] w fun e w' => e = .returned (.bool r) ∧ Pz w' B gs gt (N + 2) M s' t Kp Z ∧ Only (fun k => ¬ Kp k) w w' := by
  obtain ⟨⟨F, G, rfl, rfl, hs, ht, x1, x2, hd, hk9⟩, hzk, hz⟩ := h
  have hX : ∀ k, F.X k → k < w.heap.size := fun q e => ((x1 q).1 e).elim (fun e => (ht.lt q e).2) (fun e => (hk9 q (hzk q e)).1)
  subst hr he
  refine (setDue_calls B F N s k due w hs hz hk hX hN hc hch).mono ?_
  rintro e w' ⟨rfl, F', hs', Mv⟩
  exact ⟨rfl, pz_turn ht hs' Mv x1 x2 hd hk9 hzk hz⟩
theorem clear_pz (h : Pz w B gs gt N M s t Kp Z) {r : Int} {s' : PS} (hr : (s.l.length : Int) = r) (he : clearS s = s') (hN : N ≤ 400000000) (hc : s.cnt ≤ 4611686068427387903) (hch : s.ch.length ≤ 1000000000) :
    Calls Tryz.prog 50 #[.pointer (some ⟨gs, 0, none⟩)] w fun e w' => e = .returned (.int .i64 r) ∧ Pz w' B gs gt (N + s.l.length) M s' t Kp Z ∧ Only (fun k => ¬ Kp k) w w' := by
  obtain ⟨⟨F, G, rfl, rfl, hs, ht, x1, x2, hd, hk9⟩, hzk, hz⟩ := h
  have hX : ∀ k, F.X k → k < w.heap.size := fun q e => ((x1 q).1 e).elim (fun e => (ht.lt q e).2) (fun e => (hk9 q (hzk q e)).1)
  subst hr he
  refine (clear_calls B F N s w hs hX hN hc hch).mono ?_
  rintro e w' ⟨rfl, F', hs', Mv⟩
  exact ⟨rfl, pz_turn ht hs' Mv x1 x2 hd hk9 hzk hz⟩
theorem mark_pz (h : Pz w B gs gt N M s t Kp Z) {r : Int} {s' : PS} (hld : s.ld = false) (hr : (if s.on then 140 else 0) = r) (he : markS s = s') :
    Calls Tryz.prog 23 #[.pointer (some ⟨gs, 0, none⟩)] w fun e w' => e = .returned (.int .i64 r) ∧ Pz w' B gs gt (N) M s' t Kp Z ∧ Only (fun k => ¬ Kp k) w w' := by
  obtain ⟨⟨F, G, rfl, rfl, hs, ht, x1, x2, hd, hk9⟩, hzk, hz⟩ := h
  have hX : ∀ k, F.X k → k < w.heap.size := fun q e => ((x1 q).1 e).elim (fun e => (ht.lt q e).2) (fun e => (hk9 q (hzk q e)).1)
  subst hr he
  refine (mark_calls B F N s w hs hld).mono ?_
  rintro e w' ⟨rfl, F', hs', Mv⟩
  exact ⟨rfl, pz_turn ht hs' Mv x1 x2 hd hk9 hzk hz⟩
theorem keep_pz (h : Pz w B gs gt N M s t Kp Z) {r : Int} {s' : PS} (hr : (if s.on then 0 else 140) = r) (he : keepS s = s') :
    Calls Tryz.prog 26 #[.pointer (some ⟨gs, 0, none⟩)] w fun e w' => e = .returned (.int .i64 r) ∧ Pz w' B gs gt (N) M s' t Kp Z ∧ Only (fun k => ¬ Kp k) w w' := by
  obtain ⟨⟨F, G, rfl, rfl, hs, ht, x1, x2, hd, hk9⟩, hzk, hz⟩ := h
  have hX : ∀ k, F.X k → k < w.heap.size := fun q e => ((x1 q).1 e).elim (fun e => (ht.lt q e).2) (fun e => (hk9 q (hzk q e)).1)
  subst hr he
  refine (keep_calls B F N s w hs).mono ?_
  rintro e w' ⟨rfl, F', hs', Mv⟩
  exact ⟨rfl, pz_turn ht hs' Mv x1 x2 hd hk9 hzk hz⟩
theorem load_pz (h : Pz w B gs gt N M s t Kp Z) {A : Option Addr} {n c : Nat} {es : List EN} {l : List (ByteArray × PH)} (hon : s.on = false) (hr : Rd w 8 A n c (rows EN.cells es)) (hA : ∀ ad, A = some ad → 0 < n → Kp ad.block) (hes : ENs w (fun q => ¬ Kp q) es l) (hky : ∀ e ∈ l, e.1.size ≤ 100000000) (hn : n ≤ 100000000) :
    Calls Tryz.prog 17 #[.pointer (some ⟨gs, 0, none⟩), .slice A n c] w fun e w' => (SpU.Good l ∧ e = .returned (.int .i64 0) ∧ Pz w' B gs gt n M (SpU.ldS l false) t Kp Z ∧ Only (fun k => ¬ Kp k) w w') ∨ (¬ SpU.Good l ∧ e = .returned (.int .i64 141) ∧ Below w.heap.size w w') := by
  obtain ⟨⟨F, G, rfl, rfl, hs, ht, x1, x2, hd, hk9⟩, hzk, hz⟩ := h
  have hX : ∀ k, F.X k → k < w.heap.size := fun q e => ((x1 q).1 e).elim (fun e => (ht.lt q e).2) (fun e => (hk9 q (hzk q e)).1)
  refine (load_any B F N s A n c es l w hs hz hX hon hr (fun ad e h0 e2 => (hk9 _ (hA ad e h0)).2.1 (by rw [e2]; exact .inl rfl)) (hes.move (Only.refl (fun _ => False) w) (fun _ _ e => e.elim) (fun q _ e q2 => (hk9 q q2).2.1 (by rw [e]; exact .inl rfl))) hky hn).mono ?_
  rintro e w' (⟨hG, rfl, F', hs', Mv⟩ | ⟨hG, rfl, hb⟩)
  · exact .inl ⟨hG, rfl, pz_turn ht hs' Mv x1 x2 hd hk9 hzk hz⟩
  · exact .inr ⟨hG, rfl, hb⟩
end
theorem sp0_ghost {w : World} {B : Nat} {F : Lay} {N : Nat} (h : Sp w B F N ps0) (X' : Nat → Prop) : Sp w B { F with X := X' } N ps0 := by
  obtain ⟨⟨L, hm, ht⟩, ix, bp, ⟨es, oe, he⟩, gB, mB, ap⟩ := h.sq
  refine ⟨h.hp, ⟨⟨L, hm, fun k => ⟨(ht k).1, fun p hp => by simp [ps0, getK] at hp⟩⟩, ix, ?_, ⟨es, oe, ⟨he.1, fun i e p _ hp => by simp [ps0] at hp⟩⟩, gB, mB, ⟨ap.gm, ap.gx, ap.gb, ap.gc, ap.bc⟩⟩, h.on, h.inv⟩
  rcases bp with bp | ⟨b, e, hb, L2, hm2, ht2⟩
  · exact .inl bp
  · exact .inr ⟨b, e, hb, L2, hm2, fun k => ⟨(ht2 k).1, fun p hp => by simp [ps0, getK] at hp⟩⟩
theorem sp_less {w : World} {B B' : Nat} {F : Lay} {N : Nat} {s : PS} (h : Sp w B F N s) (hB : B' ≤ B) : Sp w B' F N s := by
  obtain ⟨mp, ix, bp, ⟨es, oe, he⟩, gB, mB, ap⟩ := h.sq
  refine ⟨h.hp, ⟨mp, { ix with gB := Nat.le_trans hB ix.gB, mB := Nat.le_trans hB ix.mB, own := own_less ix.own hB }, ?_, ⟨es, own_less oe hB, he⟩, Nat.le_trans hB gB, Nat.le_trans hB mB, ap⟩, h.on, h.inv⟩
  rcases bp with bp | ⟨b, e, hb, L2, hm2, ht2⟩
  · exact .inl bp
  · exact .inr ⟨b, e, Nat.le_trans hB hb, L2, hm2, ht2⟩
/-- A second new space behind a first one; a third set of old blocks. -/
theorem pz_new {W w1 w2 : World} {gs gt : Nat} (hs : Su w1 W.heap.size gs 0 ps0 (fun k => k < W.heap.size)) (b1 : Below W.heap.size W w1) (ht : Su w2 w1.heap.size gt 0 ps0 (fun k => k < w1.heap.size)) (b2 : Below w1.heap.size w1 w2) : Pz w2 W.heap.size gs gt 0 0 ps0 ps0 (fun k => k < W.heap.size) (fun _ => False) := by
  obtain ⟨⟨F, rfl, hs, -, -⟩, -⟩ := hs
  obtain ⟨⟨G, rfl, ht, -, -⟩, -⟩ := ht
  have h1 := sp0_ghost (hs.below b2) (fun k => Ft G k ∨ False)
  have h2 := sp0_ghost (sp_less ht b1.size) (fun k => Ft F k ∨ False)
  have z1 := b1.size
  refine ⟨⟨{ F with X := fun k => Ft G k ∨ False }, { G with X := fun k => Ft F k ∨ False }, rfl, rfl, h1, h2, fun k => Iff.rfl, fun k => Iff.rfl, fun k a b => ?_, fun k q => ⟨by have := b2.size; omega, fun e => ?_, fun e => ?_⟩⟩, fun _ e => e.elim, Nat.le_trans z1 b2.size⟩
  · have a1 := (hs.lt k a).2
    have a2 := (ht.lt k b).1
    omega
  · have := (hs.lt k e).1; omega
  · have := (ht.lt k e).1; omega
end Go.Proofs.YtgmnnpbbiejbnaaGreat.EfR
