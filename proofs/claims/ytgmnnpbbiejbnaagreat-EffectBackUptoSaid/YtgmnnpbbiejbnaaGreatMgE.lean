/-
  The document's copy of a value, in memory of its own. Conditions: as stated.
  A value in memory of its own with marks behind its lists. Conditions: as stated.
-/
import Derived.Test.YtgmnnpbbiejbnaaGreatVaT
import Derived.Deep.RegionLaw
import Derived.Deep.DeepCutAuto
set_option maxRecDepth 100000
set_option linter.unusedSimpArgs false
set_option linter.unusedVariables false
namespace Go.Proofs.YtgmnnpbbiejbnaaGreat.VaV
open Go.RowKit Go.Proofs.YtgmnnpbbiejbnaaGreat.Mem Go.Proofs.YtgmnnpbbiejbnaaGreat.VaA Go.Proofs.YtgmnnpbbiejbnaaGreat.VaB Go.Proofs.YtgmnnpbbiejbnaaGreat.VaC Go.Proofs.YtgmnnpbbiejbnaaGreat.VaH Go.Proofs.YtgmnnpbbiejbnaaGreat.VaI Go.Proofs.YtgmnnpbbiejbnaaGreat.VaL Go.Proofs.YtgmnnpbbiejbnaaGreat.VaS Go.Proofs.YtgmnnpbbiejbnaaGreat.VaT

/-- Three rows of the call's own, one behind the other. -/
structure Own3 (w : World) (B : Nat) (vl vf vk : Value) (l : List ByteArray) (f : List (ByteArray × ByteArray)) (r : List (ByteArray × Int)) (b2 b3 : Nat) : Prop where
  l : OwnS w B vl l
  f : OwnF w b2 vf f
  k : OwnK w b3 vk r
  lb : ∀ b, vl.ownBlock = some b → b < b2
  fb : ∀ b, vf.ownBlock = some b → b < b3
  h2 : B ≤ b2
  h3 : b2 ≤ b3
  hz : b3 ≤ w.heap.size
def CpPost (x : VV) (w : World) (e : Ending) (w' : World) : Prop :=
  ∃ A1 c1 A3 c3 A5 c5 b2 b3, e = .returned (.agg #[.int .i64 x.kind, .string x.text, .slice A1 x.ln c1, .slice A3 x.fn c3, .slice A5 x.kn c5]) ∧ Below w.heap.size w w' ∧ Own3 w' (w.heap.size + 3) (.slice A1 x.ln c1) (.slice A3 x.fn c3) (.slice A5 x.kn c5) x.list x.flds x.rank b2 b3
theorem below_nil {w w' : World} (h : Only (fun k => (Value.slice none 0 0).ownBlock = some k) w w') : Below w.heap.size w w' := h.below (Nat.le_refl _) (fun b hb => by cases hb)

/-- The copy under way: the boxes of the parameter, of the result and of the copy. -/
structure St3 (w : World) (x : VV) (L F K : Value) (wr : World) : Prop where
  p : Bv wr w.heap.size x.kind x.text (.slice x.LA x.ln x.lc) (.slice x.FA x.fn x.fc) (.slice x.KA x.kn x.kc)
  z : Bv wr (w.heap.size + 1) 0 ⟨#[]⟩ (.slice none 0 0) (.slice none 0 0) (.slice none 0 0)
  x : Bv wr (w.heap.size + 1 + 1) x.kind x.text L F K
  b : Below w.heap.size w wr
  s : w.heap.size + 3 ≤ wr.heap.size
section
variable {w wr w' : World} {x : VV} {L F K : Value}
theorem St3.below (h : St3 w x L F K wr) (hb : Below wr.heap.size wr w') : St3 w x L F K w' := ⟨h.p.below hb, Bv.below h.z hb, h.x.below hb, h.b.trans (hb.mono h.b.size), by have := h.s; have := hb.size; omega⟩
theorem only_x (j : Nat) (u : Value) : Only (fun b => b = w.heap.size + 1 + 1) wr (wr.setCell ⟨w.heap.size + 1 + 1, j, none⟩ u) := (Only.refl (fun b => b = w.heap.size + 1 + 1) wr).put (p := ⟨w.heap.size + 1 + 1, j, none⟩) (.inl rfl) u
theorem St3.onX (h : St3 w x L F K wr) {L' F' K' : Value} (hx : Bv w' (w.heap.size + 1 + 1) x.kind x.text L' F' K') (ho : Only (fun b => b = w.heap.size + 1 + 1) wr w') : St3 w x L' F' K' w' :=
  ⟨ho.heap h.p (by omega), ho.heap h.z (by omega), hx, ho.after h.b (by omega) (fun b hb => by omega), by have := h.s; have := ho.size; omega⟩
theorem St3.putL (h : St3 w x L F K wr) (u : Value) : St3 w x u F K (wr.setCell ⟨w.heap.size + 1 + 1, 2, none⟩ u) := h.onX (h.x.putL u) (only_x 2 u)
theorem St3.putF (h : St3 w x L F K wr) (u : Value) : St3 w x L u K (wr.setCell ⟨w.heap.size + 1 + 1, 3, none⟩ u) := h.onX (h.x.putF u) (only_x 3 u)
theorem St3.putK (h : St3 w x L F K wr) (u : Value) : St3 w x L F u (wr.setCell ⟨w.heap.size + 1 + 1, 4, none⟩ u) := h.onX (h.x.putK u) (only_x 4 u)
theorem St3.own (h : St3 w x L F K wr) {e : TypeId} {sz n B : Nat} {v u : Value} {xs : List Value} (ho : wr.ownsRow B e sz v n xs) (hB : w.heap.size + 3 ≤ B) (j : Nat) : (wr.setCell ⟨w.heap.size + 1 + 1, j, none⟩ u).ownsRow B e sz v n xs :=
  own_only ho (only_x j u) (fun k hk e => by have := (ho.lt k hk).1; omega)
end

set_option maxHeartbeats 2000000 in
theorem copyR_calls (x : VV) (w : World) (hr : RdV w x) (hs : Sm x) :
    Calls Tryz.prog 27 #[x.val] w (CpPost x w) := by
  have hv : x.val = .agg #[.int .i64 x.kind, .string x.text, .slice x.LA x.ln x.lc, .slice x.FA x.fn x.fc, .slice x.KA x.kn x.kc] := rfl
  rw [hv]
  have hl1 : Hid (x.list.length = x.ln) := Lib.hid (rds_len hr.l)
  have hl2 : Hid (x.flds.length = x.fn) := Lib.hid (rdf_len hr.f)
  have hl3 : Hid (x.rank.length = x.kn) := Lib.hid (rdk_len hr.k)
  obtain ⟨W0, hW0⟩ : ∃ W0, ((w.alloc (.cells #[.int .i64 x.kind, .string x.text, .slice x.LA x.ln x.lc, .slice x.FA x.fn x.fc, .slice x.KA x.kn x.kc] 42)).alloc (.cells #[.int .i64 0, .string ⟨#[]⟩, .slice none 0 0, .slice none 0 0, .slice none 0 0] 42)).alloc (.cells #[.int .i64 x.kind, .string x.text, .slice x.LA x.ln x.lc, .slice x.FA x.fn x.fc, .slice x.KA x.kn x.kc] 42) = W0 := ⟨_, rfl⟩
  have B0 : Below w.heap.size w W0 := by rw [← hW0]; exact (((Below.refl _ w).alloc (Nat.le_refl _) _).alloc (by simp) _).alloc (by simp; omega) _
  have S0 : W0.heap.size = w.heap.size + 3 := by rw [← hW0]; simp
  have p0 : Bv W0 w.heap.size x.kind x.text (.slice x.LA x.ln x.lc) (.slice x.FA x.fn x.fc) (.slice x.KA x.kn x.kc) := by
    rw [← hW0]
    exact (((Only.refl (fun _ => False) (w.alloc _)).alloc _).alloc _).heap (heap_alloc_new w _) id
  have z0 : Bv W0 (w.heap.size + 1) 0 ⟨#[]⟩ (.slice none 0 0) (.slice none 0 0) (.slice none 0 0) := by
    rw [← hW0]
    have h := heap_alloc_new (w.alloc (.cells #[.int .i64 x.kind, .string x.text, .slice x.LA x.ln x.lc, .slice x.FA x.fn x.fc, .slice x.KA x.kn x.kc] 42)) (.cells #[.int .i64 0, .string ⟨#[]⟩, .slice none 0 0, .slice none 0 0, .slice none 0 0] 42)
    rw [World.size_alloc] at h
    exact ((Only.refl (fun _ => False) _).alloc _).heap h id
  have x0 : Bv W0 (w.heap.size + 1 + 1) x.kind x.text (.slice x.LA x.ln x.lc) (.slice x.FA x.fn x.fc) (.slice x.KA x.kn x.kc) := by
    rw [← hW0]
    have h := heap_alloc_new ((w.alloc (.cells #[.int .i64 x.kind, .string x.text, .slice x.LA x.ln x.lc, .slice x.FA x.fn x.fc, .slice x.KA x.kn x.kc] 42)).alloc (.cells #[.int .i64 0, .string ⟨#[]⟩, .slice none 0 0, .slice none 0 0, .slice none 0 0] 42)) (.cells #[.int .i64 x.kind, .string x.text, .slice x.LA x.ln x.lc, .slice x.FA x.fn x.fc, .slice x.KA x.kn x.kc] 42)
    rw [World.size_alloc, World.size_alloc] at h
    exact h
  have s0 : St3 w x (.slice x.LA x.ln x.lc) (.slice x.FA x.fn x.fc) (.slice x.KA x.kn x.kc) W0 := ⟨p0, z0, x0, B0, by omega⟩
  have H0 := Lib.hid hW0
  clear hW0
  have HS0 := Lib.hid S0
  clear S0 p0 z0 x0 B0
  go_enter Tryz.func27, Tryz.ntmps27
  go_wp2_with (first
    | (at_builtin; rw [H0.out]; refine wpList_app rfl (.const (.slice none 0 0)) (.tmp 6) elS rfl W0.heap.size _ 0 [] rfl (World.ownsRow_nil _ _ _ _) x.LA x.ln x.lc (strs x.list) rfl (hr.l.below s0.b) (strs_one _) (by have := hs.ln; unfold maxLen; omega) (by have := hs.ln; omega) (Nat.le_refl _) ?_; intro v1 w1 o1 k1 f1; rw [Nat.zero_add, List.nil_append] at o1; obtain ⟨A1, c1, rfl⟩ := own_form o1; have s1 := s0.below (below_nil k1); have g1 := s1.x.free 2; have q1 := s1.p.cells.2.2.2.1; have j1 := s1.x.cells.2.2.1; clear s0 f1 k1)
    | (at_builtin; obtain ⟨w2, hw2⟩ : ∃ w2, w1.setCell ⟨w.heap.size + 1 + 1, 2, none⟩ (.slice A1 x.ln c1) = w2 := ⟨_, rfl⟩; have s2 : St3 w x (.slice A1 x.ln c1) (.slice x.FA x.fn x.fc) (.slice x.KA x.kn x.kc) w2 := hw2 ▸ s1.putL (.slice A1 x.ln c1); have s2_size := Lib.hid s2.s; have o2 := hw2 ▸ s1.own (u := (.slice A1 x.ln c1)) o1 (by have := HS0.out; omega) 2; rw [hw2]; have HW2 := Lib.hid hw2; clear hw2 o1 s1 g1 q1 j1; refine wpList_app rfl (.const (.slice none 0 0)) (.tmp 10) elF rfl w2.heap.size _ 0 [] rfl (World.ownsRow_nil _ _ _ _) x.FA x.fn x.fc (flds x.flds) rfl (hr.f.below s2.b) (flds_one _) (by have := hs.fn; unfold maxLen; omega) (by have := hs.fn; omega) (Nat.le_refl _) ?_; intro v3 w3 o3 k3 f3; rw [Nat.zero_add, List.nil_append] at o3; obtain ⟨A3, c3, rfl⟩ := own_form o3; have b3 := below_nil k3; have s3 := s2.below b3; have O2 := own_only o2 (Only.of_below b3) (fun k hk => by have := (o2.lt k hk).2; omega); have T2 : ∀ b, (Value.slice A1 x.ln c1).ownBlock = some b → b < w2.heap.size := fun b hb => (o2.lt b hb).2; have Z3 := b3.size; have g3 := s3.x.free 3; have q3 := s3.p.cells.2.2.2.2; have j3 := s3.x.cells.2.2.2.1; clear f3 k3 b3 o2)
    | (at_builtin; (obtain ⟨w4, hw4⟩ : ∃ w4, w3.setCell ⟨w.heap.size + 1 + 1, 3, none⟩ (.slice A3 x.fn c3) = w4 := ⟨_, rfl⟩; have s4 : St3 w x (.slice A1 x.ln c1) (.slice A3 x.fn c3) (.slice x.KA x.kn x.kc) w4 := hw4 ▸ s3.putF (.slice A3 x.fn c3); have o4 := hw4 ▸ s3.own (u := (.slice A3 x.fn c3)) O2 (by have := HS0.out; omega) 3; have o5 := hw4 ▸ s3.own (u := (.slice A3 x.fn c3)) o3 s2.s 3; have Z4 : w3.heap.size ≤ w4.heap.size := (by subst hw4; exact (only_x (w := w) 3 (.slice A3 x.fn c3)).size); have s4_size := Lib.hid (And.intro s4.s (And.intro Z4 Z3)); rw [hw4]; have HW4 := Lib.hid hw4; clear hw4 O2 o3 s3 g3 q3 j3; refine wpList_app rfl (.const (.slice none 0 0)) (.tmp 14) elK rfl w4.heap.size _ 0 [] rfl (World.ownsRow_nil _ _ _ _) x.KA x.kn x.kc (rnks x.rank) rfl (hr.k.below s4.b) (rnks_one _) (by have := hs.kn; unfold maxLen; omega) (by have := hs.kn; omega) (Nat.le_refl _) ?_; intro v5 w5 o6 k5 f5; rw [Nat.zero_add, List.nil_append] at o6; obtain ⟨A5, c5, rfl⟩ := own_form o6; have b5 := below_nil k5; have s5 := s4.below b5; have T4 : ∀ b, (Value.slice A3 x.fn c3).ownBlock = some b → b < w4.heap.size := fun b hb => (o5.lt b hb).2; have O4 := own_only o4 (Only.of_below b5) (fun k hk => by have := (o4.lt k hk).2; omega); have O5 := own_only o5 (Only.of_below b5) (fun k hk => by have := (o5.lt k hk).2; omega); have Z5 := b5.size; have g5 := s5.x.free 4; have j5 := s5.x.cells.2.2.2.2; obtain ⟨y0, y1, y2, y3, -⟩ := s5.x.cells; obtain ⟨d0, d1, d2, d3, d4⟩ := s5.z.cells; have e0 := s5.z.free 0; have e1 := s5.z.free 1; have e2 := s5.z.free 2; have e3 := s5.z.free 3; have e4 := s5.z.free 4; clear f5 k5 b5 o4 o5)))
  have z5 := s5.z
  have O : Only (fun b => b = w.heap.size + 1 ∨ b = w.heap.size + 1 + 1) w5 ((((((w5.setCell ⟨w.heap.size + 1 + 1, 4, none⟩ (.slice A5 x.kn c5)).setCell ⟨w.heap.size + 1, 0, none⟩ (.int .i64 x.kind)).setCell ⟨w.heap.size + 1, 1, none⟩ (.string x.text)).setCell ⟨w.heap.size + 1, 2, none⟩ (.slice A1 x.ln c1)).setCell ⟨w.heap.size + 1, 3, none⟩ (.slice A3 x.fn c3)).setCell ⟨w.heap.size + 1, 4, none⟩ (.slice A5 x.kn c5)) :=
    ((((((Only.refl _ w5).put (p := ⟨w.heap.size + 1 + 1, 4, none⟩) (.inl (.inr rfl)) _).put (p := ⟨w.heap.size + 1, 0, none⟩) (.inl (.inl rfl)) _).put (p := ⟨w.heap.size + 1, 1, none⟩) (.inl (.inl rfl)) _).put (p := ⟨w.heap.size + 1, 2, none⟩) (.inl (.inl rfl)) _).put (p := ⟨w.heap.size + 1, 3, none⟩) (.inl (.inl rfl)) _).put (p := ⟨w.heap.size + 1, 4, none⟩) (.inl (.inl rfl)) _
  have zF : Bv ((((((w5.setCell ⟨w.heap.size + 1 + 1, 4, none⟩ (.slice A5 x.kn c5)).setCell ⟨w.heap.size + 1, 0, none⟩ (.int .i64 x.kind)).setCell ⟨w.heap.size + 1, 1, none⟩ (.string x.text)).setCell ⟨w.heap.size + 1, 2, none⟩ (.slice A1 x.ln c1)).setCell ⟨w.heap.size + 1, 3, none⟩ (.slice A3 x.fn c3)).setCell ⟨w.heap.size + 1, 4, none⟩ (.slice A5 x.kn c5)) (w.heap.size + 1) x.kind x.text (.slice A1 x.ln c1) (.slice A3 x.fn c3) (.slice A5 x.kn c5) := by
    unfold Bv at z5 ⊢
    simp [World.setCell, Array.getElem?_modify, z5]
  obtain ⟨wF, hwF⟩ : ∃ wF, (((((w5.setCell ⟨w.heap.size + 1 + 1, 4, none⟩ (.slice A5 x.kn c5)).setCell ⟨w.heap.size + 1, 0, none⟩ (.int .i64 x.kind)).setCell ⟨w.heap.size + 1, 1, none⟩ (.string x.text)).setCell ⟨w.heap.size + 1, 2, none⟩ (.slice A1 x.ln c1)).setCell ⟨w.heap.size + 1, 3, none⟩ (.slice A3 x.fn c3)).setCell ⟨w.heap.size + 1, 4, none⟩ (.slice A5 x.kn c5) = wF := ⟨_, rfl⟩
  rw [hwF] at O zF ⊢
  obtain ⟨t0, t1, t2, t3, t4⟩ := zF.cells
  refine bodyPost_ret (v := .agg #[.int .i64 x.kind, .string x.text, .slice A1 x.ln c1, .slice A3 x.fn c3, .slice A5 x.kn c5]) (by simp [results, Tryz.f27, go_sem, t0, t1, t2, t3, t4]) rfl ?_
  have hS := HS0.out
  have hz := O.size
  have hs5 := s5.s
  have m2 := s2_size.out
  have m4 := s4_size.out
  have e1 : OwnS w5 (w.heap.size + 3) (.slice A1 x.ln c1) x.list := by unfold OwnS; rw [hl1.out, ← hS]; exact O4
  have e2 : OwnF w5 w2.heap.size (.slice A3 x.fn c3) x.flds := by unfold OwnF; rw [hl2.out]; exact O5
  have e3 : OwnK w5 w4.heap.size (.slice A5 x.kn c5) x.rank := by unfold OwnK; rw [hl3.out]; exact o6
  refine ⟨A1, c1, A3, c3, A5, c5, w2.heap.size, w4.heap.size, rfl, O.after s5.b (Nat.le_refl _) (fun b h => by omega), ⟨own_only e1 O (fun k hk h => by have := (e1.lt k hk).1; omega), own_only e2 O (fun k hk h => by have := (e2.lt k hk).1; omega), own_only e3 O (fun k hk h => by have := (e3.lt k hk).1; omega), T2, T4, by omega, by omega, by omega⟩⟩
end Go.Proofs.YtgmnnpbbiejbnaaGreat.VaV
set_option maxRecDepth 100000
set_option linter.unusedSimpArgs false
set_option linter.unusedVariables false
namespace Go.Proofs.YtgmnnpbbiejbnaaGreat.VaW
open Go.RowKit Go.Proofs.YtgmnnpbbiejbnaaGreat.Mem Go.Proofs.YtgmnnpbbiejbnaaGreat.VaA Go.Proofs.YtgmnnpbbiejbnaaGreat.VaB Go.Proofs.YtgmnnpbbiejbnaaGreat.VaC Go.Proofs.YtgmnnpbbiejbnaaGreat.VaH Go.Proofs.YtgmnnpbbiejbnaaGreat.VaI Go.Proofs.YtgmnnpbbiejbnaaGreat.VaL Go.Proofs.YtgmnnpbbiejbnaaGreat.VaS Go.Proofs.YtgmnnpbbiejbnaaGreat.VaT Go.Proofs.YtgmnnpbbiejbnaaGreat.VaV

/-- A law on a list of steps, as one step of a region that draws its order. -/
theorem step_of_list {P : Program} {ops : Array Oper} {o : Oper} {a : Act} {w : World} {K : Act → World → Prop} {Q : Exit → Act → World → Prop} {E : Prop} (hgd : o.guard = none)
    (h : wpList P ops (fun e a' w' => e = .normal ∧ K a' w') [o] a w) : if Region.wanted o (yielded ops a.tmps) = true then Oper.wp P o a w K Q else E := by
  have hw : Region.wanted o (yielded ops a.tmps) = true := by simp [Region.wanted, hgd]
  rw [if_pos hw]
  unfold wpList at h
  rw [if_pos hw] at h
  rcases h with h | ⟨-, a', w', h, -⟩
  · have h1 : Oper.wp P o a w K (fun e a' w' => e = .normal ∧ K a' w') := Oper.wp_mono (fun a w h => h.2) h
    unfold Oper.wp at h1 ⊢
    generalize (execOp a.eval o).run P w = r at h1 ⊢
    cases r with
    | ok n w' =>
      cases n <;> simp only [Oper.upon] at h1 ⊢ <;>
        first
          | exact h1
          | exact Calls.mono h1 (fun e w'' he => by
              cases e
              · exact he
              · exact absurd he.1 (by simp)
              · obtain ⟨a, w, he, _⟩ := he
                exact absurd he (by simp))
          | exact absurd h1.1 (by simp)
    | halt x w' =>
      cases x <;> simp only [Oper.upon] at h1 ⊢ <;> first | exact h1 | exact absurd h1.1 (by simp) | (obtain ⟨a, w, he, _⟩ := h1; exact absurd he (by simp))
  · exact absurd h (by simp)

section
variable {w wr w' : World} {x : VV} {g : Nat} {VL VF VK V' : Value} {nL nF nK n' : Nat} {XL XF XK X' : List Value} {k : Int} {t : ByteArray} {L F K : Value} {b : Nat}
theorem Bv.alc (h : Bv w b k t L F K) (o : Obj) : Bv (w.alloc o).drew b k t L F K := (((Only.refl (fun _ => False) w).alloc o).drew).heap h id
theorem Rd.drew {sz n c : Nat} {A : Option Addr} {l : List Value} (h : Rd w sz A n c l) : Rd w.drew sz A n c l := ⟨h.len, h.cap, h.big, h.get⟩
theorem or_new {v v' : Value} (h : v'.ownBlock = v.ownBlock ∨ v'.ownBlock = some w.heap.size) : v'.ownBlock = v.ownBlock ∨ ∃ k, v'.ownBlock = some k ∧ w.heap.size ≤ k := h.imp id (fun e => ⟨_, e, Nat.le_refl _⟩)
theorem Bv.drew (h : Bv w b k t L F K) : Bv w.drew b k t L F K := h
theorem own_pos {e : TypeId} {sz n B : Nat} {v : Value} {xs : List Value} (h : w.ownsRow B e sz v (n + 1) xs) : ∃ b c, v = .slice (some ⟨b, 0, none⟩) (n + 1) c ∧ n + 1 ≤ c ∧ B ≤ b := by
  rcases h.2 with ⟨_, h0⟩ | ⟨g, cap, cur, e1, h1, _, h2, _⟩
  · omega
  · exact ⟨g, cap, e1, h2, h1⟩
end
theorem rd_two (w : World) (a b : Value) (T : TypeId) : Rd (w.alloc (.cells #[a, b] T)) 2 (some ⟨w.heap.size, 0, none⟩) 1 1 [a, b] :=
  ⟨rfl, Nat.le_refl _, by unfold maxLen; omega, fun j x hx => ⟨_, rfl, by
    have h := heap_alloc_new w (.cells #[a, b] T)
    rw [add_mk, Nat.zero_add]
    match j, hx with
    | 0, hx => simp at hx; subst hx; simp only [World.cell?]; rw [h]; rfl
    | 1, hx => simp at hx; subst hx; simp only [World.cell?]; rw [h]; rfl⟩⟩

/-- The three rows, apart from each other and from the boxes; one of them may grow. -/
structure Sq (w : World) (x : VV) (g : Nat) (VL VF VK : Value) (nL nF nK : Nat) (XL XF XK : List Value) (wr : World) : Prop where
  p : Bv wr w.heap.size x.kind x.text (.slice x.LA x.ln x.lc) (.slice x.FA x.fn x.fc) (.slice x.KA x.kn x.kc)
  z : Bv wr (w.heap.size + 1) 0 ⟨#[]⟩ (.slice none 0 0) (.slice none 0 0) (.slice none 0 0)
  b : Below w.heap.size w wr
  l : wr.ownsRow (w.heap.size + 2) 9 1 VL nL XL
  f : wr.ownsRow (w.heap.size + 2) 113 2 VF nF XF
  k : wr.ownsRow (w.heap.size + 2) 115 2 VK nK XK
  gl : VL.ownBlock ≠ some g
  gf : VF.ownBlock ≠ some g
  gk : VK.ownBlock ≠ some g
  lf : ∀ b, VL.ownBlock = some b → VF.ownBlock ≠ some b
  lk : ∀ b, VL.ownBlock = some b → VK.ownBlock ≠ some b
  fk : ∀ b, VF.ownBlock = some b → VK.ownBlock ≠ some b
  hg : w.heap.size + 2 ≤ g
  gz : g < wr.heap.size

section
variable {w wr w' : World} {x : VV} {g : Nat} {VL VF VK V' : Value} {nL nF nK n' : Nat} {XL XF XK X' : List Value} {k : Int} {t : ByteArray} {L F K : Value}
theorem Sq.only (h : Sq w x g VL VF VK nL nF nK XL XF XK wr) (ho : Only (fun k => k = g) wr w') : Sq w x g VL VF VK nL nF nK XL XF XK w' :=
  ⟨ho.heap h.p (by have := h.hg; omega), ho.heap h.z (by have := h.hg; omega), ho.after h.b (Nat.le_refl _) (fun b hb => by have := h.hg; omega),
   own_only h.l ho (fun k hk e => h.gl (e ▸ hk)), own_only h.f ho (fun k hk e => h.gf (e ▸ hk)), own_only h.k ho (fun k hk e => h.gk (e ▸ hk)), h.gl, h.gf, h.gk, h.lf, h.lk, h.fk, h.hg, Nat.lt_of_lt_of_le h.gz ho.size⟩
theorem Sq.row (h : Sq w x g VL VF VK nL nF nK XL XF XK wr) {e : TypeId} {sz n : Nat} {V : Value} {X : List Value} (hv : wr.ownsRow (w.heap.size + 2) e sz V n X) (ho : Only (fun k => V.ownBlock = some k) wr w') :
    Bv w' w.heap.size x.kind x.text (.slice x.LA x.ln x.lc) (.slice x.FA x.fn x.fc) (.slice x.KA x.kn x.kc) ∧ Bv w' (w.heap.size + 1) 0 ⟨#[]⟩ (.slice none 0 0) (.slice none 0 0) (.slice none 0 0) ∧ Below w.heap.size w w' :=
  ⟨ho.heap h.p (fun e => by have := (hv.lt _ e).1; omega), ho.heap h.z (fun e => by have := (hv.lt _ e).1; omega), ho.after h.b (Nat.le_refl _) (fun b hb => by have := (hv.lt _ hb).1; omega)⟩
theorem Sq.onL (h : Sq w x g VL VF VK nL nF nK XL XF XK wr) (ho : Only (fun k => VL.ownBlock = some k) wr w') (hn : w'.ownsRow (w.heap.size + 2) 9 1 V' n' X') (hb : V'.ownBlock = VL.ownBlock ∨ ∃ k, V'.ownBlock = some k ∧ wr.heap.size ≤ k) :
    Sq w x g V' VF VK n' nF nK X' XF XK w' := by
  obtain ⟨h1, h2, h3⟩ := h.row h.l ho
  refine ⟨h1, h2, h3, hn, own_only h.f ho (fun k hk e => h.lf k e hk), own_only h.k ho (fun k hk e => h.lk k e hk), ?_, h.gf, h.gk, ?_, ?_, h.fk, h.hg, Nat.lt_of_lt_of_le h.gz ho.size⟩
  · rcases hb with hb | ⟨k, hb, hk⟩
    · rw [hb]; exact h.gl
    · rw [hb]; intro e; injection e with e; have := h.gz; omega
  · intro b hV e
    rcases hb with hb | ⟨k, hb, hk⟩
    · exact h.lf b (hb ▸ hV) e
    · rw [hb] at hV; injection hV with hV; have := (h.f.lt b e).2; omega
  · intro b hV e
    rcases hb with hb | ⟨k, hb, hk⟩
    · exact h.lk b (hb ▸ hV) e
    · rw [hb] at hV; injection hV with hV; have := (h.k.lt b e).2; omega
theorem Sq.onF (h : Sq w x g VL VF VK nL nF nK XL XF XK wr) (ho : Only (fun k => VF.ownBlock = some k) wr w') (hn : w'.ownsRow (w.heap.size + 2) 113 2 V' n' X') (hb : V'.ownBlock = VF.ownBlock ∨ ∃ k, V'.ownBlock = some k ∧ wr.heap.size ≤ k) :
    Sq w x g VL V' VK nL n' nK XL X' XK w' := by
  obtain ⟨h1, h2, h3⟩ := h.row h.f ho
  refine ⟨h1, h2, h3, own_only h.l ho (fun k hk e => h.lf k hk e), hn, own_only h.k ho (fun k hk e => h.fk k e hk), h.gl, ?_, h.gk, ?_, h.lk, ?_, h.hg, Nat.lt_of_lt_of_le h.gz ho.size⟩
  · rcases hb with hb | ⟨k, hb, hk⟩
    · rw [hb]; exact h.gf
    · rw [hb]; intro e; injection e with e; have := h.gz; omega
  · intro b hV e
    rcases hb with hb | ⟨k, hb, hk⟩
    · exact h.lf b hV (hb ▸ e)
    · rw [hb] at e; injection e with e; have := (h.l.lt b hV).2; omega
  · intro b hV e
    rcases hb with hb | ⟨k, hb, hk⟩
    · exact h.fk b (hb ▸ hV) e
    · rw [hb] at hV; injection hV with hV; have := (h.k.lt b e).2; omega
theorem Sq.onK (h : Sq w x g VL VF VK nL nF nK XL XF XK wr) (ho : Only (fun k => VK.ownBlock = some k) wr w') (hn : w'.ownsRow (w.heap.size + 2) 115 2 V' n' X') (hb : V'.ownBlock = VK.ownBlock ∨ ∃ k, V'.ownBlock = some k ∧ wr.heap.size ≤ k) :
    Sq w x g VL VF V' nL nF n' XL XF X' w' := by
  obtain ⟨h1, h2, h3⟩ := h.row h.k ho
  refine ⟨h1, h2, h3, own_only h.l ho (fun k hk e => h.lk k hk e), own_only h.f ho (fun k hk e => h.fk k hk e), hn, h.gl, h.gf, ?_, h.lf, ?_, ?_, h.hg, Nat.lt_of_lt_of_le h.gz ho.size⟩
  · rcases hb with hb | ⟨k, hb, hk⟩
    · rw [hb]; exact h.gk
    · rw [hb]; intro e; injection e with e; have := h.gz; omega
  · intro b hV e
    rcases hb with hb | ⟨k, hb, hk⟩
    · exact h.lk b hV (hb ▸ e)
    · rw [hb] at e; injection e with e; have := (h.l.lt b hV).2; omega
  · intro b hV e
    rcases hb with hb | ⟨k, hb, hk⟩
    · exact h.fk b hV (hb ▸ e)
    · rw [hb] at e; injection e with e; have := (h.f.lt b hV).2; omega
theorem Sq.szl (h : Sq w x g VL VF VK nL nF nK XL XF XK wr) : w.heap.size + 2 ≤ wr.drew.heap.size := by have := h.hg; have := h.gz; show _ ≤ wr.heap.size; omega
theorem Sq.drew (h : Sq w x g VL VF VK nL nF nK XL XF XK wr) : Sq w x g VL VF VK nL nF nK XL XF XK wr.drew := h.only ((Only.refl _ wr).drew)
theorem Sq.alc (h : Sq w x g VL VF VK nL nF nK XL XF XK wr) (o : Obj) : Sq w x g VL VF VK nL nF nK XL XF XK (wr.alloc o).drew := h.only (((Only.refl _ wr).alloc o).drew)
theorem Sq.boxL (h : Sq w x g VL VF VK nL nF nK XL XF XK wr) (hx : Bv wr g k t L F K) (ho : Only (fun k => VL.ownBlock = some k) wr w') : Bv w' g k t L F K := ho.heap hx h.gl
theorem Sq.boxF (h : Sq w x g VL VF VK nL nF nK XL XF XK wr) (hx : Bv wr g k t L F K) (ho : Only (fun k => VF.ownBlock = some k) wr w') : Bv w' g k t L F K := ho.heap hx h.gf
theorem Sq.boxK (h : Sq w x g VL VF VK nL nF nK XL XF XK wr) (hx : Bv wr g k t L F K) (ho : Only (fun k => VK.ownBlock = some k) wr w') : Bv w' g k t L F K := ho.heap hx h.gk
end

theorem cell_al {w : World} {p : Addr} {v : Value} (h : w.cell? p = some v) (o : Obj) : (w.alloc o).cell? p = some v := ((Only.refl (fun _ => False) w).alloc o).cell h id
theorem split_row {w : World} {B b n c sz : Nat} {e : TypeId} {xs ys : List Value} (h : w.ownsRow B e sz (.slice (some ⟨b, 0, none⟩) (n + 1) c) (n + 1) (xs ++ ys)) (hx : xs.length = n * sz) :
    Rd w sz (some ⟨b, 0, none⟩) n c xs ∧ (∀ j y, ys[j]? = some y → w.cell? ⟨b, n * sz + j, none⟩ = some y) := by
  have hr := Rd.of_own h
  refine ⟨?_, fun j y hy => ?_⟩
  · have ht := hr.take (k := n) (by omega)
    rwa [← hx, List.take_left] at ht
  · obtain ⟨ad, e, hc⟩ := hr.get (n * sz + j) y (by rw [List.getElem?_append_right (by omega), hx, Nat.add_sub_cancel_left]; exact hy)
    injection e with e
    subst e
    rwa [add_mk, Nat.zero_add] at hc
theorem onlyg {g : Nat} {wr : World} (j : Nat) (u : Value) : Only (fun b => b = g) wr (wr.setCell ⟨g, j, none⟩ u) := (Only.refl (fun b => b = g) wr).put (p := ⟨g, j, none⟩) (.inl rfl) u
abbrev spB : ByteArray := ⟨#[115, 112, 97, 114, 101]⟩
structure Spa (w : World) (B : Nat) (y x : VV) : Prop where
  kind : y.kind = x.kind
  text : y.text = x.text
  list : y.list = x.list
  flds : y.flds = x.flds
  rank : y.rank = x.rank
  ln : y.ln = x.ln
  fn : y.fn = x.fn
  kn : y.kn = x.kn
  rd : RdV w y
  al : ∃ b, y.LA = some ⟨b, 0, none⟩ ∧ B ≤ b ∧ x.ln + 1 ≤ y.lc ∧ w.cell? ⟨b, x.ln, none⟩ = some (.string spB)
  af : ∃ b, y.FA = some ⟨b, 0, none⟩ ∧ B ≤ b ∧ x.fn + 1 ≤ y.fc ∧ w.cell? ⟨b, x.fn * 2, none⟩ = some (.string spB)
  ak : ∃ b, y.KA = some ⟨b, 0, none⟩ ∧ B ≤ b ∧ x.kn + 1 ≤ y.kc ∧ w.cell? ⟨b, x.kn * 2 + 1, none⟩ = some (.int .i64 77)
def SpPost (x : VV) (w : World) (e : Ending) (w' : World) : Prop := ∃ y : VV, e = .returned y.val ∧ Spa w' w.heap.size y x ∧ Below w.heap.size w w'

end Go.Proofs.YtgmnnpbbiejbnaaGreat.VaW
