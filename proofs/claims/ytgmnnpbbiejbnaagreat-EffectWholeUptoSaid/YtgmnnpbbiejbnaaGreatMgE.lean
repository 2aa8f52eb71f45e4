/-
  The document's copy of a value, in memory of its own. Conditions: as stated.
  A value in memory of its own with marks behind its lists. Conditions: as stated.
-/
import Derived.Test.YtgmnnpbbiejbnaaGreatVaT
import Derived.Deep.RegionLaw
import Derived.Deep.DeepCutAuto
set_option maxRecDepth 100000
set_option linter.unusedSimpArgs false
set_option linter.unusedVariables false
namespace Go.Proofs.YtgmnnpbbiejbnaaGreat.VaV
open Go.RowKit Go.Proofs.YtgmnnpbbiejbnaaGreat.Mem Go.Proofs.YtgmnnpbbiejbnaaGreat.VaA Go.Proofs.YtgmnnpbbiejbnaaGreat.VaB Go.Proofs.YtgmnnpbbiejbnaaGreat.VaC Go.Proofs.YtgmnnpbbiejbnaaGreat.VaH Go.Proofs.YtgmnnpbbiejbnaaGreat.VaI Go.Proofs.YtgmnnpbbiejbnaaGreat.VaL Go.Proofs.YtgmnnpbbiejbnaaGreat.VaS Go.Proofs.YtgmnnpbbiejbnaaGreat.VaT

/-- The copy under way: the boxes of the parameter, of the result and of the copy. -/
structure St3 (w : World) (x : VV) (L F K : Value) (wr : World) : Prop where
  p : Bv wr w.heap.size x.kind x.text (.slice x.LA x.ln x.lc) (.slice x.FA x.fn x.fc) (.slice x.KA x.kn x.kc)
  z : Bv wr (w.heap.size + 1) 0 ⟨#[]⟩ (.slice none 0 0) (.slice none 0 0) (.slice none 0 0)
  x : Bv wr (w.heap.size + 1 + 1) x.kind x.text L F K
  b : Below w.heap.size w wr
  s : w.heap.size + 3 ≤ wr.heap.size
section
variable {w wr w' : World} {x : VV} {L F K : Value}
theorem St3.below (h : St3 w x L F K wr) (hb : Below wr.heap.size wr w') : St3 w x L F K w' := ⟨h.p.below hb, Bv.below h.z hb, h.x.below hb, h.b.trans (hb.mono h.b.size), by have := h.s; have := hb.size; omega⟩
theorem only_x (j : Nat) (u : Value) : Only (fun b => b = w.heap.size + 1 + 1) wr (wr.setCell ⟨w.heap.size + 1 + 1, j, none⟩ u) := (Only.refl (fun b => b = w.heap.size + 1 + 1) wr).put (p := ⟨w.heap.size + 1 + 1, j, none⟩) (.inl rfl) u
theorem St3.onX (h : St3 w x L F K wr) {L' F' K' : Value} (hx : Bv w' (w.heap.size + 1 + 1) x.kind x.text L' F' K') (ho : Only (fun b => b = w.heap.size + 1 + 1) wr w') : St3 w x L' F' K' w' :=
  ⟨ho.heap h.p (by omega), ho.heap h.z (by omega), hx, ho.after h.b (by omega) (fun b hb => by omega), by have := h.s; have := ho.size; omega⟩
theorem St3.putL (h : St3 w x L F K wr) (u : Value) : St3 w x u F K (wr.setCell ⟨w.heap.size + 1 + 1, 2, none⟩ u) := h.onX (h.x.putL u) (only_x 2 u)
theorem St3.putF (h : St3 w x L F K wr) (u : Value) : St3 w x L u K (wr.setCell ⟨w.heap.size + 1 + 1, 3, none⟩ u) := h.onX (h.x.putF u) (only_x 3 u)
theorem St3.putK (h : St3 w x L F K wr) (u : Value) : St3 w x L F u (wr.setCell ⟨w.heap.size + 1 + 1, 4, none⟩ u) := h.onX (h.x.putK u) (only_x 4 u)
theorem St3.own (h : St3 w x L F K wr) {e : TypeId} {sz n B : Nat} {v u : Value} {xs : List Value} (ho : wr.ownsRow B e sz v n xs) (hB : w.heap.size + 3 ≤ B) (j : Nat) : (wr.setCell ⟨w.heap.size + 1 + 1, j, none⟩ u).ownsRow B e sz v n xs :=
  own_only ho (only_x j u) (fun k hk e => by have := (ho.lt k hk).1; omega)
end

end Go.Proofs.YtgmnnpbbiejbnaaGreat.VaV
set_option maxRecDepth 100000
set_option linter.unusedSimpArgs false
set_option linter.unusedVariables false
namespace Go.Proofs.YtgmnnpbbiejbnaaGreat.VaW
open Go.RowKit Go.Proofs.YtgmnnpbbiejbnaaGreat.Mem Go.Proofs.YtgmnnpbbiejbnaaGreat.VaA Go.Proofs.YtgmnnpbbiejbnaaGreat.VaB Go.Proofs.YtgmnnpbbiejbnaaGreat.VaC Go.Proofs.YtgmnnpbbiejbnaaGreat.VaH Go.Proofs.YtgmnnpbbiejbnaaGreat.VaI Go.Proofs.YtgmnnpbbiejbnaaGreat.VaL Go.Proofs.YtgmnnpbbiejbnaaGreat.VaS Go.Proofs.YtgmnnpbbiejbnaaGreat.VaT Go.Proofs.YtgmnnpbbiejbnaaGreat.VaV

/-- A law on a list of steps, as one step of a region that draws its order. -/
theorem step_of_list {P : Program} {ops : Array Oper} {o : Oper} {a : Act} {w : World} {K : Act → World → Prop} {Q : Exit → Act → World → Prop} {E : Prop} (hgd : o.guard = none)
    (h : wpList P ops (fun e a' w' => e = .normal ∧ K a' w') [o] a w) : if Region.wanted o (yielded ops a.tmps) = true then Oper.wp P o a w K Q else E := by
  have hw : Region.wanted o (yielded ops a.tmps) = true := by simp [Region.wanted, hgd]
  rw [if_pos hw]
  unfold wpList at h
  rw [if_pos hw] at h
  rcases h with h | ⟨-, a', w', h, -⟩
  · have h1 : Oper.wp P o a w K (fun e a' w' => e = .normal ∧ K a' w') := Oper.wp_mono (fun a w h => h.2) h
    unfold Oper.wp at h1 ⊢
    generalize (execOp a.eval o).run P w = r at h1 ⊢
    cases r with
    | ok n w' =>
      cases n <;> simp only [Oper.upon] at h1 ⊢ <;>
        first
          | exact h1
          | exact Calls.mono h1 (fun e w'' he => by
              cases e
              · exact he
              · exact absurd he.1 (by simp)
              · obtain ⟨a, w, he, _⟩ := he
                exact absurd he (by simp))
          | exact absurd h1.1 (by simp)
    | halt x w' =>
      cases x <;> simp only [Oper.upon] at h1 ⊢ <;> first | exact h1 | exact absurd h1.1 (by simp) | (obtain ⟨a, w, he, _⟩ := h1; exact absurd he (by simp))
  · exact absurd h (by simp)

section
variable {w wr w' : World} {x : VV} {g : Nat} {VL VF VK V' : Value} {nL nF nK n' : Nat} {XL XF XK X' : List Value} {k : Int} {t : ByteArray} {L F K : Value} {b : Nat}
theorem Rd.drew {sz n c : Nat} {A : Option Addr} {l : List Value} (h : Rd w sz A n c l) : Rd w.drew sz A n c l := ⟨h.len, h.cap, h.big, h.get⟩
theorem Bv.drew (h : Bv w b k t L F K) : Bv w.drew b k t L F K := h
theorem own_pos {e : TypeId} {sz n B : Nat} {v : Value} {xs : List Value} (h : w.ownsRow B e sz v (n + 1) xs) : ∃ b c, v = .slice (some ⟨b, 0, none⟩) (n + 1) c ∧ n + 1 ≤ c ∧ B ≤ b := by
  rcases h.2 with ⟨_, h0⟩ | ⟨g, cap, cur, e1, h1, _, h2, _⟩
  · omega
  · exact ⟨g, cap, e1, h2, h1⟩
end
theorem rd_two (w : World) (a b : Value) (T : TypeId) : Rd (w.alloc (.cells #[a, b] T)) 2 (some ⟨w.heap.size, 0, none⟩) 1 1 [a, b] :=
  ⟨rfl, Nat.le_refl _, by unfold maxLen; omega, fun j x hx => ⟨_, rfl, by
    have h := heap_alloc_new w (.cells #[a, b] T)
    rw [add_mk, Nat.zero_add]
    match j, hx with
    | 0, hx => simp at hx; subst hx; simp only [World.cell?]; rw [h]; rfl
    | 1, hx => simp at hx; subst hx; simp only [World.cell?]; rw [h]; rfl⟩⟩

/-- The three rows, apart from each other and from the boxes; one of them may grow. -/
structure Sq (w : World) (x : VV) (g : Nat) (VL VF VK : Value) (nL nF nK : Nat) (XL XF XK : List Value) (wr : World) : Prop where
  p : Bv wr w.heap.size x.kind x.text (.slice x.LA x.ln x.lc) (.slice x.FA x.fn x.fc) (.slice x.KA x.kn x.kc)
  z : Bv wr (w.heap.size + 1) 0 ⟨#[]⟩ (.slice none 0 0) (.slice none 0 0) (.slice none 0 0)
  b : Below w.heap.size w wr
  l : wr.ownsRow (w.heap.size + 2) 9 1 VL nL XL
  f : wr.ownsRow (w.heap.size + 2) 113 2 VF nF XF
  k : wr.ownsRow (w.heap.size + 2) 115 2 VK nK XK
  gl : VL.ownBlock ≠ some g
  gf : VF.ownBlock ≠ some g
  gk : VK.ownBlock ≠ some g
  lf : ∀ b, VL.ownBlock = some b → VF.ownBlock ≠ some b
  lk : ∀ b, VL.ownBlock = some b → VK.ownBlock ≠ some b
  fk : ∀ b, VF.ownBlock = some b → VK.ownBlock ≠ some b
  hg : w.heap.size + 2 ≤ g
  gz : g < wr.heap.size

section
variable {w wr w' : World} {x : VV} {g : Nat} {VL VF VK V' : Value} {nL nF nK n' : Nat} {XL XF XK X' : List Value} {k : Int} {t : ByteArray} {L F K : Value}
theorem Sq.only (h : Sq w x g VL VF VK nL nF nK XL XF XK wr) (ho : Only (fun k => k = g) wr w') : Sq w x g VL VF VK nL nF nK XL XF XK w' :=
  ⟨ho.heap h.p (by have := h.hg; omega), ho.heap h.z (by have := h.hg; omega), ho.after h.b (Nat.le_refl _) (fun b hb => by have := h.hg; omega),
   own_only h.l ho (fun k hk e => h.gl (e ▸ hk)), own_only h.f ho (fun k hk e => h.gf (e ▸ hk)), own_only h.k ho (fun k hk e => h.gk (e ▸ hk)), h.gl, h.gf, h.gk, h.lf, h.lk, h.fk, h.hg, Nat.lt_of_lt_of_le h.gz ho.size⟩
theorem Sq.row (h : Sq w x g VL VF VK nL nF nK XL XF XK wr) {e : TypeId} {sz n : Nat} {V : Value} {X : List Value} (hv : wr.ownsRow (w.heap.size + 2) e sz V n X) (ho : Only (fun k => V.ownBlock = some k) wr w') :
    Bv w' w.heap.size x.kind x.text (.slice x.LA x.ln x.lc) (.slice x.FA x.fn x.fc) (.slice x.KA x.kn x.kc) ∧ Bv w' (w.heap.size + 1) 0 ⟨#[]⟩ (.slice none 0 0) (.slice none 0 0) (.slice none 0 0) ∧ Below w.heap.size w w' :=
  ⟨ho.heap h.p (fun e => by have := (hv.lt _ e).1; omega), ho.heap h.z (fun e => by have := (hv.lt _ e).1; omega), ho.after h.b (Nat.le_refl _) (fun b hb => by have := (hv.lt _ hb).1; omega)⟩
theorem Sq.drew (h : Sq w x g VL VF VK nL nF nK XL XF XK wr) : Sq w x g VL VF VK nL nF nK XL XF XK wr.drew := h.only ((Only.refl _ wr).drew)
end

theorem cell_al {w : World} {p : Addr} {v : Value} (h : w.cell? p = some v) (o : Obj) : (w.alloc o).cell? p = some v := ((Only.refl (fun _ => False) w).alloc o).cell h id
theorem onlyg {g : Nat} {wr : World} (j : Nat) (u : Value) : Only (fun b => b = g) wr (wr.setCell ⟨g, j, none⟩ u) := (Only.refl (fun b => b = g) wr).put (p := ⟨g, j, none⟩) (.inl rfl) u
end Go.Proofs.YtgmnnpbbiejbnaaGreat.VaW
