/-
  A value in memory of its own with marks behind its lists. Conditions: as stated.
-/
import Derived.Test.YthglmpkcfigelaaVaV
import Derived.Deep.RegionLaw
import Derived.Deep.DeepCutAuto
set_option maxRecDepth 100000
set_option linter.unusedSimpArgs false
set_option linter.unusedVariables false
namespace Go.Proofs.Ythglmpkcfigelaa.VaW
open Go.RowKit Go.Proofs.Ythglmpkcfigelaa.Mem Go.Proofs.Ythglmpkcfigelaa.VaA Go.Proofs.Ythglmpkcfigelaa.VaB Go.Proofs.Ythglmpkcfigelaa.VaC Go.Proofs.Ythglmpkcfigelaa.VaH Go.Proofs.Ythglmpkcfigelaa.VaI Go.Proofs.Ythglmpkcfigelaa.VaL Go.Proofs.Ythglmpkcfigelaa.VaS Go.Proofs.Ythglmpkcfigelaa.VaT Go.Proofs.Ythglmpkcfigelaa.VaV

/-- A law on a list of steps, as one step of a region that draws its order. -/
theorem step_of_list {P : Program} {ops : Array Oper} {o : Oper} {a : Act} {w : World} {K : Act → World → Prop} {Q : Exit → Act → World → Prop} {E : Prop} (hgd : o.guard = none)
    (h : wpList P ops (fun e a' w' => e = .normal ∧ K a' w') [o] a w) : if Region.wanted o (yielded ops a.tmps) = true then Oper.wp P o a w K Q else E := by
  have hw : Region.wanted o (yielded ops a.tmps) = true := by simp [Region.wanted, hgd]
  rw [if_pos hw]
  unfold wpList at h
  rw [if_pos hw] at h
  rcases h with h | ⟨-, a', w', h, -⟩
  · have h1 : Oper.wp P o a w K (fun e a' w' => e = .normal ∧ K a' w') := Oper.wp_mono (fun a w h => h.2) h
    unfold Oper.wp at h1 ⊢
    generalize (execOp a.eval o).run P w = r at h1 ⊢
    cases r with
    | ok n w' =>
      cases n <;> simp only [Oper.upon] at h1 ⊢ <;>
        first
          | exact h1
          | exact Calls.mono h1 (fun e w'' he => by
              cases e
              · exact he
              · exact absurd he.1 (by simp)
              · obtain ⟨a, w, he, _⟩ := he
                exact absurd he (by simp))
          | exact absurd h1.1 (by simp)
    | halt x w' =>
      cases x <;> simp only [Oper.upon] at h1 ⊢ <;> first | exact h1 | exact absurd h1.1 (by simp) | (obtain ⟨a, w, he, _⟩ := h1; exact absurd he (by simp))
  · exact absurd h (by simp)

section
variable {w wr w' : World} {x : VV} {g : Nat} {VL VF VK V' : Value} {nL nF nK n' : Nat} {XL XF XK X' : List Value} {k : Int} {t : ByteArray} {L F K : Value} {b : Nat}
theorem Bv.alc (h : Bv w b k t L F K) (o : Obj) : Bv (w.alloc o).drew b k t L F K := (((Only.refl (fun _ => False) w).alloc o).drew).heap h id
theorem Rd.drew {sz n c : Nat} {A : Option Addr} {l : List Value} (h : Rd w sz A n c l) : Rd w.drew sz A n c l := ⟨h.len, h.cap, h.big, h.get⟩
theorem or_new {v v' : Value} (h : v'.ownBlock = v.ownBlock ∨ v'.ownBlock = some w.heap.size) : v'.ownBlock = v.ownBlock ∨ ∃ k, v'.ownBlock = some k ∧ w.heap.size ≤ k := h.imp id (fun e => ⟨_, e, Nat.le_refl _⟩)
theorem Bv.drew (h : Bv w b k t L F K) : Bv w.drew b k t L F K := h
theorem own_pos {e : TypeId} {sz n B : Nat} {v : Value} {xs : List Value} (h : w.ownsRow B e sz v (n + 1) xs) : ∃ b c, v = .slice (some ⟨b, 0, none⟩) (n + 1) c ∧ n + 1 ≤ c ∧ B ≤ b := by
  rcases h.2 with ⟨_, h0⟩ | ⟨g, cap, cur, e1, h1, _, h2, _⟩
  · omega
  · exact ⟨g, cap, e1, h2, h1⟩
end
theorem rd_two (w : World) (a b : Value) (T : TypeId) : Rd (w.alloc (.cells #[a, b] T)) 2 (some ⟨w.heap.size, 0, none⟩) 1 1 [a, b] :=
  ⟨rfl, Nat.le_refl _, by unfold maxLen; omega, fun j x hx => ⟨_, rfl, by
    have h := heap_alloc_new w (.cells #[a, b] T)
    rw [add_mk, Nat.zero_add]
    match j, hx with
    | 0, hx => simp at hx; subst hx; simp only [World.cell?]; rw [h]; rfl
    | 1, hx => simp at hx; subst hx; simp only [World.cell?]; rw [h]; rfl⟩⟩

/-- The three rows, apart from each other and from the boxes; one of them may grow. -/
structure Sq (w : World) (x : VV) (g : Nat) (VL VF VK : Value) (nL nF nK : Nat) (XL XF XK : List Value) (wr : World) : Prop where
  p : Bv wr w.heap.size x.kind x.text (.slice x.LA x.ln x.lc) (.slice x.FA x.fn x.fc) (.slice x.KA x.kn x.kc)
  z : Bv wr (w.heap.size + 1) 0 ⟨#[]⟩ (.slice none 0 0) (.slice none 0 0) (.slice none 0 0)
  b : Below w.heap.size w wr
  l : wr.ownsRow (w.heap.size + 2) 9 1 VL nL XL
  f : wr.ownsRow (w.heap.size + 2) 49 2 VF nF XF
  k : wr.ownsRow (w.heap.size + 2) 51 2 VK nK XK
  gl : VL.ownBlock ≠ some g
  gf : VF.ownBlock ≠ some g
  gk : VK.ownBlock ≠ some g
  lf : ∀ b, VL.ownBlock = some b → VF.ownBlock ≠ some b
  lk : ∀ b, VL.ownBlock = some b → VK.ownBlock ≠ some b
  fk : ∀ b, VF.ownBlock = some b → VK.ownBlock ≠ some b
  hg : w.heap.size + 2 ≤ g
  gz : g < wr.heap.size

section
variable {w wr w' : World} {x : VV} {g : Nat} {VL VF VK V' : Value} {nL nF nK n' : Nat} {XL XF XK X' : List Value} {k : Int} {t : ByteArray} {L F K : Value}
theorem Sq.only (h : Sq w x g VL VF VK nL nF nK XL XF XK wr) (ho : Only (fun k => k = g) wr w') : Sq w x g VL VF VK nL nF nK XL XF XK w' :=
  ⟨ho.heap h.p (by have := h.hg; omega), ho.heap h.z (by have := h.hg; omega), ho.after h.b (Nat.le_refl _) (fun b hb => by have := h.hg; omega),
   own_only h.l ho (fun k hk e => h.gl (e ▸ hk)), own_only h.f ho (fun k hk e => h.gf (e ▸ hk)), own_only h.k ho (fun k hk e => h.gk (e ▸ hk)), h.gl, h.gf, h.gk, h.lf, h.lk, h.fk, h.hg, Nat.lt_of_lt_of_le h.gz ho.size⟩
theorem Sq.row (h : Sq w x g VL VF VK nL nF nK XL XF XK wr) {e : TypeId} {sz n : Nat} {V : Value} {X : List Value} (hv : wr.ownsRow (w.heap.size + 2) e sz V n X) (ho : Only (fun k => V.ownBlock = some k) wr w') :
    Bv w' w.heap.size x.kind x.text (.slice x.LA x.ln x.lc) (.slice x.FA x.fn x.fc) (.slice x.KA x.kn x.kc) ∧ Bv w' (w.heap.size + 1) 0 ⟨#[]⟩ (.slice none 0 0) (.slice none 0 0) (.slice none 0 0) ∧ Below w.heap.size w w' :=
  ⟨ho.heap h.p (fun e => by have := (hv.lt _ e).1; omega), ho.heap h.z (fun e => by have := (hv.lt _ e).1; omega), ho.after h.b (Nat.le_refl _) (fun b hb => by have := (hv.lt _ hb).1; omega)⟩
theorem Sq.onL (h : Sq w x g VL VF VK nL nF nK XL XF XK wr) (ho : Only (fun k => VL.ownBlock = some k) wr w') (hn : w'.ownsRow (w.heap.size + 2) 9 1 V' n' X') (hb : V'.ownBlock = VL.ownBlock ∨ ∃ k, V'.ownBlock = some k ∧ wr.heap.size ≤ k) :
    Sq w x g V' VF VK n' nF nK X' XF XK w' := by
  obtain ⟨h1, h2, h3⟩ := h.row h.l ho
  refine ⟨h1, h2, h3, hn, own_only h.f ho (fun k hk e => h.lf k e hk), own_only h.k ho (fun k hk e => h.lk k e hk), ?_, h.gf, h.gk, ?_, ?_, h.fk, h.hg, Nat.lt_of_lt_of_le h.gz ho.size⟩
  · rcases hb with hb | ⟨k, hb, hk⟩
    · rw [hb]; exact h.gl
    · rw [hb]; intro e; injection e with e; have := h.gz; omega
  · intro b hV e
    rcases hb with hb | ⟨k, hb, hk⟩
    · exact h.lf b (hb ▸ hV) e
    · rw [hb] at hV; injection hV with hV; have := (h.f.lt b e).2; omega
  · intro b hV e
    rcases hb with hb | ⟨k, hb, hk⟩
    · exact h.lk b (hb ▸ hV) e
    · rw [hb] at hV; injection hV with hV; have := (h.k.lt b e).2; omega
theorem Sq.onF (h : Sq w x g VL VF VK nL nF nK XL XF XK wr) (ho : Only (fun k => VF.ownBlock = some k) wr w') (hn : w'.ownsRow (w.heap.size + 2) 49 2 V' n' X') (hb : V'.ownBlock = VF.ownBlock ∨ ∃ k, V'.ownBlock = some k ∧ wr.heap.size ≤ k) :
    Sq w x g VL V' VK nL n' nK XL X' XK w' := by
  obtain ⟨h1, h2, h3⟩ := h.row h.f ho
  refine ⟨h1, h2, h3, own_only h.l ho (fun k hk e => h.lf k hk e), hn, own_only h.k ho (fun k hk e => h.fk k e hk), h.gl, ?_, h.gk, ?_, h.lk, ?_, h.hg, Nat.lt_of_lt_of_le h.gz ho.size⟩
  · rcases hb with hb | ⟨k, hb, hk⟩
    · rw [hb]; exact h.gf
    · rw [hb]; intro e; injection e with e; have := h.gz; omega
  · intro b hV e
    rcases hb with hb | ⟨k, hb, hk⟩
    · exact h.lf b hV (hb ▸ e)
    · rw [hb] at e; injection e with e; have := (h.l.lt b hV).2; omega
  · intro b hV e
    rcases hb with hb | ⟨k, hb, hk⟩
    · exact h.fk b (hb ▸ hV) e
    · rw [hb] at hV; injection hV with hV; have := (h.k.lt b e).2; omega
theorem Sq.onK (h : Sq w x g VL VF VK nL nF nK XL XF XK wr) (ho : Only (fun k => VK.ownBlock = some k) wr w') (hn : w'.ownsRow (w.heap.size + 2) 51 2 V' n' X') (hb : V'.ownBlock = VK.ownBlock ∨ ∃ k, V'.ownBlock = some k ∧ wr.heap.size ≤ k) :
    Sq w x g VL VF V' nL nF n' XL XF X' w' := by
  obtain ⟨h1, h2, h3⟩ := h.row h.k ho
  refine ⟨h1, h2, h3, own_only h.l ho (fun k hk e => h.lk k hk e), own_only h.f ho (fun k hk e => h.fk k hk e), hn, h.gl, h.gf, ?_, h.lf, ?_, ?_, h.hg, Nat.lt_of_lt_of_le h.gz ho.size⟩
  · rcases hb with hb | ⟨k, hb, hk⟩
    · rw [hb]; exact h.gk
    · rw [hb]; intro e; injection e with e; have := h.gz; omega
  · intro b hV e
    rcases hb with hb | ⟨k, hb, hk⟩
    · exact h.lk b hV (hb ▸ e)
    · rw [hb] at e; injection e with e; have := (h.l.lt b hV).2; omega
  · intro b hV e
    rcases hb with hb | ⟨k, hb, hk⟩
    · exact h.fk b hV (hb ▸ e)
    · rw [hb] at e; injection e with e; have := (h.f.lt b hV).2; omega
theorem Sq.szl (h : Sq w x g VL VF VK nL nF nK XL XF XK wr) : w.heap.size + 2 ≤ wr.drew.heap.size := by have := h.hg; have := h.gz; show _ ≤ wr.heap.size; omega
theorem Sq.drew (h : Sq w x g VL VF VK nL nF nK XL XF XK wr) : Sq w x g VL VF VK nL nF nK XL XF XK wr.drew := h.only ((Only.refl _ wr).drew)
theorem Sq.alc (h : Sq w x g VL VF VK nL nF nK XL XF XK wr) (o : Obj) : Sq w x g VL VF VK nL nF nK XL XF XK (wr.alloc o).drew := h.only (((Only.refl _ wr).alloc o).drew)
theorem Sq.boxL (h : Sq w x g VL VF VK nL nF nK XL XF XK wr) (hx : Bv wr g k t L F K) (ho : Only (fun k => VL.ownBlock = some k) wr w') : Bv w' g k t L F K := ho.heap hx h.gl
theorem Sq.boxF (h : Sq w x g VL VF VK nL nF nK XL XF XK wr) (hx : Bv wr g k t L F K) (ho : Only (fun k => VF.ownBlock = some k) wr w') : Bv w' g k t L F K := ho.heap hx h.gf
theorem Sq.boxK (h : Sq w x g VL VF VK nL nF nK XL XF XK wr) (hx : Bv wr g k t L F K) (ho : Only (fun k => VK.ownBlock = some k) wr w') : Bv w' g k t L F K := ho.heap hx h.gk
end

theorem cell_al {w : World} {p : Addr} {v : Value} (h : w.cell? p = some v) (o : Obj) : (w.alloc o).cell? p = some v := ((Only.refl (fun _ => False) w).alloc o).cell h id
theorem split_row {w : World} {B b n c sz : Nat} {e : TypeId} {xs ys : List Value} (h : w.ownsRow B e sz (.slice (some ⟨b, 0, none⟩) (n + 1) c) (n + 1) (xs ++ ys)) (hx : xs.length = n * sz) :
    Rd w sz (some ⟨b, 0, none⟩) n c xs ∧ (∀ j y, ys[j]? = some y → w.cell? ⟨b, n * sz + j, none⟩ = some y) := by
  have hr := Rd.of_own h
  refine ⟨?_, fun j y hy => ?_⟩
  · have ht := hr.take (k := n) (by omega)
    rwa [← hx, List.take_left] at ht
  · obtain ⟨ad, e, hc⟩ := hr.get (n * sz + j) y (by rw [List.getElem?_append_right (by omega), hx, Nat.add_sub_cancel_left]; exact hy)
    injection e with e
    subst e
    rwa [add_mk, Nat.zero_add] at hc
theorem onlyg {g : Nat} {wr : World} (j : Nat) (u : Value) : Only (fun b => b = g) wr (wr.setCell ⟨g, j, none⟩ u) := (Only.refl (fun b => b = g) wr).put (p := ⟨g, j, none⟩) (.inl rfl) u
abbrev spB : ByteArray := ⟨#[115, 112, 97, 114, 101]⟩
structure Spa (w : World) (B : Nat) (y x : VV) : Prop where
  kind : y.kind = x.kind
  text : y.text = x.text
  list : y.list = x.list
  flds : y.flds = x.flds
  rank : y.rank = x.rank
  ln : y.ln = x.ln
  fn : y.fn = x.fn
  kn : y.kn = x.kn
  rd : RdV w y
  al : ∃ b, y.LA = some ⟨b, 0, none⟩ ∧ B ≤ b ∧ x.ln + 1 ≤ y.lc ∧ w.cell? ⟨b, x.ln, none⟩ = some (.string spB)
  af : ∃ b, y.FA = some ⟨b, 0, none⟩ ∧ B ≤ b ∧ x.fn + 1 ≤ y.fc ∧ w.cell? ⟨b, x.fn * 2, none⟩ = some (.string spB)
  ak : ∃ b, y.KA = some ⟨b, 0, none⟩ ∧ B ≤ b ∧ x.kn + 1 ≤ y.kc ∧ w.cell? ⟨b, x.kn * 2 + 1, none⟩ = some (.int .i64 77)
def SpPost (x : VV) (w : World) (e : Ending) (w' : World) : Prop := ∃ y : VV, e = .returned y.val ∧ Spa w' w.heap.size y x ∧ Below w.heap.size w w'

set_option maxHeartbeats 8000000 in
theorem spare_calls (x : VV) (w : World) (hr : RdV w x) (hs : Sm x) :
    Calls Try.prog 10 #[x.val] w (SpPost x w) := by
  have hv : x.val = .agg #[.int .i64 x.kind, .string x.text, .slice x.LA x.ln x.lc, .slice x.FA x.fn x.fc, .slice x.KA x.kn x.kc] := rfl
  have hcp := fun w' (h : RdV w' x) => copyR_calls x w' h hs
  rw [hv] at hcp ⊢
  have hl1 : Hid (x.list.length = x.ln) := Lib.hid (rds_len hr.l)
  have hl2 : Hid (x.flds.length = x.fn) := Lib.hid (rdf_len hr.f)
  have hl3 : Hid (x.rank.length = x.kn) := Lib.hid (rdk_len hr.k)
  obtain ⟨W0, hW0⟩ : ∃ W0, (w.alloc (.cells #[.int .i64 x.kind, .string x.text, .slice x.LA x.ln x.lc, .slice x.FA x.fn x.fc, .slice x.KA x.kn x.kc] 26)).alloc (.cells #[.int .i64 0, .string ⟨#[]⟩, .slice none 0 0, .slice none 0 0, .slice none 0 0] 26) = W0 := ⟨_, rfl⟩
  have B0 : Below w.heap.size w W0 := by rw [← hW0]; exact ((Below.refl _ w).alloc (Nat.le_refl _) _).alloc (by simp) _
  have S0 : W0.heap.size = w.heap.size + 2 := by rw [← hW0]; simp
  have p0 : Bv W0 w.heap.size x.kind x.text (.slice x.LA x.ln x.lc) (.slice x.FA x.fn x.fc) (.slice x.KA x.kn x.kc) := by
    rw [← hW0]
    exact ((Only.refl (fun _ => False) (w.alloc _)).alloc _).heap (heap_alloc_new w _) id
  have z0 : Bv W0 (w.heap.size + 1) 0 ⟨#[]⟩ (.slice none 0 0) (.slice none 0 0) (.slice none 0 0) := by
    rw [← hW0]
    have h := heap_alloc_new (w.alloc (.cells #[.int .i64 x.kind, .string x.text, .slice x.LA x.ln x.lc, .slice x.FA x.fn x.fc, .slice x.KA x.kn x.kc] 26)) (.cells #[.int .i64 0, .string ⟨#[]⟩, .slice none 0 0, .slice none 0 0, .slice none 0 0] 26)
    rw [World.size_alloc] at h
    exact h
  have H0 := Lib.hid hW0
  clear hW0
  have HS0 := Lib.hid S0
  clear S0
  go_enter Try.func10, Try.ntmps10
  go_upto_region 2 with (rw [H0.out]; refine (hcp W0 (hr.below B0)).mono ?_; rintro e w1 ⟨A1, c1, A3, c3, A5, c5, b2, b3, rfl, b1, ow⟩; have p1 := p0.below b1; have z1 := Bv.below z0 b1)
  have O1 := ow.l
  have O3 := ow.f
  have O5 := ow.k
  unfold OwnS at O1
  unfold OwnF at O3
  unfold OwnK at O5
  rw [hl1.out] at O1
  rw [hl2.out] at O3
  rw [hl3.out] at O5
  have hS := HS0.out
  have hb1 := b1.size
  have ob2 := ow.h2
  have ob3 := ow.h3
  have obz := ow.hz
  have q1 : Sq w x w1.heap.size (.slice A1 x.ln c1) (.slice A3 x.fn c3) (.slice A5 x.kn c5) x.ln x.fn x.kn (strs x.list) (flds x.flds) (rnks x.rank) (w1.alloc (.cells #[.int .i64 x.kind, .string x.text, .slice A1 x.ln c1, .slice A3 x.fn c3, .slice A5 x.kn c5] 26)) := by
    refine ⟨(((Only.refl (fun _ => False) w1).alloc _).heap p1 id), (((Only.refl (fun _ => False) w1).alloc _).heap z1 id), (B0.trans (b1.mono B0.size)).alloc (by omega) _,
      own_only (own_less O1 (by omega)) ((Only.refl (fun _ => False) w1).alloc _) (fun _ _ => id), own_only (own_less O3 (by omega)) ((Only.refl (fun _ => False) w1).alloc _) (fun _ _ => id), own_only (own_less O5 (by omega)) ((Only.refl (fun _ => False) w1).alloc _) (fun _ _ => id),
      fun e => by have := (O1.lt _ e).2; omega, fun e => by have := (O3.lt _ e).2; omega, fun e => by have := (O5.lt _ e).2; omega, fun b e e' => by have := ow.lb b e; have := (O3.lt b e').1; omega, fun b e e' => by have := ow.lb b e; have := (O5.lt b e').1; omega, fun b e e' => by have := ow.fb b e; have := (O5.lt b e').1; omega, by omega, by simp⟩
  have x1 : Bv (w1.alloc (.cells #[.int .i64 x.kind, .string x.text, .slice A1 x.ln c1, .slice A3 x.fn c3, .slice A5 x.kn c5] 26)) w1.heap.size x.kind x.text (.slice A1 x.ln c1) (.slice A3 x.fn c3) (.slice A5 x.kn c5) := heap_alloc_new w1 _
  have hcl : c1 ≤ maxLen := (Rd.of_own O1).big
  generalize w1.alloc (.cells #[.int .i64 x.kind, .string x.text, .slice A1 x.ln c1, .slice A3 x.fn c3, .slice A5 x.kn c5] 26) = W1 at q1 x1 ⊢
  obtain ⟨g, hg⟩ : ∃ g, w1.heap.size = g := ⟨_, rfl⟩
  rw [hg] at q1 x1 ⊢
  clear hg p1 z1 b1 ow O1 O3 O5 p0 z0 B0 hb1 ob2 ob3 obz hcp hS
  have hgz := q1.gz
  have hln := hs.ln
  have n1 : ((x.ln : Nat) : Int) ≤ 100000000 := by omega
  go_cut [] (fun wx => ∃ b c, Sq w x g (.slice (some ⟨b, 0, none⟩) (x.ln + 1) c) (.slice A3 x.fn c3) (.slice A5 x.kn c5) (x.ln + 1) x.fn x.kn (strs x.list ++ [.string spB]) (flds x.flds) (rnks x.rank) wx ∧ Bv wx g x.kind x.text (.slice (some ⟨b, 0, none⟩) x.ln c) (.slice A3 x.fn c3) (.slice A5 x.kn c5) ∧ x.ln + 1 ≤ c)
  case first =>
    have e1 := x1.cells.2.2.1
    have e2 := q1.p.cells.2.2.1
    have d1 := cell_al e1 (.cells #[.string spB] 9)
    have d2 := cell_al e2 (.cells #[.string spB] 9)
    go_region_law (refine step_of_list rfl ?_; refine wpList_app1 (w := W1.drew) rfl (.tmp 7) (.tmp 8) elS rfl (w.heap.size + 2) (.slice A1 x.ln c1) x.ln (strs x.list) rfl q1.drew.l (.string spB) rfl rfl (by unfold maxLen; omega) (by omega) (q1.szl) ?_; intro v' w' h1 h2 h3; refine ⟨rfl, ?_⟩; have q2 := q1.drew.onL h2 h1 h3; have x2 := q1.drew.boxL (Bv.drew x1) h2; obtain ⟨b, c, rfl, hc, hb⟩ := own_pos h1; have u1 := q2.p.cells.2.2.1; have u2 := x2.free 2; have u4 := x2.cells.2.2.1; have u3 : ((x.ln : Nat) : Int) ≤ (c : Int) := by omega)
    all_goals (go_wp2_with fail; go_meet; exact ⟨b, c, q2.only (onlyg 2 _), x2.putL _, hc⟩)
  case rest =>
    clear x1 q1 hgz hcl
    obtain ⟨b, c, q1, x1, hcl⟩ := hcut
    have HCL := Lib.hid hcl
    clear hcl
    go_upto_region 3 with fail
    have hgz := q1.gz
    have hln2 := hs.fn
    have n2 : ((x.fn : Nat) : Int) ≤ 100000000 := by omega
    go_cut [] (fun wx => ∃ b' c', Sq w x g (.slice (some ⟨b, 0, none⟩) (x.ln + 1) c) (.slice (some ⟨b', 0, none⟩) (x.fn + 1) c') (.slice A5 x.kn c5) (x.ln + 1) (x.fn + 1) x.kn (strs x.list ++ [.string spB]) (flds x.flds ++ [.string spB, .string ⟨#[]⟩]) (rnks x.rank) wx ∧ Bv wx g x.kind x.text (.slice (some ⟨b, 0, none⟩) x.ln c) (.slice (some ⟨b', 0, none⟩) x.fn c') (.slice A5 x.kn c5) ∧ x.fn + 1 ≤ c')
    case first =>
      have e1 := x1.cells.2.2.2.1
      have e2 := q1.p.cells.2.2.2.1
      have d1 := cell_al e1 (.cells #[.string spB, .string ⟨#[]⟩] 49)
      have d2 := cell_al e2 (.cells #[.string spB, .string ⟨#[]⟩] 49)
      have qd := q1.alc (.cells #[.string spB, .string ⟨#[]⟩] 49)
      have xd := Bv.alc x1 (.cells #[.string spB, .string ⟨#[]⟩] 49)
      go_region_law (refine step_of_list rfl ?_; refine wpList_app (w := (wc.alloc (.cells #[.string spB, .string ⟨#[]⟩] 49)).drew) rfl (.tmp 16) (.tmp 18) elF rfl (w.heap.size + 2) (.slice A3 x.fn c3) x.fn (flds x.flds) rfl qd.f (some ⟨wc.heap.size, 0, none⟩) 1 1 [.string spB, .string ⟨#[]⟩] rfl (Rd.drew (rd_two wc _ _ _)) (by simp; exact ⟨rfl, rfl⟩) (by unfold maxLen; omega) (by omega) qd.szl ?_; intro v' w' h1 h2 h3; refine ⟨rfl, ?_⟩; have q2 := qd.onF h2 h1 (or_new h3); have x2 := qd.boxF xd h2; obtain ⟨b', c', rfl, hc, hb⟩ := own_pos h1; have u1 := q2.p.cells.2.2.2.1; have u2 := x2.free 3; have u4 := x2.cells.2.2.2.1; have u3 : ((x.fn : Nat) : Int) ≤ (c' : Int) := by omega)
      all_goals (go_wp2_with fail; go_meet; exact ⟨b', c', q2.only (onlyg 3 _), x2.putF _, hc⟩)
    case rest =>
      clear x1 q1 hgz
      obtain ⟨b', c', q1, x1, hcl⟩ := hcut
      have HCF := Lib.hid hcl
      clear hcl
      go_upto_region 4 with fail
      have hgz := q1.gz
      have hln3 := hs.kn
      have n3 : ((x.kn : Nat) : Int) ≤ 100000000 := by omega
      go_cut [] (fun wx => ∃ b'' c'', Sq w x g (.slice (some ⟨b, 0, none⟩) (x.ln + 1) c) (.slice (some ⟨b', 0, none⟩) (x.fn + 1) c') (.slice (some ⟨b'', 0, none⟩) (x.kn + 1) c'') (x.ln + 1) (x.fn + 1) (x.kn + 1) (strs x.list ++ [.string spB]) (flds x.flds ++ [.string spB, .string ⟨#[]⟩]) (rnks x.rank ++ [.string ⟨#[]⟩, .int .i64 77]) wx ∧ Bv wx g x.kind x.text (.slice (some ⟨b, 0, none⟩) x.ln c) (.slice (some ⟨b', 0, none⟩) x.fn c') (.slice (some ⟨b'', 0, none⟩) x.kn c'') ∧ x.kn + 1 ≤ c'')
      case first =>
        have e1 := x1.cells.2.2.2.2
        have e2 := q1.p.cells.2.2.2.2
        have d1 := cell_al e1 (.cells #[.string ⟨#[]⟩, .int .i64 77] 51)
        have d2 := cell_al e2 (.cells #[.string ⟨#[]⟩, .int .i64 77] 51)
        have qd := q1.alc (.cells #[.string ⟨#[]⟩, .int .i64 77] 51)
        have xd := Bv.alc x1 (.cells #[.string ⟨#[]⟩, .int .i64 77] 51)
        go_region_law (refine step_of_list rfl ?_; refine wpList_app (w := (wc.alloc (.cells #[.string ⟨#[]⟩, .int .i64 77] 51)).drew) rfl (.tmp 26) (.tmp 28) elK rfl (w.heap.size + 2) (.slice A5 x.kn c5) x.kn (rnks x.rank) rfl qd.k (some ⟨wc.heap.size, 0, none⟩) 1 1 [.string ⟨#[]⟩, .int .i64 77] rfl (Rd.drew (rd_two wc _ _ _)) (by simp; exact ⟨rfl, rfl⟩) (by unfold maxLen; omega) (by omega) qd.szl ?_; intro v' w' h1 h2 h3; refine ⟨rfl, ?_⟩; have q2 := qd.onK h2 h1 (or_new h3); have x2 := qd.boxK xd h2; obtain ⟨b'', c'', rfl, hc, hb⟩ := own_pos h1; have u1 := q2.p.cells.2.2.2.2; have u2 := x2.free 4; have u4 := x2.cells.2.2.2.2; have u3 : ((x.kn : Nat) : Int) ≤ (c'' : Int) := by omega)
        all_goals (go_wp2_with fail; go_meet; exact ⟨b'', c'', q2.only (onlyg 4 _), x2.putK _, hc⟩)
      case rest =>
        clear x1 q1 hgz
        obtain ⟨b'', c'', q1, x1, hcl⟩ := hcut
        have HCK := Lib.hid hcl
        clear hcl
        obtain ⟨y0, y1, y2, y3, y4⟩ := x1.cells
        obtain ⟨d0, d1, d2, d3, d4⟩ := q1.z.cells
        have f0 := q1.z.free 0
        have f1 := q1.z.free 1
        have f2 := q1.z.free 2
        have f3 := q1.z.free 3
        have f4 := q1.z.free 4
        go_wp2_with fail
        have z5 := q1.z
        have O : Only (fun b => b = w.heap.size + 1) wc (((((wc.setCell ⟨w.heap.size + 1, 0, none⟩ (.int .i64 x.kind)).setCell ⟨w.heap.size + 1, 1, none⟩ (.string x.text)).setCell ⟨w.heap.size + 1, 2, none⟩ (.slice (some ⟨b, 0, none⟩) x.ln c)).setCell ⟨w.heap.size + 1, 3, none⟩ (.slice (some ⟨b', 0, none⟩) x.fn c')).setCell ⟨w.heap.size + 1, 4, none⟩ (.slice (some ⟨b'', 0, none⟩) x.kn c'')) :=
          (((((Only.refl (fun b => b = w.heap.size + 1) wc).put (p := ⟨w.heap.size + 1, 0, none⟩) (.inl rfl) _).put (p := ⟨w.heap.size + 1, 1, none⟩) (.inl rfl) _).put (p := ⟨w.heap.size + 1, 2, none⟩) (.inl rfl) _).put (p := ⟨w.heap.size + 1, 3, none⟩) (.inl rfl) _).put (p := ⟨w.heap.size + 1, 4, none⟩) (.inl rfl) _
        have zF : Bv (((((wc.setCell ⟨w.heap.size + 1, 0, none⟩ (.int .i64 x.kind)).setCell ⟨w.heap.size + 1, 1, none⟩ (.string x.text)).setCell ⟨w.heap.size + 1, 2, none⟩ (.slice (some ⟨b, 0, none⟩) x.ln c)).setCell ⟨w.heap.size + 1, 3, none⟩ (.slice (some ⟨b', 0, none⟩) x.fn c')).setCell ⟨w.heap.size + 1, 4, none⟩ (.slice (some ⟨b'', 0, none⟩) x.kn c'')) (w.heap.size + 1) x.kind x.text (.slice (some ⟨b, 0, none⟩) x.ln c) (.slice (some ⟨b', 0, none⟩) x.fn c') (.slice (some ⟨b'', 0, none⟩) x.kn c'') := by
          unfold Bv at z5 ⊢
          simp [World.setCell, Array.getElem?_modify, z5]
        obtain ⟨wF, hwF⟩ : ∃ wF, ((((wc.setCell ⟨w.heap.size + 1, 0, none⟩ (.int .i64 x.kind)).setCell ⟨w.heap.size + 1, 1, none⟩ (.string x.text)).setCell ⟨w.heap.size + 1, 2, none⟩ (.slice (some ⟨b, 0, none⟩) x.ln c)).setCell ⟨w.heap.size + 1, 3, none⟩ (.slice (some ⟨b', 0, none⟩) x.fn c')).setCell ⟨w.heap.size + 1, 4, none⟩ (.slice (some ⟨b'', 0, none⟩) x.kn c'') = wF := ⟨_, rfl⟩
        rw [hwF] at O zF ⊢
        obtain ⟨t0, t1, t2, t3, t4⟩ := zF.cells
        refine bodyPost_ret (v := .agg #[.int .i64 x.kind, .string x.text, .slice (some ⟨b, 0, none⟩) x.ln c, .slice (some ⟨b', 0, none⟩) x.fn c', .slice (some ⟨b'', 0, none⟩) x.kn c'']) (by simp [results, Try.f10, go_sem, t0, t1, t2, t3, t4]) rfl ?_
        have oL := own_only q1.l O (fun k hk h => by have := (q1.l.lt k hk).1; omega)
        have oF := own_only q1.f O (fun k hk h => by have := (q1.f.lt k hk).1; omega)
        have oK := own_only q1.k O (fun k hk h => by have := (q1.k.lt k hk).1; omega)
        have bL := (q1.l.lt b rfl).1
        have bF := (q1.f.lt b' rfl).1
        have bK := (q1.k.lt b'' rfl).1
        obtain ⟨rL, sL⟩ := split_row oL (by rw [strs_len, hl1.out]; omega)
        obtain ⟨rF, sF⟩ := split_row oF (by rw [flds, two_len, hl2.out])
        obtain ⟨rK, sK⟩ := split_row oK (by rw [rnks, two_len, hl3.out])
        exact ⟨{ x with LA := some ⟨b, 0, none⟩, lc := c, FA := some ⟨b', 0, none⟩, fc := c', KA := some ⟨b'', 0, none⟩, kc := c'' }, rfl,
          ⟨rfl, rfl, rfl, rfl, rfl, rfl, rfl, rfl, ⟨rL, rF, rK⟩, ⟨b, rfl, by omega, HCL.out, by have h := sL 0 _ rfl; rwa [Nat.mul_one] at h⟩, ⟨b', rfl, by omega, HCF.out, sF 0 _ rfl⟩, ⟨b'', rfl, by omega, HCK.out, sK 1 _ rfl⟩⟩,
          O.after q1.b (Nat.le_refl _) (fun b h => by omega)⟩
end Go.Proofs.Ythglmpkcfigelaa.VaW
