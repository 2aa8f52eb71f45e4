/-
  Rows that may be written; append onto them. Conditions: as stated.
  The state of a value that is read; one step of it. Conditions: as stated.
  The program's reading of a value that is a text. Conditions: as stated.
-/
import Derived.Test.YtgmnnpbbiejbnaaGreatVaT
import Derived.ArgAppend
import Derived.Test.YtgmnnpbbiejbnaaGreatMgD
import Derived.Test.YtgmnnpbbiejbnaaGreatMgE
import Derived.BigRegion
set_option maxRecDepth 100000
set_option linter.unusedSimpArgs false
set_option linter.unusedVariables false
namespace Go.Proofs.YtgmnnpbbiejbnaaGreat.VcV
open Go Go.RowKit Go.Proofs.YtgmnnpbbiejbnaaGreat.Mem Go.Proofs.YtgmnnpbbiejbnaaGreat.VaA Go.Proofs.YtgmnnpbbiejbnaaGreat.VaC Go.Proofs.YtgmnnpbbiejbnaaGreat.VaH Go.Proofs.YtgmnnpbbiejbnaaGreat.VaT

/-- A slice whose cells are there and may be written, spare room too. -/
def Wr (w : World) (e : TypeId) (sz n c : Nat) (A : Option Addr) : Prop :=
  (A = none ∧ n = 0 ∧ c = 0) ∨ ∃ g cur, A = some ⟨g, 0, none⟩ ∧ w.heap[g]? = some (.cells cur e (0, 0)) ∧ n ≤ c ∧ c ≤ maxLen ∧ c * sz ≤ cur.size
theorem heap_setC {w : World} {g : Nat} {cur : Array Value} {e : TypeId} (h : w.heap[g]? = some (.cells cur e (0, 0))) (b j : Nat) (u : Value) : ∃ cur', (w.setCell ⟨b, j, none⟩ u).heap[g]? = some (.cells cur' e (0, 0)) ∧ cur'.size = cur.size := by
  by_cases hb : b = g
  · subst hb
    exact ⟨cur.setIfInBounds j u, by simp [World.setCell, Array.getElem?_modify, h], by simp⟩
  · exact ⟨cur, by simp [World.setCell, Array.getElem?_modify, h, hb], rfl⟩
section
variable {w w' : World} {e : TypeId} {sz n c : Nat} {A : Option Addr}
theorem Wr.put (h : Wr w e sz n c A) (b j : Nat) (u : Value) : Wr (w.setCell ⟨b, j, none⟩ u) e sz n c A := by
  rcases h with h | ⟨g, cur, h1, h2, h3, h4, h5⟩
  · exact .inl h
  · obtain ⟨cur', k1, k2⟩ := heap_setC h2 b j u
    exact .inr ⟨g, cur', h1, k1, h3, h4, by omega⟩
theorem Wr.below (h : Wr w e sz n c A) (hb : Below w.heap.size w w') : Wr w' e sz n c A := by
  rcases h with h | ⟨g, cur, h1, h2, h3⟩
  · exact .inl h
  · exact .inr ⟨g, cur, h1, (hb.block _ (Array.getElem?_eq_some_iff.1 h2).1).trans h2, h3⟩
theorem Wr.only {S : Nat → Prop} (h : Wr w e sz n c A) (ho : Only S w w') (hn : ∀ ad, A = some ad → ¬ S ad.block) : Wr w' e sz n c A := by
  rcases h with h | ⟨g, cur, h1, h2, h3⟩
  · exact .inl h
  · exact .inr ⟨g, cur, h1, ho.heap h2 (hn _ h1), h3⟩
theorem Wr.lt (h : Wr w e sz n c A) : ∀ ad, A = some ad → ad.block < w.heap.size := by
  rcases h with ⟨h, _⟩ | ⟨g, cur, h1, h2, h3⟩
  · rintro ad rfl; cases h
  · rintro ad hA
    rw [hA] at h1; injection h1 with h1; subst h1
    exact (Array.getElem?_eq_some_iff.1 h2).1
theorem Wr.cap (h : Wr w e sz n c A) : n ≤ c ∧ c ≤ maxLen := by
  rcases h with ⟨h, rfl, rfl⟩ | ⟨g, cur, h1, h2, h3, h4, h5⟩
  · exact ⟨Nat.le_refl _, Nat.zero_le _⟩
  · exact ⟨h3, h4⟩
theorem wr_own {B : Nat} {X : List Value} (h : w.ownsRow B e sz (.slice A n c) n X) : Wr w e sz n c A := by
  rcases h.2 with ⟨h1, h2⟩ | ⟨g, cap, cur, h1, h2, h3, h4, h5, h6, h7⟩
  · injection h1 with h1 h3 h4
    exact .inl ⟨h1, h2, h4⟩
  · injection h1 with h1 h8 h9
    subst h9
    exact .inr ⟨g, cur, h1, h3, h4, h5, by omega⟩
theorem Wr.clip (h : Wr w e sz n c A) : Wr w e sz n n A := by
  rcases h with ⟨h, rfl, rfl⟩ | ⟨g, cur, h1, h2, h3, h4, h5⟩
  · exact .inl ⟨h, rfl, rfl⟩
  · exact .inr ⟨g, cur, h1, h2, Nat.le_refl _, by omega, Nat.le_trans (Nat.mul_le_mul_right _ h3) h5⟩
end

theorem only_puts {S : Nat → Prop} {w0 : World} (b : Nat) (hb : S b) : ∀ (vs : List Value) (o : Nat) {w : World}, Only S w0 w → Only S w0 (w.setCells b o vs)
  | [], o, w, h => h
  | v :: vs, o, w, h => only_puts b hb vs (o + 1) (h.put (p := ⟨b, o, none⟩) (.inl hb) v)

section
variable {P : Program} {t e : TypeId} {z : Value} {sz bytes : Nat}
end
end Go.Proofs.YtgmnnpbbiejbnaaGreat.VcV
set_option maxRecDepth 100000
set_option linter.unusedSimpArgs false
set_option linter.unusedVariables false
namespace Go.Proofs.YtgmnnpbbiejbnaaGreat.VbB
open Go.RowKit Go.Proofs.YtgmnnpbbiejbnaaGreat.Mem Go.Proofs.YtgmnnpbbiejbnaaGreat.VaA Go.Proofs.YtgmnnpbbiejbnaaGreat.VaC Go.Proofs.YtgmnnpbbiejbnaaGreat.VaH Go.Proofs.YtgmnnpbbiejbnaaGreat.VaL Go.Proofs.YtgmnnpbbiejbnaaGreat.VaP Go.Proofs.YtgmnnpbbiejbnaaGreat.VaQ Go.Proofs.YtgmnnpbbiejbnaaGreat.VaS Go.Proofs.YtgmnnpbbiejbnaaGreat.VaT Go.Proofs.YtgmnnpbbiejbnaaGreat.VaW Go.Proofs.YtgmnnpbbiejbnaaGreat.VbA Go.Proofs.YtgmnnpbbiejbnaaGreat.VcV

/-- A call of a Go function, as one step of a region that draws its order. -/
theorem step_enter {P : Program} {ops : Array Oper} {o : Oper} {a : Act} {w : World} {K : Act → World → Prop} {Q : Exit → Act → World → Prop} {E : Prop} (hgd : o.guard = none)
    (f : FuncId) (args : Array Value) (hx : (execOp a.eval o).run P w = .ok (.enter f args) w) (h : Calls P f args w fun e w' => ∃ v, e = .returned v ∧ K (a.put o.dst v) w') : if Region.wanted o (yielded ops a.tmps) = true then Oper.wp P o a w K Q else E := by
  have hw : Region.wanted o (yielded ops a.tmps) = true := by simp [Region.wanted, hgd]
  rw [if_pos hw]
  unfold Oper.wp
  rw [hx, Oper.upon_enter]
  refine h.mono ?_
  rintro e w' ⟨v, rfl, hK⟩
  exact hK

/-- The reader, the boxes. -/
structure Dw (T : TypeId) (w : World) (g : Nat) (s : ByteArray) (k : Nat) (bad : Bool) (K : Int) (t : ByteArray) (L F R : Value) (wr : World) : Prop where
  rd : Rdr T wr (w.heap.size + 1) s k bad
  hk : k ≤ s.size
  z : Bv wr w.heap.size 0 ⟨#[]⟩ (.slice none 0 0) (.slice none 0 0) (.slice none 0 0)
  x : Bv wr g K t L F R
  b : Below w.heap.size w wr
  hg : w.heap.size + 2 ≤ g
section
variable {T : TypeId} {w wr w' : World} {g k k' : Nat} {s t t' : ByteArray} {bad b' : Bool} {K : Int} {L F R L' F' R' : Value}
theorem Dw.gz (h : Dw T w g s k bad K t L F R wr) : g < wr.heap.size := (Array.getElem?_eq_some_iff.1 h.x).1
theorem Dw.read (h : Dw T w g s k bad K t L F R wr) (hR : Rdr T w' (w.heap.size + 1) s k' b') (hk : k' ≤ s.size) (ho : Only (fun b => b = w.heap.size + 1) wr w') : Dw T w g s k' b' K t L F R w' :=
  ⟨hR, hk, ho.heap h.z (by omega), ho.heap h.x (by have := h.hg; omega), ho.after h.b (Nat.le_refl _) (fun b hb => by omega), h.hg⟩
theorem Dw.grow (h : Dw T w g s k bad K t L F R wr) {S : Nat → Prop} (ho : Only S wr w') (hS : ∀ b, S b → g + 1 ≤ b) : Dw T w g s k bad K t L F R w' :=
  ⟨ho.heap h.rd (fun hb => by have := hS _ hb; have := h.hg; omega), h.hk, ho.heap h.z (fun hb => by have := hS _ hb; have := h.hg; omega), ho.heap h.x (fun hb => by have := hS _ hb; omega), ho.after h.b (Nat.le_refl _) (fun b hb => by have := hS _ hb; have := h.hg; omega), h.hg⟩
theorem Dw.drew (h : Dw T w g s k bad K t L F R wr) : Dw T w g s k bad K t L F R wr.drew := ⟨h.rd, h.hk, h.z, h.x, h.b.drew, h.hg⟩
theorem Dw.onG (h : Dw T w g s k bad K t L F R wr) (hx : Bv w' g K t' L' F' R') (ho : Only (fun b => b = g) wr w') : Dw T w g s k bad K t' L' F' R' w' :=
  ⟨ho.heap h.rd (by have := h.hg; omega), h.hk, ho.heap h.z (by have := h.hg; omega), hx, ho.after h.b (Nat.le_refl _) (fun b hb => by have := h.hg; omega), h.hg⟩
theorem onlyG (g j : Nat) (u : Value) (wr : World) : Only (fun b => b = g) wr (wr.setCell ⟨g, j, none⟩ u) := (Only.refl (fun b => b = g) wr).put (p := ⟨g, j, none⟩) (.inl rfl) u
theorem Bv.putT {w : World} {b : Nat} {k : Int} {t : ByteArray} {L F K : Value} (h : Bv w b k t L F K) (u : ByteArray) : Bv (w.setCell ⟨b, 1, none⟩ (.string u)) b k u L F K := by unfold Bv at h ⊢; simp [World.setCell, Array.getElem?_modify, h]
theorem Dw.putT (h : Dw T w g s k bad K t L F R wr) (u : ByteArray) : Dw T w g s k bad K u L F R (wr.setCell ⟨g, 1, none⟩ (.string u)) := ⟨(onlyG g 1 _ wr).heap h.rd (by have := h.hg; omega), h.hk, (onlyG g 1 _ wr).heap h.z (by have := h.hg; omega), Bv.putT h.x u, (onlyG g 1 _ wr).after h.b (Nat.le_refl _) (fun b hb => by have := h.hg; omega), h.hg⟩
theorem Dw.putL (h : Dw T w g s k bad K t L F R wr) (u : Value) : Dw T w g s k bad K t u F R (wr.setCell ⟨g, 2, none⟩ u) := h.onG (h.x.putL u) (onlyg 2 u)
theorem Dw.putF (h : Dw T w g s k bad K t L F R wr) (u : Value) : Dw T w g s k bad K t L u R (wr.setCell ⟨g, 3, none⟩ u) := h.onG (h.x.putF u) (onlyg 3 u)
theorem Dw.putK (h : Dw T w g s k bad K t L F R wr) (u : Value) : Dw T w g s k bad K t L F u (wr.setCell ⟨g, 4, none⟩ u) := h.onG (h.x.putK u) (onlyg 4 u)
theorem Dw.bads (h : Dw T w g s k bad K t L F R wr) : Dw T w g s k true K t L F R (wr.setCell ⟨w.heap.size + 1, 2, none⟩ (.bool true)) :=
  h.read h.rd.bad_ h.hk ((Only.refl (fun b => b = w.heap.size + 1) wr).put (p := ⟨w.heap.size + 1, 2, none⟩) (.inl rfl) _)
end
theorem own_nB {w w' : World} {e : TypeId} {sz n B j : Nat} {v : Value} {xs : List Value} (h : w.ownsRow B e sz v n xs) (ho : Only (fun b => b = j) w w') (hj : j < B) : w'.ownsRow B e sz v n xs := own_only h ho (fun k hk e => by have := (h.lt k hk).1; omega)
theorem own_bl {w : World} {e : TypeId} {sz n B : Nat} {v : Value} {xs : List Value} (h : w.ownsRow B e sz v n xs) : ∀ b, v.ownBlock = some b → B ≤ b := fun b hb => (h.lt b hb).1
theorem rdN_step {s : ByteArray} {kind m k : Nat} {l : List ByteArray} {f : List (ByteArray × ByteArray)} {r : List (ByteArray × Int)} {st X : DS} (h : rd1 s kind ⟨k, false, l, f, r⟩ = st) (hN : rdN s kind (m + 1) ⟨k, false, l, f, r⟩ = X) : rdN s kind m st = X := by
  rw [← hN, ← h]; rfl
theorem onlyh {h : Nat} {wr : World} (u0 u1 u2 u3 u4 : Value) : Only (fun b => b = h) wr (((((wr.setCell ⟨h, 0, none⟩ u0).setCell ⟨h, 1, none⟩ u1).setCell ⟨h, 2, none⟩ u2).setCell ⟨h, 3, none⟩ u3).setCell ⟨h, 4, none⟩ u4) :=
  (((((Only.refl (fun b => b = h) wr).put (p := ⟨h, 0, none⟩) (.inl rfl) _).put (p := ⟨h, 1, none⟩) (.inl rfl) _).put (p := ⟨h, 2, none⟩) (.inl rfl) _).put (p := ⟨h, 3, none⟩) (.inl rfl) _).put (p := ⟨h, 4, none⟩) (.inl rfl) _
theorem bv_set {h : Nat} {wr : World} {k k' : Int} {t t' : ByteArray} {L F K : Value} (hb : Bv wr h k t L F K) (u2 u3 u4 : Value) : Bv (((((wr.setCell ⟨h, 0, none⟩ (.int .i64 k')).setCell ⟨h, 1, none⟩ (.string t')).setCell ⟨h, 2, none⟩ u2).setCell ⟨h, 3, none⟩ u3).setCell ⟨h, 4, none⟩ u4) h k' t' u2 u3 u4 := by
  unfold Bv at hb ⊢
  simp [World.setCell, Array.getElem?_modify, hb]
/-- Its rows are new, and may be written. -/
def NwW (B : Nat) (w' : World) (y : VV) : Prop := (Nw B y.LA ∧ Nw B y.FA ∧ Nw B y.KA) ∧ Wr w' 9 1 y.ln y.lc y.LA ∧ Wr w' 113 2 y.fn y.fc y.FA ∧ Wr w' 115 2 y.kn y.kc y.KA
theorem wr_none (w : World) (e : TypeId) (sz : Nat) : Wr w e sz 0 0 none := .inl ⟨rfl, rfl, rfl⟩
/-- What is handed back. -/
def DecPost (s : ByteArray) (w : World) (d : Dc) (e : Ending) (w' : World) : Prop :=
  ∃ y : VV, e = .returned (.tuple #[y.val, .int .i64 (if d.ok then (d.st.k : Int) else 0), .int .i64 (if d.ok then 0 else 132)]) ∧
    (y.kind = (if d.ok then (d.kind : Int) else 0) ∧ y.text = (if d.ok then d.text else ⟨#[]⟩) ∧ y.list = (if d.ok then d.st.l else []) ∧ y.flds = (if d.ok then d.st.f else []) ∧ y.rank = (if d.ok then d.st.r else [])) ∧
    RdV w' y ∧ NwW w.heap.size w' y ∧ Below w.heap.size w w'
theorem rd_nil0 (w : World) (sz : Nat) : Rd w sz none 0 0 [] := Rd.nil w sz
theorem nw_none (B : Nat) : Nw B none := fun ad e => by cases e
theorem post_no {s : ByteArray} {w w' : World} {d : Dc} (hd : d.ok = false) (hb : Below w.heap.size w w') : DecPost s w d (.returned (.tuple #[.agg #[.int .i64 0, .string ⟨#[]⟩, .slice none 0 0, .slice none 0 0, .slice none 0 0], .int .i64 0, .int .i64 132])) w' :=
  ⟨⟨0, ⟨#[]⟩, none, 0, 0, [], none, 0, 0, [], none, 0, 0, []⟩, by rw [hd]; rfl, by rw [hd]; exact ⟨rfl, rfl, rfl, rfl, rfl⟩, ⟨rd_nil0 _ _, rd_nil0 _ _, rd_nil0 _ _⟩, ⟨⟨nw_none _, nw_none _, nw_none _⟩, wr_none _ _ _, wr_none _ _ _, wr_none _ _ _⟩, hb⟩
end Go.Proofs.YtgmnnpbbiejbnaaGreat.VbB
set_option maxRecDepth 100000
set_option linter.unusedSimpArgs false
set_option linter.unusedVariables false
namespace Go.Proofs.YtgmnnpbbiejbnaaGreat.VbD
open Go.RowKit Go.Proofs.YtgmnnpbbiejbnaaGreat.Mem Go.Proofs.YtgmnnpbbiejbnaaGreat.VaA Go.Proofs.YtgmnnpbbiejbnaaGreat.VaC Go.Proofs.YtgmnnpbbiejbnaaGreat.VaH Go.Proofs.YtgmnnpbbiejbnaaGreat.VaL Go.Proofs.YtgmnnpbbiejbnaaGreat.VaP Go.Proofs.YtgmnnpbbiejbnaaGreat.VaQ Go.Proofs.YtgmnnpbbiejbnaaGreat.VaS Go.Proofs.YtgmnnpbbiejbnaaGreat.VaT Go.Proofs.YtgmnnpbbiejbnaaGreat.VaW Go.Proofs.YtgmnnpbbiejbnaaGreat.VbA Go.Proofs.YtgmnnpbbiejbnaaGreat.VbB Go.Proofs.YtgmnnpbbiejbnaaGreat.VcV

set_option maxHeartbeats 2000000 in
theorem dec_1 (s : ByteArray) (w : World) (hs : s.size ≤ 100000000) (k0 k1 : Nat) (b0 b1 : Bool) (t : ByteArray) (h0 : rnum s 1 (0, false) = (1, (k0, b0))) (h1 : rtxt s (k0, b0) = (t, (k1, b1))) :
    Calls Tryz.prog 63 #[.string s] w (DecPost s w (decD s)) := by
  have hk0 : k0 ≤ s.size := by have h := rnum_le s 1 (0, false) (Nat.zero_le _); rwa [h0] at h
  have hk1 : k1 ≤ s.size := by have h := rtxt_le s (k0, b0) hk0; rwa [h1] at h
  have HR := Lib.hid (And.intro h0 h1)
  have hn0 := fun w' (h : Rdr 153 w' (w.heap.size + 1) s 0 false) => num_p (w.heap.size + 1) s 0 1 false w' h (Nat.zero_le _) (by omega) (by decide) (by decide) h0
  have hn1 := fun w' (h : Rdr 153 w' (w.heap.size + 1) s k0 b0) => txt_p (w.heap.size + 1) s k0 b0 w' h hk0 (by omega) h1
  clear h0 h1
  obtain ⟨W0, hW0⟩ : ∃ W0, (w.alloc (.cells #[.int .i64 0, .string ⟨#[]⟩, .slice none 0 0, .slice none 0 0, .slice none 0 0] 42)).alloc (.cells #[.string s, .int .i64 0, .bool false] 153) = W0 := ⟨_, rfl⟩
  have B0 : Below w.heap.size w W0 := by rw [← hW0]; exact ((Below.refl _ w).alloc (Nat.le_refl _) _).alloc (by simp) _
  have S0 : W0.heap.size = w.heap.size + 2 := by rw [← hW0]; simp
  have z0 : Bv W0 w.heap.size 0 ⟨#[]⟩ (.slice none 0 0) (.slice none 0 0) (.slice none 0 0) := by
    rw [← hW0]
    exact ((Only.refl (fun _ => False) (w.alloc _)).alloc _).heap (heap_alloc_new w _) id
  have r0 : Rdr 153 W0 (w.heap.size + 1) s 0 false := by
    rw [← hW0]
    have h := heap_alloc_new (w.alloc (.cells #[.int .i64 0, .string ⟨#[]⟩, .slice none 0 0, .slice none 0 0, .slice none 0 0] 42)) (.cells #[.string s, .int .i64 0, .bool false] 153)
    rw [World.size_alloc] at h
    exact h
  have H0 := Lib.hid hW0
  clear hW0
  have HS0 := Lib.hid S0
  clear S0
  go_enter Tryz.func63, Tryz.ntmps63
  go_wp2_with fail
  rw [H0.out]
  refine (hn0 W0 r0).mono ?_
  rintro e w1 ⟨rfl, r1, o1⟩
  have z1 := o1.heap z0 (by omega)
  have B1 := o1.after B0 (Nat.le_refl _) (fun b h => by omega)
  have hs1 := o1.size
  have hS := HS0.out
  have dw : Dw 153 w w1.heap.size s k0 b0 1 ⟨#[]⟩ (.slice none 0 0) (.slice none 0 0) (.slice none 0 0) (w1.alloc (.cells #[.int .i64 1, .string ⟨#[]⟩, .slice none 0 0, .slice none 0 0, .slice none 0 0] 42)) :=
    ⟨((Only.refl (fun _ => False) w1).alloc _).heap r1 id, hk0, ((Only.refl (fun _ => False) w1).alloc _).heap z1 id, heap_alloc_new w1 _, B1.alloc (by omega) _, by omega⟩
  clear r0 r1 z0 z1 o1 hn0 hS hs1 B0 B1
  go_wp2_with fail
  have hdw := dw
  obtain ⟨g, hg⟩ : ∃ g, w1.heap.size = g := ⟨_, rfl⟩
  rw [hg] at dw ⊢
  clear hdw
  generalize w1.alloc (.cells #[.int .i64 1, .string ⟨#[]⟩, .slice none 0 0, .slice none 0 0, .slice none 0 0] 42) = W1 at dw ⊢
  refine (hn1 W1 dw.rd).mono ?_
  rintro e w2 ⟨rfl, r2, o2⟩
  have d2 := (dw.read r2 hk1 o2)
  clear hn1 r2 o2 dw hg hk0
  have HD : Hid (decD s = ⟨1, t, ⟨k1, b1, [], [], []⟩⟩) := Lib.hid (by unfold decD; rw [HR.out.1]; dsimp only; rw [if_pos rfl, HR.out.2])
  clear HR
  have f1 := d2.x.free 1
  have y1 := d2.x.cells.2.1
  have D := d2.putT t
  have HDw := Lib.hid D
  have c2 := D.rd.c2
  have c1 := D.rd.c1
  obtain ⟨x0, x1, x2, x3, x4⟩ := D.x.cells
  clear D
  cases b1
  · have RV : RdV (w2.setCell ⟨g, 1, none⟩ (.string t)) ⟨1, t, none, 0, 0, [], none, 0, 0, [], none, 0, 0, []⟩ := ⟨rd_nil0 _ _, rd_nil0 _ _, rd_nil0 _ _⟩
    have hck : Calls Tryz.prog 43 #[.agg #[.int .i64 1, .string t, .slice none 0 0, .slice none 0 0, .slice none 0 0]] (w2.setCell ⟨g, 1, none⟩ (.string t)) fun e w' => e = .returned (.int .i64 (chk ⟨1, t, none, 0, 0, [], none, 0, 0, [], none, 0, 0, []⟩)) ∧ Below (w2.setCell ⟨g, 1, none⟩ (.string t)).heap.size (w2.setCell ⟨g, 1, none⟩ (.string t)) w' := check_calls ⟨1, t, none, 0, 0, [], none, 0, 0, [], none, 0, 0, []⟩ _ RV (Nat.zero_le _) (fun y h => by cases h)
    have HCE : Hid (chk ⟨1, t, none, 0, 0, [], none, 0, 0, [], none, 0, 0, []⟩ = chk (bare 1 t [] [] [])) := Lib.hid rfl
    rw [HCE.out] at hck
    clear RV
    by_cases hc0 : chk (bare 1 t [] [] []) = 0
    · have HOK : Hid ((decD s).ok = true) := Lib.hid (by rw [HD.out]; unfold Dc.ok Dc.v; simp; exact hc0)
      rw [hc0] at hck
      clear hc0
      go_wp2_with fail
      refine hck.mono ?_
      rintro e w4 ⟨rfl, b4⟩
      have D4 : Dw 153 w g s k1 false 1 t (.slice none 0 0) (.slice none 0 0) (.slice none 0 0) w4 := HDw.out.grow (Only.of_below b4) (fun b hb => by have := HDw.out.gz; omega)
      clear c1 c2 x0 x1 x2 x3 x4 hck b4 f1 y1 d2
      obtain ⟨x0, x1, x2, x3, x4⟩ := D4.x.cells
      obtain ⟨z0, z1, z2, z3, z4⟩ := D4.z.cells
      have f0 := D4.z.free 0
      have f1 := D4.z.free 1
      have f2 := D4.z.free 2
      have f3 := D4.z.free 3
      have f4 := D4.z.free 4
      have c1 := D4.rd.c1
      go_wp2_with fail
      go_region_law (fail)
      all_goals (
        go_wp2_with fail
        have OF := onlyh (h := w.heap.size) (wr := w4) (.int .i64 1) (.string t) (.slice none 0 0) (.slice none 0 0) (.slice none 0 0)
        have ZF := bv_set (k' := 1) (t' := t) D4.z (.slice none 0 0) (.slice none 0 0) (.slice none 0 0)
        generalize ((((w4.setCell ⟨w.heap.size, 0, none⟩ (.int .i64 1)).setCell ⟨w.heap.size, 1, none⟩ (.string t)).setCell ⟨w.heap.size, 2, none⟩ (.slice none 0 0)).setCell ⟨w.heap.size, 3, none⟩ (.slice none 0 0)).setCell ⟨w.heap.size, 4, none⟩ (.slice none 0 0) = wF at OF ZF ⊢
        obtain ⟨t0, t1, t2, t3, t4⟩ := ZF.cells
        refine bodyPost_ret (v := .tuple #[.agg #[.int .i64 1, .string t, .slice none 0 0, .slice none 0 0, .slice none 0 0], .int .i64 k1, .int .i64 0]) (by simp [results, Tryz.f63, go_sem, t0, t1, t2, t3, t4]) rfl ?_
        exact ⟨⟨1, t, none, 0, 0, [], none, 0, 0, [], none, 0, 0, []⟩, by rw [HOK.out, HD.out]; rfl, by rw [HOK.out, HD.out]; exact ⟨rfl, rfl, rfl, rfl, rfl⟩,
          ⟨rd_nil0 _ _, rd_nil0 _ _, rd_nil0 _ _⟩, ⟨⟨nw_none _, nw_none _, nw_none _⟩, wr_none _ _ _, wr_none _ _ _, wr_none _ _ _⟩, OF.drew.after D4.b (Nat.le_refl _) (fun b h => Nat.le_of_eq h.symm)⟩)
    · have HOK : Hid ((decD s).ok = false) := Lib.hid (by rw [HD.out]; unfold Dc.ok Dc.v; simp; exact hc0)
      have hne : decide (chk (bare 1 t [] [] []) = 0) = false := by simpa using hc0
      go_wp2_with fail
      refine hck.mono ?_
      rintro e w4 ⟨rfl, b4⟩
      have D4 : Dw 153 w g s k1 false 1 t (.slice none 0 0) (.slice none 0 0) (.slice none 0 0) w4 := HDw.out.grow (Only.of_below b4) (fun b hb => by have := HDw.out.gz; omega)
      clear c1 c2 x0 x1 x2 x3 x4 hck b4 f1 y1 d2
      obtain ⟨z0, z1, z2, z3, z4⟩ := D4.z.cells
      have f0 := D4.z.free 0
      have f1 := D4.z.free 1
      have f2 := D4.z.free 2
      have f3 := D4.z.free 3
      have f4 := D4.z.free 4
      go_wp2_with fail
      have OF := onlyh (h := w.heap.size) (wr := w4) (.int .i64 0) (.string ⟨#[]⟩) (.slice none 0 0) (.slice none 0 0) (.slice none 0 0)
      have ZF := bv_set (k' := 0) (t' := ⟨#[]⟩) D4.z (.slice none 0 0) (.slice none 0 0) (.slice none 0 0)
      generalize ((((w4.setCell ⟨w.heap.size, 0, none⟩ (.int .i64 0)).setCell ⟨w.heap.size, 1, none⟩ (.string ⟨#[]⟩)).setCell ⟨w.heap.size, 2, none⟩ (.slice none 0 0)).setCell ⟨w.heap.size, 3, none⟩ (.slice none 0 0)).setCell ⟨w.heap.size, 4, none⟩ (.slice none 0 0) = wF at OF ZF ⊢
      obtain ⟨t0, t1, t2, t3, t4⟩ := ZF.cells
      exact bodyPost_ret (v := .tuple #[.agg #[.int .i64 0, .string ⟨#[]⟩, .slice none 0 0, .slice none 0 0, .slice none 0 0], .int .i64 0, .int .i64 132]) (by simp [results, Tryz.f63, go_sem, t0, t1, t2, t3, t4]) rfl (post_no HOK.out (OF.after D4.b (Nat.le_refl _) (fun b h => Nat.le_of_eq h.symm)))
  · have HOK : Hid ((decD s).ok = false) := Lib.hid (by rw [HD.out]; rfl)
    obtain ⟨z0, z1, z2, z3, z4⟩ := HDw.out.z.cells
    have g0 := HDw.out.z.free 0
    have g1 := HDw.out.z.free 1
    have g2 := HDw.out.z.free 2
    have g3 := HDw.out.z.free 3
    have g4 := HDw.out.z.free 4
    go_wp2_with fail
    all_goals (
      have OF := onlyh (h := w.heap.size) (wr := w2.setCell ⟨g, 1, none⟩ (.string t)) (.int .i64 0) (.string ⟨#[]⟩) (.slice none 0 0) (.slice none 0 0) (.slice none 0 0)
      have ZF := bv_set (k' := 0) (t' := ⟨#[]⟩) HDw.out.z (.slice none 0 0) (.slice none 0 0) (.slice none 0 0)
      generalize (((((w2.setCell ⟨g, 1, none⟩ (.string t)).setCell ⟨w.heap.size, 0, none⟩ (.int .i64 0)).setCell ⟨w.heap.size, 1, none⟩ (.string ⟨#[]⟩)).setCell ⟨w.heap.size, 2, none⟩ (.slice none 0 0)).setCell ⟨w.heap.size, 3, none⟩ (.slice none 0 0)).setCell ⟨w.heap.size, 4, none⟩ (.slice none 0 0) = wF at OF ZF ⊢
      obtain ⟨t0, t1, t2, t3, t4⟩ := ZF.cells
      exact bodyPost_ret (v := .tuple #[.agg #[.int .i64 0, .string ⟨#[]⟩, .slice none 0 0, .slice none 0 0, .slice none 0 0], .int .i64 0, .int .i64 132]) (by simp [results, Tryz.f63, go_sem, t0, t1, t2, t3, t4]) rfl (post_no HOK.out (OF.after HDw.out.b (Nat.le_refl _) (fun b h => Nat.le_of_eq h.symm))))
end Go.Proofs.YtgmnnpbbiejbnaaGreat.VbD
