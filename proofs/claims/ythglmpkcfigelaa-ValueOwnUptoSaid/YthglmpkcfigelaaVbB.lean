/-
  The state of a value that is read; one step of it. Conditions: as stated.
-/
import Derived.Test.YthglmpkcfigelaaVbA
import Derived.Test.YthglmpkcfigelaaVaW
import Derived.BigRegion
import Derived.Test.YthglmpkcfigelaaVcV
set_option maxRecDepth 100000
set_option linter.unusedSimpArgs false
set_option linter.unusedVariables false
namespace Go.Proofs.Ythglmpkcfigelaa.VbB
open Go.RowKit Go.Proofs.Ythglmpkcfigelaa.Mem Go.Proofs.Ythglmpkcfigelaa.VaA Go.Proofs.Ythglmpkcfigelaa.VaC Go.Proofs.Ythglmpkcfigelaa.VaH Go.Proofs.Ythglmpkcfigelaa.VaL Go.Proofs.Ythglmpkcfigelaa.VaP Go.Proofs.Ythglmpkcfigelaa.VaQ Go.Proofs.Ythglmpkcfigelaa.VaS Go.Proofs.Ythglmpkcfigelaa.VaT Go.Proofs.Ythglmpkcfigelaa.VaW Go.Proofs.Ythglmpkcfigelaa.VbA Go.Proofs.Ythglmpkcfigelaa.VcV

/-- A call of a Go function, as one step of a region that draws its order. -/
theorem step_enter {P : Program} {ops : Array Oper} {o : Oper} {a : Act} {w : World} {K : Act → World → Prop} {Q : Exit → Act → World → Prop} {E : Prop} (hgd : o.guard = none)
    (f : FuncId) (args : Array Value) (hx : (execOp a.eval o).run P w = .ok (.enter f args) w) (h : Calls P f args w fun e w' => ∃ v, e = .returned v ∧ K (a.put o.dst v) w') : if Region.wanted o (yielded ops a.tmps) = true then Oper.wp P o a w K Q else E := by
  have hw : Region.wanted o (yielded ops a.tmps) = true := by simp [Region.wanted, hgd]
  rw [if_pos hw]
  unfold Oper.wp
  rw [hx, Oper.upon_enter]
  refine h.mono ?_
  rintro e w' ⟨v, rfl, hK⟩
  exact hK

/-- The reader, the boxes. -/
structure Dw (T : TypeId) (w : World) (g : Nat) (s : ByteArray) (k : Nat) (bad : Bool) (K : Int) (t : ByteArray) (L F R : Value) (wr : World) : Prop where
  rd : Rdr T wr (w.heap.size + 1) s k bad
  hk : k ≤ s.size
  z : Bv wr w.heap.size 0 ⟨#[]⟩ (.slice none 0 0) (.slice none 0 0) (.slice none 0 0)
  x : Bv wr g K t L F R
  b : Below w.heap.size w wr
  hg : w.heap.size + 2 ≤ g
section
variable {T : TypeId} {w wr w' : World} {g k k' : Nat} {s t t' : ByteArray} {bad b' : Bool} {K : Int} {L F R L' F' R' : Value}
theorem Dw.gz (h : Dw T w g s k bad K t L F R wr) : g < wr.heap.size := (Array.getElem?_eq_some_iff.1 h.x).1
theorem Dw.read (h : Dw T w g s k bad K t L F R wr) (hR : Rdr T w' (w.heap.size + 1) s k' b') (hk : k' ≤ s.size) (ho : Only (fun b => b = w.heap.size + 1) wr w') : Dw T w g s k' b' K t L F R w' :=
  ⟨hR, hk, ho.heap h.z (by omega), ho.heap h.x (by have := h.hg; omega), ho.after h.b (Nat.le_refl _) (fun b hb => by omega), h.hg⟩
theorem Dw.grow (h : Dw T w g s k bad K t L F R wr) {S : Nat → Prop} (ho : Only S wr w') (hS : ∀ b, S b → g + 1 ≤ b) : Dw T w g s k bad K t L F R w' :=
  ⟨ho.heap h.rd (fun hb => by have := hS _ hb; have := h.hg; omega), h.hk, ho.heap h.z (fun hb => by have := hS _ hb; have := h.hg; omega), ho.heap h.x (fun hb => by have := hS _ hb; omega), ho.after h.b (Nat.le_refl _) (fun b hb => by have := hS _ hb; have := h.hg; omega), h.hg⟩
theorem Dw.drew (h : Dw T w g s k bad K t L F R wr) : Dw T w g s k bad K t L F R wr.drew := ⟨h.rd, h.hk, h.z, h.x, h.b.drew, h.hg⟩
theorem Dw.onG (h : Dw T w g s k bad K t L F R wr) (hx : Bv w' g K t' L' F' R') (ho : Only (fun b => b = g) wr w') : Dw T w g s k bad K t' L' F' R' w' :=
  ⟨ho.heap h.rd (by have := h.hg; omega), h.hk, ho.heap h.z (by have := h.hg; omega), hx, ho.after h.b (Nat.le_refl _) (fun b hb => by have := h.hg; omega), h.hg⟩
theorem onlyG (g j : Nat) (u : Value) (wr : World) : Only (fun b => b = g) wr (wr.setCell ⟨g, j, none⟩ u) := (Only.refl (fun b => b = g) wr).put (p := ⟨g, j, none⟩) (.inl rfl) u
theorem Bv.putT {w : World} {b : Nat} {k : Int} {t : ByteArray} {L F K : Value} (h : Bv w b k t L F K) (u : ByteArray) : Bv (w.setCell ⟨b, 1, none⟩ (.string u)) b k u L F K := by unfold Bv at h ⊢; simp [World.setCell, Array.getElem?_modify, h]
theorem Dw.putT (h : Dw T w g s k bad K t L F R wr) (u : ByteArray) : Dw T w g s k bad K u L F R (wr.setCell ⟨g, 1, none⟩ (.string u)) := ⟨(onlyG g 1 _ wr).heap h.rd (by have := h.hg; omega), h.hk, (onlyG g 1 _ wr).heap h.z (by have := h.hg; omega), Bv.putT h.x u, (onlyG g 1 _ wr).after h.b (Nat.le_refl _) (fun b hb => by have := h.hg; omega), h.hg⟩
theorem Dw.putL (h : Dw T w g s k bad K t L F R wr) (u : Value) : Dw T w g s k bad K t u F R (wr.setCell ⟨g, 2, none⟩ u) := h.onG (h.x.putL u) (onlyg 2 u)
theorem Dw.putF (h : Dw T w g s k bad K t L F R wr) (u : Value) : Dw T w g s k bad K t L u R (wr.setCell ⟨g, 3, none⟩ u) := h.onG (h.x.putF u) (onlyg 3 u)
theorem Dw.putK (h : Dw T w g s k bad K t L F R wr) (u : Value) : Dw T w g s k bad K t L F u (wr.setCell ⟨g, 4, none⟩ u) := h.onG (h.x.putK u) (onlyg 4 u)
theorem Dw.bads (h : Dw T w g s k bad K t L F R wr) : Dw T w g s k true K t L F R (wr.setCell ⟨w.heap.size + 1, 2, none⟩ (.bool true)) :=
  h.read h.rd.bad_ h.hk ((Only.refl (fun b => b = w.heap.size + 1) wr).put (p := ⟨w.heap.size + 1, 2, none⟩) (.inl rfl) _)
end
theorem own_nB {w w' : World} {e : TypeId} {sz n B j : Nat} {v : Value} {xs : List Value} (h : w.ownsRow B e sz v n xs) (ho : Only (fun b => b = j) w w') (hj : j < B) : w'.ownsRow B e sz v n xs := own_only h ho (fun k hk e => by have := (h.lt k hk).1; omega)
theorem own_bl {w : World} {e : TypeId} {sz n B : Nat} {v : Value} {xs : List Value} (h : w.ownsRow B e sz v n xs) : ∀ b, v.ownBlock = some b → B ≤ b := fun b hb => (h.lt b hb).1
theorem rdN_step {s : ByteArray} {kind m k : Nat} {l : List ByteArray} {f : List (ByteArray × ByteArray)} {r : List (ByteArray × Int)} {st X : DS} (h : rd1 s kind ⟨k, false, l, f, r⟩ = st) (hN : rdN s kind (m + 1) ⟨k, false, l, f, r⟩ = X) : rdN s kind m st = X := by
  rw [← hN, ← h]; rfl
theorem chk_bare (k : Int) (t : ByteArray) (A B C : Option Addr) (a b c : Nat) (l : List ByteArray) (f : List (ByteArray × ByteArray)) (r : List (ByteArray × Int)) : chk ⟨k, t, A, l.length, a, l, B, f.length, b, f, C, r.length, c, r⟩ = chk (bare k t l f r) := rfl
theorem onlyh {h : Nat} {wr : World} (u0 u1 u2 u3 u4 : Value) : Only (fun b => b = h) wr (((((wr.setCell ⟨h, 0, none⟩ u0).setCell ⟨h, 1, none⟩ u1).setCell ⟨h, 2, none⟩ u2).setCell ⟨h, 3, none⟩ u3).setCell ⟨h, 4, none⟩ u4) :=
  (((((Only.refl (fun b => b = h) wr).put (p := ⟨h, 0, none⟩) (.inl rfl) _).put (p := ⟨h, 1, none⟩) (.inl rfl) _).put (p := ⟨h, 2, none⟩) (.inl rfl) _).put (p := ⟨h, 3, none⟩) (.inl rfl) _).put (p := ⟨h, 4, none⟩) (.inl rfl) _
theorem bv_set {h : Nat} {wr : World} {k k' : Int} {t t' : ByteArray} {L F K : Value} (hb : Bv wr h k t L F K) (u2 u3 u4 : Value) : Bv (((((wr.setCell ⟨h, 0, none⟩ (.int .i64 k')).setCell ⟨h, 1, none⟩ (.string t')).setCell ⟨h, 2, none⟩ u2).setCell ⟨h, 3, none⟩ u3).setCell ⟨h, 4, none⟩ u4) h k' t' u2 u3 u4 := by
  unfold Bv at hb ⊢
  simp [World.setCell, Array.getElem?_modify, hb]
/-- Its rows are new, and may be written. -/
def NwW (B : Nat) (w' : World) (y : VV) : Prop := (Nw B y.LA ∧ Nw B y.FA ∧ Nw B y.KA) ∧ Wr w' 9 1 y.ln y.lc y.LA ∧ Wr w' 49 2 y.fn y.fc y.FA ∧ Wr w' 51 2 y.kn y.kc y.KA
theorem wr_none (w : World) (e : TypeId) (sz : Nat) : Wr w e sz 0 0 none := .inl ⟨rfl, rfl, rfl⟩
/-- What is handed back. -/
def DecPost (s : ByteArray) (w : World) (d : Dc) (e : Ending) (w' : World) : Prop :=
  ∃ y : VV, e = .returned (.tuple #[y.val, .int .i64 (if d.ok then (d.st.k : Int) else 0), .int .i64 (if d.ok then 0 else 132)]) ∧
    (y.kind = (if d.ok then (d.kind : Int) else 0) ∧ y.text = (if d.ok then d.text else ⟨#[]⟩) ∧ y.list = (if d.ok then d.st.l else []) ∧ y.flds = (if d.ok then d.st.f else []) ∧ y.rank = (if d.ok then d.st.r else [])) ∧
    RdV w' y ∧ NwW w.heap.size w' y ∧ Below w.heap.size w w'
theorem rd_nil0 (w : World) (sz : Nat) : Rd w sz none 0 0 [] := Rd.nil w sz
theorem nw_none (B : Nat) : Nw B none := fun ad e => by cases e
theorem post_no {s : ByteArray} {w w' : World} {d : Dc} (hd : d.ok = false) (hb : Below w.heap.size w w') : DecPost s w d (.returned (.tuple #[.agg #[.int .i64 0, .string ⟨#[]⟩, .slice none 0 0, .slice none 0 0, .slice none 0 0], .int .i64 0, .int .i64 132])) w' :=
  ⟨⟨0, ⟨#[]⟩, none, 0, 0, [], none, 0, 0, [], none, 0, 0, []⟩, by rw [hd]; rfl, by rw [hd]; exact ⟨rfl, rfl, rfl, rfl, rfl⟩, ⟨rd_nil0 _ _, rd_nil0 _ _, rd_nil0 _ _⟩, ⟨⟨nw_none _, nw_none _, nw_none _⟩, wr_none _ _ _, wr_none _ _ _, wr_none _ _ _⟩, hb⟩
end Go.Proofs.Ythglmpkcfigelaa.VbB
