/-
  What stands while the law TableWays asks. Conditions: as stated.
-/
import Derived.Test.YtiffdkagmnpjiaaTbY
import Derived.Deep.RegionHeld3
import Derived.Deep.RegionWith
set_option maxRecDepth 100000
set_option linter.unusedSimpArgs false
set_option linter.unusedVariables false
namespace Go.Proofs.Ytiffdkagmnpjiaa.TbZ
open Go.RowKit Go.Proofs.Ytiffdkagmnpjiaa.Mem Go.Proofs.Ytiffdkagmnpjiaa.TbA Go.Proofs.Ytiffdkagmnpjiaa.TbB Go.Proofs.Ytiffdkagmnpjiaa.Bytes Go.Proofs.Ytiffdkagmnpjiaa.TbI Go.Proofs.Ytiffdkagmnpjiaa.TbN Go.Proofs.Ytiffdkagmnpjiaa.TbO Go.Proofs.Ytiffdkagmnpjiaa.TbQ Go.Proofs.Ytiffdkagmnpjiaa.TbR Go.Proofs.Ytiffdkagmnpjiaa.TbS Go.Proofs.Ytiffdkagmnpjiaa.TbX Go.Proofs.Ytiffdkagmnpjiaa.TbY

theorem rdg_get {w : World} {g n c : Nat} {l : List Sp} (h : RdP w (some ⟨g, 0, none⟩) n c l) {k : Nat} {x : Sp} (hx : l[k]? = some x) :
    w.cell? ⟨g, k * 7, none⟩ = some (.string x.name) ∧ w.cell? ⟨g, k * 7 + 1, none⟩ = some (.int .i64 x.ar) ∧ w.cell? ⟨g, k * 7 + 2, none⟩ = some (.bool x.wr) ∧ w.cell? ⟨g, k * 7 + 3, none⟩ = some (.bool x.ct) ∧ w.cell? ⟨g, k * 7 + 4, none⟩ = some (.int .i64 x.fi) ∧ w.cell? ⟨g, k * 7 + 5, none⟩ = some (.int .i64 x.la) ∧ w.cell? ⟨g, k * 7 + 6, none⟩ = some (.int .i64 x.st) := by
  obtain ⟨p, e, x0, x1, x2, x3, x4, x5, x6⟩ := rdp_get h hx
  injection e with e; subst e
  rw [add_mk, Nat.zero_add] at x0 x1 x2 x3 x4 x5 x6
  exact ⟨x0, x1, x2, x3, x4, x5, x6⟩
theorem own_at {w : World} {B c : Nat} {A : Option Addr} (h : OwnP w B (.slice A 118 c) rowsL) : ∃ g, A = some ⟨g, 0, none⟩ ∧ RdP w (some ⟨g, 0, none⟩) 118 c rowsL := by
  have hr := Rd.of_own (TbG.rowsL_len ▸ h)
  rcases h.2 with ⟨_, h0⟩ | ⟨g, cap, cur, e, h1, h2, _⟩
  · rw [TbG.rowsL_len] at h0; omega
  · injection e with e; subst e
    exact ⟨_, rfl, hr⟩
theorem bts_below {w w' : World} {g : Nat} {e : TypeId} {l : List UInt8} (h : Bts w g e l) (hb : Below w.heap.size w w') : Bts w' g e l := by
  have hl := h.lt
  obtain ⟨cs, lo, hi, hg, h1, h2, h3⟩ := h
  exact ⟨cs, lo, hi, by rw [hb.block _ hl]; exact hg, h1, h2, h3⟩
theorem sub_byte {x : UInt8} (h : 32 ≤ x.toNat) : ((x - 32).toNat : Int) = (x.toNat : Int) - 32 := by
  have h1 : (32 : UInt8).toNat = 32 := rfl
  rw [UInt8.toNat_sub_of_le _ _ (by rw [UInt8.le_iff_toNat_le, h1]; exact h), h1]
  omega
theorem lit_own (w : World) (s : ByteArray) : OwnS (w.alloc (.cells #[.string s] 9)) w.heap.size (.slice (some ⟨w.heap.size, 0, none⟩) 1 1) [s] :=
  World.ownsRow_lit (base := w.heap.size) (e := 9) (size := 1) w #[.string s] 1 (Nat.le_refl _) (by unfold maxLen; omega) rfl
/-- What stands while the request is asked about: the request, the name in other letters, the row's box. -/
structure St (w w' : World) (B g2 N c2 b : Nat) (args : List ByteArray) (U : List UInt8) (o : Obj) : Prop where
  own : OwnS w' B (.slice (some ⟨g2, 0, none⟩) N c2) args
  up : Bts w' (b + 1) 5 U
  box : w'.heap[b]? = some o
  bel : Below w.heap.size w w'
section
variable {w w' w'' : World} {B g2 N c2 b : Nat} {args : List ByteArray} {U : List UInt8} {o : Obj}
theorem st_below (h : St w w' B g2 N c2 b args U o) (hb : Below w'.heap.size w' w'') : St w w'' B g2 N c2 b args U o :=
  ⟨ownbS h.own hb, bts_below h.up hb, by rw [hb.block _ (Array.getElem?_eq_some_iff.1 h.box).1]; exact h.box, h.bel.trans (hb.mono h.bel.size)⟩
theorem st_drawn (h : St w w' B g2 N c2 b args U o) (n : Nat) : St w (w'.drewN n) B g2 N c2 b args U o := st_below h (below_drawn_ (Below.refl _ _) n)
theorem st_drew (h : St w w' B g2 N c2 b args U o) : St w w'.drew B g2 N c2 b args U o := st_drawn h 1
theorem st_rd (h : St w w' B g2 N c2 b args U o) : RdS w' (some ⟨g2, 0, none⟩) N c2 args := rds_own h.own
theorem st_up (h : St w w' B g2 N c2 b args U o) (n cap : Nat) (hn : U.length = n) : (convert 37 9 (.slice (some ⟨b + 1, 0, none⟩) n cap)).run Try.prog w' = .ok (.string ⟨U.toArray⟩) w' := by
  subst hn
  exact h.up.back cap Try.underlying37 Try.underlying5 Try.underlying9
end
theorem st_box {w w' : World} {B g2 N c2 b : Nat} {args : List ByteArray} {U : List UInt8} {a0 a1 a2 a3 a4 a5 a6 : Value} {t : TypeId} {fr : Nat × Nat} (h : St w w' B g2 N c2 b args U (.cells #[a0, a1, a2, a3, a4, a5, a6] t fr)) : w'.cell? ⟨b, 0, none⟩ = some a0 ∧ w'.cell? ⟨b, 4, none⟩ = some a4 := by
  have := h.box
  simp [World.cell?, this]
theorem put_block (w : World) (g j k : Nat) (u : Value) (hk : k ≠ g) : (w.setCell ⟨g, j, none⟩ u).heap[k]? = w.heap[k]? := by
  simp [World.setCell, Array.getElem?_modify, Ne.symm hk]
theorem st_put {w w' : World} {B g2 N c2 b : Nat} {s : ByteArray} {l : List ByteArray} {U : List UInt8} {o : Obj} (h : St w w' B g2 N c2 b (s :: l) U o) (hb : b + 1 < g2) (hg : w.heap.size ≤ g2) (u : ByteArray) : St w (w'.setCell ⟨g2, 0, none⟩ (.string u)) B g2 N c2 b (u :: l) U o := by
  obtain ⟨cs, lo, hi, h1, h2, h3, h4⟩ := h.up
  exact ⟨own_putS h.own (j := 0) u, ⟨cs, lo, hi, by rw [put_block _ _ _ _ _ (by omega)]; exact h1, h2, h3, h4⟩, by rw [put_block _ _ _ _ _ (by omega)]; exact h.box, h.bel.setCell (p := ⟨g2, 0, none⟩) hg _⟩
theorem rk_put {w : World} {g2 n c : Nat} {A : Option Addr} {K : List ByteArray} {u : ByteArray} (h : RdS w A n c K) (hn : ∀ ad, A = some ad → ad.block ≠ g2) : RdS (w.setCell ⟨g2, 0, none⟩ (.string u)) A n c K :=
  Rd.only h ((Only.refl (fun k => k = g2) w).put (p := ⟨g2, 0, none⟩) (.inl rfl) _) hn
theorem small_put {s u : ByteArray} {l : List ByteArray} (h : Small (s :: l)) (hu : u.size ≤ 281474976710656) : Small (u :: l) := by
  refine ⟨h.1, fun x hx => ?_⟩
  rcases List.mem_cons.1 hx with rfl | hx
  · exact hu
  · exact h.2 x (List.mem_cons_of_mem _ hx)
section
variable {w w' w'' : World} {B g2 N c2 b n3 c3 : Nat} {args K : List ByteArray} {U : List UInt8} {A3 : Option Addr} {a0 a1 a2 a3 a4 a5 a6 : Value} {t : TypeId} {fr : Nat × Nat}
theorem s9_below (hb : Below w'.heap.size w' w'') (h : St w w' B g2 N c2 b args U (.cells #[a0, a1, a2, a3, a4, a5, a6] t fr) ∧ RdS w' A3 n3 c3 K ∧ w'.cell? ⟨b, 0, none⟩ = some a0) : St w w'' B g2 N c2 b args U (.cells #[a0, a1, a2, a3, a4, a5, a6] t fr) ∧ RdS w'' A3 n3 c3 K ∧ w''.cell? ⟨b, 0, none⟩ = some a0 :=
  ⟨st_below h.1 hb, h.2.1.below hb, (st_box (st_below h.1 hb)).1⟩
theorem s9_drawn (h : St w w' B g2 N c2 b args U (.cells #[a0, a1, a2, a3, a4, a5, a6] t fr) ∧ RdS w' A3 n3 c3 K ∧ w'.cell? ⟨b, 0, none⟩ = some a0) (n : Nat) : St w (w'.drewN n) B g2 N c2 b args U (.cells #[a0, a1, a2, a3, a4, a5, a6] t fr) ∧ RdS (w'.drewN n) A3 n3 c3 K ∧ (w'.drewN n).cell? ⟨b, 0, none⟩ = some a0 :=
  s9_below (below_drawn_ (Below.refl _ _) n) h
theorem s9_drew (h : St w w' B g2 N c2 b args U (.cells #[a0, a1, a2, a3, a4, a5, a6] t fr) ∧ RdS w' A3 n3 c3 K ∧ w'.cell? ⟨b, 0, none⟩ = some a0) : St w w'.drew B g2 N c2 b args U (.cells #[a0, a1, a2, a3, a4, a5, a6] t fr) ∧ RdS w'.drew A3 n3 c3 K ∧ w'.drew.cell? ⟨b, 0, none⟩ = some a0 := s9_drawn h 1
end
theorem dr_next {w w' : World} {p : Addr} {v : Value} (h : (∃ nd, w' = w.drewN nd) ∧ w'.cell? p = some v) (n : Nat) : (∃ nd, w'.drewN n = w.drewN nd) ∧ (w'.drewN n).cell? p = some v := by
  obtain ⟨⟨nd, rfl⟩, hc⟩ := h
  exact ⟨⟨nd + n, drew2 _ _ _⟩, hc⟩
theorem args_small {name : ByteArray} {words : List ByteArray} {k : Nat} (h : Small words) (hn : name.size ≤ 281474976710656) (hk : k ≤ 1000) : Small (argsD name words k) := by
  refine ⟨by rw [args_len]; omega, fun s hs => ?_⟩
  rcases List.mem_cons.1 hs with rfl | hs
  · exact hn
  · obtain ⟨i, _, rfl⟩ := List.mem_map.1 hs
    rw [List.getD_eq_getElem?_getD]
    rcases hw : words[i]? with _ | u
    · decide
    · exact h.2 u (List.mem_of_getElem? hw)
end Go.Proofs.Ytiffdkagmnpjiaa.TbZ
