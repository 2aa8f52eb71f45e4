/-
  After. Conditions: as stated.
-/
import Derived.Test.YthgdkmbcibfehaaDoorDcK
import Derived.Shelf.SlSorted.Search
import Derived.Shelf.Lay
import Derived.Ground.SlsoProg
set_option maxRecDepth 100000
set_option linter.unusedSimpArgs false
set_option linter.unusedVariables false
namespace Go.Proofs
open Go.Shelf Go.RowKit Go.Lib Go.Sort
shelf_lay SlLaysO.n16 Slso 16 at Tryd as YthgdkmbcibfehaaDoor.searchL
end Go.Proofs
namespace Go.Proofs.YthgdkmbcibfehaaDoor.DcL
open Go.Shelf Go.RowKit Go.Sort Go.Proofs.YthgdkmbcibfehaaDoor.Mem Go.Proofs.YthgdkmbcibfehaaDoor.NumB Go.Proofs.YthgdkmbcibfehaaDoor.NumE Go.Proofs.YthgdkmbcibfehaaDoor.DcA Go.Proofs.YthgdkmbcibfehaaDoor.DcB Go.Proofs.YthgdkmbcibfehaaDoor.DcC Go.Proofs.YthgdkmbcibfehaaDoor.DcD Go.Proofs.YthgdkmbcibfehaaDoor.DcE Go.Proofs.YthgdkmbcibfehaaDoor.DcF Go.Proofs.YthgdkmbcibfehaaDoor.DcG Go.Proofs.YthgdkmbcibfehaaDoor.DcJ Go.Proofs.YthgdkmbcibfehaaDoor.DcK

theorem gtr_is (a b : ByteArray) : (!(Op.bytesLess a.toList b.toList || a.toList == b.toList)) = ltS b a := by
  show (!(ltS a b || a.toList == b.toList)) = ltS b a
  cases h : ltS a b
  · by_cases e : a = b
    · subst e; rw [lt_irr]; simp
    · rw [lt_tot h e]
      have : (a.toList == b.toList) = false := by rw [beq_eq_false_iff_ne]; exact fun h => e (toL_inj h)
      rw [this]; rfl
  · rw [lt_asym h]; rfl
set_option maxHeartbeats 2000000 in
theorem behind_calls (ba bx n c : Nat) (A : Option Addr) (l : List Fld) (k : ByteArray) (W : World) (ca : W.cell? ⟨ba, 0, none⟩ = some (.slice A n c)) (cx : W.cell? ⟨bx, 0, none⟩ = some (.string k)) (hr : RdF W A n c l) (i : Nat) (f : Fld) (hf : l[i]? = some f) (hn : n ≤ 1000000000) :
    Calls Tryd.prog 33 (#[.int .i64 i] ++ #[.pointer (some ⟨ba, 0, none⟩), .pointer (some ⟨bx, 0, none⟩)]) W fun e w' => e = .returned (.bool (ltS k f.1)) ∧ ∃ q, w' = W.drewN q := by
  obtain rfl := rdf_len hr
  obtain ⟨p, rfl, x0, x1⟩ := rdf_get hr hf
  have hi : i < l.length := (List.getElem?_eq_some_iff.1 hf).1
  have hg := gtr_is f.1 k
  clear hr hf
  obtain ⟨b, hb⟩ : ∃ b, b = ltS k f.1 := ⟨_, rfl⟩
  rw [← hb] at hg ⊢
  clear hb
  show Calls _ _ #[.int .i64 i, .pointer (some ⟨ba, 0, none⟩), .pointer (some ⟨bx, 0, none⟩)] _ _
  go_enter Tryd.func33, Tryd.ntmps33
  go_wp2_with fail
  go_quiet (fail)
  go_wp2_with fail
  go_ret
  exact ⟨by first | rfl | (rw [← hg]; try simp), nq, rfl⟩
theorem search_calls (ba bx n c : Nat) (A : Option Addr) (l : List Fld) (k : ByteArray) (W : World) (ca : W.cell? ⟨ba, 0, none⟩ = some (.slice A n c)) (cx : W.cell? ⟨bx, 0, none⟩ = some (.string k)) (hr : RdF W A n c l) (hl : Ris l) (hn : n ≤ 1000000000) (hba : ba < W.heap.size) (hbx : bx < W.heap.size) :
    Calls Tryd.prog 32 #[.int .i64 n, .func (.func 33) #[] #[.pointer (some ⟨ba, 0, none⟩), .pointer (some ⟨bx, 0, none⟩)]] W fun e w' => e = .returned (.int .i64 (aftP l k)) ∧ Below W.heap.size W w' := by
  have hln := rdf_len hr
  have hS := Any.sort_Search YthgdkmbcibfehaaDoor.searchL 33 #[.pointer (some ⟨ba, 0, none⟩), .pointer (some ⟨bx, 0, none⟩)] n (fun i => decide (aftP l k ≤ i)) W
    (enters_of Tryd.func33 (by kernel_rfl) rfl) (by omega)
    (fun m os i hi => by
      obtain ⟨f, hf⟩ : ∃ f, l[i]? = some f := ⟨_, List.getElem?_eq_getElem (by omega)⟩
      have hgr : Below W.heap.size W (grow (W.drewN m) os) := below_grow m os
      have := behind_calls ba bx n c A l k (grow (W.drewN m) os) ((hgr.cell (p := ⟨ba, 0, none⟩) hba).trans ca) ((hgr.cell (p := ⟨bx, 0, none⟩) hbx).trans cx) (hr.below hgr) i f hf hn
      refine this.mono ?_
      rintro e w' ⟨rfl, q, rfl⟩
      refine ⟨?_, q, #[], by rw [grow_empty]⟩
      have := aft_iff hl (k := k) hf
      cases h : ltS k f.1
      · rw [h] at this; simp at this; simp; omega
      · simp [this.1 h])
    (fun a b hab hb h => by simp at h ⊢; omega)
  refine Calls.mono hS ?_
  rintro e w' ⟨rfl, q, os, rfl⟩
  refine ⟨?_, below_grow q os⟩
  have hle := aft_le l hl k
  have : (List.range n).countP (fun i => !decide (aftP l k ≤ i)) = aftP l k := by
    refine Lib.countP_boundary _ (List.range n) (aftP l k) (by simp; omega) (fun t ht => ?_) (fun t h3 h4 => ?_)
    · rw [getElem!_pos _ t (by simp; omega)]; simp; omega
    · rw [getElem!_pos _ t (by simpa using h4)]; simp; omega
  rw [this]
theorem box_cell (w : World) (v : Value) (T : TypeId) : (w.alloc (.cells #[v] T)).cell? ⟨w.heap.size, 0, none⟩ = some v := by
  have h := heap_alloc_new w (.cells #[v] T)
  unfold World.cell?; simp only [h]; rfl
set_option maxHeartbeats 4000000 in
theorem after_gen (R : Option Addr) (l : List Fld) (k : ByteArray) (most : Int) (w : World) (hl : Ris l) (hm : inR most) (hN : l.length ≤ 100000000)
    (hf : Calls Tryd.prog 20 #[.pointer R] (w.alloc (.cells #[.string k] 9)) fun e w' => ∃ v, e = .returned v ∧ OwnF w' (w.alloc (.cells #[.string k] 9)).heap.size v l ∧ Below (w.alloc (.cells #[.string k] 9)).heap.size (w.alloc (.cells #[.string k] 9)) w') :
    Calls Tryd.prog 18 #[.pointer R, .string k, .int .i64 most] w fun e w' => ∃ v, e = .returned v ∧ OwnF w' w.heap.size v (aftL l k most) ∧ Below w.heap.size w w' := by
  have b1 : Below w.heap.size w (w.alloc (.cells #[.string k] 9)) := (Below.refl _ _).alloc (Nat.le_refl _) _
  have hle := aft_le l hl k
  unfold aftL
  obtain ⟨P, hP⟩ : ∃ P, P = aftP l k := ⟨_, rfl⟩
  obtain ⟨T, hT⟩ : ∃ T : Nat, min (max most 0) ((l.length : Int) - (P : Int)) = (T : Int) := ⟨(min (max most 0) ((l.length : Int) - (P : Int))).toNat, by omega⟩
  have htk := take_most l P T most (by omega) (by omega)
  rw [← hP, htk]
  have hTl : P + T ≤ l.length := by omega
  obtain ⟨L, hL⟩ : ∃ L, L = (l.drop P).take T := ⟨_, rfl⟩
  rw [← hL]
  have hLn : T = L.length := by rw [hL, List.length_take, List.length_drop]; omega
  have HL := Lib.hid (And.intro hL hLn)
  clear hL hLn
  have HP := Lib.hid hP
  have Hl := Lib.hid hl
  have H1 := Lib.hid b1
  clear htk hP hl b1 hle
  go_enter Tryd.func18, Tryd.ntmps18
  go_wp2_with fail
  refine hf.mono ?_
  rintro e w2 ⟨v, rfl, o2, b2⟩
  obtain ⟨A, c, rfl, r2⟩ := own_rd o2
  have hcap := r2.cap
  have hbig : c ≤ 9223372036854775807 := r2.big
  have b12 := H1.out.trans (b2.mono H1.out.size)
  have hs1 : (w.alloc (.cells #[.string k] 9)).heap.size = w.heap.size + 1 := by simp
  have hs2 := b2.size
  have b23 : Below w2.heap.size w2 (w2.alloc (.cells #[.slice A l.length c] 22)) := (Below.refl _ _).alloc (Nat.le_refl _) _
  have ca := box_cell w2 (.slice A l.length c) 22
  have cx2 : w2.cell? ⟨w.heap.size, 0, none⟩ = some (.string k) := (b2.cell (p := ⟨w.heap.size, 0, none⟩) (by show w.heap.size < _; omega)).trans (box_cell w (.string k) 9)
  have cx := (b23.cell (p := ⟨w.heap.size, 0, none⟩) (by show w.heap.size < _; omega)).trans cx2
  have hsr := search_calls w2.heap.size w.heap.size l.length c A l k _ ca cx (r2.below b23) Hl.out (by omega) (by simp) (by simp; omega)
  rw [← HP.out] at hsr
  obtain ⟨W3, hW3⟩ : ∃ W3, W3 = w2.alloc (.cells #[.slice A l.length c] 22) := ⟨_, rfl⟩
  rw [← hW3] at hsr b23 ca
  have b13 := b12.trans (b23.mono b12.size)
  have hs3 : w2.heap.size < W3.heap.size := by rw [hW3]; simp
  obtain ⟨A4, hA4⟩ : ∃ A4, A4 = (if c = P then A else A.map (·.add (P * 2))) := ⟨_, rfl⟩
  obtain ⟨c4, hc4⟩ : ∃ c4, c4 = c - P := ⟨_, rfl⟩
  have hcut := fun w => cut_mid A l.length c P T (by omega) w
  rw [← hA4, ← hc4] at hcut
  have HA4 := Lib.hid (And.intro hA4 hc4)
  have Hw3 := Lib.hid hW3
  have HB := Lib.hid (And.intro b2 (And.intro b12 (And.intro b13 (And.intro b23 (And.intro r2 o2)))))
  have Hca := Lib.hid ca
  have Hs := Lib.hid (And.intro hs2 hs3)
  clear hA4 hc4 hW3 b2 b12 b13 b23 r2 o2 ca hs1 hs2 hs3 cx2 cx hf
  go_wp2_with (first
    | (go_at_call 32; rw [← Hw3.out]; refine hsr.mono ?_; rintro e w4 ⟨rfl, b4⟩; have ca4 : w4.cell? ⟨w2.heap.size, 0, none⟩ = some (.slice A l.length c) := (b4.cell (p := ⟨w2.heap.size, 0, none⟩) Hs.out.2).trans Hca.out)
    | (at_builtin; refine app_F rfl (.const (.slice none 0 0)) (.tmp 28) rfl w _ [] rfl (World.ownsRow_nil _ _ _ _) (HB.out.2.2.1.trans (b4.mono HB.out.2.2.1.size)) A4 T c4 L rfl (by rw [HL.out.1, HA4.out.1, HA4.out.2]; exact rdf_take (rdf_drop ((HB.out.2.2.2.2.1.below HB.out.2.2.2.1).below b4) (by omega)) (by omega)) T L rfl HL.out.2 (by omega) ?_; intro A5 c5 w5 o5 b5))
  go_ret
  exact ⟨_, rfl, o5, b5⟩
theorem after_calls (B g m : Nat) (l : List Fld) (N : Nat) (k : ByteArray) (most : Int) (w : World) (h : Dc w B g m l N) (hm : inR most) (hN : l.length ≤ 100000000) :
    Calls Tryd.prog 18 #[.pointer (some ⟨g, 0, none⟩), .string k, .int .i64 most] w fun e w' => ∃ v, e = .returned v ∧ OwnF w' w.heap.size v (aftL l k most) ∧ Below w.heap.size w w' :=
  after_gen _ l k most w h.ris hm hN (fields_calls B g m l N _ (h.below ((Below.refl _ _).alloc (Nat.le_refl _) _)) hN)
end Go.Proofs.YthgdkmbcibfehaaDoor.DcL
