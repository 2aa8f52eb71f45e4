/-
  sort.order2_func, median_func, medianAdjacent_func, choosePivot_func where 'less' may lay blocks. Conditions: as stated.
  sort.choosePivot_func where 'less' may lay blocks. Conditions: as stated.
-/
import Derived.Test.YtakhcfemakapbaaGreatDoorSwA
import Derived.RangeFuncBox
import Derived.Sort.LotD4
set_option maxRecDepth 100000
set_option linter.unusedSimpArgs false
set_option linter.unusedVariables false
namespace Go.Proofs.YtakhcfemakapbaaGreatDoor.SwE
open Go Go.Shelf Go.RowKit Go.Sort Go.Proofs.YtakhcfemakapbaaGreatDoor.Mem Go.Proofs.YtakhcfemakapbaaGreatDoor.DuM Go.Proofs.YtakhcfemakapbaaGreatDoor.SwA
variable {α : Type} [Inhabited α]
/-- The row holds d; the count of swaps lies in its box. -/
structure Sp (enc : α → List Value) (k : Nat) (blk off : Nat) (w0 : World) (d : Array α) (Bs : Nat) (s : Nat) (W : World) : Prop where
  sw : SWK enc k w0 blk off d W
  bx : Boxed W Bs 3 (.int .i64 s)
  ge : w0.heap.size ≤ Bs
section
variable {enc : α → List Value} {k : Nat} {lt : α → α → Bool} {g : Nat} {lb : Array Value} {sf : Nat} {sb : Array Value} {blk off size : Nat} {w0 W : World} {d : Array α} {Bs s : Nat}
theorem Sp.grow (h : Sp enc k blk off w0 d Bs s W) (q : Nat) (os : Array Obj) : Sp enc k blk off w0 d Bs s (Sort.grow (W.drewN q) os) :=
  ⟨swk_grow h.sw q os, ((only_grow (w := W) (fun _ => False) q os).heap h.bx id), h.ge⟩
theorem Sp.alloc (h : Sp enc k blk off w0 d Bs s W) (o : Obj) : Sp enc k blk off w0 d Bs s (W.alloc o) := ⟨h.sw.alloc o, h.bx.alloc o, h.ge⟩
theorem Sp.set (h : Sp enc k blk off w0 d Bs s W) (s' : Nat) : Sp enc k blk off w0 d Bs s' (W.setCell ⟨Bs, 0, none⟩ (.int .i64 s')) :=
  ⟨h.sw.setCell_new Bs 0 _ h.ge, Boxed.set _ h.bx, h.ge⟩
set_option maxHeartbeats 4000000 in
theorem order2_calls (E : Env enc k lt g lb sf sb blk off size w0) (a b : Nat) (W : World) (hs : d.size = size) (ha : a < size) (hb : b < size) (hS : s ≤ 1000) (h : Sp enc k blk off w0 d Bs s W) :
    Calls Tryz.prog 115 #[dV g lb sf sb, .int .i64 a, .int .i64 b, .pointer (some ⟨Bs, 0, none⟩)] W fun e w' => e = .returned (.tuple #[.int .i64 (order2 lt d a b s).1, .int .i64 (order2 lt d a b s).2.1]) ∧ Sp enc k blk off w0 d Bs (order2 lt d a b s).2.2 w' ∧ Only (fun b => b = Bs) W w' := by
  have hbl : blk < W.heap.size := h.sw.lt E.hblk
  have eg := E.eg
  have s0 := h.alloc (.cells #[.func (.func g) #[] lb, .func (.func sf) #[] sb] 105)
  have x0 := Bx.new W (.func (.func g) #[] lb) (.func (.func sf) #[] sb) 105 hbl
  have hl := E.less _ d s0.sw hs b a hb ha
  have o0 : Only (fun b => b = Bs) W (W.alloc (.cells #[.func (.func g) #[] lb, .func (.func sf) #[] sb] 105)) := (Only.refl _ W).alloc _
  have H0 := Lib.hid (And.intro s0 o0)
  obtain ⟨c0, -, -, -⟩ := x0
  clear s0 o0 h
  unfold order2
  cases hv : lt d[b]! d[a]!
  · rw [hv] at hl
    have HL := Lib.hid hl
    clear hl hv
    go_enter Tryz.func115, Tryz.ntmps115
    go_wp2_with fail
    refine HL.out.mono ?_
    rintro e w1 ⟨rfl, q, os, hw1⟩
    have s1 := Lib.hid (show Sp enc k blk off w0 d Bs s w1 ∧ Only (fun b => b = Bs) W w1 by rw [hw1]; exact ⟨H0.out.1.grow q os, H0.out.2.trans (only_grow (fun _ => False) q os) (fun _ e => e.elim)⟩)
    clear hw1 c0
    go_wp2_with fail
    go_ret2
    exact ⟨rfl, s1.out.1, s1.out.2⟩
  · rw [hv] at hl
    have HL := Lib.hid hl
    clear hl hv
    go_enter Tryz.func115, Tryz.ntmps115
    go_wp2_with fail
    refine HL.out.mono ?_
    rintro e w1 ⟨rfl, q, os, hw1⟩
    have s1 := Lib.hid (show Sp enc k blk off w0 d Bs s w1 ∧ Only (fun b => b = Bs) W w1 by rw [hw1]; exact ⟨H0.out.1.grow q os, H0.out.2.trans (only_grow (fun _ => False) q os) (fun _ e => e.elim)⟩)
    have cs := s1.out.1.bx.cell
    have fs := s1.out.1.bx.frozen
    clear hw1 c0
    go_wp2_with fail
    go_ret2
    exact ⟨rfl, by have := s1.out.1.set (s + 1); simpa using this, s1.out.2.put (p := ⟨Bs, 0, none⟩) (.inl rfl) _⟩
theorem order2_le (lt : α → α → Bool) (d : Array α) (a b s n : Nat) (ha : a < n) (hb : b < n) : (order2 lt d a b s).1 < n ∧ (order2 lt d a b s).2.1 < n ∧ (order2 lt d a b s).2.2 ≤ s + 1 := by
  unfold order2; split <;> simp <;> omega
theorem load_two {B : Nat} {x y : Value} {W : World} (h : Bx B x y blk W) : Bx B x y blk W := h
set_option maxHeartbeats 4000000 in
theorem median_calls (E : Env enc k lt g lb sf sb blk off size w0) (a b c : Nat) (W : World) (hs : d.size = size) (ha : a < size) (hb : b < size) (hc : c < size) (hS : s ≤ 900) (h : Sp enc k blk off w0 d Bs s W) :
    Calls Tryz.prog 105 #[dV g lb sf sb, .int .i64 a, .int .i64 b, .int .i64 c, .pointer (some ⟨Bs, 0, none⟩)] W fun e w' => e = .returned (.int .i64 (median lt d a b c s).1) ∧ Sp enc k blk off w0 d Bs (median lt d a b c s).2 w' ∧ Only (fun b => b = Bs) W w' ∧ (median lt d a b c s).1 < size ∧ (median lt d a b c s).2 ≤ s + 3 := by
  have hbl : blk < W.heap.size := h.sw.lt E.hblk
  have hBs : Bs < W.heap.size := h.bx.lt
  have s0 := h.alloc (.cells #[.func (.func g) #[] lb, .func (.func sf) #[] sb] 105)
  have x0 := Bx.new W (.func (.func g) #[] lb) (.func (.func sf) #[] sb) 105 hbl
  have o0 : Only (fun b => b = Bs) W (W.alloc (.cells #[.func (.func g) #[] lb, .func (.func sf) #[] sb] 105)) := (Only.refl _ W).alloc _
  unfold median
  obtain ⟨r1, hr1⟩ : ∃ r, r = order2 lt d a b s := ⟨_, rfl⟩
  obtain ⟨r2, hr2⟩ : ∃ r, r = order2 lt d r1.2.1 c r1.2.2 := ⟨_, rfl⟩
  obtain ⟨r3, hr3⟩ : ∃ r, r = order2 lt d r1.1 r2.1 r2.2.2 := ⟨_, rfl⟩
  have l1 := order2_le lt d a b s size ha hb
  rw [← hr1] at l1
  have l2 := order2_le lt d r1.2.1 c r1.2.2 size l1.2.1 hc
  rw [← hr2] at l2
  have l3 := order2_le lt d r1.1 r2.1 r2.2.2 size l1.1 l2.1
  rw [← hr3] at l3
  simp only [← hr1, ← hr2, ← hr3]
  have hc1 := order2_calls E a b _ hs ha hb (by omega) s0
  rw [← hr1] at hc1
  have HC := Lib.hid hc1
  have HO := Lib.hid (And.intro o0 (And.intro hr1 (And.intro hr2 hr3)))
  obtain ⟨c0, c1, -, -⟩ := x0
  clear hc1 s0 o0 hr1 hr2 hr3 h
  go_enter Tryz.func105, Tryz.ntmps105
  go_wp2_with fail
  refine HC.out.mono ?_
  rintro e w1 ⟨rfl, s1, o1⟩
  have e0 := o1.cell c0 (fun e => by have e' : W.heap.size = Bs := e; omega)
  have e1 := o1.cell c1 (fun e => by have e' : W.heap.size = Bs := e; omega)
  have hc2 := order2_calls E r1.2.1 c w1 hs l1.2.1 hc (by omega) s1
  rw [← HO.out.2.2.1] at hc2
  have HC2 := Lib.hid hc2
  have O1 := Lib.hid (HO.out.1.trans o1 (fun _ e => .inl e))
  clear hc2 s1 o1 c0 c1
  go_wp2_with fail
  refine HC2.out.mono ?_
  rintro e w2 ⟨rfl, s2, o2⟩
  have f0 := o2.cell e0 (fun e => by have e' : W.heap.size = Bs := e; omega)
  have f1 := o2.cell e1 (fun e => by have e' : W.heap.size = Bs := e; omega)
  have hc3 := order2_calls E r1.1 r2.1 w2 hs l1.1 l2.1 (by omega) s2
  rw [← HO.out.2.2.2] at hc3
  have HC3 := Lib.hid hc3
  have O2 := Lib.hid (O1.out.trans o2 (fun _ e => .inl e))
  clear hc3 s2 o2 e0 e1
  go_wp2_with fail
  refine HC3.out.mono ?_
  rintro e w3 ⟨rfl, s3, o3⟩
  have O3 := Lib.hid (And.intro s3 (O2.out.trans o3 (fun _ e => .inl e)))
  clear s3 o3
  go_wp2_with fail
  go_ret
  exact ⟨rfl, O3.out.1, O3.out.2, l3.2.1, by omega⟩
set_option maxHeartbeats 4000000 in
theorem medAdj_calls (E : Env enc k lt g lb sf sb blk off size w0) (a : Nat) (W : World) (hs : d.size = size) (ha : 1 ≤ a) (hb : a + 1 < size) (hS : s ≤ 900) (h : Sp enc k blk off w0 d Bs s W) :
    Calls Tryz.prog 104 #[dV g lb sf sb, .int .i64 a, .pointer (some ⟨Bs, 0, none⟩)] W fun e w' => e = .returned (.int .i64 (medianAdjacent lt d a s).1) ∧ Sp enc k blk off w0 d Bs (medianAdjacent lt d a s).2 w' ∧ Only (fun b => b = Bs) W w' ∧ (medianAdjacent lt d a s).1 < size ∧ (medianAdjacent lt d a s).2 ≤ s + 3 := by
  have hbl : blk < W.heap.size := h.sw.lt E.hblk
  have hsz := E.hsz
  have s0 := h.alloc (.cells #[.func (.func g) #[] lb, .func (.func sf) #[] sb] 105)
  have x0 := Bx.new W (.func (.func g) #[] lb) (.func (.func sf) #[] sb) 105 hbl
  have o0 : Only (fun b => b = Bs) W (W.alloc (.cells #[.func (.func g) #[] lb, .func (.func sf) #[] sb] 105)) := (Only.refl _ W).alloc _
  have hc1 := median_calls E (a - 1) a (a + 1) _ hs (by omega) (by omega) hb hS s0
  rw [show (((a - 1 : Nat) : Int)) = (a : Int) - 1 by omega, show (((a + 1 : Nat) : Int)) = (a : Int) + 1 by omega] at hc1
  unfold medianAdjacent
  generalize median lt d (a - 1) a (a + 1) s = r at hc1 ⊢
  have HC := Lib.hid hc1
  have HO := Lib.hid o0
  obtain ⟨c0, c1, -, -⟩ := x0
  clear hc1 s0 o0 h
  go_enter Tryz.func104, Tryz.ntmps104
  go_wp2_with fail
  refine HC.out.mono ?_
  rintro e w1 ⟨rfl, s1, o1, l1, l2⟩
  have O1 := Lib.hid (And.intro s1 (HO.out.trans o1 (fun _ e => .inl e)))
  clear s1 o1
  go_wp2_with fail
  go_ret
  exact ⟨rfl, O1.out.1, O1.out.2, l1, l2⟩
end
end Go.Proofs.YtakhcfemakapbaaGreatDoor.SwE
set_option maxRecDepth 100000
set_option linter.unusedSimpArgs false
set_option linter.unusedVariables false
namespace Go.Proofs.YtakhcfemakapbaaGreatDoor.SwF
open Go Go.Shelf Go.RowKit Go.Sort Go.Proofs.YtakhcfemakapbaaGreatDoor.Mem Go.Proofs.YtakhcfemakapbaaGreatDoor.DuM Go.Proofs.YtakhcfemakapbaaGreatDoor.SwA Go.Proofs.YtakhcfemakapbaaGreatDoor.SwE
variable {α : Type} [Inhabited α]
def hintI (s : Nat) : Int := if s = 0 then 1 else if s = 12 then 2 else 0
def rawP (lt : α → α → Bool) (d : Array α) (a b : Nat) : Nat × Nat :=
  if b - a ≥ 50 then
    let ri := medianAdjacent lt d (a + (b - a) / 4 * 1) 0
    let rj := medianAdjacent lt d (a + (b - a) / 4 * 2) ri.2
    let rk := medianAdjacent lt d (a + (b - a) / 4 * 3) rj.2
    median lt d ri.1 rj.1 rk.1 rk.2
  else median lt d (a + (b - a) / 4 * 1) (a + (b - a) / 4 * 2) (a + (b - a) / 4 * 3) 0
theorem choose_raw (lt : α → α → Bool) (d : Array α) (a b : Nat) (h : 12 < b - a) : choosePivot lt d a b = ((rawP lt d a b).1, if (rawP lt d a b).2 = 0 then .increasing else if (rawP lt d a b).2 = 12 then .decreasing else .unknown) := by
  unfold choosePivot rawP
  simp only [show b - a ≥ 8 from by omega, if_true]
section
variable {enc : α → List Value} {k : Nat} {lt : α → α → Bool} {g : Nat} {lb : Array Value} {sf : Nat} {sb : Array Value} {blk off size : Nat} {w0 W : World} {d : Array α}
set_option maxHeartbeats 8000000 in
theorem choose_calls (E : Env enc k lt g lb sf sb blk off size w0) (a b : Nat) (W : World) (h : SWK enc k w0 blk off d W) (hs : d.size = size) (hab : 12 < b - a) (hb : b ≤ size) :
    Calls Tryz.prog 92 #[dV g lb sf sb, .int .i64 a, .int .i64 b] W fun e w' => e = .returned (.tuple #[.int .i64 (rawP lt d a b).1, .int .i64 (hintI (rawP lt d a b).2)]) ∧ St enc k blk off w0 W d w' := by
  have hbl : blk < W.heap.size := h.lt E.hblk
  have hsz := E.hsz
  obtain ⟨W2, hW2⟩ : ∃ W2, W2 = (W.alloc (.cells #[.func (.func g) #[] lb, .func (.func sf) #[] sb] 105)).alloc (.cells #[.int .i64 0] 3) := ⟨_, rfl⟩
  have bxs : Boxed W2 (W.heap.size + 1) 3 (.int .i64 (0 : Nat)) := by
    have := Boxed.new (W.alloc (.cells #[.func (.func g) #[] lb, .func (.func sf) #[] sb] 105)) 3 (.int .i64 0)
    rw [World.size_alloc] at this
    rw [hW2]; exact this
  have s2 : Sp enc k blk off w0 d (W.heap.size + 1) 0 W2 := ⟨by rw [hW2]; exact (h.alloc _).alloc _, bxs, by have := h.le; omega⟩
  have x2 : Bx W.heap.size (.func (.func g) #[] lb) (.func (.func sf) #[] sb) blk W2 := by
    rw [hW2]; exact (Bx.new W _ _ 105 hbl).only ((Only.refl _ _).alloc _)
  have o2 : Only (fun b => b = blk) W W2 := by rw [hW2]; exact ((Only.refl _ W).alloc _).alloc _
  obtain ⟨q, hq⟩ : ∃ q, q = (b - a) / 4 := ⟨_, rfl⟩
  obtain ⟨L, hL⟩ : ∃ L, L = b - a := ⟨_, rfl⟩
  have hlz : (b : Int) - (a : Int) = (L : Int) := by omega
  have hqz : (L : Int) / 4 = (q : Int) := by omega
  have hqz' : Int.tdiv (L : Int) 4 = (q : Int) := by rw [Int.tdiv_eq_ediv_of_nonneg (by omega)]; omega
  obtain ⟨I, hI⟩ : ∃ I, I = a + q := ⟨_, rfl⟩
  obtain ⟨J, hJ⟩ : ∃ J, J = a + q * 2 := ⟨_, rfl⟩
  obtain ⟨K, hK⟩ : ∃ K, K = a + q * 3 := ⟨_, rfl⟩
  have hIz : (a : Int) + (q : Int) = (I : Int) := by omega
  have hJz : (a : Int) + (q : Int) * 2 = (J : Int) := by omega
  have hKz : (a : Int) + (q : Int) * 3 = (K : Int) := by omega
  have hIs : I < size ∧ J < size ∧ K + 1 < size ∧ I + 1 < size ∧ J + 1 < size ∧ 1 ≤ I ∧ 1 ≤ J ∧ 1 ≤ K := by omega
  obtain ⟨r, hr⟩ : ∃ r, r = rawP lt d a b := ⟨_, rfl⟩
  rw [← hr]
  unfold rawP at hr
  rw [← hq, Nat.mul_one, ← hI, ← hJ, ← hK] at hr
  have H2 := Lib.hid (And.intro s2 (And.intro o2 hW2))
  obtain ⟨c0, c1, -, -⟩ := x2
  have hlt2 : W.heap.size + 1 < W2.heap.size := by rw [hW2]; simp
  have hbx : ∀ w', Only (fun b => b = W.heap.size + 1) W2 w' → Bx W.heap.size (.func (.func g) #[] lb) (.func (.func sf) #[] sb) blk w' := fun w' ho =>
    ⟨ho.cell c0 (fun e => by have e' : W.heap.size = W.heap.size + 1 := e; omega), ho.cell c1 (fun e => by have e' : W.heap.size = W.heap.size + 1 := e; omega), by omega, by have := ho.size; omega⟩
  have HBX := Lib.hid hbx
  have HI := Lib.hid (And.intro hq (And.intro hI (And.intro hJ hK)))
  have hLs : L ≤ size := by omega
  have hLb : b - a ≥ 50 ↔ 50 ≤ L := by omega
  have hLe : 12 < L := by omega
  clear s2 o2 bxs hbx hq hI hJ hK h hL hab
  by_cases h50 : b - a ≥ 50
  · rw [if_pos h50] at hr
    have h50z : (50 : Int) ≤ (L : Int) := by have := hLb.1 h50; omega
    have h8z : (8 : Int) ≤ (L : Int) := by omega
    clear hLb h50
    obtain ⟨ri, hri⟩ : ∃ r, r = medianAdjacent lt d I 0 := ⟨_, rfl⟩
    obtain ⟨rj, hrj⟩ : ∃ r, r = medianAdjacent lt d J ri.2 := ⟨_, rfl⟩
    obtain ⟨rk, hrk⟩ : ∃ r, r = medianAdjacent lt d K rj.2 := ⟨_, rfl⟩
    simp only [← hri, ← hrj, ← hrk] at hr
    have hm := medAdj_calls E I W2 hs hIs.2.2.2.2.2.1 hIs.2.2.2.1 (by omega) H2.out.1
    rw [← hri] at hm
    have HM := Lib.hid hm
    have HRR := Lib.hid (And.intro hri (And.intro hrj (And.intro hrk hr)))
    have HW := Lib.hid hW2
    clear hm hr hW2 hri hrj hrk
    go_enter Tryz.func92, Tryz.ntmps92
    go_wp2_with fail
    rw [← HW.out]
    refine HM.out.mono ?_
    rintro e w3 ⟨rfl, s3, o3, l3, q3⟩
    obtain ⟨e0, e1, -, -⟩ := HBX.out w3 o3
    have hm2 := medAdj_calls E J w3 hs hIs.2.2.2.2.2.2.1 hIs.2.2.2.2.1 (by omega) s3
    rw [← HRR.out.2.1] at hm2
    have HM2 := Lib.hid hm2
    have O3 := Lib.hid o3
    clear hm2 s3 o3 c0 c1
    go_wp2_with fail
    refine HM2.out.mono ?_
    rintro e w4 ⟨rfl, s4, o4, l4, q4⟩
    have O4 := Lib.hid (O3.out.trans o4 (fun _ e => .inl e))
    obtain ⟨f0, f1, -, -⟩ := HBX.out w4 O4.out
    have hm3 := medAdj_calls E K w4 hs hIs.2.2.2.2.2.2.2 hIs.2.2.1 (by omega) s4
    rw [← HRR.out.2.2.1] at hm3
    have HM3 := Lib.hid hm3
    clear hm3 s4 o4 e0 e1
    go_wp2_with fail
    refine HM3.out.mono ?_
    rintro e w5 ⟨rfl, s5, o5, l5, q5⟩
    have O5 := Lib.hid (O4.out.trans o5 (fun _ e => .inl e))
    obtain ⟨g0, g1, -, -⟩ := HBX.out w5 O5.out
    have hm4 := median_calls E ri.1 rj.1 rk.1 w5 hs l3 l4 l5 (by omega) s5
    rw [← HRR.out.2.2.2] at hm4
    have HM4 := Lib.hid hm4
    clear hm4 s5 o5 f0 f1
    go_wp2_with fail
    refine HM4.out.mono ?_
    rintro e w6 ⟨rfl, s6, o6, l6, q6⟩
    have O6 := O5.out.trans o6 (fun _ e => .inl e)
    have FF := Lib.hid (show St enc k blk off w0 W d w6 from ⟨s6.sw, H2.out.2.1.trans (O6.mono (fun b e => e)) (fun b e => .inr (by have := e; omega))⟩)
    have cS := s6.bx.cell
    clear s6 o6 O6 g0 g1
    rcases Nat.lt_trichotomy r.2 0 with h | h | h
    · omega
    · have e : hintI r.2 = 1 := by unfold hintI; rw [if_pos h]
      have HE := Lib.hid e
      clear e
      rw [h] at cS
      go_wp2_with fail
      go_ret2
      exact ⟨by (rw [HE.out]; rfl), FF.out⟩
    · by_cases h12 : r.2 = 12
      · have e : hintI r.2 = 2 := by unfold hintI; rw [if_neg (by omega), if_pos h12]
        have HE := Lib.hid e
        clear e
        rw [h12] at cS
        go_wp2_with fail
        go_ret2
        exact ⟨by (rw [HE.out]; rfl), FF.out⟩
      · have e : hintI r.2 = 0 := by unfold hintI; rw [if_neg (by omega), if_neg h12]
        have HE := Lib.hid e
        clear e
        have b0 : ((r.2 : Int) == 0) = false := by simp; omega
        have b12 : ((r.2 : Int) == 12) = false := by simp; omega
        go_wp2_with fail
        go_ret2
        exact ⟨by (rw [HE.out]; rfl), FF.out⟩
  · rw [if_neg h50] at hr
    have h50z : ¬ (50 : Int) ≤ (L : Int) := by have := mt hLb.2 h50; omega
    have h8z : (8 : Int) ≤ (L : Int) := by omega
    clear hLb h50
    have hm := median_calls E I J K W2 hs hIs.1 hIs.2.1 (by omega) (by omega) H2.out.1
    rw [← hr] at hm
    have HM := Lib.hid hm
    have HW := Lib.hid hW2
    clear hm hr hW2
    go_enter Tryz.func92, Tryz.ntmps92
    go_wp2_with fail
    rw [← HW.out]
    refine HM.out.mono ?_
    rintro e w6 ⟨rfl, s6, o6, l6, q6⟩
    have FF := Lib.hid (show St enc k blk off w0 W d w6 from ⟨s6.sw, H2.out.2.1.trans (o6.mono (fun b e => e)) (fun b e => .inr (by have := e; omega))⟩)
    have cS := s6.bx.cell
    clear s6 o6
    rcases Nat.lt_trichotomy r.2 0 with h | h | h
    · omega
    · have e : hintI r.2 = 1 := by unfold hintI; rw [if_pos h]
      have HE := Lib.hid e
      clear e
      rw [h] at cS
      go_wp2_with fail
      go_ret2
      exact ⟨by (rw [HE.out]; rfl), FF.out⟩
    · by_cases h12 : r.2 = 12
      · have e : hintI r.2 = 2 := by unfold hintI; rw [if_neg (by omega), if_pos h12]
        have HE := Lib.hid e
        clear e
        rw [h12] at cS
        go_wp2_with fail
        go_ret2
        exact ⟨by (rw [HE.out]; rfl), FF.out⟩
      · have e : hintI r.2 = 0 := by unfold hintI; rw [if_neg (by omega), if_neg h12]
        have HE := Lib.hid e
        clear e
        have b0 : ((r.2 : Int) == 0) = false := by simp; omega
        have b12 : ((r.2 : Int) == 12) = false := by simp; omega
        go_wp2_with fail
        go_ret2
        exact ⟨by (rw [HE.out]; rfl), FF.out⟩
end
end Go.Proofs.YtakhcfemakapbaaGreatDoor.SwF
