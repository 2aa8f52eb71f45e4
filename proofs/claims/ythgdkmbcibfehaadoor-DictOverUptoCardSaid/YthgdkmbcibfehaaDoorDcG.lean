/-
  Fields. Conditions: as stated.
-/
import Derived.Test.YthgdkmbcibfehaaDoorDcF
import Derived.OwnWalk
set_option maxRecDepth 100000
set_option linter.unusedSimpArgs false
set_option linter.unusedVariables false
namespace Go.Proofs.YthgdkmbcibfehaaDoor.DcG
open Go.RowKit Go.Lib Go.Proofs.YthgdkmbcibfehaaDoor.Mem Go.Proofs.YthgdkmbcibfehaaDoor.DcA Go.Proofs.YthgdkmbcibfehaaDoor.DcB Go.Proofs.YthgdkmbcibfehaaDoor.DcC Go.Proofs.YthgdkmbcibfehaaDoor.DcD Go.Proofs.YthgdkmbcibfehaaDoor.DcE Go.Proofs.YthgdkmbcibfehaaDoor.DcF

theorem elF : El Tryd.prog 22 52 (.agg #[.string ⟨#[]⟩, .string ⟨#[]⟩]) 2 32 := by
  obtain ⟨i, h1, h2, h3, h4⟩ := info_parts (show (Tryd.prog.info? 52).map (fun i => (i.zero, i.size, i.bytes)) = some (some (.agg #[.string ⟨#[]⟩, .string ⟨#[]⟩]), 2, 32) by kernel_rfl)
  exact ⟨Tryd.underlying22, ⟨i, h1, h2, h3, h4⟩, rfl, by decide⟩
theorem rd_two (w : World) (a b : Value) (T : TypeId) : Rd (w.alloc (.cells #[a, b] T)) 2 (some ⟨w.heap.size, 0, none⟩) 1 1 [a, b] :=
  ⟨rfl, Nat.le_refl _, by unfold maxLen; omega, fun j x hx => ⟨_, rfl, by
    have h := heap_alloc_new w (.cells #[a, b] T)
    rw [add_mk, Nat.zero_add]
    match j, hx with
    | 0, hx => simp at hx; subst hx; simp only [World.cell?]; rw [h]; rfl
    | 1, hx => simp at hx; subst hx; simp only [World.cell?]; rw [h]; rfl⟩⟩
theorem str_invK (key : Value) (kl : Lit) (h : keyOf Tryd.prog 9 key = some kl) : ∃ x : ByteArray, key = .string x := by
  unfold keyOf at h
  rw [Tryd.underlying9] at h
  cases key <;> simp [mapKey] at h
  exact ⟨_, rfl⟩
theorem str_invV (v : Value) (y : Dt × List MemPlace) (h : plainElem Tryd.prog 9 v = some y) : ∃ c : ByteArray, v = .string c := by
  obtain ⟨c, rfl, _⟩ := plainElem_string_inv Tryd.underlying9 h
  exact ⟨c, rfl⟩
theorem str_key {x : ByteArray} {kl : Lit} (h : keyOf Tryd.prog 9 (.string x) = some kl) : kl = klS x := by
  unfold keyOf at h
  rw [Tryd.underlying9] at h
  simp [mapKey] at h
  exact h.2.symm
theorem str_val {c : ByteArray} {z : Dt} {ps : List MemPlace} (h : plainElem Tryd.prog 9 (.string c) = some (z, ps)) : z = .lit (.string c.data.toList) := by
  obtain ⟨s, e, h2, _⟩ := plainElem_string_inv Tryd.underlying9 h
  injection e with e
  subst e
  exact congrArg Prod.fst h2
set_option maxHeartbeats 4000000 in
theorem fields_calls (B g m : Nat) (l : List Fld) (N : Nat) (w : World) (h : Dc w B g m l N) (hN : l.length ≤ 100000000) :
    Calls Tryd.prog 20 #[.pointer (some ⟨g, 0, none⟩)] w fun e w' => ∃ v, e = .returned v ∧ OwnF w' w.heap.size v l ∧ Below w.heap.size w w' := by
  have H := Lib.hid h
  have c0 := h.cell
  obtain ⟨D, hM, hT⟩ := h.mp
  have hl := hM.len Tryd.underlying59 3
  rw [hT.size] at hl
  obtain ⟨i, HI⟩ := elF.info
  have HHI := Lib.hid HI
  have HM := Lib.hid hM
  have HT := Lib.hid hT
  have hlt := h.lt
  clear HI hM hT h
  go_enter Tryd.func20, Tryd.ntmps20
  go_wp2_with (first
    | (at_make; refine wpList_make_own _ rfl (.const (.int .i64 0)) (.tmp 12) 22 rfl w.heap.size 52 i (.agg #[.string ⟨#[]⟩, .string ⟨#[]⟩]) 2 elF.ht HHI.out.1 HHI.out.2.1 HHI.out.2.2.1 .i64 .i64 _ l.length rfl rfl rfl (by rw [HHI.out.2.2.2]; omega) (by unfold maxLen; omega) (Nat.le_refl _) ?_; intro w1 o1 g1; have b1 : Below w.heap.size w w1 := ⟨g1.os, g1.tape, g1.output, g1.size, fun k hk => g1.block k hk (by simp)⟩; have s1 : w.heap.size < w1.heap.size := (o1.lt _ rfl).2; have H1 := H.out.below b1; have c2 := (H1.below ((Below.refl _ w1).alloc (Nat.le_refl _) (.cells #[.slice (some ⟨w.heap.size, 0, none⟩) 0 l.length] 22))).cell)
    | (at_range; refine wpList_range_own _ rfl _ 59 rfl 9 9 keyed Tryd.underlying59 (plainElem Tryd.prog 9) m N D rfl ((HM.out.kept g1 (by simp)).alloc _) ?_; intro w3 r3 g3 s3))
  have hbx : (w1.alloc (.cells #[.slice (some ⟨w.heap.size, 0, none⟩) 0 l.length] 22)).heap.size = w1.heap.size + 1 := by simp
  rw [hbx] at r3 s3
  have hbox0 : w3.heap[w1.heap.size]? = some (.cells #[.slice (some ⟨w.heap.size, 0, none⟩) 0 l.length] 22 (0, 0)) := by
    rw [g3.block _ (by simp) (by simp)]; exact heap_alloc_new w1 _
  have b3 : Below w.heap.size w w3 := (b1.alloc b1.size _).trans ⟨g3.os, g3.tape, g3.output, g3.size, fun k hk => g3.block k (by have := b1.size; simp; omega) (by simp)⟩
  have o3 : OwnF w3 w.heap.size (.slice (some ⟨w.heap.size, 0, none⟩) 0 l.length) [] := own_only (own_only o1 ((Only.refl (fun _ => False) w1).alloc _) (fun _ _ h => h)) (S := fun _ => False) ⟨g3.os, g3.tape, g3.output, g3.size, fun k hk _ => g3.block k hk (by simp)⟩ (fun _ _ h => h)
  have hSt := Lib.hid (And.intro r3 (And.intro hbox0 (And.intro b3 o3)))
  clear r3 g3 hbox0 b3 o3 o1 g1 c2
  go_frame
  rw [hbx]
  clear hbx
  go_loopw [4] (fun _ wr => ∃ (left : Lit → Bool) (cnt : Nat) (out : List Fld) (v : Value), wr.ranges Tryd.prog 9 (plainElem Tryd.prog 9) m (w1.heap.size + 1) N D left cnt ∧ out.length + cnt ≤ l.length ∧ Coll l out left ∧ OwnF wr w.heap.size v out ∧ v.ownBlock ≠ some w1.heap.size ∧ v.ownBlock ≠ some (w1.heap.size + 1) ∧ wr.heap[w1.heap.size]? = some (.cells #[v] 22 (0, 0)) ∧ w1.heap.size + 2 ≤ wr.heap.size ∧ Below w.heap.size w wr) (fun _ wr => wr.rangeLeft m (w1.heap.size + 1))
  case atStart => exact ⟨_, _, [], _, hSt.out.1, (by rw [HT.out.size]; simp), Coll.start HT.out, hSt.out.2.2.2, (fun e => by injection e with e; simp at e; omega), (fun e => by injection e with e; simp at e; omega), hSt.out.2.1, by omega, hSt.out.2.2.1⟩
  case round =>
    clear hSt
    obtain ⟨left, cnt, out, v, hrg, hcn, hco, ho, hv1, hv2, hbox, hsz, hb⟩ := hrel
    have Hst := Lib.hid (And.intro hco (And.intro ho (And.intro hv1 (And.intro hv2 (And.intro hbox hb)))))
    obtain ⟨A, c, rfl⟩ := own_form ho
    clear hco ho hv1 hv2 hbox hb
    go_wp2_with (at_next; refine wpList_next_ranges _ rfl _ rfl 9 keyed (plainElem Tryd.prog 9) Value.string Value.string str_invK str_invV m (w1.heap.size + 1) N D left cnt rfl hrg ?_ ?_)
    · intro hc0 hl0
      obtain ⟨hco, ho, hv1, hv2, hbox, hb⟩ := Hst.out
      have hp := hco.done H.out.ris hl0
      have hlo : out.length = l.length := hp.length_eq
      have x0 : wr.cell? ⟨w1.heap.size, 0, none⟩ = some (.slice A out.length c) := by simp [World.cell?, hbox]
      have hsrt := sort_calls w.heap.size out.length c w1.heap.size A out wr ho x0 (by omega) (fun k hk e => hv1 (by rw [hk, ← e])) (by rw [hlo]; exact hN)
      have Hsrt := Lib.hid hsrt
      have Hp := Lib.hid hp
      clear hsrt hp hlo hco ho hv1 hv2 hbox hb hrg
      go_wp2_with fail
      refine Hsrt.out.mono ?_
      rintro e w5 ⟨rfl, d, hd, hs, od, O5⟩
      obtain ⟨hco, ho, hv1, hv2, hbox, hb⟩ := Hst.out
      have hbox5 := O5.heap hbox hv1
      have x5 : w5.cell? ⟨w1.heap.size, 0, none⟩ = some (.slice A out.length c) := by simp [World.cell?, hbox5]
      have hdl := sorted_is H.out.ris (hd.trans Hp.out) hs
      rw [hdl] at od
      have b5 := O5.after hb (Nat.le_refl _) (fun k hk => (ho.lt k hk).1)
      have HH := Lib.hid (And.intro od b5)
      clear hdl hd hs od b5 O5 hbox5 hco ho hv1 hv2 hbox hb x0
      go_wp2_with fail
      go_ret
      exact ⟨_, rfl, HH.out.1, HH.out.2⟩
    · intro x y kl z ps w4 cnt4 hkx hlk hRv hat hrg4 hlt4 hgr4 hsz4 hen
      obtain ⟨hco, ho, hv1, hv2, hbox, hb⟩ := Hst.out
      obtain rfl := str_key hkx
      obtain rfl := str_val hRv
      have hco4 := hco.next HT.out H.out.ris hlk hat
      have O4 : Only (fun b => some (w1.heap.size + 1) = some b) wr w4 := Only.of_grown hgr4
      have hbox4 := O4.heap hbox (fun e => by injection e with e; omega)
      have x4 : w4.cell? ⟨w1.heap.size, 0, none⟩ = some (.slice A out.length c) := by simp [World.cell?, hbox4]
      have ho4 : OwnF w4 w.heap.size (.slice A out.length c) out := own_only ho O4 (fun k hk e => hv2 (by rw [hk, e]))
      have hb4 : Below w.heap.size w w4 := O4.after hb (Nat.le_refl _) (fun k hk => by injection hk with hk; omega)
      obtain ⟨W5, hW5⟩ : ∃ W5, W5 = w4.alloc (.cells #[.string x, .string y] 52) := ⟨_, rfl⟩
      have hs5 : W5.heap.size = w4.heap.size + 1 := by rw [hW5]; simp
      have ho5 : OwnF W5 w.heap.size (.slice A out.length c) out := by rw [hW5]; exact ho4.alloc _
      have hrd5 : Rd W5 2 (some ⟨w4.heap.size, 0, none⟩) 1 1 [.string x, .string y] := by rw [hW5]; exact rd_two w4 _ _ _
      have hrg5 := hrg4.alloc (.cells #[.string x, .string y] 52)
      rw [← hW5] at hrg5
      have hbox5 : W5.heap[w1.heap.size]? = some (.cells #[.slice A out.length c] 22 (0, 0)) := by rw [hW5, RowKit.Below.heap_alloc _ _ _ (by omega)]; exact hbox4
      have hb5 : Below w.heap.size w W5 := by rw [hW5]; exact hb4.alloc hb4.size _
      have HW5 := Lib.hid hW5
      have H5 := Lib.hid (And.intro ho5 (And.intro hrd5 (And.intro hrg5 (And.intro hbox5 (And.intro hb5 hco4)))))
      have hcl : out.length + 1 ≤ 100000000 := by omega
      have HS4 := Lib.hid (And.intro hsz4 hs5)
      clear hsz4 hs5 hW5 ho5 hrd5 hrg5 hbox5 hb5 hco4 hco ho hv1 hv2 hbox hb ho4 hb4 O4 hrg4 hgr4 hbox4 hat hkx hRv
      go_wp2_with (at_builtin; refine wpList_app rfl (.tmp 24) (.tmp 28) elF rfl w.heap.size _ out.length (flds out) rfl (by rw [← HW5.out]; exact H5.out.1) (some ⟨w4.heap.size, 0, none⟩) 1 1 [.string x, .string y] rfl (by rw [← HW5.out]; exact H5.out.2.1) (by simp; exact ⟨rfl, rfl⟩) (by unfold maxLen; omega) (by omega) (by rw [← HW5.out]; exact H5.out.2.2.2.2.1.size) ?_; rw [← HW5.out]; intro v6 w6 o6 f6 n6; obtain ⟨A6, c6, rfl⟩ := own_form o6; have hbox6 := f6.heap H5.out.2.2.2.1 Hst.out.2.2.1; have x6 : w6.cell? ⟨w1.heap.size, 0, none⟩ = some (.slice A out.length c) := (by simp [World.cell?, hbox6]); have y6 : w6.frozen? ⟨w1.heap.size, 0, none⟩ = false := (by simp [World.frozen?, hbox6]))
      obtain ⟨hco, ho, hv1, hv2, hbox, hb⟩ := Hst.out
      obtain ⟨ho5, hrd5, hrg5, hbx5, hb5, hco5⟩ := H5.out
      obtain ⟨t1, t2⟩ := HS4.out
      have hn1 : (Value.slice A6 (out.length + 1) c6).ownBlock ≠ some w1.heap.size := by
        rcases n6 with n6 | n6
        · rw [n6]; exact hv1
        · rw [n6]; intro e; injection e with e; omega
      have hn2 : (Value.slice A6 (out.length + 1) c6).ownBlock ≠ some (w1.heap.size + 1) := by
        rcases n6 with n6 | n6
        · rw [n6]; exact hv2
        · rw [n6]; intro e; injection e with e; omega
      have P6 : Only (fun b => b = w1.heap.size) w6 (w6.setCell ⟨w1.heap.size, 0, none⟩ (.slice A6 (out.length + 1) c6)) := (Only.refl (fun b => b = w1.heap.size) w6).put (p := ⟨w1.heap.size, 0, none⟩) (.inl rfl) _
      have hg6 : w6.grownBy (w6.setCell ⟨w1.heap.size, 0, none⟩ (.slice A6 (out.length + 1) c6)) (some w1.heap.size) := ⟨P6.os, P6.tape, P6.output, P6.size, fun k hk hne => P6.block k hk (fun e => hne (by rw [e]))⟩
      have hmm : ∀ k, (Value.slice A out.length c).ownBlock = some k → w.heap.size ≤ k := fun k hk => (ho5.lt k hk).1
      have hrg7 := (hrg5.kept f6.grown (fun e => by have := hmm m e.symm; have := H.out.lt.2; omega) (fun e => hv2 e.symm)).kept hg6 (fun e => by injection e with e; have := H.out.lt.2; omega) (fun e => by injection e with e; omega)
      have hb6 : Below w.heap.size w w6 := f6.after hb5 (Nat.le_refl _) hmm
      have ho6 : OwnF w6 w.heap.size (.slice A6 (out.length + 1) c6) (out ++ [(x, y)]) := by
        unfold OwnF
        rw [show (out ++ [(x, y)]).length = out.length + 1 by simp, show flds (out ++ [(x, y)]) = flds out ++ [.string x, .string y] by simp [flds]]
        exact o6
      refine ⟨⟨_, cnt4, out ++ [(x, y)], _, hrg7, by simp; omega, hco5, own_only ho6 P6 (fun k hk e => hn1 (by rw [hk, e])), hn1, hn2, by simp [World.setCell, Array.getElem?_modify, hbox6], by have := f6.size; have := P6.size; omega, hb6.setCell (p := ⟨w1.heap.size, 0, none⟩) (show w.heap.size ≤ w1.heap.size by omega) _⟩, ?_⟩
      rw [hrg7.left_eq, hrg.left_eq]; exact hlt4
end Go.Proofs.YthgdkmbcibfehaaDoor.DcG
