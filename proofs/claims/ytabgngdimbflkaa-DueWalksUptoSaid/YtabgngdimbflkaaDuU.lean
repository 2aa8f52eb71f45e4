/-
  The document's index: Set. Conditions: as stated.
-/
import Derived.Test.YtabgngdimbflkaaDuT
set_option maxRecDepth 100000
set_option linter.unusedSimpArgs false
set_option linter.unusedVariables false
namespace Go.Proofs.Ytabgngdimbflkaa.DuU
open Go.RowKit Go.Shelf Go.Proofs.Ytabgngdimbflkaa.Mem Go.Proofs.Ytabgngdimbflkaa.DuA Go.Proofs.Ytabgngdimbflkaa.DuM Go.Proofs.Ytabgngdimbflkaa.DuN Go.Proofs.Ytabgngdimbflkaa.DuB Go.Proofs.Ytabgngdimbflkaa.DuO Go.Proofs.Ytabgngdimbflkaa.DsC Go.Proofs.Ytabgngdimbflkaa.DsJ Go.Proofs.Ytabgngdimbflkaa.DuR Go.Proofs.Ytabgngdimbflkaa.DuS

/-- What was put out of the first ones. -/
def outL (pl : Bool) (e : Int × ByteArray) (a : List (Int × ByteArray)) : List (Int × ByteArray) := if pl then insL ltS e a else a
def Pl (pl : Bool) (e : Int × ByteArray) (a : List (Int × ByteArray)) : Prop := if pl then ∃ y ∈ a, bef ltS e y = true else ∀ y ∈ a, bef ltS e y = false
theorem out_len (pl : Bool) (e : Int × ByteArray) (a : List (Int × ByteArray)) : (outL pl e a).length = a.length + (if pl then 1 else 0) := by
  cases pl
  · simp [outL]
  · simp [outL, ins_len]
theorem out_yes {e y : Int × ByteArray} {a : List (Int × ByteArray)} (h : Pl true e a) : outL true e (a ++ [y]) = outL true e a ++ [y] ∧ Pl true e (a ++ [y]) := by
  refine ⟨ins_yes [y] h, ?_⟩
  obtain ⟨z, hz, hb⟩ := (show ∃ y ∈ a, bef ltS e y = true from h)
  exact (show ∃ y ∈ _, _ from ⟨z, List.mem_append_left _ hz, hb⟩)
theorem out_new {e y : Int × ByteArray} {a : List (Int × ByteArray)} (h : Pl false e a) (hb : bef ltS e y = true) : outL true e (a ++ [y]) = outL false e a ++ [e] ++ [y] ∧ Pl true e (a ++ [y]) := by
  refine ⟨?_, (show ∃ y ∈ _, _ from ⟨y, by simp, hb⟩)⟩
  show insL ltS e (a ++ [y]) = a ++ [e] ++ [y]
  rw [ins_no [y] h]
  simp [insL, hb]
theorem out_no {e y : Int × ByteArray} {a : List (Int × ByteArray)} (h : Pl false e a) (hb : bef ltS e y = false) : outL false e (a ++ [y]) = outL false e a ++ [y] ∧ Pl false e (a ++ [y]) := by
  refine ⟨rfl, (show ∀ y ∈ _, _ from fun z hz => ?_)⟩
  rcases List.mem_append.1 hz with hz | hz
  · exact (show ∀ y ∈ a, bef ltS e y = false from h) z hz
  · rw [List.mem_singleton.1 hz]; exact hb
theorem out_end {e : Int × ByteArray} {a : List (Int × ByteArray)} (h : Pl false e a) : insL ltS e a = outL false e a ++ [e] := by
  have := ins_no [] (show ∀ y ∈ a, bef ltS e y = false from h)
  rw [List.append_nil] at this
  exact this
abbrev ro (e : Int × ByteArray) : Obj := .cells #[.string e.2, .int .i64 e.1] 43
theorem ro_cells (w : World) (e : Int × ByteArray) : (w.alloc (ro e)).cell? ⟨w.heap.size, 0, none⟩ = some (.string e.2) ∧ (w.alloc (ro e)).cell? ⟨w.heap.size, 1, none⟩ = some (.int .i64 e.1) := by
  have h := heap_alloc_new w (ro e)
  exact ⟨by unfold World.cell?; simp only [h]; rfl, by unfold World.cell?; simp only [h]; rfl⟩

set_option maxHeartbeats 8000000 in
theorem setR_calls (B h c : Nat) (A : Option Addr) (l : List (Int × ByteArray)) (k : ByteArray) (t : Int) (w : World) (y : Yx w B h A c l) (hn : l.length ≤ 1099511627775) :
    Calls Try.prog 30 #[.pointer (some ⟨h, 0, none⟩), .string k, .int .i64 t] w fun e w' => e = .returned (.int .i64 (setE t)) ∧ DTurn B h A (setL l k t) w w' := by
  unfold setE setL
  by_cases ht : okT t
  rotate_left
  · rw [if_neg ht, if_neg ht]
    have hR := DTurn.refl y
    by_cases h0 : t < 0
    · go_enter Try.func30, Try.ntmps30
      go_wp2_with fail
      go_ret
      exact ⟨rfl, hR⟩
    · have h1 : 9007199254740992 < t := by unfold okT at ht; omega
      go_enter Try.func30, Try.ntmps30
      go_wp2_with fail
      go_ret
      exact ⟨rfl, hR⟩
  rw [if_pos ht, if_pos ht]
  have ht' := ht
  obtain ⟨t0, t1⟩ := ht
  have hdr := dropR_calls B h c A l k w y (by omega)
  have hdl := drop_len l k
  obtain ⟨l1, hl1⟩ : ∃ l1, dropL l k = l1 := ⟨_, rfl⟩
  rw [hl1] at hdr hdl ⊢
  clear hl1
  have HT := Lib.hid ht'
  clear ht'
  go_enter Try.func30, Try.ntmps30
  go_wp2_with fail
  refine hdr.mono ?_
  rintro e w1 ⟨rfl, A1, c1, y1, O1, hA1⟩
  have hcap := y1.rd.cap
  obtain ⟨n, hn1⟩ : ∃ n, l1.length = n := ⟨_, rfl⟩
  have HN := Lib.hid hn1
  go_wp2_with fail
  go_loopw [7, 8, 9] (fun ov pv i wr => ∃ (j : Nat) (pl : Bool), j ≤ n ∧ i = .int .i64 j ∧ pv = .bool pl ∧ OwnR wr w1.heap.size ov (outL pl (t, k) (l1.take j)) ∧ Hid (Pl pl (t, k) (l1.take j)) ∧ Below w1.heap.size w1 wr) (fun _ _ i _ => n - (intOf i).toNat)
  case atStart => exact ⟨0, false, Nat.zero_le _, rfl, rfl, World.ownsRow_nil _ _ _ _, (show ∀ y ∈ _, _ from fun y hy => by simp at hy), Below.refl _ _⟩
  case round =>
    obtain ⟨j, pl, hj, rfl, rfl, ho, hP, hb⟩ := hrel
    have y' := y1.below hb
    have c0 : wr.cell? ⟨h, 0, none⟩ = some (.slice A1 n c1) := by rw [← hn1]; exact y'.cell.1
    obtain ⟨A2, c2, rfl⟩ := own_form ho
    have hol := out_len pl (t, k) (l1.take j)
    rw [List.length_take, hn1, show min j n = j by omega] at hol
    by_cases hlt : j < n
    · obtain ⟨e, he⟩ : ∃ e, l1[j]? = some e := ⟨_, List.getElem?_eq_getElem (by omega)⟩
      have hr' : RdR wr A1 n c1 l1 := by rw [← hn1]; exact y'.rd
      obtain ⟨p, rfl, x0, x1⟩ := rdr_get hr' he
      have hs : l1.take (j + 1) = l1.take j ++ [e] := by rw [List.take_add_one, he]; rfl
      have HS := Lib.hid hs
      obtain ⟨tt, kk⟩ := e
      clear he hs
      obtain ⟨n2, hn2⟩ : ∃ n2, (outL pl (t, k) (l1.take j)).length = n2 := ⟨_, rfl⟩
      have ho2 : wr.ownsRow w1.heap.size 43 2 (.slice A2 n2 c2) n2 (entsR (outL pl (t, k) (l1.take j))) := by rw [← hn2]; exact ho
      rw [hn2] at hol ⊢
      have hnl : n2 ≤ n + 1 := by rw [hol]; split <;> omega
      clear hol
      have b0 := (ro_cells wr (tt, kk)).1
      have b1 := (ro_cells wr (tt, kk)).2
      have hb2 : Below w1.heap.size w1 (wr.alloc (ro (tt, kk))) := hb.alloc hb.size _
      have ho3 : (wr.alloc (ro (tt, kk))).ownsRow w1.heap.size 43 2 (.slice A2 n2 c2) n2 (entsR (outL pl (t, k) (l1.take j))) := ho2.alloc _
      have hne : ¬ (.slice A2 n2 c2 : Value).ownBlock = some wr.heap.size := fun e => by have := (ho2.lt _ e).2; omega
      have AP : ∀ (L : List (Int × ByteArray)) (pl' : Bool) (v3 : Value) (n3 : Nat) (w3 : World), n3 = L.length → outL pl' (t, k) (l1.take (j + 1)) = L → w3.ownsRow w1.heap.size 43 2 v3 n3 (entsR L) → OwnR w3 w1.heap.size v3 (outL pl' (t, k) (l1.take (j + 1))) := fun L pl' v3 n3 w3 h1 h2 h3 => by
        unfold OwnR
        rw [h2, ← h1]; exact h3
      have HAP := Lib.hid AP
      clear AP ho ho2
      cases pl
      · by_cases hbf : bef ltS (t, k) (tt, kk) = true
        · obtain ⟨e1, p1⟩ := out_new hP.out hbf
          rw [← HS.out] at e1 p1
          have E1 := Lib.hid (And.intro e1 p1)
          clear e1 p1
          have hcs : t < tt ∨ (t = tt ∧ Op.bytesLess k.toList kk.toList = true) := by
            simp only [bef, Bool.or_eq_true, Bool.and_eq_true, decide_eq_true_eq] at hbf
            exact hbf
          clear hbf
          rcases hcs with h1 | ⟨h1, h2⟩
          · go_wp2_with (first
              | (at_builtin; refine wpList_app2b rfl (.tmp 56) (.tmp 60) elR rfl w1.heap.size _ n2 _ rfl ho3 (.string k) (.int .i64 t) rfl rfl (wr.heap.size + 1) (by simp) rfl (by unfold maxLen; omega) (by omega) hb2.size ?_; intro v3 w3 o3 O3 f3; obtain ⟨A3, c3, rfl⟩ := own_form o3; have b0' := O3.cell b0 hne; have b1' := O3.cell b1 hne; have hb3 := O3.after hb2 (Nat.le_refl _) (fun b hb => (ho3.lt b hb).1))
              | (at_builtin; refine wpList_app2b rfl (.tmp 62) (.tmp 64) elR rfl w1.heap.size _ (n2 + 1) _ rfl o3 (.string kk) (.int .i64 tt) rfl rfl w3.heap.size rfl rfl (by unfold maxLen; omega) (by omega) hb3.size ?_; intro v4 w4 o4 O4 f4))
            exact ⟨⟨j + 1, true, by omega, by go_num, rfl, HAP.out (outL false (t, k) (l1.take j) ++ [(t, k)] ++ [(tt, kk)]) true v4 (n2 + 1 + 1) w4 (by rw [List.length_append, List.length_append, hn2]; rfl) E1.out.1 (by rw [entsR_app, entsR_app]; exact o4), E1.out.2, O4.after hb3 (Nat.le_refl _) (fun b hb => (o3.lt b hb).1)⟩, by simp [intOf]; omega⟩
          · subst h1
            go_wp2_with (first
              | (at_builtin; refine wpList_app2b rfl (.tmp 56) (.tmp 60) elR rfl w1.heap.size _ n2 _ rfl ho3 (.string k) (.int .i64 t) rfl rfl (wr.heap.size + 1) (by simp) rfl (by unfold maxLen; omega) (by omega) hb2.size ?_; intro v3 w3 o3 O3 f3; obtain ⟨A3, c3, rfl⟩ := own_form o3; have b0' := O3.cell b0 hne; have b1' := O3.cell b1 hne; have hb3 := O3.after hb2 (Nat.le_refl _) (fun b hb => (ho3.lt b hb).1))
              | (at_builtin; refine wpList_app2b rfl (.tmp 62) (.tmp 64) elR rfl w1.heap.size _ (n2 + 1) _ rfl o3 (.string kk) (.int .i64 t) rfl rfl w3.heap.size rfl rfl (by unfold maxLen; omega) (by omega) hb3.size ?_; intro v4 w4 o4 O4 f4))
            exact ⟨⟨j + 1, true, by omega, by go_num, rfl, HAP.out (outL false (t, k) (l1.take j) ++ [(t, k)] ++ [(t, kk)]) true v4 (n2 + 1 + 1) w4 (by rw [List.length_append, List.length_append, hn2]; rfl) E1.out.1 (by rw [entsR_app, entsR_app]; exact o4), E1.out.2, O4.after hb3 (Nat.le_refl _) (fun b hb => (o3.lt b hb).1)⟩, by simp [intOf]; omega⟩
        · obtain ⟨e1, p1⟩ := out_no hP.out (by simpa using hbf)
          rw [← HS.out] at e1 p1
          have E1 := Lib.hid (And.intro e1 p1)
          clear e1 p1
          have hcs : ¬ t < tt ∧ (t = tt → Op.bytesLess k.toList kk.toList = false) := by
            simp only [bef, Bool.or_eq_true, Bool.and_eq_true, decide_eq_true_eq, not_or, not_and] at hbf
            exact ⟨hbf.1, fun e => by have := hbf.2 e; simpa [ltS] using this⟩
          clear hbf
          obtain ⟨h1, h2⟩ := hcs
          by_cases h3 : t = tt
          · have h4 := h2 h3
            subst h3
            clear h2
            go_wp2_with (at_builtin; refine wpList_app2b rfl (.tmp 62) (.tmp 64) elR rfl w1.heap.size _ n2 _ rfl ho3 (.string kk) (.int .i64 t) rfl rfl (wr.heap.size + 1) (by simp) rfl (by unfold maxLen; omega) (by omega) hb2.size ?_; intro v3 w3 o3 O3 f3)
            exact ⟨⟨j + 1, false, by omega, by go_num, rfl, HAP.out (outL false (t, k) (l1.take j) ++ [(t, kk)]) false v3 (n2 + 1) w3 (by rw [List.length_append, hn2]; rfl) E1.out.1 (by rw [entsR_app]; exact o3), E1.out.2, O3.after hb2 (Nat.le_refl _) (fun b hb => (ho3.lt b hb).1)⟩, by simp [intOf]; omega⟩
          · clear h2
            go_wp2_with (at_builtin; refine wpList_app2b rfl (.tmp 62) (.tmp 64) elR rfl w1.heap.size _ n2 _ rfl ho3 (.string kk) (.int .i64 tt) rfl rfl (wr.heap.size + 1) (by simp) rfl (by unfold maxLen; omega) (by omega) hb2.size ?_; intro v3 w3 o3 O3 f3)
            exact ⟨⟨j + 1, false, by omega, by go_num, rfl, HAP.out (outL false (t, k) (l1.take j) ++ [(tt, kk)]) false v3 (n2 + 1) w3 (by rw [List.length_append, hn2]; rfl) E1.out.1 (by rw [entsR_app]; exact o3), E1.out.2, O3.after hb2 (Nat.le_refl _) (fun b hb => (ho3.lt b hb).1)⟩, by simp [intOf]; omega⟩
      · obtain ⟨e1, p1⟩ := out_yes (y := (tt, kk)) hP.out
        rw [← HS.out] at e1 p1
        have E1 := Lib.hid (And.intro e1 p1)
        clear e1 p1
        go_wp2_with (at_builtin; refine wpList_app2b rfl (.tmp 62) (.tmp 64) elR rfl w1.heap.size _ n2 _ rfl ho3 (.string kk) (.int .i64 tt) rfl rfl (wr.heap.size + 1) (by simp) rfl (by unfold maxLen; omega) (by omega) hb2.size ?_; intro v3 w3 o3 O3 f3)
        exact ⟨⟨j + 1, true, by omega, by go_num, rfl, HAP.out (outL true (t, k) (l1.take j) ++ [(tt, kk)]) true v3 (n2 + 1) w3 (by rw [List.length_append, hn2]; rfl) E1.out.1 (by rw [entsR_app]; exact o3), E1.out.2, O3.after hb2 (Nat.le_refl _) (fun b hb => (ho3.lt b hb).1)⟩, by simp [intOf]; omega⟩
    · obtain rfl : j = n := by omega
      have hfull : l1.take j = l1 := List.take_of_length_le (by omega)
      rw [hfull] at ho hP
      obtain ⟨n2, hn2⟩ : ∃ n2, (outL pl (t, k) l1).length = n2 := ⟨_, rfl⟩
      have ho2 : wr.ownsRow w1.heap.size 43 2 (.slice A2 n2 c2) n2 (entsR (outL pl (t, k) l1)) := by rw [← hn2]; exact ho
      rw [hfull, hn2] at hol ⊢
      have hnl : n2 ≤ j + 1 := by rw [hol]; split <;> omega
      clear hol
      have TR : ∀ (w9 : World) (A9 : Option Addr) (c9 n9 : Nat), n9 = (insL ltS (t, k) l1).length → Below w1.heap.size w1 w9 → w9.ownsRow w1.heap.size 43 2 (.slice A9 n9 c9) n9 (entsR (insL ltS (t, k) l1)) → DTurn B h A (insL ltS (t, k) l1) w (w9.setCell ⟨h, 0, none⟩ (.slice A9 n9 c9)) := by
        intro w9 A9 c9 n9 h9 b9 o9
        subst h9
        obtain ⟨A8, c8, y8, O8, h8⟩ := dturn_new y1 b9 o9
        refine ⟨A8, c8, y8, O1.trans O8 (fun b hb => .inl hb), fun ad e => ?_⟩
        rcases h8 ad e with ⟨a0, e0, hb0⟩ | h8
        · rcases hA1 a0 e0 with ⟨a1, e1, hb1⟩ | h1
          · exact .inl ⟨a1, e1, hb0.trans hb1⟩
          · exact .inr (by rw [hb0]; exact h1)
        · exact .inr (Nat.le_trans O1.size h8)
      have HTR := Lib.hid TR
      clear TR ho
      have g0 := y'.cell.2
      cases pl
      · have e1 := out_end hP.out
        have E1 := Lib.hid e1
        clear e1
        have c9 : ∀ (w9 : World), Below w1.heap.size w1 w9 → w9.cell? ⟨h, 0, none⟩ = some (.slice A1 j c1) ∧ w9.frozen? ⟨h, 0, none⟩ = false := fun w9 b9 => by
          have := (y1.below b9).cell
          rwa [hn1] at this
        go_wp2_with (at_builtin; refine wpList_app2b rfl (.tmp 68) (.tmp 72) elR rfl w1.heap.size _ n2 _ rfl ho2 (.string k) (.int .i64 t) rfl rfl wr.heap.size rfl rfl (by unfold maxLen; omega) (by omega) hb.size ?_; intro v3 w3 o3 O3 f3; obtain ⟨A3, c3, rfl⟩ := own_form o3; have hb3 := O3.after hb (Nat.le_refl _) (fun b hb => (ho2.lt b hb).1); obtain ⟨c90, f90⟩ := c9 w3 hb3)
        go_ret
        refine ⟨rfl, HTR.out w3 A3 c3 (n2 + 1) (by rw [E1.out, List.length_append, hn2]; rfl) hb3 (by rw [E1.out, entsR_app]; exact o3)⟩
      · go_wp2_with fail
        go_ret
        exact ⟨rfl, HTR.out wr A2 c2 n2 hn2.symm hb ho2⟩
end Go.Proofs.Ytabgngdimbflkaa.DuU
