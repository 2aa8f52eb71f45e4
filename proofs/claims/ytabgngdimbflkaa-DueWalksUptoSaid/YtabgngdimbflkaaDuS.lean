/-
  The document's index: Drop, Due. Conditions: as stated.
-/
import Derived.Test.YtabgngdimbflkaaDuR
set_option maxRecDepth 100000
set_option linter.unusedSimpArgs false
set_option linter.unusedVariables false
namespace Go.Proofs.Ytabgngdimbflkaa.DuS
open Go.RowKit Go.Shelf Go.Proofs.Ytabgngdimbflkaa.Mem Go.Proofs.Ytabgngdimbflkaa.DuA Go.Proofs.Ytabgngdimbflkaa.DuM Go.Proofs.Ytabgngdimbflkaa.DuN Go.Proofs.Ytabgngdimbflkaa.DuB Go.Proofs.Ytabgngdimbflkaa.DuO Go.Proofs.Ytabgngdimbflkaa.DsC Go.Proofs.Ytabgngdimbflkaa.DuR

theorem toL_beq (a b : ByteArray) : (a.toList == b.toList) = decide (a = b) := by
  by_cases h : a = b
  · subst h; simp
  · have : a.toList ≠ b.toList := fun e => h (toL_inj e)
    simp [this, h]

set_option maxHeartbeats 4000000 in
theorem dropR_calls (B h c : Nat) (A : Option Addr) (l : List (Int × ByteArray)) (k : ByteArray) (w : World) (y : Yx w B h A c l) (hn : l.length ≤ 1099511627776) :
    Calls Try.prog 31 #[.pointer (some ⟨h, 0, none⟩), .string k] w fun e w' => e = .returned (.bool (dueL l k).isSome) ∧ DTurn B h A (dropL l k) w w' := by
  have hcap := y.rd.cap
  go_enter Try.func31, Try.ntmps31
  go_wp2_with fail
  go_loopw [5, 6] (fun ov i wr => ∃ j : Nat, j ≤ l.length ∧ i = .int .i64 j ∧ OwnR wr w.heap.size ov (dropL (l.take j) k) ∧ Below w.heap.size w wr) (fun _ i _ => l.length - (intOf i).toNat)
  case atStart => exact ⟨0, Nat.zero_le _, rfl, World.ownsRow_nil _ _ _ _, Below.refl _ _⟩
  case round =>
    obtain ⟨j, hj, rfl, ho, hb⟩ := hrel
    have y' := y.below hb
    obtain ⟨c0, f0⟩ := y'.cell
    obtain ⟨A2, c2, rfl⟩ := own_form ho
    have hdl := drop_len (l.take j) k
    rw [List.length_take] at hdl
    by_cases hlt : j < l.length
    · obtain ⟨e, he⟩ : ∃ e, l[j]? = some e := ⟨_, List.getElem?_eq_getElem hlt⟩
      obtain ⟨p, rfl, x0, x1⟩ := rdr_get y'.rd he
      have HT := Lib.hid (drop_take he k)
      obtain ⟨t, kk⟩ := e
      clear he
      obtain ⟨n2, hn2⟩ : ∃ n2, (dropL (l.take j) k).length = n2 := ⟨_, rfl⟩
      have ho2 : wr.ownsRow w.heap.size 43 2 (.slice A2 n2 c2) n2 (entsR (dropL (l.take j) k)) := by rw [← hn2]; exact ho
      rw [hn2] at hdl ⊢
      by_cases hk : kk = k
      · have hq : (kk.toList == k.toList) = true := by rw [toL_beq]; simp [hk]
        have e1 : dropL (l.take (j + 1)) k = dropL (l.take j) k := by rw [HT.out, if_pos hk]; simp
        have E1 := Lib.hid e1
        clear e1 hk
        go_wp2_with fail
        exact ⟨⟨j + 1, by omega, by go_num, by unfold OwnR; rw [E1.out, hn2]; exact ho2, hb⟩, by simp [intOf]; omega⟩
      · have hq : (kk.toList == k.toList) = false := by rw [toL_beq]; simp [hk]
        have e1 : dropL (l.take (j + 1)) k = dropL (l.take j) k ++ [(t, kk)] := by rw [HT.out, if_neg hk]
        have E1 := Lib.hid e1
        clear e1 hk
        go_wp2_with (at_builtin; refine wpList_app2b rfl (.tmp 27) (.tmp 35) elR rfl w.heap.size _ n2 _ rfl ho2 (.string kk) (.int .i64 t) rfl rfl wr.heap.size rfl rfl (by unfold maxLen; omega) (by omega) hb.size ?_; intro v3 w3 o3 O3 f3)
        refine ⟨⟨j + 1, by omega, by go_num, ?_, O3.after hb (Nat.le_refl _) (fun b hb => (ho2.lt b hb).1)⟩, by simp [intOf]; omega⟩
        unfold OwnR
        rw [E1.out, List.length_append, hn2, entsR_app]
        exact o3
    · obtain rfl : j = l.length := by omega
      rw [List.take_length] at ho
      have hgone := drop_lt l k
      obtain ⟨n2, hn2⟩ : ∃ n2, (dropL l k).length = n2 := ⟨_, rfl⟩
      have hn2' : (dropL (l.take l.length) k).length = n2 := by rw [List.take_length]; exact hn2
      have hgi : (decide (n2 < l.length)) = (dueL l k).isSome := by rw [← hgone, hn2]
      have hT : DTurn B h A (dropL l k) w (wr.setCell ⟨h, 0, none⟩ (.slice A2 n2 c2)) := by
        have := dturn_new y hb (c' := c2) (A' := A2) (l' := dropL l k) ho
        rwa [hn2] at this
      have HG := Lib.hid hgi
      rw [hn2']
      clear hgi hgone
      go_wp2_with fail
      go_ret
      exact ⟨by rw [← HG.out] <;> rfl, hT⟩

set_option maxHeartbeats 4000000 in
theorem dueR_calls (B h c : Nat) (A : Option Addr) (l : List (Int × ByteArray)) (k : ByteArray) (w : World) (y : Yx w B h A c l) (hn : l.length ≤ 1099511627776) :
    Calls Try.prog 35 #[.pointer (some ⟨h, 0, none⟩), .string k] w fun e w' => e = .returned (DsH.opt l k) ∧ w' = w := by
  have hcap := y.rd.cap
  obtain ⟨c0, f0⟩ := y.cell
  go_enter Try.func35, Try.ntmps35
  go_wp2_with fail
  go_loopw [6] (fun i wr => ∃ j : Nat, j ≤ l.length ∧ i = .int .i64 j ∧ Hid (∀ j' y, j' < j → l[j']? = some y → y.2 ≠ k) ∧ wr = w) (fun i _ => l.length - (intOf i).toNat)
  case atStart => exact ⟨0, Nat.zero_le _, rfl, (show ∀ j' y, j' < 0 → l[j']? = some y → y.2 ≠ k from fun j' y h => by omega), rfl⟩
  case round =>
    obtain ⟨j, hj, rfl, hI, rfl⟩ := hrel
    by_cases hlt : j < l.length
    · obtain ⟨e, he⟩ : ∃ e, l[j]? = some e := ⟨_, List.getElem?_eq_getElem hlt⟩
      obtain ⟨p, rfl, x0, x1⟩ := rdr_get y.rd he
      have HE := Lib.hid he
      obtain ⟨t, kk⟩ := e
      clear he
      by_cases hk : kk = k
      · have hq : (kk.toList == k.toList) = true := by rw [toL_beq]; simp [hk]
        have HK := Lib.hid hk
        have HD := Lib.hid (due_at HE.out hI.out hk)
        clear hk
        go_wp2_with fail
        go_ret2
        exact ⟨by unfold DsH.opt; rw [HD.out] <;> rfl, rfl⟩
      · have hq : (kk.toList == k.toList) = false := by rw [toL_beq]; simp [hk]
        have I2 : Hid (∀ j' y, j' < j + 1 → l[j']? = some y → y.2 ≠ k) := (show ∀ j' y, j' < j + 1 → l[j']? = some y → y.2 ≠ k from fun j' y h hy => by
          by_cases e : j' = j
          · subst e; rw [HE.out] at hy; injection hy with hy; subst hy; exact hk
          · exact hI.out j' y (by omega) hy)
        clear hk
        go_wp2_with fail
        exact ⟨⟨j + 1, by omega, by go_num, I2, by first | rfl | trivial⟩, by simp [intOf]; omega⟩
    · obtain rfl : j = l.length := by omega
      have HD := Lib.hid (due_not hI.out)
      go_wp2_with fail
      go_ret2
      exact ⟨by unfold DsH.opt; rw [HD.out] <;> rfl, rfl⟩
end Go.Proofs.Ytabgngdimbflkaa.DuS
