/-
  The texts of numbers, and whether two lists of texts are one. Conditions: as stated.
-/
import Derived.Test.YtadjgbhbeamdbaaDtR
import Derived.Test.YtadjgbhbeamdbaaDqI
import Derived.Test.YtadjgbhbeamdbaaNumB
set_option maxRecDepth 100000
set_option linter.unusedSimpArgs false
set_option linter.unusedVariables false
namespace Go.Proofs.Ytadjgbhbeamdbaa.DtT
open Go.RowKit Go.Lib Go.Proofs.Ytadjgbhbeamdbaa.Mem Go.Proofs.Ytadjgbhbeamdbaa.NumA Go.Proofs.Ytadjgbhbeamdbaa.NumB

theorem txt_inj {a b : Int} (ha : inR a) (hb : inR b) (h : txt a = txt b) : a = b := by
  have h1 : itoa a = itoa b := by
    have := congrArg (fun x : ByteArray => x.data.toList) h
    simpa [txt] using this
  have h2 := parse_itoa ha.1 ha.2
  have h3 := parse_itoa hb.1 hb.2
  rw [h1] at h2
  rw [h2] at h3
  injection h3

set_option maxHeartbeats 1000000 in
theorem texts_calls (A : Option Addr) (n c : Nat) (l : List Int) (w : World) (hr : DqA.RdI w A n c l) (hi : ∀ x ∈ l, inR x) (hn : n ≤ 4194304) :
    Calls Try.prog 5 #[.slice A n c] w (DtB.NewI w (l.map txt)) := by
  have hl : Hid (l.length = n) := DqD.rdi_len hr
  go_enter Try.func5, Try.ntmps5
  go_wp2_with fail
  go_loopw [3, 4] (fun v i wr => ∃ j : Nat, j ≤ n ∧ i = .int .i64 j ∧ DtA.OwnI wr w.heap.size v ((l.take j).map txt) ∧ Below w.heap.size w wr) (fun _ i _ => n - (Go.RowKit.intOf i).toNat)
  case atStart => exact ⟨0, Nat.zero_le _, rfl, World.ownsRow_nil _ _ _ _, Below.refl _ _⟩
  case round =>
    obtain ⟨j, h1, rfl, ho, hb⟩ := hrel
    have hsz := hb.size
    by_cases hlt : j < n
    · obtain ⟨x, hx⟩ : ∃ x, l[j]? = some x := ⟨_, List.getElem?_eq_getElem (by rw [hl.out]; exact hlt)⟩
      obtain ⟨p, rfl, c1⟩ := (hr.below hb).get j (.int .i64 x) (by simp [DqA.ints, hx])
      have hxi := hi x (List.mem_of_getElem? hx)
      have Hx := Lib.hid hx
      have hol : Hid (((l.take j).map txt).length = j) := by simp [Hid, hl.out]; omega
      clear hx
      generalize hout : (l.take j).map txt = out at ho hol
      have Hout := Lib.hid hout
      clear hout
      obtain ⟨A', c', rfl⟩ := own_form ho
      go_wp2_with fail
      refine (printR_calls x wr hxi).mono ?_
      rintro e w2 ⟨rfl, b2⟩
      have ho2 : DtA.OwnI w2 w.heap.size (.slice A' out.length c') out := own_only ho (Only.of_below b2) (fun k hk h => by have := (ho.lt k hk).2; omega)
      have hb2 : Below w.heap.size w w2 := hb.trans (b2.mono hb.size)
      have hsz2 := hb2.size
      clear ho hb b2
      go_wp2_with (at_builtin; refine wpList_app1 rfl (.tmp 11) (.tmp 17) DtA.elI rfl w.heap.size _ _ _ rfl ho2 (.string (txt x)) rfl rfl (by rw [hol.out]; unfold maxLen; omega) (by rw [hol.out]; omega) hsz2 ?_; intro v1 w1 o1 b1 f1)
      refine ⟨⟨j + 1, by omega, by go_num, ?_, b1.after hb2 (Nat.le_refl _) (fun b hb => (ho2.lt b hb).1)⟩, by simp [Go.RowKit.intOf]; omega⟩
      have ht : l.take (j + 1) = l.take j ++ [x] := by rw [List.take_add_one, Hx.out]; rfl
      rw [ht, List.map_append, Hout.out]
      exact DtA.own_snoc o1
    · obtain rfl : j = n := by omega
      go_wp2_with fail
      go_ret
      refine ⟨_, rfl, ?_, hb⟩
      have ht : l.take j = l := List.take_of_length_le (by rw [hl.out]; omega)
      rw [ht] at ho
      exact ho

set_option maxHeartbeats 1000000 in
theorem sameT_calls (A B : Option Addr) (n m c d : Nat) (l k : List ByteArray) (w : World) (ha : DtA.RdI w A n c l) (hb : DtA.RdI w B m d k) :
    Calls Try.prog 12 #[.slice A n c, .slice B m d] w fun e w' => e = .returned (.bool (decide (l = k))) ∧ ∃ nd, w' = w.drewN nd := by
  have hl : l.length = n := DtD.rdi_len ha
  have hk : k.length = m := DtD.rdi_len hb
  have hn := ha.big
  have hc := ha.cap
  unfold maxLen at hn
  by_cases hnm : n = m
  · subst hnm
    have hnn : ((n : Int) != (n : Int)) = false := by simp
    have Hl := Lib.hid hl
    have Hk := Lib.hid hk
    clear hl hk
    go_enter Try.func12, Try.ntmps12
    go_wp2
    go_loopw [5] (fun i wr => (∃ nd, wr = w.drewN nd) ∧ ∃ j : Nat, j ≤ n ∧ i = .int .i64 j ∧ Hid (l.take j = k.take j)) (fun i _ => n - (Go.RowKit.intOf i).toNat)
    case atStart => exact ⟨⟨0, rfl⟩, 0, Nat.zero_le _, rfl, rfl⟩
    case round =>
      obtain ⟨⟨nd, rfl⟩, j, h1, rfl, he⟩ := hrel
      by_cases hlt : j < n
      · obtain ⟨x, hx⟩ : ∃ x, l[j]? = some x := ⟨_, List.getElem?_eq_getElem (by rw [Hl.out]; exact hlt)⟩
        obtain ⟨y, hy⟩ : ∃ y, k[j]? = some y := ⟨_, List.getElem?_eq_getElem (by rw [Hk.out]; exact hlt)⟩
        obtain ⟨p, rfl, c1⟩ := ha.get j (.string x) (by simp [DtA.ints, hx])
        obtain ⟨q, rfl, c2⟩ := hb.get j (.string y) (by simp [DtA.ints, hy])
        have Hx := Lib.hid hx
        have Hy := Lib.hid hy
        clear hx hy
        by_cases hxy : x = y
        · subst hxy
          have hq : (x.toList == x.toList) = true := by simp
          go_wp2_with fail
          go_quiet (fail)
          go_wp2_with fail
          refine ⟨⟨⟨nd + nq, rfl⟩, j + 1, by omega, by go_num, ?_⟩, by simp [Go.RowKit.intOf]; omega⟩
          show l.take (j + 1) = k.take (j + 1)
          rw [List.take_add_one, List.take_add_one, Hx.out, Hy.out, he.out]
        · have hq : (x.toList == y.toList) = false := DtA.tl_ne hxy
          go_wp2_with fail
          go_quiet (fail)
          go_wp2_with fail
          go_ret
          refine ⟨?_, nd + nq, World.drewN_drewN _ _ _⟩
          rw [decide_eq_false]; rfl
          rintro rfl
          have hxy2 : x = y := by have := Hx.out.symm.trans Hy.out; injection this
          exact hxy hxy2
      · obtain rfl : j = n := by omega
        go_wp2_with fail
        go_ret
        exact ⟨by rw [decide_eq_true (by have := he.out; rw [List.take_of_length_le (by rw [Hl.out]; omega), List.take_of_length_le (by rw [Hk.out]; omega)] at this; exact this)]; rfl, nd, rfl⟩
  · have hnn : ((n : Int) != (m : Int)) = true := by rw [bne_iff_ne]; omega
    go_enter Try.func12, Try.ntmps12
    go_wp2_with fail
    go_ret
    exact ⟨by rw [decide_eq_false (fun e => hnm (by rw [← hl, ← hk, e]))]; rfl, 0, rfl⟩
end Go.Proofs.Ytadjgbhbeamdbaa.DtT
