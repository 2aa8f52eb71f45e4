/-
  What the small functions over lists of numbers hand back: Len, List, Of, Same, Turned, Joined. Conditions: as stated.
-/
import Derived.Test.YtadjgbhbeamdbaaDqA
set_option maxRecDepth 100000
namespace Go.Proofs.Ytadjgbhbeamdbaa.DqB
open Go.RowKit Go.Proofs.Ytadjgbhbeamdbaa.Mem Go.Proofs.Ytadjgbhbeamdbaa.DqA

set_option maxHeartbeats 1000000 in
theorem len_calls (B g : Nat) (v : Value) (l : List Int) (w : World) (hd : Dq w B g v l) :
    Calls Try.prog 28 #[.pointer (some ⟨g, 0, none⟩)] w fun e w' => e = .returned (.int .i64 l.length) ∧ ∃ nd, w' = w.drewN nd := by
  go_enter Try.func28, Try.ntmps28
  go_wp2_with fail
  refine (all_calls B g v l w hd).mono ?_
  rintro e w1 ⟨A, n, c, nd, rfl, hr, hn, hA, rfl⟩
  obtain rfl := hn
  go_wp2_with fail
  go_ret
  exact ⟨rfl, nd, rfl⟩

theorem dq_bound {B g : Nat} {v : Value} {l : List Int} {w : World} (hd : Dq w B g v l) : l.length ≤ 17592186044416 := by
  obtain ⟨xs, f, _, _, _, _, rfl, _, h⟩ := hd
  simp; omega

/-- A new list of numbers. -/
def NewI (w : World) (l : List Int) (e : Ending) (w' : World) : Prop := ∃ v, e = .returned v ∧ OwnI w' w.heap.size v l ∧ Below w.heap.size w w'

set_option maxHeartbeats 1000000 in
theorem list_calls (B g : Nat) (v : Value) (l : List Int) (w : World) (hd : Dq w B g v l) :
    Calls Try.prog 34 #[.pointer (some ⟨g, 0, none⟩)] w (NewI w l) := by
  have hbd := dq_bound hd
  go_enter Try.func34, Try.ntmps34
  go_wp2_with fail
  refine (all_calls B g v l w hd).mono ?_
  rintro e w1 ⟨A, n, c, nd, rfl, hr, hn, hA, rfl⟩
  obtain rfl := hn
  go_wp2_with fail
  refine (clone_calls A _ c l _ (hr.drawn nd) (by omega)).mono ?_
  rintro e w1 ⟨v', rfl, ho, hb⟩
  go_wp2_with fail
  go_ret
  exact ⟨_, rfl, ho, ⟨hb.os, hb.tape, hb.output, hb.size, hb.block⟩⟩

def NewDq (w : World) (l : List Int) (e : Ending) (w' : World) : Prop := ∃ g v, e = .returned (.pointer (some ⟨g, 0, none⟩)) ∧ Dq w' w.heap.size g v l ∧ Below w.heap.size w w'

set_option maxHeartbeats 1000000 in
theorem of_calls (A : Option Addr) (n c : Nat) (l : List Int) (w : World) (hr : RdI w A n c l) (hn : n ≤ 17592186044416) :
    Calls Try.prog 27 #[.slice A n c] w (NewDq w l) := by
  have hl : Hid (l.length = n) := by have := hr.len; rw [ints_len] at this; simpa [Hid] using this
  go_enter Try.func27, Try.ntmps27
  go_wp2_with fail
  refine (clone_calls A n c l _ hr (by omega)).mono ?_
  rintro e w1 ⟨v', rfl, ho, hb⟩
  obtain ⟨A', c', rfl⟩ := own_form ho
  go_wp2_with fail
  go_ret
  refine ⟨_, _, rfl, ⟨l, 0, heap_alloc_new w1 _, hb.size, ho.alloc _, Nat.zero_le _, rfl, ?_, by rw [hl.out]; exact hn⟩, hb.alloc hb.size _⟩
  intro h
  have := ho.lt _ h
  omega

set_option maxHeartbeats 1000000 in
theorem same_calls (A B : Option Addr) (n m c d : Nat) (l k : List Int) (w : World) (ha : RdI w A n c l) (hb : RdI w B m d k) :
    Calls Try.prog 29 #[.slice A n c, .slice B m d] w fun e w' => e = .returned (.bool (decide (l = k))) ∧ ∃ nd, w' = w.drewN nd := by
  have hl : l.length = n := by have := ha.len; rw [ints_len] at this; simpa using this
  have hk : k.length = m := by have := hb.len; rw [ints_len] at this; simpa using this
  have hn := ha.big
  have hc := ha.cap
  unfold maxLen at hn
  by_cases hnm : n = m
  · subst hnm
    have hnn : ((n : Int) != (n : Int)) = false := by simp
    have Hl := Lib.hid hl
    have Hk := Lib.hid hk
    clear hl hk
    go_enter Try.func29, Try.ntmps29
    go_wp2
    go_loopw [5] (fun i wr => (∃ nd, wr = w.drewN nd) ∧ ∃ j : Nat, j ≤ n ∧ i = .int .i64 j ∧ Hid (l.take j = k.take j)) (fun i _ => n - (intOf i).toNat)
    case atStart => exact ⟨⟨0, rfl⟩, 0, Nat.zero_le _, rfl, rfl⟩
    case round =>
      obtain ⟨⟨nd, rfl⟩, j, h1, rfl, he⟩ := hrel
      by_cases hlt : j < n
      · obtain ⟨x, hx⟩ : ∃ x, l[j]? = some x := ⟨_, List.getElem?_eq_getElem (by rw [Hl.out]; exact hlt)⟩
        obtain ⟨y, hy⟩ : ∃ y, k[j]? = some y := ⟨_, List.getElem?_eq_getElem (by rw [Hk.out]; exact hlt)⟩
        obtain ⟨p, rfl, c1⟩ := ha.get j (.int .i64 x) (by simp [ints, hx])
        obtain ⟨q, rfl, c2⟩ := hb.get j (.int .i64 y) (by simp [ints, hy])
        have Hx := Lib.hid hx
        have Hy := Lib.hid hy
        clear hx hy
        go_wp2_with fail
        go_quiet (fail)
        go_wp2_with fail
        · go_ret
          refine ⟨?_, nd + nq, World.drewN_drewN _ _ _⟩
          rw [decide_eq_false]; rfl
          rintro rfl
          have hxy : x = y := by have := Hx.out.symm.trans Hy.out; injection this
          exact absurd hxy (bne_iff_ne.1 ‹_›)
        · refine ⟨⟨⟨nd + nq, rfl⟩, j + 1, by omega, by go_num, ?_⟩, by simp [intOf]; omega⟩
          have hxy : x = y := by simpa using (by assumption : (x != y) = false)
          show l.take (j + 1) = k.take (j + 1)
          rw [List.take_add_one, List.take_add_one, Hx.out, Hy.out, he.out, hxy]
      · obtain rfl : j = n := by omega
        go_wp2_with fail
        go_ret
        exact ⟨by rw [decide_eq_true (by have := he.out; rw [List.take_of_length_le (by rw [Hl.out]; omega), List.take_of_length_le (by rw [Hk.out]; omega)] at this; exact this)]; rfl, nd, rfl⟩
  · have hnn : ((n : Int) != (m : Int)) = true := by rw [bne_iff_ne]; omega
    go_enter Try.func29, Try.ntmps29
    go_wp2_with fail
    go_ret
    exact ⟨by rw [decide_eq_false (fun e => hnm (by rw [← hl, ← hk, e]))]; rfl, 0, rfl⟩

set_option maxHeartbeats 1000000 in
theorem turned_calls (A : Option Addr) (n c : Nat) (l : List Int) (w : World) (hr : RdI w A n c l) (hn : n ≤ 17592186044416) :
    Calls Try.prog 14 #[.slice A n c] w (NewI w l.reverse) := by
  have hl : Hid (l.length = n) := by have := hr.len; rw [ints_len] at this; simpa [Hid] using this
  go_enter Try.func14, Try.ntmps14
  go_wp2
  go_loopw [3, 4] (fun v i wr => ∃ j : Nat, j ≤ n ∧ i = .int .i64 ((j : Int) - 1) ∧ OwnI wr w.heap.size v (l.drop j).reverse ∧ Below w.heap.size w wr) (fun _ i _ => (intOf i + 1).toNat)
  case atStart => exact ⟨n, Nat.le_refl _, rfl, by rw [List.drop_of_length_le (by rw [hl.out]; omega)]; exact World.ownsRow_nil _ _ _ _, Below.refl _ _⟩
  case round =>
    obtain ⟨j, h1, rfl, ho, hb⟩ := hrel
    have hsz := hb.size
    rcases j with _ | j
    · go_wp2_with fail
      go_ret
      exact ⟨_, rfl, by simpa using ho, hb⟩
    · obtain ⟨x, hx⟩ : ∃ x, l[j]? = some x := ⟨_, List.getElem?_eq_getElem (by rw [hl.out]; omega)⟩
      obtain ⟨p, rfl, c1⟩ := (hr.below hb).get j (.int .i64 x) (by simp [ints, hx])
      have Hx := Lib.hid hx
      have hol : Hid ((l.drop (j + 1)).reverse.length = n - (j + 1)) := by simp [Hid, hl.out]
      clear hx
      rw [show (((j + 1 : Nat) : Int) - 1) = (j : Int) by omega]
      go_wp2_with (at_builtin; refine wpList_app1 rfl (.tmp 12) (.tmp 17) elI rfl w.heap.size _ _ _ rfl ho (.int .i64 x) rfl rfl (by rw [hol.out]; unfold maxLen; omega) (by rw [hol.out]; omega) hsz ?_; intro v1 w1 o1 b1 f1)
      refine ⟨⟨j, by omega, rfl, ?_, b1.after hb (Nat.le_refl _) (fun b hb => (ho.lt b hb).1)⟩, by simp [intOf]⟩
      have hd : l.drop j = x :: l.drop (j + 1) := by
        obtain ⟨hj, e⟩ := List.getElem?_eq_some_iff.1 Hx.out
        rw [List.drop_eq_getElem_cons hj, e]
      rw [hd, List.reverse_cons]
      exact own_snoc o1

set_option maxHeartbeats 1000000 in
theorem joined_calls (A B : Option Addr) (n m c d : Nat) (l k : List Int) (w : World) (ha : RdI w A n c l) (hb : RdI w B m d k) (hn : n + m ≤ 17592186044416) :
    Calls Try.prog 10 #[.slice A n c, .slice B m d] w (NewI w (l ++ k)) := by
  have hl : Hid (l.length = n) := by have := ha.len; rw [ints_len] at this; simpa [Hid] using this
  have hk : Hid (k.length = m) := by have := hb.len; rw [ints_len] at this; simpa [Hid] using this
  go_enter Try.func10, Try.ntmps10
  go_wp2_with (first
    | (at_builtin; refine wpList_app rfl (.const (.slice none 0 0)) (.tmp 5) elI rfl w.heap.size _ 0 [] rfl (World.ownsRow_nil _ _ _ _) A n c (ints l) rfl ha (ints_one l) (by unfold maxLen; omega) (by omega) (Nat.le_refl _) ?_; intro v1 w1 o1 b1 f1; have bb := b1.below (Nat.le_refl _) (fun b hb => by cases hb); have hb2 := hb.below bb)
    | (at_builtin; refine wpList_app rfl (.tmp 6) (.tmp 7) elI rfl w.heap.size _ _ _ rfl o1 B m d (ints k) rfl hb2 (ints_one k) (by unfold maxLen; omega) (by omega) bb.size ?_; intro v2 w2 o2 b2 f2))
  go_ret
  refine ⟨_, rfl, ?_, b2.after bb (Nat.le_refl _) (fun b hb => (o1.lt b hb).1)⟩
  simpa [OwnI, ints, hl.out, hk.out] using o2
end Go.Proofs.Ytadjgbhbeamdbaa.DqB
