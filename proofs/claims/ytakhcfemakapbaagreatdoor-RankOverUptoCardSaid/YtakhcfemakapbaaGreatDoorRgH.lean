/-
  The document's Set. Conditions: as stated.
  The document's Of. Conditions: as stated.
-/
import Derived.Test.YtakhcfemakapbaaGreatDoorRgG
import Derived.Test.YtakhcfemakapbaaGreatDoorRkN
import Derived.Test.YtakhcfemakapbaaGreatDoorRgD
set_option maxRecDepth 100000
set_option linter.unusedSimpArgs false
set_option linter.unusedVariables false
namespace Go.Proofs.YtakhcfemakapbaaGreatDoor.RjA
open Go Go.RowKit Go.Shelf Go.Proofs.YtakhcfemakapbaaGreatDoor.Mem Go.Proofs.YtakhcfemakapbaaGreatDoor.DuA Go.Proofs.YtakhcfemakapbaaGreatDoor.DuM Go.Proofs.YtakhcfemakapbaaGreatDoor.DuN Go.Proofs.YtakhcfemakapbaaGreatDoor.RkA Go.Proofs.YtakhcfemakapbaaGreatDoor.RkC Go.Proofs.YtakhcfemakapbaaGreatDoor.RkB Go.Proofs.YtakhcfemakapbaaGreatDoor.RkE Go.Proofs.YtakhcfemakapbaaGreatDoor.RkF Go.Proofs.YtakhcfemakapbaaGreatDoor.RkI Go.Proofs.YtakhcfemakapbaaGreatDoor.RkM Go.Proofs.YtakhcfemakapbaaGreatDoor.RkN Go.Proofs.YtakhcfemakapbaaGreatDoor.RkV Go.Proofs.YtakhcfemakapbaaGreatDoor.RkY Go.Proofs.YtakhcfemakapbaaGreatDoor.RkZ

set_option maxHeartbeats 1000000 in
theorem setR_calls (A : Option Addr) (n c : Nat) (l : List En) (k : ByteArray) (t : Int) (w : World) (hr : RdE w A n c l) (hs : Srt ltS l) (hn : n ≤ 1000000000) :
    Calls Tryz.prog 39 #[.slice A n c, .string k, .int .i64 t] w fun e w' => ∃ A' n' c', e = .returned (.tuple #[.slice A' n' c', .bool (if okS t then !(dueL l k).isSome else false), .int .i64 (if okS t then 0 else 120)]) ∧ RdE w' A' n' c' (setL l k t) ∧ Below w.heap.size w w' ∧ Near A A' w.heap.size w'.heap.size := by
  unfold setL
  have hmp := fun W => may_calls t W
  by_cases ht : okS t
  · rw [if_pos ht, if_pos ht, if_pos ht]
    rw [decide_eq_true ht] at hmp
    have hdr := dropR_calls A n c l k w hr hs.one hn
    have hnk : k ∉ (dropL l k).map (·.2) := drop_not_mem l k
    have hsd : Srt ltS (dropL l k) := hs.drop k
    have hdl : (dropL l k).length ≤ 1000000000 := by have := drop_len l k; have := rde_len hr; omega
    obtain ⟨l1, hl1⟩ : ∃ l1, dropL l k = l1 := ⟨_, rfl⟩
    obtain ⟨bb, hbb⟩ : ∃ bb, (dueL l k).isSome = bb := ⟨_, rfl⟩
    rw [hl1] at hdr hnk hsd hdl ⊢
    rw [hbb] at hdr ⊢
    have HS := Lib.hid (And.intro hnk (And.intro hsd hdl))
    clear hl1 hbb hnk hsd hdl ht hs
    go_enter Tryz.func39, Tryz.ntmps39
    go_wp2_with (go_at_call 34; refine (hmp _).mono ?_; rintro e w1 ⟨rfl, hw1⟩; subst w1)
    refine hdr.mono ?_
    clear hdr hmp
    rintro e w1 ⟨A1, n1, c1, rfl, r1, b1, -⟩
    have hn1 := rde_len r1
    have hput := putR_calls A1 n1 c1 l1 (t, k) w1 r1 HS.out.2.1 (by have := HS.out.2.2; omega)
    rw [← ins_at linS HS.out.2.1 (fun hm => HS.out.1 (List.mem_map_of_mem (f := fun e : En => e.2) hm))] at hput
    have HB := Lib.hid b1
    clear b1 r1 hn1
    go_wp2_with fail
    refine hput.mono ?_
    clear hput
    rintro e w2 ⟨v, rfl, o2, b2⟩
    obtain ⟨A2, c2, rfl⟩ := own_form o2
    have HO := Lib.hid (And.intro o2 b2)
    clear o2 b2
    go_wp2_with fail
    go_ret3
    exact ⟨_, _, _, rfl, Rd.of_own HO.out.1, HB.out.trans (HO.out.2.mono HB.out.size), (Near.own (own_less HO.out.1 HB.out.size))⟩
  · rw [if_neg ht, if_neg ht, if_neg ht]
    rw [decide_eq_false ht] at hmp
    clear ht hs
    go_enter Tryz.func39, Tryz.ntmps39
    go_wp2_with (go_at_call 34; refine (hmp _).mono ?_; rintro e w1 ⟨rfl, hw1⟩; subst w1)
    go_ret3
    exact ⟨_, _, _, rfl, hr, Below.refl _ _, Near.refl _ _ _⟩
end Go.Proofs.YtakhcfemakapbaaGreatDoor.RjA
set_option maxRecDepth 100000
set_option linter.unusedSimpArgs false
set_option linter.unusedVariables false
namespace Go.Proofs.YtakhcfemakapbaaGreatDoor.RjI
open Go Go.RowKit Go.Shelf Go.Sort Go.Proofs.YtakhcfemakapbaaGreatDoor.Mem Go.Proofs.YtakhcfemakapbaaGreatDoor.DuA Go.Proofs.YtakhcfemakapbaaGreatDoor.DuM Go.Proofs.YtakhcfemakapbaaGreatDoor.DuN Go.Proofs.YtakhcfemakapbaaGreatDoor.RkA Go.Proofs.YtakhcfemakapbaaGreatDoor.RkC Go.Proofs.YtakhcfemakapbaaGreatDoor.RkB Go.Proofs.YtakhcfemakapbaaGreatDoor.RkE Go.Proofs.YtakhcfemakapbaaGreatDoor.RkF Go.Proofs.YtakhcfemakapbaaGreatDoor.RkI Go.Proofs.YtakhcfemakapbaaGreatDoor.RkL Go.Proofs.YtakhcfemakapbaaGreatDoor.RkM Go.Proofs.YtakhcfemakapbaaGreatDoor.RkV Go.Proofs.YtakhcfemakapbaaGreatDoor.RkY Go.Proofs.YtakhcfemakapbaaGreatDoor.RkZ

theorem ofT_len {l : List En} {j : Nat} (hj : j ≤ l.length) (h : ((l.take j).map (·.2)).Nodup) : (ofL (l.take j)).length = j := by
  rw [(of_facts h).2.length_eq, List.length_take]; omega
set_option maxHeartbeats 1000000 in
theorem ofR_calls (A : Option Addr) (n c : Nat) (l : List En) (w : World) (hr : RdE w A n c l) (hn : n ≤ 1000000000) :
    Calls Tryz.prog 12 #[.slice A n c] w fun e w' => Below w.heap.size w w' ∧ ((¬ (∀ e ∈ l, okS e.1) ∧ e = .returned (.tuple #[.slice none 0 0, .int .i64 120])) ∨ ((∀ e ∈ l, okS e.1) ∧ ¬ (l.map (·.2)).Nodup ∧ e = .returned (.tuple #[.slice none 0 0, .int .i64 100])) ∨
      ((∀ e ∈ l, okS e.1) ∧ (l.map (·.2)).Nodup ∧ ∃ v, e = .returned (.tuple #[v, .int .i64 0]) ∧ OwnE w' w.heap.size v (ofL l))) := by
  obtain rfl := rde_len hr
  have HR := Lib.hid hr
  clear hr
  go_enter Tryz.func12, Tryz.ntmps12
  go_wp2_with fail
  go_loopw [4] (fun iv wr => ∃ j : Nat, iv = .int .i64 j ∧ j ≤ l.length ∧ wr = w ∧ Hid (∀ e ∈ l.take j, okS e.1)) (fun iv _ => l.length - (RowKit.intOf iv).toNat)
  case atStart => exact ⟨0, rfl, Nat.zero_le _, rfl, Lib.hid (by simp)⟩
  case round =>
    obtain ⟨j, rfl, hj, hw, hS⟩ := hrel
    have hw2 := hw.symm
    clear hw
    subst hw2
    by_cases hlt : j < l.length
    · obtain ⟨y, hy⟩ : ∃ y, l[j]? = some y := ⟨_, List.getElem?_eq_getElem hlt⟩
      obtain ⟨q, hq, x0, x1⟩ := rde_get HR.out hy
      subst hq
      have hmy := may_calls y.1 w
      have HY := Lib.hid hy
      clear hy
      by_cases hok : okS y.1
      · rw [decide_eq_true hok] at hmy
        have hnx := Lib.hid (ok_take HY.out hS.out hok)
        clear hok
        go_wp2_with (go_at_call 34; refine hmy.mono ?_; rintro e w1 ⟨rfl, hw1⟩; subst w1)
        exact ⟨⟨j + 1, by simp, by omega, by trivial, hnx⟩, by simp [RowKit.intOf]; omega⟩
      · rw [decide_eq_false hok] at hmy
        have hno := Lib.hid (fun h : ∀ e ∈ l, okS e.1 => hok (h y (List.mem_of_getElem? HY.out)))
        clear hok
        go_wp2_with (go_at_call 34; refine hmy.mono ?_; rintro e w1 ⟨rfl, hw1⟩; subst w1)
        go_ret2
        exact ⟨Below.refl _ _, .inl ⟨hno.out, rfl⟩⟩
    · obtain rfl : j = l.length := by omega
      have hall := hS.out
      rw [List.take_length] at hall
      have HA := Lib.hid hall
      clear hall hS hlt hj
      go_wp2_with fail
      go_loopw [5, 6] (fun ov iv wr => ∃ j : Nat, iv = .int .i64 j ∧ j ≤ l.length ∧ Hid (OwnE wr w.heap.size ov (ofL (l.take j)) ∧ Below w.heap.size w wr ∧ ((l.take j).map (·.2)).Nodup)) (fun _ iv _ => l.length - (RowKit.intOf iv).toNat)
      case atStart => exact ⟨0, rfl, Nat.zero_le _, Lib.hid ⟨World.ownsRow_nil _ _ _ _, Below.refl _ _, by simp⟩⟩
      case round =>
        obtain ⟨j, rfl, hj, hX⟩ := hrel
        obtain ⟨A2, c2, rfl⟩ := own_form hX.out.1
        have hol := ofT_len hj hX.out.2.2
        rw [hol]
        by_cases hlt : j < l.length
        · obtain ⟨y, hy⟩ : ∃ y, l[j]? = some y := ⟨_, List.getElem?_eq_getElem hlt⟩
          obtain ⟨q, hq, x0, x1⟩ := rde_get (HR.out.below hX.out.2.1) hy
          subst hq
          obtain ⟨ys, yn⟩ := y
          have hnd := nd_take l j (ys, yn) hy hX.out.2.2
          have hot := of_take l j (ys, yn) hy
          have hsr := (of_facts hX.out.2.2).1
          obtain ⟨L, hL⟩ : ∃ L, L = ofL (l.take j) := ⟨_, rfl⟩
          rw [← hL] at hX hol hnd hot hsr
          have hrL : RdE wr A2 L.length c2 L := Rd.of_own hX.out.1
          have hfi := find_calls A2 L.length c2 L yn wr hrL (by omega)
          have hpl := due_pl_lt (l := L) (k := yn)
          have HY := Lib.hid hy
          have HLL := Lib.hid hL
          clear hy hL
          simp only at x0 x1 hnd
          cases hd : (dueL L yn).isSome
          · rw [hd] at hnd hpl
            simp only [Bool.false_eq_true, false_iff] at hpl
            simp only [true_iff, iff_true] at hnd
            have hfn : findI L yn = -1 := by unfold findI; rw [if_neg hpl]
            rw [hfn] at hfi
            have hnm : yn ∉ L.map (·.2) := by
              have := Option.isSome_eq_false_iff.1 hd
              rw [Option.isNone_iff_eq_none] at this
              exact due_none.1 this
            have hput := putR_calls A2 L.length c2 L (ys, yn) wr hrL hsr (by omega)
            rw [← ins_at linS hsr (fun hm => hnm (List.mem_map_of_mem (f := fun e : En => e.2) hm)), ← hot] at hput
            have HN := Lib.hid hnd
            rw [hol] at hfi hput
            clear hd hpl hfn hnm hnd hot hsr hrL
            simp only at hput
            go_wp2_with (first
              | (go_at_call 35; refine hfi.mono ?_; rintro e w1 ⟨rfl, hw1⟩; subst w1)
              | (go_at_call 36; refine hput.mono ?_; rintro e w2 ⟨v2, rfl, o2, b2⟩))
            have b12 := hX.out.2.1.trans (b2.mono hX.out.2.1.size)
            exact ⟨⟨j + 1, by simp, by omega, Lib.hid ⟨own_less o2 hX.out.2.1.size, b12, HN.out⟩⟩, by simp [RowKit.intOf]; omega⟩
          · rw [hd] at hnd hpl
            simp only [true_iff] at hpl
            simp only [Bool.true_eq_false, iff_false] at hnd
            obtain ⟨p, hp⟩ : ∃ p : Nat, findI L yn = (p : Int) := ⟨plN L yn, by unfold findI; rw [if_pos hpl]⟩
            rw [hp] at hfi
            have HN := Lib.hid (fun h : (l.map (·.2)).Nodup => hnd (nd_of_take h))
            rw [hol] at hfi
            clear hd hpl hp hnd hot hsr hrL
            go_wp2_with (go_at_call 35; refine hfi.mono ?_; rintro e w1 ⟨rfl, hw1⟩; subst w1)
            go_ret2
            exact ⟨hX.out.2.1, .inr (.inl ⟨HA.out, HN.out, rfl⟩)⟩
        · obtain rfl : j = l.length := by omega
          have hE := hX.out
          rw [List.take_length] at hE
          have hlo : (ofL l).length = l.length := by rw [List.take_length] at hol; exact hol
          have ho := hE.1
          unfold OwnE at ho
          rw [hlo] at ho
          have HE := Lib.hid (And.intro ho hE)
          have HLO := Lib.hid hlo
          clear hE hX hol ho hlo
          go_wp2_with fail
          go_ret2
          exact ⟨HE.out.2.2.1, .inr (.inr ⟨HA.out, HE.out.2.2.2, _, rfl, by unfold OwnE; rw [HLO.out]; exact HE.out.1⟩)⟩
end Go.Proofs.YtakhcfemakapbaaGreatDoor.RjI
