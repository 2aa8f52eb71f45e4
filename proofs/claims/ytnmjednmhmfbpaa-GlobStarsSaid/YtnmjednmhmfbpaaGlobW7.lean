/-
  The reference's Match tells whether the pattern means the text. Conditions: both have fewer than 2^47 bytes.
-/
import Derived.Test.YtnmjednmhmfbpaaGlobW2
import Derived.Test.YtnmjednmhmfbpaaGlobW3
import Derived.Test.YtnmjednmhmfbpaaGlobN
import Derived.Test.YtnmjednmhmfbpaaBase
import Derived.Deep.LoopGhost
import Derived.StillTailTactics
import Derived.BigRegion
set_option maxRecDepth 100000
/-! The walk of the reference's matcher. -/
namespace Go.Proofs.Ytnmjednmhmfbpaa.GlobW7
open Go.RowKit Go.Proofs.Ytnmjednmhmfbpaa.GlobA Go.Proofs.Ytnmjednmhmfbpaa.GlobM Go.Proofs.Ytnmjednmhmfbpaa.GlobN

open Go.Proofs.Ytnmjednmhmfbpaa.GlobW2 in
theorem rclass_calls (s : ByteArray) (k : Nat) (x : Int) (c : UInt8) (w : World) (hx : x = k) (hk : k ≤ s.size) (hs : s.size ≤ 281474976710656) :
    Calls Try.prog 21 #[.string s, .int .i64 x, .int .u8 c.toNat] w fun e w' =>
      ∃ (j : Nat) (r : Bool), k ≤ j ∧ j ≤ s.data.toList.length ∧ clsT c (s.data.toList.drop k) = (s.data.toList.drop j, r) ∧ e = .returned (.tuple #[.bool r, .int .i64 j]) ∧ ∃ nd, w' = w.drewN nd := by
  subst hx
  by_cases h : k < s.size
  · by_cases h94 : ((s[k].toNat : Int) == 94) = true
    · refine (rclass_any s k (k + 1) true c w hk hs (.inr (.inr ⟨h, h94, rfl, rfl⟩))).mono ?_
      rintro e w' ⟨j, nm, h1, h2, h3, r, h4, h5, h6⟩
      exact ⟨j, r, by omega, h2, h5 ▸ clsT_turned (at_is (n := 94) h (is_of h94)) h3, h4, h6⟩
    · have h94' : ((s[k].toNat : Int) == 94) = false := by simpa using h94
      refine (rclass_any s k k false c w hk hs (.inr (.inl ⟨h, h94', rfl, rfl⟩))).mono ?_
      rintro e w' ⟨j, nm, h1, h2, h3, r, h4, h5, h6⟩
      exact ⟨j, r, by omega, h2, h5 ▸ clsT_plain (at_isnt (n := 94) (by omega) h (isnt_of h94')) h3, h4, h6⟩
  · refine (rclass_any s k k false c w hk hs (.inl ⟨h, rfl, rfl⟩)).mono ?_
    rintro e w' ⟨j, nm, h1, h2, h3, r, h4, h5, h6⟩
    exact ⟨j, r, by omega, h2, h5 ▸ clsT_plain (by rw [List.getElem?_eq_none (by rw [bytes_len]; omega)]; simp) h3, h4, h6⟩

/-- A row of bools. -/
def bools (L : List Bool) : Array Value := (L.map Value.bool).toArray
theorem bools_get {L : List Bool} {i : Nat} {b : Bool} (h : L[i]? = some b) : (bools L)[i]? = some (.bool b) := by simp [bools, h]
theorem bools_set (L : List Bool) (i : Nat) (b : Bool) : (bools L).setIfInBounds i (.bool b) = bools (L.set i b) := by simp [bools]
def Marked (w : World) (g : Nat) (L : List Bool) : Prop := w.heap[g]? = some (.cells (bools L) 4 (0, 0))
section
variable {w w' : World} {g : Nat} {L : List Bool}
theorem Marked.cell (h : Marked w g L) {i : Nat} {b : Bool} (hi : L[i]? = some b) : w.cell? ⟨g, i, none⟩ = some (.bool b) := by
  rw [cell_of_row w g i _ _ (0, 0) h]; exact bools_get hi
theorem Marked.free (h : Marked w g L) (i : Nat) : w.frozen? ⟨g, i, none⟩ = false := by
  unfold Marked at h; simp [World.frozen?, h]
theorem Marked.put (h : Marked w g L) (i : Nat) (b : Bool) : Marked (w.setCell ⟨g, i, none⟩ (.bool b)) g (L.set i b) := by
  unfold Marked at h ⊢
  simp [World.setCell, Array.getElem?_modify, h, bools_set]
theorem Marked.lt (h : Marked w g L) : g < w.heap.size := by
  rcases Nat.lt_or_ge g w.heap.size with hlt | hge
  · exact hlt
  · unfold Marked at h; rw [Array.getElem?_eq_none hge] at h; cases h
theorem Marked.below {B : Nat} (h : Marked w g L) (hb : Below B w w') (hg : g < B) : Marked w' g L := (hb.block g hg).trans h
theorem Marked.grown {g' : Nat} (h : Marked w g L) (hb : w.grownBy w' (some g')) (hg : g ≠ g') : Marked w' g L := (hb.block g h.lt (by simpa using hg)).trans h
theorem Marked.alloc (h : Marked w g L) (o : Obj) : Marked (w.alloc o) g L := (Below.heap_alloc w o g h.lt).trans h
theorem Marked.far (h : Marked w g L) {p : Addr} (hp : g ≠ p.block) (u : Value) : Marked (w.setCell p u) g L := (Below.heap_setCell w p u g hp).trans h
theorem below_drawn {B : Nat} {a : World} (h : Below B a w) (n : Nat) : Below B a (w.drewN n) := ⟨h.os, h.tape, h.output, h.size, h.block⟩
theorem grown_put (h : w.grownBy w' (some g)) (i : Nat) (u : Value) : w.grownBy (w'.setCell ⟨g, i, none⟩ u) (some g) :=
  ⟨h.os, h.tape, h.output, by simp [World.setCell, h.size], fun k hk hne => (Below.heap_setCell _ _ _ _ (fun e => hne (by simpa using e))).trans (h.block k hk hne)⟩
end

set_option maxHeartbeats 1000000 in
theorem past_calls (P : ByteArray) (g : Nat) (L : List Bool) (w : World) (hP : P.size ≤ 140737488355327) (hL : L.length = P.size + 1) (hm : Marked w g L) :
    Calls Try.prog 20 #[.string P, .slice (some ⟨g, 0, none⟩) (P.size + 1) (P.size + 1)] w fun e w' =>
      e = .returned (.tuple #[]) ∧ ∃ L', PastTo P.data.toList L L' P.size ∧ Marked w' g L' ∧ w.grownBy w' (some g) := by
  have HL := Lib.hid hL
  clear hL
  go_enter Try.func20, Try.ntmps20
  go_wp2
  go_loopw [4] (fun i wr => ∃ (j : Nat) (L' : List Bool), j ≤ P.size ∧ i = .int .i64 j ∧ PastTo P.data.toList L L' j ∧ Marked wr g L' ∧ w.grownBy wr (some g)) (fun i _ => P.size - (intOf i).toNat)
  case atStart => exact ⟨0, L, Nat.zero_le _, rfl, past_start, hm, World.grownBy.refl w _⟩
  case round =>
    obtain ⟨j, L', h1, rfl, hp, hm', hg⟩ := hrel
    by_cases hlt : j < P.size
    · have hlen : L'.length = P.size + 1 := hp.1.trans HL.out
      obtain ⟨b, hb⟩ : ∃ b, L'[j]? = some b := ⟨_, List.getElem?_eq_getElem (by omega)⟩
      obtain ⟨b', hb'⟩ : ∃ b, L'[j + 1]? = some b := ⟨_, List.getElem?_eq_getElem (by omega)⟩
      have c1 := hm'.cell hb
      have c2 := hm'.cell hb'
      have f2 := hm'.free (j + 1)
      have Hb := Lib.hid hb
      have Hb' := Lib.hid hb'
      clear hb hb' hlen
      go_wp2
      · exact ⟨⟨j + 1, L'.set (j + 1) true, by omega, by go_num, past_mark hp (by rw [Hb.out, ‹b = true›]) (at_is (n := 42) hlt (is_of ‹_›)) Hb'.out, hm'.put _ _, grown_put hg _ _⟩, by simp [intOf]; omega⟩
      · exact ⟨⟨j + 1, L', by omega, by go_num, past_skip hp (fun x => at_isnt (n := 42) (by omega) hlt (isnt_of ‹_›) x.2), hm', hg⟩, by simp [intOf]; omega⟩
      · exact ⟨⟨j + 1, L', by omega, by go_num, past_skip hp (fun x => by rw [Hb.out] at x; exact absurd (by simpa using x.1) ‹_›), hm', hg⟩, by simp [intOf]; omega⟩
    · go_wp2
      go_end0
      obtain rfl : j = P.size := by omega
      exact ⟨rfl, L', hp, hm', hg⟩

theorem bool_info : (Try.prog.info? 4).map (fun i => (i.zero, i.size, i.bytes)) = some (some (.bool false), 1, 1) := by kernel_rfl
theorem made_bools (n : Nat) : madeCells (Value.bool false).cells (n * 1) = bools (List.replicate n false) := by
  apply Array.ext
  · simp [madeCells, bools]
  · intro i h1 h2
    simp [madeCells, bools, Value.cells, Nat.mod_one]
theorem make_bools (n : Nat) (hn : n ≤ 140737488355327) (w : World) :
    (Instr.makeSlice 33 (.int .i64 ((n : Int) + 1)) (.int .i64 ((n : Int) + 1))).run Try.prog w =
      .ok (.slice (some ⟨w.heap.size, 0, none⟩) (n + 1) (n + 1)) (w.alloc (.cells (bools (List.replicate (n + 1) false)) 4)) := by
  obtain ⟨i, hi, hz0, hz1, hz2⟩ := info_parts bool_info
  have := run_make (P := Try.prog) w 33 4 i (.bool false) Try.underlying33 hi hz0 .i64 .i64 ((n : Int) + 1) ((n : Int) + 1) (by omega) (by omega) (by rw [hz2]; omega) (by omega)
  rw [this, show ((n : Int) + 1).toNat = n + 1 by omega, hz1, made_bools]

def RMatchPost (P S : ByteArray) (w : World) (e : Ending) (w' : World) : Prop :=
  ∃ b, e = .returned (.bool b) ∧ b = means P.data.toList S.data.toList ∧ Below w.heap.size w w'

set_option maxHeartbeats 8000000 in
theorem rmatch_calls (P S : ByteArray) (w : World) (hP : P.size ≤ 140737488355327) (hS : S.size ≤ 140737488355327) :
    Calls Try.prog 12 #[.string P, .string S] w (RMatchPost P S w) := by
  have hpl : Hid (P.data.toList.length = P.size) := bytes_len P
  have hsl : Hid (S.data.toList.length = S.size) := bytes_len S
  have hmk := fun w => make_bools P.size hP w
  have hz0 : (bools (List.replicate (P.size + 1) false))[0]? = some (.bool false) := bools_get (by simp)
  go_enter Try.func12, Try.ntmps12
  go_wp2_with fail
  refine (past_calls P w.heap.size ((List.replicate (P.size + 1) false).set 0 true) _ hP (by simp) (by unfold Marked; rw [bools_set]; exact heap_alloc_new w _)).mono ?_
  rintro e w1 ⟨rfl, L, hpast, hm, hg⟩
  have hM : Marks P.data.toList S.data.toList L 0 := marks_start (by rw [hpl.out]; exact hpast)
  have hb1 : Below w.heap.size w w1 := ((Below.refl _ w).alloc (Nat.le_refl _) _).grown hg (by simp) (by simp)
  clear hpast hg
  go_wp2_with fail
  go_loopw [5, 6] (fun v i wr => ∃ (k g : Nat) (L : List Bool), k ≤ S.size ∧ i = .int .i64 k ∧ v = .slice (some ⟨g, 0, none⟩) (P.size + 1) (P.size + 1) ∧ w.heap.size ≤ g ∧ Marked wr g L ∧ Marks P.data.toList S.data.toList L k ∧ Below w.heap.size w wr) (fun _ i _ => S.size - (intOf i).toNat)
  case atStart => exact ⟨0, _, L, Nat.zero_le _, rfl, rfl, Nat.le_refl _, hm, hM, hb1⟩
  case round =>
    clear hm hM hb1
    obtain ⟨k, g, L, h1, rfl, rfl, hgB, hm, hM, hb⟩ := hrel
    have hsz := hb.size
    have hLl : Hid (L.length = P.size + 1) := hM.1.trans (by rw [hpl.out])
    have hgl := hm.lt
    by_cases hlt : k < S.size
    · go_wp2_with fail
      obtain ⟨wo, rfl⟩ : ∃ wo : World, wo = wr := ⟨_, rfl⟩
      have hgne : g ≠ wo.heap.size := by omega
      go_loopw [8] (fun i wr => ∃ (j : Nat) (L2 : List Bool), j ≤ P.size ∧ i = .int .i64 j ∧ NextTo P.data.toList L S[k] L2 j ∧ Marked wr wo.heap.size L2 ∧ Marked wr g L ∧ Below w.heap.size w wr ∧ wo.heap.size < wr.heap.size) (fun i _ => P.size - (intOf i).toNat)
      case atStart => exact ⟨0, _, Nat.zero_le _, rfl, hpl.out ▸ next_start, heap_alloc_new wo _, hm.alloc _, hb.alloc hsz _, by simp⟩
      case round =>
        clear hm hb
        obtain ⟨j, L2, hj, rfl, hN, hm2, hm, hb, hwo⟩ := hrel
        by_cases hjl : j < P.size
        · have hL2 : Hid (L2.length = P.size + 1) := hN.1.trans (by rw [hpl.out])
          obtain ⟨b, hb0⟩ : ∃ b, L[j]? = some b := ⟨_, List.getElem?_eq_getElem (by rw [hLl.out]; omega)⟩
          have Hb0 := Lib.hid hb0
          have c0 := hm.cell hb0
          clear hb0
          cases b
          · go_wp2_with fail
            exact ⟨⟨j + 1, L2, by omega, by go_num, next_skip hN (by rw [Hb0.out]; simp), hm2, hm, hb, hwo⟩, by simp [intOf]; omega⟩
          · obtain ⟨b1, hb1⟩ : ∃ b, L2[j]? = some b := ⟨_, List.getElem?_eq_getElem (by rw [hL2.out]; omega)⟩
            obtain ⟨b2, hb2⟩ : ∃ b, L2[j + 1]? = some b := ⟨_, List.getElem?_eq_getElem (by rw [hL2.out]; omega)⟩
            have c1 := hm2.cell hb1
            have f1 := hm2.free j
            have c2 := hm2.cell hb2
            have f2 := hm2.free (j + 1)
            have Hb1 := Lib.hid hb1
            have Hb2 := Lib.hid hb2
            clear hb1 hb2
            go_wp2_with (go_at_call 21; fail)
            · exact ⟨⟨j + 1, L2.set j true, by omega, by go_num, next_star hN Hb0.out (at_is (n := 42) hjl (is_of ‹_›)) Hb1.out, hm2.put _ _, hm.far (p := ⟨wo.heap.size, _, none⟩) hgne _, hb.setCell (p := ⟨wo.heap.size, j, none⟩) hsz _, by simp [World.setCell]; exact hwo⟩, by simp [intOf]; omega⟩
            · have hnx := next_piece hN Hb0.out (at_isnt (n := 42) (by omega) hjl (isnt_of ‹_›)) Hb2.out (piece_any (at_is (n := 63) hjl (is_of ‹_›)))
              rw [Bool.or_true] at hnx
              exact ⟨⟨j + 1, L2.set (j + 1) true, by omega, by go_num, hnx, hm2.put _ _, hm.far (p := ⟨wo.heap.size, _, none⟩) hgne _, hb.setCell (p := ⟨wo.heap.size, j + 1, none⟩) hsz _, by simp [World.setCell]; exact hwo⟩, by simp [intOf]; omega⟩
            · refine (rclass_calls P (j + 1) _ _ _ (by omega) (by omega) (by omega)).mono ?_
              rintro e w' ⟨jn, r, i1, i2, i3, rfl, nd, rfl⟩
              rw [hpl.out] at i2
              obtain ⟨b3, hb3⟩ : ∃ b, L2[jn]? = some b := ⟨_, List.getElem?_eq_getElem (by rw [hL2.out]; omega)⟩
              have hnx := Lib.hid (next_piece hN Hb0.out (at_isnt (n := 42) (by omega) hjl (isnt_of ‹_›)) hb3 ((piece_cls (at_is (n := 91) hjl (is_of ‹_›))).trans i3))
              have c3 := hm2.cell hb3
              have f3 := hm2.free jn
              clear hb3
              cases b3
              · go_wp2_with fail
                exact ⟨⟨j + 1, L2.set jn r, by omega, by go_num, hnx.out, hm2.put _ _, hm.far (p := ⟨wo.heap.size, _, none⟩) hgne _, (below_drawn hb nd).setCell (p := ⟨wo.heap.size, jn, none⟩) hsz _, by simp [World.setCell]; exact hwo⟩, by simp [intOf]; omega⟩
              · go_wp2_with fail
                exact ⟨⟨j + 1, L2.set jn true, by omega, by go_num, hnx.out, hm2.put _ _, hm.far (p := ⟨wo.heap.size, _, none⟩) hgne _, (below_drawn hb nd).setCell (p := ⟨wo.heap.size, jn, none⟩) hsz _, by simp [World.setCell]; exact hwo⟩, by simp [intOf]; omega⟩
            · obtain ⟨b3, hb3⟩ : ∃ b, L2[j + 2]? = some b := ⟨_, List.getElem?_eq_getElem (by rw [hL2.out]; omega)⟩
              have hnx := Lib.hid (next_piece hN Hb0.out (at_isnt (n := 42) (by omega) hjl (isnt_of ‹_›)) hb3 (piece_esc (at_is (n := 92) hjl ‹_›) (bytes_at P (j + 1) (by omega))))
              have c3 := hm2.cell hb3
              have f3 := hm2.free (j + 2)
              clear hb3
              have z1 : ((j : Int) + 1) < (P.size : Int) := by omega
              have z2 : (0 : Int) ≤ (j : Int) + 1 := by omega
              have z3 : ((j : Int) + 1).toNat = j + 1 := by omega
              have z4 : IntKind.i64.wrap ((j : Int) + 1) = (j : Int) + 1 := IntWalk.i64_in _ (by omega)
              have z5 : IntKind.i64.wrap ((j : Int) + 2) = (j : Int) + 2 := IntWalk.i64_in _ (by omega)
              have z6 : ((j : Int) + 2).toNat = j + 2 := by omega
              have z7 : ((j : Int) + 2) < (P.size : Int) + 1 := by omega
              have z8 : (0 : Int) ≤ (j : Int) + 2 := by omega
              cases b3
              · have c3' : ({ wr with drawn := wr.drawn + 1 } : World).cell? ⟨wo.heap.size, j + 2, none⟩ = some (.bool false) := c3
                go_still_tail 19, (by kernel_rfl)
                change wpList _ _ _ _ _ wr.drew
                go_wp2_with fail
                have hq := hnx.out
                rw [Bool.false_or, ← u8_beq] at hq
                exact ⟨⟨j + 1, L2.set (j + 2) _, by omega, by go_num, hq, hm2.put _ _, hm.far (p := ⟨wo.heap.size, _, none⟩) hgne _, (hb.setCell (p := ⟨wo.heap.size, j + 2, none⟩) hsz _).drew, by simp [World.setCell]; exact hwo⟩, by simp [intOf]; omega⟩
              · go_region
                go_wp2_with fail
                have hq := hnx.out
                rw [Bool.true_or] at hq
                exact ⟨⟨j + 1, L2.set (j + 2) true, by omega, by go_num, hq, hm2.put _ _, hm.far (p := ⟨wo.heap.size, _, none⟩) hgne _, (hb.setCell (p := ⟨wo.heap.size, j + 2, none⟩) hsz _).drew, by simp [World.setCell]; exact hwo⟩, by simp [intOf]; omega⟩
            · have hnx := Lib.hid (next_piece hN Hb0.out (at_isnt (n := 42) (by omega) hjl (isnt_of ‹_›)) Hb2.out (piece_one (bytes_at P j hjl) (u8_isnt (n := 63) (by omega) (isnt_of (x := (P[j].toNat : Int)) ‹_›)) (u8_isnt (n := 91) (by omega) (isnt_of (x := (P[j].toNat : Int)) ‹_›)) (fun _ => by rw [hpl.out]; omega)))
              have z4 : IntKind.i64.wrap ((j : Int) + 1) = (j : Int) + 1 := IntWalk.i64_in _ (by omega)
              have z3 : ((j : Int) + 1).toNat = j + 1 := by omega
              have z7 : ((j : Int) + 1) < (P.size : Int) + 1 := by omega
              have z8 : (0 : Int) ≤ (j : Int) + 1 := by omega
              have z9 : (0 : Int) ≤ (j : Int) := by omega
              have z10 : (j : Int) < (P.size : Int) := by omega
              cases b2
              · have c2' : ({ wr with drawn := wr.drawn + 1 } : World).cell? ⟨wo.heap.size, j + 1, none⟩ = some (.bool false) := c2
                go_still_tail 18, (by kernel_rfl)
                change wpList _ _ _ _ _ wr.drew
                go_wp2_with fail
                have hq := hnx.out
                rw [Bool.false_or, ← u8_beq, (by assumption : (P[j].toNat : Int) = 92)] at hq
                exact ⟨⟨j + 1, L2.set (j + 1) _, by omega, by go_num, hq, hm2.put _ _, hm.far (p := ⟨wo.heap.size, _, none⟩) hgne _, (hb.setCell (p := ⟨wo.heap.size, j + 1, none⟩) hsz _).drew, by simp [World.setCell]; exact hwo⟩, by simp [intOf]; omega⟩
              · go_region
                go_wp2_with fail
                have hq := hnx.out
                rw [Bool.true_or] at hq
                exact ⟨⟨j + 1, L2.set (j + 1) true, by omega, by go_num, hq, hm2.put _ _, hm.far (p := ⟨wo.heap.size, _, none⟩) hgne _, (hb.setCell (p := ⟨wo.heap.size, j + 1, none⟩) hsz _).drew, by simp [World.setCell]; exact hwo⟩, by simp [intOf]; omega⟩
            · have hnx := Lib.hid (next_piece hN Hb0.out (at_isnt (n := 42) (by omega) hjl (isnt_of ‹_›)) Hb2.out (piece_one (bytes_at P j hjl) (u8_isnt (n := 63) (by omega) (isnt_of (x := (P[j].toNat : Int)) ‹_›)) (u8_isnt (n := 91) (by omega) (isnt_of (x := (P[j].toNat : Int)) ‹_›)) (fun e => absurd e (u8_isnt (n := 92) (by omega) ‹_›))))
              have z4 : IntKind.i64.wrap ((j : Int) + 1) = (j : Int) + 1 := IntWalk.i64_in _ (by omega)
              have z3 : ((j : Int) + 1).toNat = j + 1 := by omega
              have z7 : ((j : Int) + 1) < (P.size : Int) + 1 := by omega
              have z8 : (0 : Int) ≤ (j : Int) + 1 := by omega
              have z9 : (0 : Int) ≤ (j : Int) := by omega
              have z10 : (j : Int) < (P.size : Int) := by omega
              cases b2
              · have c2' : ({ wr with drawn := wr.drawn + 1 } : World).cell? ⟨wo.heap.size, j + 1, none⟩ = some (.bool false) := c2
                go_still_tail 18, (by kernel_rfl)
                change wpList _ _ _ _ _ wr.drew
                go_wp2_with fail
                have hq := hnx.out
                rw [Bool.false_or, ← u8_beq] at hq
                exact ⟨⟨j + 1, L2.set (j + 1) _, by omega, by go_num, hq, hm2.put _ _, hm.far (p := ⟨wo.heap.size, _, none⟩) hgne _, (hb.setCell (p := ⟨wo.heap.size, j + 1, none⟩) hsz _).drew, by simp [World.setCell]; exact hwo⟩, by simp [intOf]; omega⟩
              · go_region
                go_wp2_with fail
                have hq := hnx.out
                rw [Bool.true_or] at hq
                exact ⟨⟨j + 1, L2.set (j + 1) true, by omega, by go_num, hq, hm2.put _ _, hm.far (p := ⟨wo.heap.size, _, none⟩) hgne _, (hb.setCell (p := ⟨wo.heap.size, j + 1, none⟩) hsz _).drew, by simp [World.setCell]; exact hwo⟩, by simp [intOf]; omega⟩
        · obtain rfl : j = P.size := by omega
          go_wp2_with fail
          refine (past_calls P wo.heap.size L2 _ hP (by rw [hN.1, hpl.out]) hm2).mono ?_
          rintro e w2 ⟨rfl, L3, hpast, hm3, hg3⟩
          have hM2 : Marks P.data.toList S.data.toList L3 (k + 1) := marks_next hM (bytes_at S k hlt) (by rw [hpl.out]; exact hN) (by rw [hpl.out]; exact hpast)
          have hb2 : Below w.heap.size w w2 := hb.grown hg3 (by omega) (by intro x hx; injection hx with hx; omega)
          clear hpast hg3
          go_wp2_with fail
          exact ⟨⟨k + 1, wo.heap.size, L3, by omega, by go_num, rfl, hsz, hm3, hM2, hb2⟩, by simp [intOf]; omega⟩
    · obtain ⟨b, hb0⟩ : ∃ b, L[P.size]? = some b := ⟨_, List.getElem?_eq_getElem (by rw [hLl.out]; omega)⟩
      have Hb0 := Lib.hid hb0
      have c0 := hm.cell hb0
      clear hb0
      go_wp2_with fail
      go_ret
      exact ⟨b, rfl, marks_end hM (by rw [hsl.out]; omega) (by rw [hpl.out]; exact Hb0.out), hb⟩
end Go.Proofs.Ytnmjednmhmfbpaa.GlobW7
