/-
  The closure that sorts the table's rows, and slices.SortFunc at them. Conditions: as stated.
-/
import Derived.Test.YtiffdkagmnpjiaaTbE
import Derived.Shelf.SlSortCmp.WholeK
import Derived.Shelf.Small.Strs
import Derived.Shelf.Lay
import Derived.Ground.SlsfProg
import Derived.Ground.NamesProg
set_option maxRecDepth 100000
set_option linter.unusedSimpArgs false
set_option linter.unusedVariables false
namespace Go.Proofs
open Go.Shelf Go.RowKit Go.Lib Go.Sort
shelf_lay Lays.n106 Nm 106 at Try as Ytiffdkagmnpjiaa.strCmp
shelf_lay_g SlLaysF0.n6 Slsf 6 at Try 29 as Ytiffdkagmnpjiaa.sortSp
end Go.Proofs
namespace Go.Proofs.Ytiffdkagmnpjiaa.TbF
open Go.Shelf Go.RowKit Go.Lib Go.Sort Go.Proofs.Ytiffdkagmnpjiaa.Mem Go.Proofs.Ytiffdkagmnpjiaa.TbA Go.Proofs.Ytiffdkagmnpjiaa.TbB

theorem cmp_less : ∀ a b : List UInt8, decide (Lib.compareBytes a b < 0) = Op.bytesLess a b
  | [], [] => rfl
  | [], _ :: _ => rfl
  | _ :: _, [] => rfl
  | a :: x, b :: y => by
    have ih := cmp_less x y
    unfold Lib.compareBytes Op.bytesLess
    by_cases h1 : a < b
    · simp [h1]
    · by_cases h2 : b < a
      · have : ¬ a = b := fun e => by subst e; exact h1 h2
        simp [h1, h2, this]
      · have e : a = b := UInt8.le_antisymm (UInt8.not_lt.1 h2) (UInt8.not_lt.1 h1)
        subst e
        simp [h1, ← ih]
def cf (x y : Sp) : Int := Lib.compareBytes x.name.data.toList y.name.data.toList
theorem ltOf_cf (x y : Sp) : ltOf cf x y = ltN x y := by
  unfold ltOf cf ltN
  rw [cmp_less, ByteArray.toList_eq, ByteArray.toList_eq]
theorem swo : SWO (ltOf cf) where
  irrefl x := by rw [ltOf_cf]; exact bl_irrefl _
  trans x y z h1 h2 := by rw [ltOf_cf] at *; exact bl_trans _ _ _ h1 h2
  ntrans x y z h1 h2 := by
    rw [ltOf_cf] at *
    unfold ltN at *
    cases h3 : Op.bytesLess x.name.toList z.name.toList
    · rfl
    · by_cases e : x.name.toList = y.name.toList
      · rw [e, h2] at h3; cases h3
      · have := bl_trans _ _ _ (bl_total _ _ h1 e) h3
        rw [h2] at this; cases this
set_option maxHeartbeats 1000000 in
theorem less_calls (x y : Sp) (W : World) : Calls Try.prog 30 #[.agg (spV x).toArray, .agg (spV y).toArray] W fun e w' => e = .returned (.int .i64 (cf x y)) ∧ ∃ q os', w' = grow (W.drewN q) os' := by
  obtain ⟨x1, x2, x3, x4, x5, x6, x7⟩ := x
  obtain ⟨y1, y2, y3, y4, y5, y6, y7⟩ := y
  show Calls Try.prog 30 #[.agg #[.string x1, .int .i64 x2, .bool x3, .bool x4, .int .i64 x5, .int .i64 x6, .int .i64 x7], .agg #[.string y1, .int .i64 y2, .bool y3, .bool y4, .int .i64 y5, .int .i64 y6, .int .i64 y7]] W fun e w' => e = .returned (.int .i64 (Lib.compareBytes x1.data.toList y1.data.toList)) ∧ ∃ q os', w' = grow (W.drewN q) os'
  have hcon := fun W' => Any.strings_Compare Ytiffdkagmnpjiaa.strCmp x1 y1 W'
  change ∀ W', Calls Try.prog 31 _ _ _ at hcon
  generalize Lib.compareBytes x1.data.toList y1.data.toList = r at hcon ⊢
  go_enter Try.func30, Try.ntmps30
  go_wp2_with (go_at_call 31; refine (hcon _).mono ?_; rintro e w' ⟨rfl, rfl⟩)
  go_ret
  exact ⟨rfl, 0, _, by rw [alloc_eq_grow, alloc_eq_grow, grow_grow]; rfl⟩
theorem sps_get : ∀ (l : List Sp) (i c : Nat) (x : Sp), l[i]? = some x → c < 7 → (sps l)[i * 7 + c]? = (spV x)[c]?
  | [], i, c, x, h, _ => by simp at h
  | y :: r, 0, c, x, h, hc => by
    simp at h; subst h
    rw [show sps (y :: r) = spV y ++ sps r from rfl, List.getElem?_append_left (by simp [spV]; omega)]
    simp
  | y :: r, i + 1, c, x, h, hc => by
    have := sps_get r i c x (by simpa using h) hc
    have e : (spV y).length = 7 := rfl
    rw [show sps (y :: r) = spV y ++ sps r from rfl, List.getElem?_append_right (by rw [e]; omega), e, ← this]
    congr 1; omega
theorem flat_get (d : Array Sp) : (flatK spV 7 d).toList = sps d.toList := by
  apply List.ext_getElem?
  intro j
  by_cases hj : j < d.size * 7
  · have hi : j / 7 < d.size := by omega
    have h1 := sps_get d.toList (j / 7) (j % 7) d[j / 7]! (by rw [Array.getElem?_toList, getElem!_pos d (j / 7) hi, Array.getElem?_eq_getElem hi]) (by omega)
    rw [show j / 7 * 7 + j % 7 = j by omega] at h1
    have h2 := get_flatK spV 7 d j hj
    rw [getElem!_pos (flatK spV 7 d) j (by simpa using hj)] at h2
    rw [h1, Array.getElem?_toList, Array.getElem?_eq_getElem (by simpa using hj), h2]
    have h3 : j % 7 < (spV d[j / 7]!).length := by show _ < 7; omega
    rw [getElem!_pos (spV d[j / 7]!) (j % 7) h3, List.getElem?_eq_getElem h3]
  · rw [List.getElem?_eq_none (by simp; omega), List.getElem?_eq_none (by rw [sps_len]; simp; omega)]
theorem holds_of_block {w : World} {g : Nat} {cur : Array Value} {e : TypeId} {F : Array Value} (hb : w.heap[g]? = some (.cells cur e (0, 0))) (ht : cur.toList.take F.size = F.toList) : Holds id w g 0 F := by
  intro j hj
  refine ⟨?_, by simp [World.frozen?, hb]⟩
  have h1 : (cur.toList.take F.size)[j]? = F.toList[j]? := by rw [ht]
  rw [List.getElem?_take_of_lt hj] at h1
  simp only [World.cell?, hb, Nat.zero_add]
  simp only [Option.isSome_none, Bool.false_eq_true, if_false]
  rw [← Array.getElem?_toList, h1]
  simp [hj]
theorem heap_sorted {w : World} {g n : Nat} {os : Array Obj} {cur : Array Value} {e : TypeId} {fr : Nat × Nat} (F : Array Value) (hb : w.heap[g]? = some (.cells cur e fr)) :
    (grow (putRow id (Sort.ahead w n) g 0 F) os).heap[g]? = some (.cells (putCells id 0 F cur) e fr) := by
  have hg : g < w.heap.size := (Array.getElem?_eq_some_iff.1 hb).1
  rw [heap_grow_old _ _ (by simpa using hg)]
  simp [putRow, mapBlock, Sort.ahead, Array.getElem?_modify, hb, onCells]
theorem below_sorted {w : World} {g n : Nat} {os : Array Obj} (F : Array Value) (hg : g < w.heap.size) : RowKit.Below g w (grow (putRow id (Sort.ahead w n) g 0 F) os) := by
  refine ⟨rfl, rfl, rfl, by simp, fun k hk => ?_⟩
  have hkw : k < w.heap.size := by omega
  rw [heap_grow_old _ _ (by simpa using hkw)]
  have : g ≠ k := by omega
  simp [putRow, mapBlock, Sort.ahead, Array.getElem?_modify, this]
theorem take_putCells (cur F : Array Value) (h : F.size ≤ cur.size) : (putCells id 0 F cur).toList.take F.size = F.toList := by
  apply List.ext_getElem?
  intro j
  by_cases hj : j < F.size
  · rw [List.getElem?_take_of_lt hj, Array.getElem?_toList]
    simp [putCells, hj, show j < cur.size by omega]
  · rw [List.getElem?_take_eq_none (by omega), List.getElem?_eq_none (by simp; omega)]
set_option maxHeartbeats 1000000 in
/-- slices.SortFunc at a row of its own. -/
theorem sort_calls (B n c : Nat) (A : Option Addr) (l : List Sp) (w : World) (ho : OwnP w B (.slice A n c) l) (hl : 0 < l.length) (hl2 : l.length ≤ 1048576) :
    Calls Try.prog 29 #[.slice A n c, .func (.func 30) #[] #[]] w fun e w' => e = .returned (.tuple #[]) ∧ ∃ d : List Sp, d.Perm l ∧ d.Pairwise (fun x y => ltN y x = false) ∧ OwnP w' B (.slice A n c) d ∧ RowKit.Below B w w' := by
  have hn := own_n ho
  rcases ho.2 with ⟨_, h0⟩ | ⟨g, cap, cur, e1, hg, hb, h1, h2, h3, h4⟩
  · omega
  · injection e1 with e1 e2 e3
    subst e1 e2 e3
    have hgw : g < w.heap.size := (Array.getElem?_eq_some_iff.1 hb).1
    have hfl : (flatK spV 7 l.toArray).toList = sps l := flat_get _
    have hfs : (flatK spV 7 l.toArray).size = l.length * 7 := by simp
    have hH : HoldsK spV 7 w g 0 l.toArray := holds_of_block hb (by rw [hfs, hfl]; exact h4)
    have eg : ∀ args w, (callFunc 30 args).run Try.prog w = .ok (.enter 30 args) w := enters_of Try.func30 (by kernel_rfl) rfl
    have hcon := AnyQ.slices_SortFunc Ytiffdkagmnpjiaa.sortSp 7 Try.isAgg23 Try.sizeOf23 spV (fun _ => rfl) (fun x v hv => by simp [spV] at hv; rcases hv with rfl | rfl | rfl | rfl | rfl | rfl | rfl <;> rfl) cf swo 30 #[] g 0 c l.toArray w eg (fun _ _ _ _ x y => less_calls x y _) hH hgw (by simp; omega)
    refine hcon.mono ?_
    rintro e w' ⟨rfl, d', m, os, hp, hs, rfl⟩
    have hds : d'.size = l.length := by rw [hp.1]; simp
    have hsz : (flatK spV 7 d').size = l.length * 7 := by simp [hds]
    refine ⟨rfl, d'.toList, ?_, ?_, ?_, ?_⟩
    · have := hp.2.2
      rw [show l.toArray.size = l.length by simp] at this
      have e5 : List.take l.length d'.toList = d'.toList := List.take_of_length_le (by simp [hds])
      simpa [hds, e5] using this
    · rw [List.pairwise_iff_getElem]
      intro i j hi hj hij
      have := hs i j (Nat.zero_le _) hij (by simp at hj ⊢; omega)
      rw [ltOf_cf, getElem!_pos d' i (by simpa using hi), getElem!_pos d' j (by simpa using hj)] at this
      simpa using this
    · have hq := take_putCells cur (flatK spV 7 d') (by rw [hsz, h3]; exact Nat.mul_le_mul_right _ h1)
      rw [hsz, flat_get] at hq
      refine ⟨by rw [sps_len], .inr ⟨g, c, _, by simp [hds], hg, heap_sorted _ hb, by simp [hds]; exact h1, h2, by simp [putCells, h3], ?_⟩⟩
      rw [show d'.toList.length = l.length by simp [hds]]
      exact hq
    · exact (below_sorted _ hgw).mono hg
end Go.Proofs.Ytiffdkagmnpjiaa.TbF
