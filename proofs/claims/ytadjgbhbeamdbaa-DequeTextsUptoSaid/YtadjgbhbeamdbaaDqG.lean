/-
  What slices.Insert of one number into a row of the call's own hands back; what a Deque's Insert hands back and leaves. Conditions: as stated.
-/
import Derived.Test.YtadjgbhbeamdbaaDqF
import Derived.Test.YtadjgbhbeamdbaaShelf2
set_option maxRecDepth 100000
set_option linter.unusedSimpArgs false
set_option linter.unusedVariables false
namespace Go.Proofs.Ytadjgbhbeamdbaa.DqG
open Go.RowKit Go.Proofs.Ytadjgbhbeamdbaa.Mem Go.Proofs.Ytadjgbhbeamdbaa.DqA Go.Proofs.Ytadjgbhbeamdbaa.DqB Go.Proofs.Ytadjgbhbeamdbaa.DqD Go.Proofs.Ytadjgbhbeamdbaa.DqF

/-- A row with so many cells written from a place on. -/
def putA : Array Value → Nat → List Value → Array Value
  | c, _, [] => c
  | c, o, v :: r => putA (c.setIfInBounds o v) (o + 1) r
theorem putA_size : ∀ (vs : List Value) (c : Array Value) (o : Nat), (putA c o vs).size = c.size
  | [], _, _ => rfl
  | v :: r, c, o => by rw [putA, putA_size r]; simp
theorem putA_get : ∀ (vs : List Value) (c : Array Value) (o j : Nat), o + vs.length ≤ c.size → (putA c o vs)[j]? = if o ≤ j ∧ j < o + vs.length then vs[j - o]? else c[j]?
  | [], c, o, j, _ => by rw [putA, if_neg (by simp)]
  | v :: r, c, o, j, h => by
    simp only [List.length_cons] at h ⊢
    rw [putA, putA_get r _ _ _ (by simp; omega)]
    by_cases h1 : o + 1 ≤ j ∧ j < o + 1 + r.length
    · rw [if_pos h1, if_pos (by omega)]
      obtain ⟨d, rfl⟩ : ∃ d, j = o + 1 + d := ⟨j - (o + 1), by omega⟩
      rw [show o + 1 + d - (o + 1) = d by omega, show o + 1 + d - o = d + 1 by omega]
      rfl
    · rw [if_neg h1]
      by_cases h2 : j = o
      · subst h2
        rw [if_pos (by omega), Array.getElem?_setIfInBounds, if_pos rfl, if_pos (by omega)]
        simp
      · rw [if_neg (by omega), Array.getElem?_setIfInBounds, if_neg (fun e => h2 e.symm)]
theorem put_heap : ∀ (vs : List Value) (w : World) (g o : Nat) (c : Array Value) (t : TypeId), w.heap[g]? = some (.cells c t (0, 0)) → (w.setCells g o vs).heap[g]? = some (.cells (putA c o vs) t (0, 0))
  | [], _, _, _, _, _, h => h
  | v :: r, w, g, o, c, t, h => put_heap r _ g (o + 1) _ t (heap_setCell_same w g o c t v h)
theorem put_only : ∀ (vs : List Value) (w : World) (g o : Nat), Only (fun k => k = g) w (w.setCells g o vs)
  | [], w, _, _ => Only.refl _ w
  | v :: r, w, g, o => ((Only.refl (fun k => k = g) w).put (p := ⟨g, o, none⟩) (.inl rfl) v).trans (put_only r _ g (o + 1)) fun b hb => .inl hb

theorem ins_len (l : List Int) (i : Nat) (x : Int) (h : i ≤ l.length) : (l.take i ++ x :: l.drop i).length = l.length + 1 := by simp; omega
theorem ins_get (l : List Int) (i : Nat) (x : Int) (h : i ≤ l.length) (j : Nat) : (ints (l.take i ++ x :: l.drop i))[j]? = if j < i then (ints l)[j]? else if j = i then some (.int .i64 x) else (ints l)[j - 1]? := by
  simp only [ints, List.getElem?_map, List.getElem?_append, List.length_take, Nat.min_eq_left h]
  by_cases h1 : j < i
  · rw [if_pos h1, if_pos h1, List.getElem?_take, if_pos h1]
  · rw [if_neg h1, if_neg h1]
    by_cases h2 : j = i
    · subst h2; simp
    · rw [if_neg h2]
      obtain ⟨d, rfl⟩ : ∃ d, j = i + 1 + d := ⟨j - (i + 1), by omega⟩
      rw [show i + 1 + d - i = d + 1 by omega, List.getElem?_cons_succ, List.getElem?_drop, show i + 1 + d - 1 = i + d by omega]

/-- A row that holds the new list's cells is owned as such. -/
theorem own_of {w : World} {B g cap n : Nat} {cur : Array Value} {l : List Int} (hln : l.length = n) (hB : B ≤ g) (hg : w.heap[g]? = some (.cells cur 3 (0, 0))) (hn : n ≤ cap) (hc : cap ≤ maxLen) (hs : cur.size = cap)
    (h : ∀ j, j < n → cur[j]? = (ints l)[j]?) : OwnI w B (.slice (some ⟨g, 0, none⟩) n cap) l := by
  subst hln
  refine ⟨by simp [ints], .inr ⟨g, cap, cur, rfl, hB, hg, hn, hc, by omega, ?_⟩⟩
  apply List.ext_getElem?
  intro j
  rw [List.getElem?_take]
  by_cases hj : j < l.length
  · rw [if_pos (by omega), Array.getElem?_toList, h j hj]
  · rw [if_neg (by omega), List.getElem?_eq_none (by simp [ints]; omega)]

theorem get_ints {l : List Int} {j : Nat} {u : Value} (h : (ints l)[j]? = some u) : j < l.length := by
  have := (List.getElem?_eq_some_iff.1 h).1; simpa [ints] using this

theorem insert_one (A : Option Addr) (c : Nat) (l : List Int) (i : Nat) (x : Int) (w : World) (B : Nat) (ho : OwnI w B (.slice A l.length c) l) (hi : i ≤ l.length) (hl : l.length < 17592186044416)
    (hB : B ≤ w.heap.size) :
    Calls Try.prog 49 #[.slice A l.length c, .int .i64 i, .slice (some ⟨w.heap.size, 0, none⟩) 1 1] (w.alloc (.cells #[.int .i64 x] 3)) fun e w' =>
      ∃ v', e = .returned v' ∧ OwnI w' B v' (l.take i ++ x :: l.drop i) ∧ Below B w w' := by
  have hn := ins_len l i x hi
  have hv0 : ∀ j v, [Value.int .i64 x][j]? = some v → (w.alloc (.cells #[.int .i64 x] 3)).cell? ⟨w.heap.size, 0 + j, none⟩ = some v := fun j v hj => by
    have := cell_one_new w (.int .i64 x) 3 j v hj
    rw [add_mk] at this; exact this
  have h1v : ∀ v ∈ [Value.int .i64 x], v.oneCell' = true := fun v hv => by rw [List.mem_singleton.1 hv]; rfl
  have hoa := ho.alloc (.cells #[.int .i64 x] 3)
  have hcells := (Rd.of_own hoa).get
  have hcap := (Rd.of_own hoa).cap
  have hbg := (Rd.of_own hoa).big
  have hsz : (w.alloc (.cells #[.int .i64 x] 3)).heap.size = w.heap.size + 1 := by simp
  have hnew : (w.alloc (.cells #[.int .i64 x] 3)).heap[w.heap.size]? = some (.cells #[.int .i64 x] 3 (0, 0)) := heap_alloc_new w _
  have hbel : Below B w (w.alloc (.cells #[.int .i64 x] 3)) := (Below.refl _ _).alloc hB _
  by_cases hroom : l.length + 1 ≤ c
  · rcases ho.2 with ⟨e, _⟩ | ⟨g, cap, cur, e, hBg, hg, hnc, hcm, hcs, htk⟩
    · injection e with _ _ e; omega
    injection e with e1 _ e3
    subst e1 e3
    have hglt := (Array.getElem?_eq_some_iff.1 hg).1
    have hg1 : (w.alloc (.cells #[.int .i64 x] 3)).heap[g]? = some (.cells cur 3 (0, 0)) := (Below.heap_alloc _ _ _ hglt).trans hg
    have hc63 : c ≤ 9223372036854775807 := hcm
    have hget : ∀ j, j < l.length → cur[j]? = (ints l)[j]? := fun j hj => by
      rw [← htk, List.getElem?_take, if_pos (by omega), Array.getElem?_toList]
    by_cases hend : i = l.length
    · subst hend
      refine (Any2.slices_Insert_int_end_room Shelf2.lays21 g 0 l.length c w.heap.size 0 1 1 [.int .i64 x] _ (by omega) hroom hc63 rfl (fun j hj => ?_) (fun j hj => ?_) hv0 h1v).mono ?_
      · simp [World.cell?, hg1]; omega
      · simp [World.frozen?, hg1]
      · rintro e w' ⟨rfl, rfl⟩
        refine ⟨_, rfl, ?_, ?_⟩
        · have hh := put_heap [.int .i64 x] _ g (0 + l.length) cur _ hg1
          refine own_of hn hBg hh (by omega) hcm (by rw [putA_size]; omega) (fun j hj => ?_)
          rw [putA_get _ _ _ _ (by simp; omega), ins_get l l.length x hi]
          simp only [List.length_singleton]
          by_cases h1 : j < l.length
          · rw [if_neg (by omega), if_pos h1, hget j h1]
          · obtain rfl : j = l.length := by omega
            rw [if_pos (by omega), if_neg h1, if_pos rfl]; simp
        · exact (put_only _ _ g _).after hbel hB (fun b hb => by omega)
    · have hi' : i < l.length := by omega
      refine (Any2.slices_Insert_int_shift Shelf2.lays21 g 0 l.length c i w.heap.size 0 1 1 (ints l) [.int .i64 x] _ hi' (by omega) hroom hc63 (by omega) (by simp [ints]) rfl (fun j v hj => ?_) (fun j hj => ?_) (fun j hj => ?_) hv0 (ints_one l) h1v
        3 3 1 cur.size ?_ ?_ (by omega) ?_ ?_).mono ?_
      · have := hget j (get_ints hj)
        simp only [World.cell?, hg1]
        simp [this, hj]
      · simp [World.cell?, hg1]; omega
      · simp [World.frozen?, hg1]
      · unfold World.shape?; rw [hnew]; rfl
      · simp [World.shape?, hg1]
      · unfold World.frozen?; simp only [hnew]; simp
      · unfold World.frozen?; simp only [hnew]; simp
      · rintro e w' ⟨rfl, rfl⟩
        refine ⟨_, rfl, ?_, ?_⟩
        · have hh := put_heap [.int .i64 x] _ g (0 + i) _ _ (put_heap ((ints l).drop i) (w.alloc (.cells #[.int .i64 x] 3)).drew g (0 + (i + 1)) cur 3 hg1)
          have hdl : ((ints l).drop i).length = l.length - i := by simp [ints]
          refine own_of hn hBg hh (by omega) hcm (by rw [putA_size, putA_size]; omega) (fun j hj => ?_)
          rw [putA_get _ _ _ _ (by rw [putA_size]; simp; omega), putA_get _ _ _ _ (by rw [hdl]; omega), ins_get l i x hi, hdl]
          simp only [List.length_singleton]
          by_cases h1 : j < i
          · rw [if_neg (by omega), if_neg (by omega), if_pos h1, hget j (by omega)]
          · rw [if_neg h1]
            by_cases h2 : j = i
            · subst h2; rw [if_pos (by omega), if_pos rfl]; simp
            · rw [if_neg (by omega), if_pos (by omega), if_neg h2, List.getElem?_drop]
              congr 1; omega
        · exact ((put_only _ _ g _).trans (put_only _ _ g _) (fun b hb => .inl hb)).after (hbel.drew) hB (fun b hb => by omega)
  · have hbig : (l.length + 1) * 8 ≤ 140737488355328 := by omega
    have hge := fun w0 => grownCap_ge w0 (l.length + 1) c (Shelf2.ren21.t 3)
    have hle := fun w0 => grownCap_le_maxLen w0 (l.length + 1) c (Shelf2.ren21.t 3) (by unfold maxLen; omega)
    by_cases hend : i = l.length
    · subst hend
      refine (Any2.slices_Insert_int_end_grow Shelf2.lays21 A l.length c w.heap.size 0 1 1 (ints l) [.int .i64 x] _ (by omega) hcap (by omega) hbig (by simp [ints]) rfl (fun h => ?_) (fun a ha j v hj => ?_) hv0 h1v).mono ?_
      · rcases hl0 : l with _ | ⟨y, r⟩
        · rfl
        · obtain ⟨ad, h', _⟩ := hcells 0 (.int .i64 y) (by rw [hl0]; rfl)
          rw [h] at h'; cases h'
      · obtain ⟨ad, h', hc⟩ := hcells j v hj
        rw [ha] at h'; injection h' with h'; subst h'; exact hc
      · rintro e w' ⟨rfl, rfl⟩
        have hG := hge (w.alloc (.cells #[.int .i64 x] 3))
        have hL := hle (w.alloc (.cells #[.int .i64 x] 3))
        refine ⟨_, rfl, ?_, ?_⟩
        · refine own_of hn (by show B ≤ (w.alloc (.cells #[.int .i64 x] 3)).heap.size; omega) (heap_alloc_new _ _) hG hL ?_ (fun j hj => ?_)
          · rw [Array.size_append, size_zeroCells]; simp [Value.cells, ints]; exact Nat.add_sub_cancel' hG
          · rw [ins_get l l.length x hi, Array.getElem?_append, if_pos (by simp [ints]; omega), List.getElem?_toArray, List.getElem?_append]
            by_cases h1 : j < l.length
            · rw [if_pos (by simpa [ints] using h1), if_pos h1]
            · obtain rfl : j = l.length := by omega
              rw [if_neg (by simp [ints]), if_neg h1, if_pos rfl]; simp [ints]
        · exact (hbel.drew).alloc (by simp; omega) _
    · have hi' : i < l.length := by omega
      rcases ho.2 with ⟨_, e⟩ | ⟨g, cap, cur, e, hBg, hg, hnc, hcm, hcs, htk⟩
      · omega
      injection e with e1 _ e3
      subst e1 e3
      have hglt := (Array.getElem?_eq_some_iff.1 hg).1
      have hg1 : (w.alloc (.cells #[.int .i64 x] 3)).heap[g]? = some (.cells cur 3 (0, 0)) := (Below.heap_alloc _ _ _ hglt).trans hg
      have hget : ∀ j, j < l.length → cur[j]? = (ints l)[j]? := fun j hj => by
        rw [← htk, List.getElem?_take, if_pos (by omega), Array.getElem?_toList]
      refine (Any2.slices_Insert_int_grow Shelf2.lays21 g 0 l.length c i w.heap.size 0 1 1 (ints l) [.int .i64 x] _ hi' (by omega) hcap (by omega) hbig (by simp [ints]) rfl (fun j v hj => ?_) hv0 (ints_one l) h1v).mono ?_
      · have := hget j (get_ints hj)
        simp only [World.cell?, hg1]
        simp [this, hj]
      · rintro e w' ⟨rfl, rfl⟩
        have hG := hge (w.alloc (.cells #[.int .i64 x] 3))
        have hL := hle (w.alloc (.cells #[.int .i64 x] 3))
        have hdl : ((ints l).drop i).length = l.length - i := by simp [ints]
        refine ⟨_, rfl, ?_, ?_⟩
        · have hh := fun cs => put_heap ((ints l).drop i) (((((w.alloc (.cells #[.int .i64 x] 3)).alloc (.cells cs 3)).drew.setCells (w.alloc (.cells #[.int .i64 x] 3)).heap.size i [.int .i64 x])).drew) _ (i + 1) _ _ (put_heap [.int .i64 x] ((w.alloc (.cells #[.int .i64 x] 3)).alloc (.cells cs 3)).drew _ i cs 3 (heap_alloc_new _ _))
          refine own_of hn (by omega) (hh _) hG hL ?_ (fun j hj => ?_)
          · rw [putA_size, putA_size, Array.size_append, Array.size_append, size_zeroCells, size_zeroCells]; simp [Value.cells, ints]; omega
          · have hsz2 : l.length + 1 ≤ (((ints l).take i).toArray ++ Builtin.zeroCells (Value.int .i64 0).cells (l.length + 1 - i) ++ Builtin.zeroCells (Value.int .i64 0).cells (grownCap (w.alloc (.cells #[.int .i64 x] 3)) (l.length + 1) c (Shelf2.ren21.t 3) - (l.length + 1))).size := by
              rw [Array.size_append, Array.size_append, size_zeroCells, size_zeroCells]; simp [Value.cells, ints]; omega
            rw [putA_get _ _ _ _ (by rw [putA_size, hdl]; exact Nat.le_trans (by omega) hsz2), putA_get _ _ _ _ (Nat.le_trans (by simp; omega) hsz2), ins_get l i x hi, hdl]
            simp only [List.length_singleton]
            by_cases h1 : j < i
            · rw [if_neg (by omega), if_neg (by omega), if_pos h1, Array.getElem?_append, if_pos (by rw [Array.size_append]; simp [ints]; omega), Array.getElem?_append, if_pos (by simp [ints]; omega), List.getElem?_toArray, List.getElem?_take, if_pos h1]
            · rw [if_neg h1]
              by_cases h2 : j = i
              · subst h2; rw [if_neg (by omega), if_pos (by omega), if_pos rfl]; simp
              · rw [if_pos (by omega), if_neg h2, List.getElem?_drop]
                congr 1; omega
        · exact ((put_only _ _ _ _).drew.trans (put_only _ _ _ _) (fun b hb => .inl hb)).after ((hbel.alloc (by omega) _).drew) hB (fun b hb => by omega)
end Go.Proofs.Ytadjgbhbeamdbaa.DqG
