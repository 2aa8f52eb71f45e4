/-
  rank.score, rank.ahead, Of$1, at$1. Conditions: as stated.
  (*Rank).at. Conditions: as stated.
-/
import Derived.Test.YtakhcfemakapbaaGreatDoorRgB
import Derived.Shelf.SlSortCmp.QuietGrown
import Derived.Shelf.SlSorted.Search
import Derived.Shelf.Lay
import Derived.Ground.SlsoProg
set_option maxRecDepth 100000
set_option linter.unusedSimpArgs false
set_option linter.unusedVariables false
namespace Go.Proofs.YtakhcfemakapbaaGreatDoor.RkI
open Go.RowKit Go.Shelf Go.Sort Go.Proofs.YtakhcfemakapbaaGreatDoor.Mem Go.Proofs.YtakhcfemakapbaaGreatDoor.DuA Go.Proofs.YtakhcfemakapbaaGreatDoor.DuM Go.Proofs.YtakhcfemakapbaaGreatDoor.DuN Go.Proofs.YtakhcfemakapbaaGreatDoor.RkA Go.Proofs.YtakhcfemakapbaaGreatDoor.RkC Go.Proofs.YtakhcfemakapbaaGreatDoor.RkB Go.Proofs.YtakhcfemakapbaaGreatDoor.RkE

theorem cell_lt {w : World} {a : Addr} {v : Value} (h : w.cell? a = some v) : a.block < w.heap.size := by
  unfold World.cell? at h
  cases hb : w.heap[a.block]? with
  | none => simp [hb] at h
  | some o => exact (Array.getElem?_eq_some_iff.1 hb).1
theorem mayP_calls (n : Int) (w : World) : Calls Tryz.prog 30 #[.int .i64 n] w fun e w' => e = .returned (.bool (decide (okS n))) ∧ w' = w := by
  by_cases h1 : -9007199254740992 ≤ n
  · by_cases h2 : n ≤ 9007199254740992
    · rw [show decide (okS n) = true from decide_eq_true ⟨h1, h2⟩]
      go_enter Tryz.func30, Tryz.ntmps30
      go_wp2_with fail
      go_ret
      exact ⟨rfl, rfl⟩
    · rw [show decide (okS n) = false from decide_eq_false (fun h => h2 h.2)]
      go_enter Tryz.func30, Tryz.ntmps30
      go_wp2_with fail
      go_ret
      exact ⟨rfl, rfl⟩
  · rw [show decide (okS n) = false from decide_eq_false (fun h => h1 h.1)]
    go_enter Tryz.func30, Tryz.ntmps30
    go_wp2_with fail
    go_ret
    exact ⟨rfl, rfl⟩
abbrev eV (e : En) : Value := .agg #[.string e.2, .int .i64 e.1]
theorem ahead_calls (s t : Int) (a b : ByteArray) (w : World) : Calls Tryz.prog 33 #[.agg #[.string a, .int .i64 s], .agg #[.string b, .int .i64 t]] w fun e w' => e = .returned (.bool (bef ltS (s, a) (t, b))) ∧ w' = (w.alloc (eo (s, a))).alloc (eo (t, b)) := by
  unfold bef ltS
  go_enter Tryz.func33, Tryz.ntmps33
  by_cases h1 : s < t
  · go_wp2_with fail
    go_ret
    exact ⟨by simp [h1], rfl⟩
  · by_cases h2 : s = t
    · have h3 : (s == t) = true := by simp [h2]
      have H2 := Lib.hid h2
      clear h2
      go_wp2_with fail
      go_ret
      exact ⟨by simp [h1, H2.out], rfl⟩
    · have h3 : (s == t) = false := by simp [h2]
      have H2 := Lib.hid h2
      clear h2
      go_wp2_with fail
      go_ret
      exact ⟨by simp [h1, H2.out], rfl⟩
theorem ahead_grown (x y : En) (w : World) : Calls Tryz.prog 33 #[eV x, eV y] w fun e w' => e = .returned (.bool (bef ltS x y)) ∧ ∃ q os, w' = grow (w.drewN q) os := by
  refine (ahead_calls x.1 y.1 x.2 y.2 w).mono ?_
  rintro e w' ⟨rfl, rfl⟩
  exact ⟨rfl, 0, _, by rw [alloc_eq_grow, alloc_eq_grow, grow_grow]; rfl⟩
/-- Of's less. -/
theorem less_calls (blk off c g Bs size : Nat) (W : World) (G : Nat → En) (hs : W.cell? ⟨Bs, 0, none⟩ = some (.pointer (some ⟨g, 0, none⟩))) (hg : W.cell? ⟨g, 0, none⟩ = some (.slice (some ⟨blk, off, none⟩) size c))
    (hc : ∀ t, t < size → W.cell? ⟨blk, off + t * 2, none⟩ = some (.string (G t).2)) (hc1 : ∀ t, t < size → W.cell? ⟨blk, off + t * 2 + 1, none⟩ = some (.int .i64 (G t).1)) (i j : Nat) (hi : i < size) (hj : j < size) (hsz : size < 4611686018427387904) :
    Calls Tryz.prog 32 #[.int .i64 i, .int .i64 j, .pointer (some ⟨Bs, 0, none⟩)] W fun e w' => e = .returned (.bool (bef ltS (G i) (G j))) ∧ ∃ q os, w' = grow (W.drewN q) os := by
  have lt_of : ∀ {a : Addr} {v : Value}, W.cell? a = some v → a.block < W.heap.size := fun {a v} h => cell_lt h
  have ci := fun n os => cell_grown (lt_of (hc i hi)) (hc i hi) n os
  have ci1 := fun n os => cell_grown (lt_of (hc1 i hi)) (hc1 i hi) n os
  have cj := fun n os => cell_grown (lt_of (hc j hj)) (hc j hj) n os
  have cj1 := fun n os => cell_grown (lt_of (hc1 j hj)) (hc1 j hj) n os
  have cs := fun n os => cell_grown (lt_of hs) hs n os
  have cg := fun n os => cell_grown (lt_of hg) hg n os
  have hah := fun n os => ahead_grown (G i) (G j) (grow (W.drewN n) os)
  clear hc hc1 hs hg lt_of
  have mixed : Tryz.prog.follows .mixedOrders = true := by kernel_rfl
  go_enter Tryz.func32, Tryz.ntmps32
  go_wp2_with fail
  go_quiet_grown (first | (go_at_call 33; refine Calls.grown_of (hah _ _)))
  go_wp2_with fail
  go_ret
  exact ⟨rfl, nq, osq, rfl⟩
end Go.Proofs.YtakhcfemakapbaaGreatDoor.RkI
set_option maxRecDepth 100000
set_option linter.unusedSimpArgs false
set_option linter.unusedVariables false
namespace Go.Proofs
open Go.Shelf Go.RowKit Go.Lib Go.Sort
shelf_lay SlLaysO.n16 Slso 16 at Tryz as YtakhcfemakapbaaGreatDoor.searchL
end Go.Proofs
namespace Go.Proofs.YtakhcfemakapbaaGreatDoor.RkK
open Go Go.RowKit Go.Shelf Go.Sort Go.Proofs.YtakhcfemakapbaaGreatDoor.Mem Go.Proofs.YtakhcfemakapbaaGreatDoor.DuA Go.Proofs.YtakhcfemakapbaaGreatDoor.DuM Go.Proofs.YtakhcfemakapbaaGreatDoor.DuN Go.Proofs.YtakhcfemakapbaaGreatDoor.RkA Go.Proofs.YtakhcfemakapbaaGreatDoor.RkC Go.Proofs.YtakhcfemakapbaaGreatDoor.RkB Go.Proofs.YtakhcfemakapbaaGreatDoor.RkE Go.Proofs.YtakhcfemakapbaaGreatDoor.RkI

theorem pos_iff {l : List En} (hs : Srt ltS l) {e y : En} {i : Nat} (hy : l[i]? = some y) : bef ltS y e = true ↔ i < posL ltS l e := by
  have ho := List.pairwise_iff_getElem.1 hs.ord
  obtain ⟨hi, hyi⟩ := List.getElem?_eq_some_iff.1 hy
  unfold posL
  constructor
  · intro h
    have h0 : l = l.take (i + 1) ++ l.drop (i + 1) := (List.take_append_drop _ l).symm
    have a : (l.take (i + 1)).countP (fun x => bef ltS x e) = i + 1 := by
      rw [List.countP_eq_length.2 (fun x hx => ?_), List.length_take]
      · omega
      · obtain ⟨t, ht, rfl⟩ := List.mem_iff_getElem.1 hx
        rw [List.length_take] at ht
        rw [List.getElem_take]
        rcases Nat.lt_or_ge t i with h1 | h1
        · exact bef_tr linS (by rw [← hyi]; exact ho t i (by omega) hi h1) h
        · have : t = i := by omega
          subst this; rw [hyi]; exact h
    have := congrArg (fun x => x.countP (fun x => bef ltS x e)) h0
    simp only [List.countP_append] at this
    omega
  · intro h
    cases hb : bef ltS y e
    · have h0 : l = l.take i ++ l.drop i := (List.take_append_drop _ l).symm
      have b : (l.drop i).countP (fun x => bef ltS x e) = 0 := by
        rw [List.countP_eq_zero]
        intro x hx
        obtain ⟨t, ht, rfl⟩ := List.mem_iff_getElem.1 hx
        rw [List.length_drop] at ht
        rw [List.getElem_drop]
        intro hx'
        rcases Nat.eq_zero_or_pos t with h1 | h1
        · subst h1
          simp only [Nat.add_zero] at hx'
          rw [hyi, hb] at hx'; cases hx'
        · have := bef_tr linS (ho i (i + t) hi (by omega) (by omega)) hx'
          rw [hyi, hb] at this; cases this
      have := congrArg (fun x => x.countP (fun x => bef ltS x e)) h0
      simp only [List.countP_append] at this
      have h2 := List.countP_le_length (p := fun x => bef ltS x e) (l := l.take i)
      rw [List.length_take] at h2
      omega
    · rfl
theorem below_grow {w : World} (m : Nat) (os : Array Obj) : RowKit.Below w.heap.size w (grow (w.drewN m) os) := ⟨rfl, rfl, rfl, by simp [grow], fun i hi => by simp [grow, Array.getElem?_append, hi]⟩
set_option maxHeartbeats 2000000 in
theorem at1_calls (b2 b3 g n c : Nat) (A : Option Addr) (l : List En) (e y : En) (W : World) (h2 : W.cell? ⟨b2, 0, none⟩ = some (.pointer (some ⟨g, 0, none⟩))) (hg : W.cell? ⟨g, 0, none⟩ = some (.slice A n c))
    (h3 : W.cell? ⟨b3, 0, none⟩ = some (.string e.2)) (h4 : W.cell? ⟨b3, 1, none⟩ = some (.int .i64 e.1)) (hr : RdE W A n c l) (i : Nat) (hy : l[i]? = some y) (hn : n ≤ 1000000000) :
    Calls Tryz.prog 75 (#[.int .i64 i] ++ #[.pointer (some ⟨b2, 0, none⟩), .pointer (some ⟨b3, 0, none⟩)]) W fun e' w' => e' = .returned (.bool (!bef ltS y e)) ∧ ∃ q os, w' = grow (W.drewN q) os := by
  obtain rfl := rde_len hr
  obtain ⟨p, rfl, x0, x1⟩ := rde_get hr hy
  have hi : i < l.length := (List.getElem?_eq_some_iff.1 hy).1
  have c0 := fun n os => cell_grown (cell_lt x0) x0 n os
  have c1 := fun n os => cell_grown (cell_lt x1) x1 n os
  have c2 := fun n os => cell_grown (cell_lt h2) h2 n os
  have c3 := fun n os => cell_grown (cell_lt h3) h3 n os
  have c4 := fun n os => cell_grown (cell_lt h4) h4 n os
  have cg := fun n os => cell_grown (cell_lt hg) hg n os
  have hah := fun n os => ahead_grown y e (grow (W.drewN n) os)
  have mixed : Tryz.prog.follows .mixedOrders = true := by kernel_rfl
  clear h2 h3 h4 hg hr hy x0 x1
  show Calls _ _ #[.int .i64 i, .pointer (some ⟨b2, 0, none⟩), .pointer (some ⟨b3, 0, none⟩)] _ _
  go_enter Tryz.func75, Tryz.ntmps75
  go_wp2_with fail
  go_quiet_grown (first | (go_at_call 33; refine Calls.grown_of (hah _ _)))
  go_wp2_with fail
  go_ret
  exact ⟨rfl, nq, osq, rfl⟩
theorem search_calls (b2 b3 g n c : Nat) (A : Option Addr) (l : List En) (e : En) (W : World) (h2 : W.cell? ⟨b2, 0, none⟩ = some (.pointer (some ⟨g, 0, none⟩))) (hg : W.cell? ⟨g, 0, none⟩ = some (.slice A n c))
    (h3 : W.cell? ⟨b3, 0, none⟩ = some (.string e.2)) (h4 : W.cell? ⟨b3, 1, none⟩ = some (.int .i64 e.1)) (hr : RdE W A n c l) (hs : Srt ltS l) (hn : n ≤ 1000000000) :
    Calls Tryz.prog 74 #[.int .i64 n, .func (.func 75) #[] #[.pointer (some ⟨b2, 0, none⟩), .pointer (some ⟨b3, 0, none⟩)]] W fun e' w' => e' = .returned (.int .i64 (posL ltS l e : Nat)) ∧ Below W.heap.size W w' := by
  have hln := rde_len hr
  have hS := Any.sort_Search YtakhcfemakapbaaGreatDoor.searchL 75 #[.pointer (some ⟨b2, 0, none⟩), .pointer (some ⟨b3, 0, none⟩)] n (fun i => decide (posL ltS l e ≤ i)) W
    (enters_of Tryz.func75 (by kernel_rfl) rfl) (by omega)
    (fun m os i hi => by
      obtain ⟨y, hy⟩ : ∃ y, l[i]? = some y := ⟨_, List.getElem?_eq_getElem (by omega)⟩
      have hgr : Below W.heap.size W (grow (W.drewN m) os) := below_grow m os
      have := at1_calls b2 b3 g n c A l e y (grow (W.drewN m) os) (cell_b h2 hgr) (cell_b hg hgr) (cell_b h3 hgr) (cell_b h4 hgr) (hr.below hgr) i hy hn
      refine this.mono ?_
      rintro e' w' ⟨rfl, q, os', rfl⟩
      refine ⟨?_, q, os', rfl⟩
      have := pos_iff hs (e := e) hy
      cases h : bef ltS y e
      · rw [h] at this; simp at this; simp; omega
      · simp [this.1 h])
    (fun a b hab hb h => by simp at h ⊢; omega)
  refine Calls.mono hS ?_
  rintro e' w' ⟨rfl, q, os, rfl⟩
  refine ⟨?_, below_grow q os⟩
  have hle := pos_le (lt := ltS) l e
  have : (List.range n).countP (fun i => !decide (posL ltS l e ≤ i)) = posL ltS l e := by
    refine Lib.countP_boundary _ (List.range n) (posL ltS l e) (by simp; omega) (fun t ht => ?_) (fun t h3 h4 => ?_)
    · rw [getElem!_pos _ t (by simp; omega)]; simp; omega
    · rw [getElem!_pos _ t (by simpa using h4)]; simp; omega
  rw [this]
theorem box_cell (w : World) (v : Value) (T : TypeId) : (w.alloc (.cells #[v] T)).cell? ⟨w.heap.size, 0, none⟩ = some v := by
  have h := heap_alloc_new w (.cells #[v] T)
  unfold World.cell?; simp only [h]; rfl
theorem at_calls (g n c : Nat) (A : Option Addr) (l : List En) (e : En) (W : World) (hg : W.cell? ⟨g, 0, none⟩ = some (.slice A n c)) (hr : RdE W A n c l) (hs : Srt ltS l) (hn : n ≤ 1000000000) :
    Calls Tryz.prog 48 #[.pointer (some ⟨g, 0, none⟩), .agg #[.string e.2, .int .i64 e.1]] W fun e' w' => e' = .returned (.int .i64 (posL ltS l e : Nat)) ∧ Below W.heap.size W w' := by
  obtain ⟨W1, hW1⟩ : ∃ W1, W1 = W.alloc (.cells #[.pointer (some ⟨g, 0, none⟩)] 24) := ⟨_, rfl⟩
  have b1 : Below W.heap.size W W1 := by rw [hW1]; exact al W _
  have b2 : Below W1.heap.size W1 (W1.alloc (eo e)) := al W1 _
  have bb := b1.trans (b2.mono b1.size)
  have h2 : (W1.alloc (eo e)).cell? ⟨W.heap.size, 0, none⟩ = some (.pointer (some ⟨g, 0, none⟩)) := cell_b (by rw [hW1]; exact box_cell W _ _) b2
  have hsz : W1.heap.size = W.heap.size + 1 := by rw [hW1]; simp
  have h34 := eo_cells W1 e
  have hc := search_calls W.heap.size W1.heap.size g n c A l e (W1.alloc (eo e)) h2 (cell_b hg bb) h34.1 h34.2 (hr.below bb) hs hn
  have hgc := cell_b hg bb
  rw [hsz] at hc
  subst hW1
  have HB := Lib.hid bb
  clear b1 b2 bb h34 hsz hg hr
  go_enter Tryz.func48, Tryz.ntmps48
  go_wp2_with fail
  refine hc.mono ?_
  rintro e' w' ⟨rfl, hb⟩
  have HB2 := Lib.hid hb
  clear hb
  go_wp2_with fail
  go_ret
  exact ⟨rfl, HB.out.trans (HB2.out.mono HB.out.size)⟩
end Go.Proofs.YtakhcfemakapbaaGreatDoor.RkK
