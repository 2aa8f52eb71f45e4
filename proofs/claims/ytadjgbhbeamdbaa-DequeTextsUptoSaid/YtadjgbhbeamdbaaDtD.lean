/-
  What slices.Index, slices.Reverse and a Deque's Find hand back and leave. Conditions: as stated.
-/
import Derived.Test.YtadjgbhbeamdbaaDtC
import Derived.BigRegion
set_option maxRecDepth 100000
namespace Go.Proofs.Ytadjgbhbeamdbaa.DtD
open Go.RowKit Go.Proofs.Ytadjgbhbeamdbaa.Mem Go.Proofs.Ytadjgbhbeamdbaa.DtA Go.Proofs.Ytadjgbhbeamdbaa.DtB

/-- The first place of x, or -1. -/
def IsIdx (l : List ByteArray) (x : ByteArray) (r : Int) : Prop := (x ∉ l ∧ r = -1) ∨ ∃ i : Nat, l[i]? = some x ∧ x ∉ l.take i ∧ r = i

theorem rdi_len {w : World} {A : Option Addr} {n c : Nat} {l : List ByteArray} (hr : RdI w A n c l) : l.length = n := by
  have := hr.len; rw [ints_len] at this; simpa using this

set_option maxHeartbeats 1000000 in
theorem index_calls (A : Option Addr) (n c : Nat) (l : List ByteArray) (x : ByteArray) (w : World) (hr : RdI w A n c l) :
    Calls Try.prog 39 #[.slice A n c, .string x] w fun e w' => ∃ r, e = .returned (.int .i64 r) ∧ IsIdx l x r ∧ w = w' := by
  have hl : Hid (l.length = n) := rdi_len hr
  have hn := hr.big
  have hc := hr.cap
  unfold maxLen at hn
  go_enter Try.func39, Try.ntmps39
  go_wp2
  go_loop [8] (fun i => ∃ j : Nat, j ≤ n ∧ i = .int .i64 j ∧ Hid (x ∉ l.take j)) (fun i => n - (intOf i).toNat)
  case atStart => exact ⟨0, Nat.zero_le _, rfl, by simp [Hid]⟩
  case round =>
    obtain ⟨j, h1, rfl, he⟩ := hrel
    by_cases hlt : j < n
    · obtain ⟨y, hy⟩ : ∃ y, l[j]? = some y := ⟨_, List.getElem?_eq_getElem (by rw [hl.out]; exact hlt)⟩
      obtain ⟨p, rfl, c1⟩ := hr.get j (.string y) (by simp [ints, hy])
      have Hy := Lib.hid hy
      clear hy
      by_cases hxy : x = y
      · subst hxy
        go_wp2
        go_ret
        exact ⟨_, rfl, .inr ⟨j, Hy.out, he.out, rfl⟩, rfl⟩
      · have hne : (x.toList == y.toList) = false := tl_ne hxy
        go_wp2
        go_round
        case rel => exact ⟨j + 1, by omega, by go_num, by
          show x ∉ l.take (j + 1)
          rw [List.take_add_one, Hy.out]; simp; exact ⟨he.out, hxy⟩⟩
        case measure => simp [intOf]; omega
    · obtain rfl : j = n := by omega
      go_wp2
      go_ret
      exact ⟨_, rfl, .inl ⟨by have := he.out; rwa [List.take_of_length_le (by rw [hl.out]; omega)] at this, rfl⟩, rfl⟩

/-- Half turned round: the first k and the last k have changed places. -/
def Half (l L : List ByteArray) (k : Nat) : Prop := L.length = l.length ∧ ∀ m, m < l.length → L[m]? = if m < k ∨ l.length - k ≤ m then l[l.length - 1 - m]? else l[m]?
theorem half_start (l : List ByteArray) : Half l l 0 := ⟨rfl, fun m hm => by rw [if_neg (by omega)]⟩
theorem half_step {l L : List ByteArray} {k : Nat} {x y : ByteArray} (h : Half l L k) (hk : k + k + 1 < l.length) (hx : L[k]? = some x) (hy : L[l.length - 1 - k]? = some y) :
    Half l ((L.set k y).set (l.length - 1 - k) x) (k + 1) := by
  obtain ⟨h1, h2⟩ := h
  refine ⟨by simp [h1], fun m hm => ?_⟩
  have e1 : l[k]? = some x := by have := h2 k (by omega); rw [if_neg (by omega)] at this; rw [← this]; exact hx
  have e2 : l[l.length - 1 - k]? = some y := by have := h2 (l.length - 1 - k) (by omega); rw [if_neg (by omega)] at this; rw [← this]; exact hy
  by_cases m1 : m = l.length - 1 - k
  · subst m1
    rw [List.getElem?_set_self (by simp; omega), if_pos (by omega), show l.length - 1 - (l.length - 1 - k) = k by omega, e1]
  · rw [List.getElem?_set_ne (by omega)]
    by_cases m2 : m = k
    · subst m2
      rw [List.getElem?_set_self (by omega), if_pos (by omega), e2]
    · rw [List.getElem?_set_ne (by omega), h2 m hm]
      by_cases c : m < k ∨ l.length - k ≤ m
      · rw [if_pos c, if_pos (by omega)]
      · rw [if_neg c, if_neg (by omega)]
theorem half_end {l L : List ByteArray} {k : Nat} (h : Half l L k) (hk : l.length ≤ k + k + 1) : L = l.reverse := by
  obtain ⟨h1, h2⟩ := h
  apply List.ext_getElem?
  intro m
  by_cases hm : m < l.length
  · rw [List.getElem?_reverse hm, h2 m hm]
    by_cases c : m < k ∨ l.length - k ≤ m
    · rw [if_pos c]
    · rw [if_neg c, show l.length - 1 - m = m by omega]
  · rw [List.getElem?_eq_none (by omega), List.getElem?_eq_none (by simp; omega)]

theorem own_put {w : World} {B g n c : Nat} {l : List ByteArray} (h : OwnI w B (.slice (some ⟨g, 0, none⟩) n c) l) {j : Nat} (x : ByteArray) :
    OwnI (w.setCell ⟨g, j, none⟩ (.string x)) B (.slice (some ⟨g, 0, none⟩) n c) (l.set j x) := by
  have hn : l.length = n := own_n h
  have := (World.ownsRow.stored (w := w) (base := B) (e := 9) (size := 1) (g := g) (n := n) (cap := c) (xs := ints l) (by unfold OwnI at h; rw [hn] at h; exact h) j (.string x)).1
  unfold OwnI
  rw [List.length_set, hn]
  simpa [ints, List.map_set] using this

set_option maxHeartbeats 2000000 in
theorem reverse_calls (B g n c : Nat) (l : List ByteArray) (w : World) (ho : OwnI w B (.slice (some ⟨g, 0, none⟩) n c) l) :
    Calls Try.prog 37 #[.slice (some ⟨g, 0, none⟩) n c] w fun e w' => e = .returned (.tuple #[]) ∧ OwnI w' B (.slice (some ⟨g, 0, none⟩) n c) l.reverse ∧ Only (fun k => k = g) w w' := by
  have hn' : l.length = n := own_n ho
  have hr := Rd.of_own (by unfold OwnI at ho; rw [hn'] at ho; exact ho)
  have hl := Lib.hid hn'
  have hn := hr.big
  have hc := hr.cap
  unfold maxLen at hn
  clear hr hn'
  go_enter Try.func37, Try.ntmps37
  go_wp2
  go_loopw [2, 3] (fun i j wr => ∃ (k : Nat) (L : List ByteArray), k + k ≤ n ∧ i = .int .i64 k ∧ j = .int .i64 ((n : Int) - 1 - k) ∧ OwnI wr B (.slice (some ⟨g, 0, none⟩) n c) L ∧ Half l L k ∧ Only (fun k => k = g) w wr) (fun i _ _ => n - (intOf i).toNat)
  case atStart => exact ⟨0, l, by omega, rfl, by simp, ho, half_start l, Only.refl _ _⟩
  case round =>
    obtain ⟨k, L, h1, rfl, rfl, ho', hH, hO⟩ := hrel
    by_cases hlt : k + k + 1 < n
    · have hL : Hid (L.length = n) := by have := hH.1; rw [hl.out] at this; exact this
      obtain ⟨x, hx⟩ : ∃ x, L[k]? = some x := ⟨_, List.getElem?_eq_getElem (by rw [hL.out]; omega)⟩
      obtain ⟨y, hy⟩ : ∃ y, L[n - 1 - k]? = some y := ⟨_, List.getElem?_eq_getElem (by rw [hL.out]; omega)⟩
      have z1 : ((n : Int) - 1 - k) = ((n - 1 - k : Nat) : Int) := by omega
      rw [z1]
      obtain ⟨q, hq⟩ : ∃ q, q = n - 1 - k := ⟨_, rfl⟩
      rw [← hq] at hy ⊢
      have hqk : k < q := by omega
      have hqn : q < n := by omega
      have Hq := Lib.hid hq
      clear hq z1
      have cx : wr.cell? ⟨g, k, none⟩ = some (.string x) := by
        have := World.ownsRow.cells ho' (g := g) rfl k (.string x) (by simp [ints, hx]); rwa [add_mk, Nat.zero_add] at this
      have cy : wr.cell? ⟨g, q, none⟩ = some (.string y) := by
        have := World.ownsRow.cells ho' (g := g) rfl q (.string y) (by simp [ints, hy]); rwa [add_mk, Nat.zero_add] at this
      have fx : wr.frozen? ⟨g, k, none⟩ = false := World.ownsRow.frozenAt (by unfold OwnI at ho'; rw [hL.out] at ho'; exact ho') k
      have fy : wr.frozen? ⟨g, q, none⟩ = false := World.ownsRow.frozenAt (by unfold OwnI at ho'; rw [hL.out] at ho'; exact ho') q
      have Hx := Lib.hid hx
      have Hy := Lib.hid hy
      clear hx hy
      go_wp2_with fail
      go_region
      go_wp2_with fail
      have hS := half_step hH (by rw [hl.out]; omega) Hx.out (by rw [hl.out, ← Hq.out]; exact Hy.out)
      rw [hl.out, ← Hq.out] at hS
      have hP := own_put (own_put ho' (j := k) y) (j := q) x
      have hq := Hq.out
      refine ⟨⟨k + 1, _, by omega, by go_num, by rw [hq]; congr 1; omega, hP, hS, ((hO.put (p := ⟨g, k, none⟩) (.inl rfl) _).put (p := ⟨g, q, none⟩) (.inl rfl) _).drew⟩, by simp [intOf]; omega⟩
    · go_wp2_with fail
      go_end0
      exact ⟨rfl, by rw [← half_end hH (by rw [hl.out]; omega)]; exact ho', hO⟩
end Go.Proofs.Ytadjgbhbeamdbaa.DtD
