/- A row of bytes that the call has made out of a string. -/
import Derived.WalkKit
import Derived.Lib.ConvBytes
import Derived.Lib.UnsafeStr
namespace Go.Proofs.Ytiffdkagmnpjiaa.Bytes
open Go.RowKit

/-- Block g begins with the bytes l; they may be written. -/
def Bts (w : World) (g : Nat) (e : TypeId) (l : List UInt8) : Prop :=
  ∃ cs lo hi, w.heap[g]? = some (.cells cs e (lo, hi)) ∧ l.length ≤ lo ∧ l.length ≤ cs.size ∧ ∀ (j : Nat) (x : UInt8), l[j]? = some x → cs[j]? = some (Value.int .u8 x.toNat)
section
variable {w w' : World} {g : Nat} {e : TypeId} {l : List UInt8} {j : Nat} {x y : UInt8}
theorem Bts.cell (h : Bts w g e l) (hx : l[j]? = some x) : w.cell? ⟨g, j, none⟩ = some (.int .u8 x.toNat) := by
  obtain ⟨cs, lo, hi, hg, _, _, hc⟩ := h
  rw [cell_of_row w g j cs e _ hg]; exact hc j x hx
theorem Bts.free (h : Bts w g e l) (hj : j < l.length) : w.frozen? ⟨g, j, none⟩ = false := by
  obtain ⟨cs, lo, hi, hg, hl, _, _⟩ := h
  simp [World.frozen?, hg]; omega
theorem Bts.put (h : Bts w g e l) (hj : j < l.length) (y : UInt8) : Bts (w.setCell ⟨g, j, none⟩ (.int .u8 y.toNat)) g e (l.set j y) := by
  obtain ⟨cs, lo, hi, hg, hl, hs, hc⟩ := h
  refine ⟨cs.setIfInBounds j (.int .u8 y.toNat), lo, hi, by simp [World.setCell, Array.getElem?_modify, hg], by simpa using hl, by simpa using hs, fun i x hx => ?_⟩
  by_cases hij : j = i
  · subst hij
    rw [List.getElem?_set_self hj] at hx
    injection hx with hx; subst hx
    rw [Array.getElem?_setIfInBounds_self, if_pos (by omega)]
  · rw [List.getElem?_set_ne hij] at hx
    rw [Array.getElem?_setIfInBounds_ne hij]
    exact hc i x hx
theorem Bts.lt (h : Bts w g e l) : g < w.heap.size := by
  obtain ⟨cs, lo, hi, hg, _⟩ := h
  exact (Array.getElem?_eq_some_iff.1 hg).1
theorem Bts.made (w : World) (e : TypeId) (s : ByteArray) : Bts (Lib.bytesWorld w e s) w.heap.size e s.data.toList := by
  refine ⟨_, _, _, Lib.bytesWorld_at_new w e s, by simp [Lib.bytesCells], by simp [Lib.bytesCells], fun j x hx => ?_⟩
  have hj := (List.getElem?_eq_some_iff.1 hx).1
  simp at hj
  have := Lib.bytesWorld_cell w e s j (by simpa using hj)
  rw [cell_of_row _ _ j _ e _ (Lib.bytesWorld_at_new w e s)] at this
  rw [this, List.getD_eq_getElem?_getD, hx]; rfl
theorem below_made (w : World) (e : TypeId) (s : ByteArray) : Below w.heap.size w (Lib.bytesWorld w e s) :=
  ⟨rfl, rfl, rfl, by rw [Lib.bytesWorld_size]; omega, fun k hk => Lib.bytesWorld_at_old w e s k hk⟩
theorem Bts.back {P : Program} (h : Bts w g e l) {src dst : TypeId} (cap : Nat) (hs : P.underlying src = some (.slice e)) (he : P.underlying e = some (.int .u8)) (hd : P.underlying dst = some .string) :
    (convert src dst (.slice (some ⟨g, 0, none⟩) l.length cap)).run P w = .ok (.string ⟨l.toArray⟩) w :=
  run_convert_bytes_back w src dst e ⟨g, 0, none⟩ cap l hs he hd (fun j hj => by
    have := h.cell (List.getElem?_eq_getElem hj)
    rw [show (⟨g, 0, none⟩ : Addr).add j = ⟨g, j, none⟩ by unfold Addr.add; split <;> simp_all]
    exact this)

/-- A letter A to Z as a small one. -/
def lowB (c : UInt8) : UInt8 := if 65 ≤ c.toNat ∧ c.toNat ≤ 90 then c + 32 else c
def lowL (l : List UInt8) : List UInt8 := l.map lowB
theorem low_yes (h1 : (65 : Int) ≤ x.toNat) (h2 : (x.toNat : Int) ≤ 90) : ((lowB x).toNat : Int) = x.toNat + 32 := by
  unfold lowB
  rw [if_pos (by omega), UInt8.toNat_add]
  have : (32 : UInt8).toNat = 32 := rfl
  omega
theorem low_no (h : ¬ ((65 : Int) ≤ x.toNat ∧ (x.toNat : Int) ≤ 90)) : lowB x = x := by
  unfold lowB; rw [if_neg (by omega)]
theorem mid_get (h : l[j]? = some x) : (lowL (l.take j) ++ l.drop j)[j]? = some x := by
  have hj := (List.getElem?_eq_some_iff.1 h).1
  rw [List.getElem?_append_right (by simp [lowL]; omega)]
  simp [lowL]
  rw [show min j l.length = j by omega]; simpa using h
theorem mid_set (h : l[j]? = some x) : (lowL (l.take j) ++ l.drop j).set j (lowB x) = lowL (l.take (j + 1)) ++ l.drop (j + 1) := by
  obtain ⟨hj, e⟩ := List.getElem?_eq_some_iff.1 h
  rw [List.take_succ_eq_append_getElem hj, List.drop_eq_getElem_cons hj, e]
  rw [List.set_append_right _ _ (by simp [lowL]; omega)]
  simp [lowL]
  rw [show min j l.length = j by omega]; simp
theorem mid_len (l : List UInt8) (j : Nat) : (lowL (l.take j) ++ l.drop j).length = l.length := by simp [lowL]; omega
theorem mid_same (h : l[j]? = some x) (hn : lowB x = x) : lowL (l.take j) ++ l.drop j = lowL (l.take (j + 1)) ++ l.drop (j + 1) := by
  rw [← mid_set h, hn]
  apply List.ext_getElem?
  intro i
  by_cases hij : j = i
  · subst hij
    rw [mid_get h, List.getElem?_set_self (by rw [mid_len]; exact (List.getElem?_eq_some_iff.1 h).1)]
  · rw [List.getElem?_set_ne hij]
end
end Go.Proofs.Ytiffdkagmnpjiaa.Bytes
