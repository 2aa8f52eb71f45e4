/-
  Rows of bytes of the call's own; num.Fix. Conditions: as stated.
-/
import Derived.Test.YtjofbagaobdmoaaGreatRows
import Derived.Test.YtjofbagaobdmoaaGreatMem
import Derived.Test.YtjofbagaobdmoaaGreatBase
import Derived.Lib.AppendStr
import Derived.Lib.UnsafeStr
import Derived.Lib.BufferRead
import Derived.Lib.Hide
set_option maxRecDepth 100000
set_option linter.unusedSimpArgs false
set_option linter.unusedVariables false
namespace Go.Proofs.YtjofbagaobdmoaaGreat.VaA
open Go.RowKit Go.Proofs.YtjofbagaobdmoaaGreat.Mem

theorem elY : El Tryz.prog 96 5 (.int .u8 0) 1 1 := by
  obtain ⟨i, h1, h2, h3, h4⟩ := info_parts (show (Tryz.prog.info? 5).map (fun i => (i.zero, i.size, i.bytes)) = some (some (.int .u8 0), 1, 1) by kernel_rfl)
  exact ⟨Tryz.underlying96, ⟨i, h1, h2, h3, h4⟩, rfl, by decide⟩

/-- A row of bytes of the call's own. -/
abbrev OwnY (w : World) (B : Nat) (v : Value) (l : List UInt8) : Prop := w.ownsRow B 5 1 v l.length (Lib.byteCells l)
theorem byteCells_app (l m : List UInt8) : Lib.byteCells (l ++ m) = Lib.byteCells l ++ Lib.byteCells m := by simp [Lib.byteCells]

/-- The lowest w bytes of n, the lowest first. -/
def le (n w : Nat) : List UInt8 := (List.range w).map fun i => UInt8.ofNat (n / 2 ^ (8 * i))
theorem le_len (n w : Nat) : (le n w).length = w := by simp [le]
theorem le_succ (n w : Nat) : le n (w + 1) = le n w ++ [UInt8.ofNat (n / 2 ^ (8 * w))] := by simp [le, List.range_succ]
theorem own_putY {w : World} {B g n c : Nat} {l : List UInt8} (h : OwnY w B (.slice (some ⟨g, 0, none⟩) n c) l) {j : Nat} (x : UInt8) :
    OwnY (w.setCell ⟨g, j, none⟩ (.int .u8 x.toNat)) B (.slice (some ⟨g, 0, none⟩) n c) (l.set j x) := by
  have hn : l.length = n := own_n h
  have := (World.ownsRow.stored (w := w) (base := B) (e := 5) (size := 1) (g := g) (n := n) (cap := c) (xs := Lib.byteCells l) (by unfold OwnY at h; rw [hn] at h; exact h) j (.int .u8 x.toNat)).1
  unfold OwnY
  rw [List.length_set, hn]
  simpa [Lib.byteCells, List.map_set] using this
theorem own_madeY {w : World} {B n : Nat} {v : Value} (h : w.ownsRow B 5 1 v n (madeCells (Value.int .u8 0).cells (n * 1)).toList) : OwnY w B v (List.replicate n 0) := by
  unfold OwnY
  have e : (madeCells (Value.int .u8 0).cells (n * 1)).toList = Lib.byteCells (List.replicate n 0) := by
    have h1 : ∀ i : Nat, (Value.int .u8 0).cells[i % (Value.int .u8 0).cells.size]! = Value.int .u8 0 := fun i => by
      have h : (Value.int .u8 0).cells = #[Value.int .u8 0] := rfl
      rw [h]
      simp [Nat.mod_one]
    simp [madeCells, Lib.byteCells, h1]
    apply List.ext_getElem?
    intro i
    by_cases hi : i < n <;> simp [hi]
  rw [e] at h
  simpa using h
theorem byte_cast (m : Nat) (k : Nat) : (((UInt8.ofNat (m / 2 ^ k)).toNat : Nat) : Int) = (m : Int) / 2 ^ k % 256 := by
  rw [UInt8.toNat_ofNat']
  simp
/-- What the loop of Fix has made when k rounds are over. -/
def mid (n k w : Nat) : List UInt8 := le n k ++ List.replicate (w - k) 0
theorem mid_len (n k w : Nat) (h : k ≤ w) : (mid n k w).length = w := by simp [mid, le_len]; omega
theorem mid_set (n k w : Nat) (h : k < w) : (mid n k w).set k (UInt8.ofNat (n / 2 ^ (8 * k))) = mid n (k + 1) w := by
  unfold mid
  rw [le_succ, List.set_append_right _ _ (by rw [le_len]; exact Nat.le_refl _), le_len, Nat.sub_self]
  rw [show w - k = (w - (k + 1)) + 1 by omega, List.replicate_succ, List.set_cons_zero]
  simp

set_option maxHeartbeats 1000000 in
theorem fix_calls (n W : Nat) (w : World) (h1 : 1 ≤ W) (h8 : W ≤ 8) (hn : n < 2 ^ (8 * W)) :
    Calls Tryz.prog 59 #[.int .u64 n, .int .i64 W] w fun e w' => e = .returned (.tuple #[.string ⟨(le n W).toArray⟩, .int .i64 0]) ∧ Below w.heap.size w w' := by
  have hz : ((n : Int) / 2 ^ (8 * W)) = 0 := by
    have : ((n : Int) / ((2 ^ (8 * W) : Nat) : Int)) = ((n / 2 ^ (8 * W) : Nat) : Int) := by simp
    rw [Nat.div_eq_of_lt hn] at this
    simpa using this
  obtain ⟨i, HI⟩ := elY.info
  have HI := Lib.hid HI
  go_enter Tryz.func59, Tryz.ntmps59
  go_wp2_with (at_make; refine wpList_make_full _ rfl (.tmp 25) (.tmp 25) 96 rfl w.heap.size 5 i (.int .u8 0) 1 elY.ht HI.out.1 HI.out.2.1 HI.out.2.2.1 .i64 .i64 _ _ W rfl rfl rfl rfl (by rw [HI.out.2.2.2]; omega) (by unfold maxLen; omega) (Nat.le_refl _) ?_; intro w3 o3 g3)
  all_goals (
    have o4 := own_madeY o3
    have b3 := (Only.of_grown g3).below (Nat.le_refl _) (fun b h => by cases h)
    clear o3 g3
    go_loopw [28] (fun i wr => ∃ k : Nat, k ≤ W ∧ i = .int .i64 k ∧ OwnY wr w.heap.size (.slice (some ⟨w.heap.size, 0, none⟩) W W) (mid n k W) ∧ Below w.heap.size w wr) (fun i _ => W - (intOf i).toNat))
  case atStart => exact ⟨0, Nat.zero_le _, rfl, by simpa [mid, le] using o4, b3⟩
  case atStart => exact ⟨0, Nat.zero_le _, rfl, by simpa [mid, le] using o4, b3⟩
  all_goals (
    obtain ⟨k, hk, rfl, ho, hb⟩ := hrel
    by_cases hlt : k < W
    · have ho' := ho
      unfold OwnY at ho'
      rw [mid_len n k W hk] at ho'
      have c0 := World.ownsRow.cellAt ho' k (by omega)
      rw [List.getElem?_eq_getElem (by simpa [Lib.byteCells, mid_len n k W hk] using hlt)] at c0
      have f0 := World.ownsRow.frozenAt ho' k
      clear ho'
      go_wp2_with fail
      refine ⟨⟨k + 1, by omega, by simp, ?_, hb.setCell (p := ⟨w.heap.size, k, none⟩) (Nat.le_refl _) _⟩, by simp [intOf]; omega⟩
      have h := own_putY ho (j := k) (UInt8.ofNat (n / 2 ^ (8 * k)))
      rw [mid_set n k W hlt, byte_cast] at h
      exact h
    · obtain rfl : k = W := by omega
      have hm : mid n k k = le n k := by simp [mid]
      have hcv := Base.convert_own (P := Tryz.prog) (dst := 9) (l := le n k) elY.ht Tryz.underlying5 Tryz.underlying9 (by rw [hm] at ho; exact ho)
      go_wp2_with fail
      go_ret2
      exact ⟨rfl, hb⟩)
end Go.Proofs.YtjofbagaobdmoaaGreat.VaA
