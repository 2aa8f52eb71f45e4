/-
  /- Small laws on memory, over any program: a slice of the call's own that grows by one element; bytes into a string. -/
  Rows of bytes of the call's own; num.Fix. Conditions: as stated.
  Numbers and texts laid down behind a row of bytes, by the program and by the document. Conditions: as stated.
  What a value has, laid down: texts, lists, sets. Conditions: as stated.
  Whether what a value has may be: lists and sets. Conditions: as stated.
  Whether what a value has may be: sets and hashes. Conditions: as stated.
-/
import Derived.WalkKit
import Derived.Lib.UnsafeStr
import Derived.Lib.BufferRead
import Derived.Lib.Hide
import Derived.Test.YtgmnnpbbiejbnaaGreatRows
import Derived.Test.YtgmnnpbbiejbnaaGreatMgA
import Derived.Lib.AppendStr
import Derived.IntWalk
import Derived.Laws.Cover1
import Derived.Deep.RegionWith
import Derived.Sort.AtCall
namespace Go.Proofs.YtgmnnpbbiejbnaaGreat.Base
open Go.RowKit

section
variable {P : Program}
theorem wpList_append_one {ops : Array Oper} {rest : List Oper} {o : Oper} {a : Act} {Q : Exit → Act → World → Prop} {w : World} (hgd : o.guard = none) (s x : Operand) (t : TypeId)
    (ho : o.op = .call { callee := .builtin .append, args := #[s, x], argTypes := #[t, t] })
    (B : Nat) (e : TypeId) (i : TypeInfo) (z : Value) (bytes : Nat) (ht : P.underlying t = some (.slice e)) (hi : P.info? e = some i) (hz : i.zero = some z)
    (hsize : i.size = 1) (hby : i.bytes = bytes) (hzs : z.cells.size = 1)
    (v : Value) (n : Nat) (xs : List Value) (hs : a.eval s = v) (hown : w.ownsRow B e 1 v n xs)
    (u : Value) (hu : u.oneCell' = true) (hx : a.eval x = .slice (some ⟨w.heap.size, 0, none⟩) 1 1)
    (h63 : n + 1 ≤ maxLen) (hbytes : (n + 1) * bytes ≤ 140737488355328) (hB : B ≤ w.heap.size)
    (h : ∀ v' w', w'.ownsRow B e 1 v' (n + 1) (xs ++ [u]) → Below B w w' → wpList P ops Q rest (a.put o.dst v') w') :
    wpList P ops Q (o :: rest) a (w.alloc (.cells #[u] e)) := by
  refine wpList_append_own (w.alloc (.cells #[u] e)) hgd s x t ho B e i z 1 bytes ht hi hz hsize hby hzs (by decide) v n xs hs (hown.alloc _) ⟨w.heap.size, 0, none⟩ 1 1 [u] hx rfl ?_ ?_ h63 hbytes (by simp; omega) ?_
  · intro j y hj
    match j, hj with
    | 0, hj => simp at hj; subst hj; simp [Addr.add]
  · intro y hy; rw [List.mem_singleton.1 hy]; exact hu
  · intro v' w' h2 h3 _
    refine h v' w' h2 (((Below.refl B w).alloc hB _).grown h3 (by simp; omega) fun k hk => (hown.lt k hk).1)

/-- 'string(b)' of a row of the call's own, nil or not. -/
theorem convert_own {w : World} {B : Nat} {src e dst : TypeId} {v : Value} {l : List UInt8} (hs : P.underlying src = some (.slice e)) (he : P.underlying e = some (.int .u8)) (hd : P.underlying dst = some .string)
    (h : w.ownsRow B e 1 v l.length (Lib.byteCells l)) : (convert src dst v).run P w = .ok (.string ⟨l.toArray⟩) w := by
  rcases h.2 with ⟨rfl, h0⟩ | ⟨g, cap, cur, rfl, _, hh, _, _, _, ht⟩
  · obtain rfl : l = [] := List.eq_nil_of_length_eq_zero h0
    exact Lib.run_convert_nil_bytes w src dst e 0 hs he hd
  · exact run_convert_bytes_back w src dst e ⟨g, 0, none⟩ cap l hs he hd (Lib.bytes_of_row hh (by simpa using ht))
end
end Go.Proofs.YtgmnnpbbiejbnaaGreat.Base
set_option maxRecDepth 100000
set_option linter.unusedSimpArgs false
set_option linter.unusedVariables false
namespace Go.Proofs.YtgmnnpbbiejbnaaGreat.VaA
open Go.RowKit Go.Proofs.YtgmnnpbbiejbnaaGreat.Mem

theorem elY : El Tryz.prog 63 5 (.int .u8 0) 1 1 := by
  obtain ⟨i, h1, h2, h3, h4⟩ := info_parts (show (Tryz.prog.info? 5).map (fun i => (i.zero, i.size, i.bytes)) = some (some (.int .u8 0), 1, 1) by kernel_rfl)
  exact ⟨Tryz.underlying63, ⟨i, h1, h2, h3, h4⟩, rfl, by decide⟩

/-- A row of bytes of the call's own. -/
abbrev OwnY (w : World) (B : Nat) (v : Value) (l : List UInt8) : Prop := w.ownsRow B 5 1 v l.length (Lib.byteCells l)
theorem byteCells_app (l m : List UInt8) : Lib.byteCells (l ++ m) = Lib.byteCells l ++ Lib.byteCells m := by simp [Lib.byteCells]

/-- The lowest w bytes of n, the lowest first. -/
def le (n w : Nat) : List UInt8 := (List.range w).map fun i => UInt8.ofNat (n / 2 ^ (8 * i))
theorem le_len (n w : Nat) : (le n w).length = w := by simp [le]
theorem le_succ (n w : Nat) : le n (w + 1) = le n w ++ [UInt8.ofNat (n / 2 ^ (8 * w))] := by simp [le, List.range_succ]
theorem own_putY {w : World} {B g n c : Nat} {l : List UInt8} (h : OwnY w B (.slice (some ⟨g, 0, none⟩) n c) l) {j : Nat} (x : UInt8) :
    OwnY (w.setCell ⟨g, j, none⟩ (.int .u8 x.toNat)) B (.slice (some ⟨g, 0, none⟩) n c) (l.set j x) := by
  have hn : l.length = n := own_n h
  have := (World.ownsRow.stored (w := w) (base := B) (e := 5) (size := 1) (g := g) (n := n) (cap := c) (xs := Lib.byteCells l) (by unfold OwnY at h; rw [hn] at h; exact h) j (.int .u8 x.toNat)).1
  unfold OwnY
  rw [List.length_set, hn]
  simpa [Lib.byteCells, List.map_set] using this
theorem own_madeY {w : World} {B n : Nat} {v : Value} (h : w.ownsRow B 5 1 v n (madeCells (Value.int .u8 0).cells (n * 1)).toList) : OwnY w B v (List.replicate n 0) := by
  unfold OwnY
  have e : (madeCells (Value.int .u8 0).cells (n * 1)).toList = Lib.byteCells (List.replicate n 0) := by
    have h1 : ∀ i : Nat, (Value.int .u8 0).cells[i % (Value.int .u8 0).cells.size]! = Value.int .u8 0 := fun i => by
      have h : (Value.int .u8 0).cells = #[Value.int .u8 0] := rfl
      rw [h]
      simp [Nat.mod_one]
    simp [madeCells, Lib.byteCells, h1]
    apply List.ext_getElem?
    intro i
    by_cases hi : i < n <;> simp [hi]
  rw [e] at h
  simpa using h
theorem byte_cast (m : Nat) (k : Nat) : (((UInt8.ofNat (m / 2 ^ k)).toNat : Nat) : Int) = (m : Int) / 2 ^ k % 256 := by
  rw [UInt8.toNat_ofNat']
  simp
/-- What the loop of Fix has made when k rounds are over. -/
def mid (n k w : Nat) : List UInt8 := le n k ++ List.replicate (w - k) 0
theorem mid_len (n k w : Nat) (h : k ≤ w) : (mid n k w).length = w := by simp [mid, le_len]; omega
theorem mid_set (n k w : Nat) (h : k < w) : (mid n k w).set k (UInt8.ofNat (n / 2 ^ (8 * k))) = mid n (k + 1) w := by
  unfold mid
  rw [le_succ, List.set_append_right _ _ (by rw [le_len]; exact Nat.le_refl _), le_len, Nat.sub_self]
  rw [show w - k = (w - (k + 1)) + 1 by omega, List.replicate_succ, List.set_cons_zero]
  simp

set_option maxHeartbeats 1000000 in
theorem fix_calls (n W : Nat) (w : World) (h1 : 1 ≤ W) (h8 : W ≤ 8) (hn : n < 2 ^ (8 * W)) :
    Calls Tryz.prog 52 #[.int .u64 n, .int .i64 W] w fun e w' => e = .returned (.tuple #[.string ⟨(le n W).toArray⟩, .int .i64 0]) ∧ Below w.heap.size w w' := by
  have hz : ((n : Int) / 2 ^ (8 * W)) = 0 := by
    have : ((n : Int) / ((2 ^ (8 * W) : Nat) : Int)) = ((n / 2 ^ (8 * W) : Nat) : Int) := by simp
    rw [Nat.div_eq_of_lt hn] at this
    simpa using this
  obtain ⟨i, HI⟩ := elY.info
  have HI := Lib.hid HI
  go_enter Tryz.func52, Tryz.ntmps52
  go_wp2_with (at_make; refine wpList_make_full _ rfl (.tmp 25) (.tmp 25) 63 rfl w.heap.size 5 i (.int .u8 0) 1 elY.ht HI.out.1 HI.out.2.1 HI.out.2.2.1 .i64 .i64 _ _ W rfl rfl rfl rfl (by rw [HI.out.2.2.2]; omega) (by unfold maxLen; omega) (Nat.le_refl _) ?_; intro w3 o3 g3)
  all_goals (
    have o4 := own_madeY o3
    have b3 := (Only.of_grown g3).below (Nat.le_refl _) (fun b h => by cases h)
    clear o3 g3
    go_loopw [28] (fun i wr => ∃ k : Nat, k ≤ W ∧ i = .int .i64 k ∧ OwnY wr w.heap.size (.slice (some ⟨w.heap.size, 0, none⟩) W W) (mid n k W) ∧ Below w.heap.size w wr) (fun i _ => W - (intOf i).toNat))
  case atStart => exact ⟨0, Nat.zero_le _, rfl, by simpa [mid, le] using o4, b3⟩
  case atStart => exact ⟨0, Nat.zero_le _, rfl, by simpa [mid, le] using o4, b3⟩
  all_goals (
    obtain ⟨k, hk, rfl, ho, hb⟩ := hrel
    by_cases hlt : k < W
    · have ho' := ho
      unfold OwnY at ho'
      rw [mid_len n k W hk] at ho'
      have c0 := World.ownsRow.cellAt ho' k (by omega)
      rw [List.getElem?_eq_getElem (by simpa [Lib.byteCells, mid_len n k W hk] using hlt)] at c0
      have f0 := World.ownsRow.frozenAt ho' k
      clear ho'
      go_wp2_with fail
      refine ⟨⟨k + 1, by omega, by simp, ?_, hb.setCell (p := ⟨w.heap.size, k, none⟩) (Nat.le_refl _) _⟩, by simp [intOf]; omega⟩
      have h := own_putY ho (j := k) (UInt8.ofNat (n / 2 ^ (8 * k)))
      rw [mid_set n k W hlt, byte_cast] at h
      exact h
    · obtain rfl : k = W := by omega
      have hm : mid n k k = le n k := by simp [mid]
      have hcv := Base.convert_own (P := Tryz.prog) (dst := 9) (l := le n k) elY.ht Tryz.underlying5 Tryz.underlying9 (by rw [hm] at ho; exact ho)
      go_wp2_with fail
      go_ret2
      exact ⟨rfl, hb⟩)
end Go.Proofs.YtgmnnpbbiejbnaaGreat.VaA
set_option maxRecDepth 100000
set_option linter.unusedSimpArgs false
set_option linter.unusedVariables false
namespace Go.Proofs.YtgmnnpbbiejbnaaGreat.VaB
open Go.RowKit Go.Proofs.YtgmnnpbbiejbnaaGreat.Mem Go.Proofs.YtgmnnpbbiejbnaaGreat.VaA

theorem Only.mono' {S S' : Nat → Prop} {w w' : World} (h : Only S w w') (hs : ∀ b, b < w.heap.size → S b → S' b) : Only S' w w' := ⟨h.os, h.tape, h.output, h.size, fun b hb hn => h.block b hb (fun x => hn (hs b hb x))⟩
theorem cell_lt {w : World} {q : Addr} {u : Value} (hc : w.cell? q = some u) : q.block < w.heap.size := by
  rcases Nat.lt_or_ge q.block w.heap.size with hlt | hge
  · exact hlt
  · simp [World.cell?, Array.getElem?_eq_none hge] at hc
theorem only_b {S : Nat → Prop} {w w1 w' : World} (h : Only S w w1) (b : Below w1.heap.size w1 w') : Only S w w' := h.trans (Only.of_below b) (fun k hk => .inr (Nat.le_trans h.size hk))
/-- The blocks of bytes from B on. -/
def BB (B : Nat) (w : World) : Nat → Prop := fun k => B ≤ k ∧ ∃ cs fr, w.heap[k]? = some (.cells cs 5 fr)
/-- Nothing of what lay has turned but blocks of bytes from B on. -/
def Fr (B : Nat) (w w' : World) : Prop := Only (BB B w) w w'
section
variable {B : Nat} {w w1 w' : World}
theorem Fr.refl (B : Nat) (w : World) : Fr B w w := Only.refl _ _
theorem Fr.trans (h : Fr B w w1) (k : Fr B w1 w') : Fr B w w' := Only.trans h k (fun b hb => by
  by_cases hlt : b < w.heap.size
  · by_cases hw : BB B w b
    · exact .inl hw
    · have e := Only.block h b hlt hw
      obtain ⟨h1, cs, fr, h2⟩ := hb
      exact .inl ⟨h1, cs, fr, e.symm.trans h2⟩
  · exact .inr (by omega))
theorem Fr.of_below (h : Below w.heap.size w w') : Fr B w w' := Only.mono' (Only.of_below h) (fun b hb hk => absurd hk (by omega))
theorem Fr.own {v : Value} {l : List UInt8} (ho : OwnY w B v l) (h : Only (fun k => v.ownBlock = some k) w w') : Fr B w w' := h.mono (fun b hb => by
  rcases ho.2 with ⟨rfl, _⟩ | ⟨g, cap, cur, rfl, h1, h2, _⟩
  · cases hb
  · injection hb with hb; subst hb; exact ⟨h1, _, _, h2⟩)
theorem Fr.below (h : Fr B w w') (hB : B ≤ w.heap.size) : Below B w w' := Only.below h hB (fun b hb => hb.1)
theorem Fr.heap (h : Fr B w w') {k : Nat} {o : Obj} (hk : w.heap[k]? = some o) (hn : k < B ∨ ∀ cs fr, o ≠ .cells cs 5 fr) : w'.heap[k]? = some o := Only.heap h hk (fun hb => by
  obtain ⟨h1, cs, fr, h2⟩ := hb
  rcases hn with hn | hn
  · omega
  · rw [hk] at h2; injection h2 with h2; exact hn cs fr h2)
theorem Fr.size (h : Fr B w w') : w.heap.size ≤ w'.heap.size := Only.size h
theorem Fr.alloc (h : Fr B w w') (o : Obj) : Fr B w (w'.alloc o) := Only.alloc h o
end
theorem below_new' {B : Nat} {W w w' : World} (h : Below B W w) (k : Below B w w') : Below B W w' := h.trans k
theorem ownb {w w' : World} {B : Nat} {v : Value} {l : List UInt8} (h : OwnY w B v l) (hb : Below w.heap.size w w') : OwnY w' B v l := own_only h (Only.of_below hb) (fun k hk => by have := (h.lt k hk).2; omega)
theorem own_appS {w : World} {B n : Nat} {v : Value} {l : List UInt8} {S : ByteArray} (h : w.ownsRow B 5 1 v (l.length + S.size) (Lib.byteCells l ++ Lib.strCells S)) : OwnY w B v (l ++ S.data.toList) := by
  unfold OwnY
  rw [byteCells_app, List.length_append]
  exact h
/-- append(b, s...). -/
theorem wpList_appS {ops : Array Oper} {rest : List Oper} {o : Oper} {a : Act} {Q : Exit → Act → World → Prop} {w : World} (hgd : o.guard = none) (s x : Operand)
    (ho : o.op = .call { callee := .builtin .append, args := #[s, x], argTypes := #[63, 9] }) (B : Nat) (v : Value) (l : List UInt8) (hs : a.eval s = v) (hown : OwnY w B v l)
    (S : ByteArray) (hx : a.eval x = .string S) (hl : l.length + S.size ≤ 140737488355328) (hB : B ≤ w.heap.size)
    (h : ∀ v' w', OwnY w' B v' (l ++ S.data.toList) → Fr B w w' → wpList Tryz.prog ops Q rest (a.put o.dst v') w') : wpList Tryz.prog ops Q (o :: rest) a w := by
  obtain ⟨i, hi, hz0, hz1, hz2⟩ := elY.info
  refine Lib.wpList_append_own_string w hgd s x _ _ ho B _ i elY.ht Tryz.underlying9 hi hz0 hz1 hz2 v l.length (Lib.byteCells l) hs hown S hx (by unfold maxLen; omega) hl hB ?_
  intro v' w' h1 h2 _
  exact h v' w' (own_appS (n := 0) h1) (Fr.own hown (Only.of_grown h2))
/-- append(b, x) of one byte. -/
theorem wpList_app1Y {ops : Array Oper} {rest : List Oper} {o : Oper} {a : Act} {Q : Exit → Act → World → Prop} {w : World} (hgd : o.guard = none) (s x : Operand)
    (ho : o.op = .call { callee := .builtin .append, args := #[s, x], argTypes := #[63, 63] }) (B : Nat) (v : Value) (l : List UInt8) (hs : a.eval s = v) (hown : OwnY w B v l)
    (c : Int) (y : UInt8) (hy : c = y.toNat) (hx : a.eval x = .slice (some ⟨w.heap.size, 0, none⟩) 1 1) (hl : l.length + 1 ≤ 140737488355328) (hB : B ≤ w.heap.size)
    (h : ∀ v' w', OwnY w' B v' (l ++ [y]) → Below B w w' → wpList Tryz.prog ops Q rest (a.put o.dst v') w') : wpList Tryz.prog ops Q (o :: rest) a (w.alloc (.cells #[.int .u8 c] 5)) := by
  obtain ⟨i, hi, hz0, hz1, hz2⟩ := elY.info
  subst hy
  refine Base.wpList_append_one hgd s x 63 ho B 5 i (.int .u8 0) 1 elY.ht hi hz0 hz1 hz2 rfl v l.length (Lib.byteCells l) hs hown (.int .u8 y.toNat) rfl hx (by unfold maxLen; omega) (by omega) hB ?_
  intro v' w' h1 h2
  refine h v' w' ?_ h2
  unfold OwnY
  rw [byteCells_app, List.length_append]
  exact h1

set_option maxHeartbeats 1000000 in
theorem fixr_calls (n W : Nat) (w : World) (h1 : 1 ≤ W) (h8 : W ≤ 8) (hn : n < 2 ^ (8 * W)) :
    Calls Tryz.prog 57 #[.int .u64 n, .int .i64 W] w fun e w' => e = .returned (.tuple #[.string ⟨(le n W).toArray⟩, .int .i64 0]) ∧ Below w.heap.size w w' := by
  go_enter Tryz.func57, Tryz.ntmps57
  go_wp2_with fail
  go_loopw [0, 6, 7] (fun m v i wr => ∃ k : Nat, k ≤ W ∧ m = .int .u64 ((n / 2 ^ (8 * k) : Nat) : Int) ∧ i = .int .i64 k ∧ OwnY wr w.heap.size v (le n k) ∧ Below w.heap.size w wr) (fun _ _ i _ => W - (intOf i).toNat)
  case atStart => exact ⟨0, Nat.zero_le _, by simp, rfl, World.ownsRow_nil _ _ _ _, Below.refl _ _⟩
  case round =>
    obtain ⟨k, hk, rfl, rfl, ho, hb⟩ := hrel
    obtain ⟨m, hm⟩ : ∃ m, m = n / 2 ^ (8 * k) := ⟨_, rfl⟩
    have hm64 : (m : Int) ≤ 18446744073709551615 := by
      have h1 : n / 2 ^ (8 * k) ≤ n := Nat.div_le_self _ _
      have h2 : 2 ^ (8 * W) ≤ 2 ^ 64 := Nat.pow_le_pow_right (by decide) (by omega)
      have h3 : (2 : Nat) ^ 64 = 18446744073709551616 := rfl
      omega
    rw [← hm]
    by_cases hlt : k < W
    · obtain ⟨A, c, rfl⟩ := own_form ho
      have hlen := le_len n k
      have hm0 : 0 ≤ (m : Int) := Int.natCast_nonneg _
      have HM := Lib.hid hm
      clear hm
      go_wp2_with (at_builtin; refine wpList_app1Y rfl (.tmp 19) (.tmp 23) rfl w.heap.size _ (le n k) rfl ho _ (UInt8.ofNat m) (by rw [UInt8.toNat_ofNat']; simp [Int.tmod_eq_emod_of_nonneg hm0]) rfl (by omega) hb.size ?_; intro v' w' o' b')
      refine ⟨⟨k + 1, by omega, ?_, by simp, ?_, hb.trans b'⟩, by simp [intOf]; omega⟩
      · rw [show 8 * (k + 1) = 8 * k + 8 by omega, Nat.pow_add, ← Nat.div_div_eq_div_mul, ← HM.out]
        first
          | rfl
          | (congr 1; try rw [u64_quo _ _ (by omega)]; omega)
      · rw [le_succ, ← HM.out]; exact o'
    · obtain rfl : k = W := by omega
      obtain rfl : m = 0 := hm.trans (Nat.div_eq_of_lt hn)
      clear hm
      obtain ⟨A, c, rfl⟩ := own_form ho
      have hcv := Base.convert_own (P := Tryz.prog) (dst := 9) (l := le n k) elY.ht Tryz.underlying5 Tryz.underlying9 ho
      go_wp2_with fail
      go_ret2
      exact ⟨rfl, hb⟩

set_option maxHeartbeats 1000000 in
theorem number_calls (B : Nat) (v : Value) (l : List UInt8) (n W : Nat) (w : World) (ho : OwnY w B v l) (h1 : 1 ≤ W) (h8 : W ≤ 8) (hn : n < 2 ^ (8 * W)) (hB : B ≤ w.heap.size) (hl : l.length ≤ 100000000000000) :
    Calls Tryz.prog 152 #[v, .int .u64 n, .int .i64 W] w fun e w' => ∃ v', e = .returned v' ∧ OwnY w' B v' (l ++ le n W) ∧ Fr B w w' := by
  obtain ⟨A, c, rfl⟩ := own_form ho
  go_enter Tryz.func152, Tryz.ntmps152
  go_wp2_with fail
  refine (fix_calls n W w h1 h8 hn).mono ?_
  rintro e w1 ⟨rfl, b1⟩
  have o1 := ownb ho b1
  have hln := le_len n W
  go_wp2_with (at_builtin; refine wpList_appS rfl (.tmp 15) (.tmp 16) rfl B _ l rfl o1 _ rfl (by simp [ByteArray.size, hln]; omega) (Nat.le_trans hB b1.size) ?_; intro v' w' o' b')
  go_ret
  exact ⟨_, rfl, o', (Fr.of_below b1).trans b'⟩
end Go.Proofs.YtgmnnpbbiejbnaaGreat.VaB
set_option maxRecDepth 100000
set_option linter.unusedSimpArgs false
set_option linter.unusedVariables false
namespace Go.Proofs.YtgmnnpbbiejbnaaGreat.VaC
open Go.RowKit Go.Proofs.YtgmnnpbbiejbnaaGreat.Mem Go.Proofs.YtgmnnpbbiejbnaaGreat.VaA Go.Proofs.YtgmnnpbbiejbnaaGreat.VaB

/-- A text behind its length. -/
def putL (s : ByteArray) : List UInt8 := le s.size 4 ++ s.data.toList
theorem putL_len (s : ByteArray) : (putL s).length = 4 + s.size := by simp [putL, le_len]
def encS (l : List ByteArray) : List UInt8 := l.flatMap putL
def encF (l : List (ByteArray × ByteArray)) : List UInt8 := l.flatMap fun f => putL f.1 ++ putL f.2
/-- A number as the machine's word has it. -/
def w64 (n : Int) : Nat := (n % 18446744073709551616).toNat
theorem w64_lt (n : Int) : w64 n < 2 ^ (8 * 8) := by unfold w64; have : (2 : Nat) ^ (8 * 8) = 18446744073709551616 := rfl; omega
def encK (l : List (ByteArray × Int)) : List UInt8 := l.flatMap fun x => le (w64 x.2) 8 ++ putL x.1
def strs (l : List ByteArray) : List Value := l.map .string
def flds (l : List (ByteArray × ByteArray)) : List Value := l.flatMap fun f => [.string f.1, .string f.2]
def rnks (l : List (ByteArray × Int)) : List Value := l.flatMap fun x => [.string x.1, .int .i64 x.2]
abbrev RdS (w : World) (A : Option Addr) (n c : Nat) (l : List ByteArray) : Prop := Rd w 1 A n c (strs l)
abbrev RdF (w : World) (A : Option Addr) (n c : Nat) (l : List (ByteArray × ByteArray)) : Prop := Rd w 2 A n c (flds l)
abbrev RdK (w : World) (A : Option Addr) (n c : Nat) (l : List (ByteArray × Int)) : Prop := Rd w 2 A n c (rnks l)
theorem strs_len (l : List ByteArray) : (strs l).length = l.length := by simp [strs]
theorem two_len {α : Type} (u v : α → Value) (l : List α) : (l.flatMap fun f => [u f, v f]).length = l.length * 2 := by
  induction l with
  | nil => rfl
  | cons x r ih => rw [List.flatMap_cons, List.length_append, ih]; simp; omega
theorem two_get {α : Type} (u v : α → Value) : ∀ (l : List α) (i : Nat) (f : α), l[i]? = some f → (l.flatMap fun f => [u f, v f])[i * 2]? = some (u f) ∧ (l.flatMap fun f => [u f, v f])[i * 2 + 1]? = some (v f)
  | [], i, f, h => by simp at h
  | x :: r, 0, f, h => by simp at h; subst h; simp
  | x :: r, i + 1, f, h => by
    have := two_get u v r i f (by simpa using h)
    rw [List.flatMap_cons, show (i + 1) * 2 = i * 2 + 2 by omega]
    exact this
theorem rds_len {w : World} {A : Option Addr} {n c : Nat} {l : List ByteArray} (h : RdS w A n c l) : l.length = n := by have := h.len; rw [strs_len] at this; omega
theorem rdf_len {w : World} {A : Option Addr} {n c : Nat} {l : List (ByteArray × ByteArray)} (h : RdF w A n c l) : l.length = n := by have := h.len; rw [flds, two_len] at this; omega
theorem rdk_len {w : World} {A : Option Addr} {n c : Nat} {l : List (ByteArray × Int)} (h : RdK w A n c l) : l.length = n := by have := h.len; rw [rnks, two_len] at this; omega
theorem rds_get {w : World} {A : Option Addr} {n c : Nat} {l : List ByteArray} (h : RdS w A n c l) {i : Nat} {s : ByteArray} (hs : l[i]? = some s) : ∃ p, A = some p ∧ w.cell? (p.add i) = some (.string s) := h.get i _ (by simp [strs, hs])
theorem rdf_get {w : World} {A : Option Addr} {n c : Nat} {l : List (ByteArray × ByteArray)} (h : RdF w A n c l) {i : Nat} {f : ByteArray × ByteArray} (hs : l[i]? = some f) :
    ∃ p, A = some p ∧ w.cell? ((p.add (i * 2)).add 0) = some (.string f.1) ∧ w.cell? ((p.add (i * 2)).add 1) = some (.string f.2) := by
  obtain ⟨h1, h2⟩ := two_get (fun f : ByteArray × ByteArray => Value.string f.1) (fun f => Value.string f.2) l i f hs
  obtain ⟨p, rfl, c1⟩ := h.get _ _ h1
  obtain ⟨p', e, c2⟩ := h.get _ _ h2
  injection e with e; subst e
  exact ⟨_, rfl, by rw [add_add]; exact c1, by rw [add_add]; exact c2⟩
theorem rdk_get {w : World} {A : Option Addr} {n c : Nat} {l : List (ByteArray × Int)} (h : RdK w A n c l) {i : Nat} {f : ByteArray × Int} (hs : l[i]? = some f) :
    ∃ p, A = some p ∧ w.cell? ((p.add (i * 2)).add 0) = some (.string f.1) ∧ w.cell? ((p.add (i * 2)).add 1) = some (.int .i64 f.2) := by
  obtain ⟨h1, h2⟩ := two_get (fun f : ByteArray × Int => Value.string f.1) (fun f => Value.int .i64 f.2) l i f hs
  obtain ⟨p, rfl, c1⟩ := h.get _ _ h1
  obtain ⟨p', e, c2⟩ := h.get _ _ h2
  injection e with e; subst e
  exact ⟨_, rfl, by rw [add_add]; exact c1, by rw [add_add]; exact c2⟩
theorem encS_take {l : List ByteArray} {k : Nat} {s : ByteArray} (h : l[k]? = some s) : encS (l.take (k + 1)) = encS (l.take k) ++ putL s := by
  obtain ⟨hk, e⟩ := List.getElem?_eq_some_iff.1 h
  rw [List.take_succ_eq_append_getElem hk, e]; simp [encS]
theorem encF_take {l : List (ByteArray × ByteArray)} {k : Nat} {f : ByteArray × ByteArray} (h : l[k]? = some f) : encF (l.take (k + 1)) = encF (l.take k) ++ (putL f.1 ++ putL f.2) := by
  obtain ⟨hk, e⟩ := List.getElem?_eq_some_iff.1 h
  rw [List.take_succ_eq_append_getElem hk, e]; simp [encF]
theorem encK_take {l : List (ByteArray × Int)} {k : Nat} {f : ByteArray × Int} (h : l[k]? = some f) : encK (l.take (k + 1)) = encK (l.take k) ++ (le (w64 f.2) 8 ++ putL f.1) := by
  obtain ⟨hk, e⟩ := List.getElem?_eq_some_iff.1 h
  rw [List.take_succ_eq_append_getElem hk, e]; simp [encK]
theorem flat_le {α : Type} (f : α → List UInt8) (l : List α) (k : Nat) : ((l.take k).flatMap f).length ≤ (l.flatMap f).length := by
  conv => rhs; rw [← List.take_append_drop k l, List.flatMap_append, List.length_append]
  omega

set_option maxHeartbeats 1000000 in
theorem put_calls (B : Nat) (v : Value) (l : List UInt8) (s : ByteArray) (w : World) (ho : OwnY w B v l) (hB : B ≤ w.heap.size) (hs : s.size ≤ 100000000) (hl : l.length ≤ 10000000000) :
    Calls Tryz.prog 151 #[v, .string s] w fun e w' => ∃ v', e = .returned v' ∧ OwnY w' B v' (l ++ putL s) ∧ Fr B w w' := by
  obtain ⟨A, c, rfl⟩ := own_form ho
  go_enter Tryz.func151, Tryz.ntmps151
  go_wp2_with fail
  refine (number_calls B _ l s.size 4 w ho (by decide) (by decide) (by have : (2 : Nat) ^ (8 * 4) = 4294967296 := rfl; omega) hB (by omega)).mono ?_
  rintro e w1 ⟨v1, rfl, o1, b1⟩
  have hln := le_len s.size 4
  go_wp2_with (at_builtin; refine wpList_appS rfl (.tmp 9) (.tmp 10) rfl B _ _ rfl o1 s rfl (by rw [List.length_append]; omega) (Nat.le_trans hB b1.size) ?_; intro v' w' o' b')
  go_ret
  exact ⟨_, rfl, by rw [putL, ← List.append_assoc]; exact o', b1.trans b'⟩

set_option maxHeartbeats 1000000 in
theorem four_calls (B : Nat) (v : Value) (l : List UInt8) (n : Nat) (w : World) (ho : OwnY w B v l) (hB : B ≤ w.heap.size) (hn : n ≤ 100000000) (hl : l.length ≤ 10000000000) :
    Calls Tryz.prog 84 #[v, .int .i64 n] w fun e w' => ∃ v', e = .returned v' ∧ OwnY w' B v' (l ++ le n 4) ∧ Fr B w w' := by
  obtain ⟨A, c, rfl⟩ := own_form ho
  go_enter Tryz.func84, Tryz.ntmps84
  go_wp2_with fail
  refine (fixr_calls n 4 w (by decide) (by decide) (by have : (2 : Nat) ^ (8 * 4) = 4294967296 := rfl; omega)).mono ?_
  rintro e w1 ⟨rfl, b1⟩
  have o1 := ownb ho b1
  have hln := le_len n 4
  go_wp2_with (at_builtin; refine wpList_appS rfl (.tmp 13) (.tmp 14) rfl B _ l rfl o1 _ rfl (by simp [ByteArray.size, hln]; omega) (Nat.le_trans hB b1.size) ?_; intro v' w' o' b')
  go_ret
  exact ⟨_, rfl, o', (Fr.of_below b1).trans b'⟩
set_option maxHeartbeats 1000000 in
theorem text_calls (B : Nat) (v : Value) (l : List UInt8) (s : ByteArray) (w : World) (ho : OwnY w B v l) (hB : B ≤ w.heap.size) (hs : s.size ≤ 100000000) (hl : l.length ≤ 10000000000) :
    Calls Tryz.prog 83 #[v, .string s] w fun e w' => ∃ v', e = .returned v' ∧ OwnY w' B v' (l ++ putL s) ∧ Fr B w w' := by
  obtain ⟨A, c, rfl⟩ := own_form ho
  go_enter Tryz.func83, Tryz.ntmps83
  go_wp2_with fail
  refine (four_calls B _ l s.size w ho hB hs hl).mono ?_
  rintro e w1 ⟨v1, rfl, o1, b1⟩
  have hln := le_len s.size 4
  go_wp2_with (at_builtin; refine wpList_appS rfl (.tmp 8) (.tmp 9) rfl B _ _ rfl o1 s rfl (by rw [List.length_append]; omega) (Nat.le_trans hB b1.size) ?_; intro v' w' o' b')
  go_ret
  exact ⟨_, rfl, by rw [putL, ← List.append_assoc]; exact o', b1.trans b'⟩
end Go.Proofs.YtgmnnpbbiejbnaaGreat.VaC
set_option maxRecDepth 100000
set_option linter.unusedSimpArgs false
set_option linter.unusedVariables false
namespace Go.Proofs.YtgmnnpbbiejbnaaGreat.VaE
open Go.RowKit Go.Proofs.YtgmnnpbbiejbnaaGreat.Mem Go.Proofs.YtgmnnpbbiejbnaaGreat.VaA Go.Proofs.YtgmnnpbbiejbnaaGreat.VaB Go.Proofs.YtgmnnpbbiejbnaaGreat.VaC

def shortB (s : ByteArray) : Bool := decide (s.size ≤ 1048576)
theorem short_int (s : ByteArray) : decide ((s.size : Int) ≤ 1048576) = shortB s := by unfold shortB; congr 1; simp; omega
theorem take_all {α : Type} {p : α → Bool} {l : List α} {k : Nat} {x : α} (h : l[k]? = some x) (ha : (l.take k).all p = true) (hx : p x = true) : (l.take (k + 1)).all p = true := by
  obtain ⟨hk, e⟩ := List.getElem?_eq_some_iff.1 h
  rw [List.take_succ_eq_append_getElem hk, e, List.all_append, ha]; simp [hx]
theorem not_all {α : Type} {p : α → Bool} {l : List α} {k : Nat} {x : α} (h : l[k]? = some x) (hx : p x = false) : l.all p = false := by
  rw [List.all_eq_false]; exact ⟨x, List.mem_of_getElem? h, by simp [hx]⟩

/-- Each stands ahead of the next. -/
def ris {α : Type} (lt : α → α → Bool) : List α → Bool
  | a :: b :: r => lt a b && ris lt (b :: r)
  | _ => true
theorem ris_iff {α : Type} (lt : α → α → Bool) : ∀ l : List α, ris lt l = true ↔ ∀ j a b, l[j]? = some a → l[j + 1]? = some b → lt a b = true
  | [] => by simp [ris]
  | [x] => by simp [ris]
  | x :: y :: r => by
    rw [ris, Bool.and_eq_true, ris_iff lt (y :: r)]
    constructor
    · rintro ⟨h1, h2⟩ j a b ha hb
      cases j with
      | zero => simp at ha hb; subst ha hb; exact h1
      | succ j => exact h2 j a b (by simpa using ha) (by simpa using hb)
    · intro h
      exact ⟨h 0 x y rfl rfl, fun j a b ha hb => h (j + 1) a b (by simpa using ha) (by simpa using hb)⟩
theorem ris_not {α : Type} {lt : α → α → Bool} {l : List α} {j : Nat} {a b : α} (ha : l[j]? = some a) (hb : l[j + 1]? = some b) (h : lt a b = false) : ris lt l = false := by
  cases hr : ris lt l
  · rfl
  · rw [(ris_iff lt l).1 hr j a b ha hb] at h; cases h
theorem drew2 (w : World) (a b : Nat) : (w.drewN a).drewN b = w.drewN (a + b) := by unfold World.drewN; simp [Nat.add_assoc]
def ltS (a b : ByteArray) : Bool := Op.bytesLess a.toList b.toList
theorem short_calls (s : ByteArray) (w : World) : Calls Tryz.prog 150 #[.string s] w fun e w' => e = .returned (.bool (shortB s)) ∧ w' = w := by
  go_enter Tryz.func150, Tryz.ntmps150
  go_wp2_with fail
  go_ret
  exact ⟨by rw [short_int]; rfl, rfl⟩
theorem long_calls (s : ByteArray) (w : World) : Calls Tryz.prog 157 #[.string s] w fun e w' => e = .returned (.bool (!shortB s)) ∧ w' = w := by
  go_enter Tryz.func157, Tryz.ntmps157
  go_wp2_with fail
  refine (short_calls s w).mono ?_
  rintro e w1 ⟨rfl, rfl⟩
  go_wp2_with fail
  go_ret
  exact ⟨rfl, rfl⟩

set_option maxHeartbeats 1000000 in
theorem index_calls (A : Option Addr) (n c : Nat) (l : List ByteArray) (w : World) (hr : RdS w A n c l) :
    Calls Tryz.prog 158 #[.slice A n c, .func (.func 157) #[] #[]] w fun e w' => (∃ r : Int, e = .returned (.int .i64 r) ∧ (l.all shortB = true ↔ r < 0)) ∧ w' = w := by
  obtain rfl := rds_len hr
  have hcap := hr.cap
  have hbig : c ≤ 9223372036854775807 := hr.big
  go_enter Tryz.func158, Tryz.ntmps158
  go_wp2_with fail
  go_loopw [8] (fun i wr => ∃ k : Nat, k ≤ l.length ∧ i = .int .i64 k ∧ (l.take k).all shortB = true ∧ wr = w) (fun i _ => l.length - (intOf i).toNat)
  case atStart => exact ⟨0, Nat.zero_le _, rfl, rfl, rfl⟩
  case round =>
    obtain ⟨k, hk, rfl, hal, rfl⟩ := hrel
    by_cases hlt : k < l.length
    · obtain ⟨s, hs⟩ : ∃ s, l[k]? = some s := ⟨_, List.getElem?_eq_getElem hlt⟩
      obtain ⟨p, rfl, cp⟩ := rds_get hr hs
      have Hs := Lib.hid hs
      have Ha := Lib.hid hal
      clear hs hal
      go_wp2_with fail
      refine (long_calls s _).mono ?_
      rintro e w1 ⟨rfl, rfl⟩
      cases hsb : shortB s
      · go_wp2_with fail
        go_ret
        exact ⟨⟨_, rfl, by rw [not_all Hs.out hsb]; simp⟩, rfl⟩
      · go_wp2_with fail
        exact ⟨⟨k + 1, by omega, by go_num, take_all Hs.out Ha.out hsb, by first | rfl | trivial⟩, by simp [intOf]; omega⟩
    · obtain rfl : k = l.length := by omega
      rw [List.take_length] at hal
      go_wp2_with fail
      go_ret
      exact ⟨⟨_, rfl, by rw [hal]; simp⟩, rfl⟩
theorem rightL_calls (A : Option Addr) (n c : Nat) (l : List ByteArray) (w : World) (hr : RdS w A n c l) :
    Calls Tryz.prog 154 #[.slice A n c] w fun e w' => e = .returned (.bool (l.all shortB)) ∧ w' = w := by
  go_enter Tryz.func154, Tryz.ntmps154
  go_wp2_with (first
    | (go_at_call 156; go_enter Tryz.func156, Tryz.ntmps156)
    | (go_at_call 158; refine (index_calls A n c l w hr).mono ?_; rintro e w1 ⟨⟨r, rfl, hri⟩, rfl⟩))
  go_ret
  refine ⟨?_, rfl⟩
  have : (!decide (0 ≤ r)) = l.all shortB := by
    cases h : l.all shortB
    · have := mt hri.2 (by rw [h]; decide)
      simp; omega
    · have := hri.1 h
      simp; omega
  rw [← this]
  rfl

set_option maxHeartbeats 1000000 in
theorem valid_calls (A : Option Addr) (n c : Nat) (l : List ByteArray) (w : World) (hr : RdS w A n c l) :
    Calls Tryz.prog 165 #[.slice A n c] w fun e w' => e = .returned (.bool (ris ltS l)) ∧ ∃ nd, w' = w.drewN nd := by
  obtain rfl := rds_len hr
  have hcap := hr.cap
  have hbig : c ≤ 9223372036854775807 := hr.big
  go_enter Tryz.func165, Tryz.ntmps165
  go_wp2_with fail
  go_loopw [3] (fun i wr => ∃ k : Nat, 1 ≤ k ∧ i = .int .i64 k ∧ (∀ j a b, j + 1 < k → l[j]? = some a → l[j + 1]? = some b → ltS a b = true) ∧ ∃ nd, wr = w.drewN nd) (fun i _ => l.length - (intOf i).toNat)
  case atStart => exact ⟨1, Nat.le_refl _, rfl, fun j a b h => by omega, 0, rfl⟩
  case round =>
    obtain ⟨k, hk, rfl, hin, nd, rfl⟩ := hrel
    have Hin := Lib.hid hin
    clear hin
    by_cases hlt : k < l.length
    · obtain ⟨j, hj⟩ : ∃ j, j = k - 1 := ⟨_, rfl⟩
      obtain ⟨s, hs⟩ : ∃ s, l[k]? = some s := ⟨_, List.getElem?_eq_getElem hlt⟩
      obtain ⟨t, ht⟩ : ∃ t, l[j]? = some t := ⟨_, List.getElem?_eq_getElem (by omega)⟩
      obtain ⟨p, rfl, cp⟩ := rds_get hr hs
      obtain ⟨q, e, cq⟩ := rds_get hr ht
      injection e with e; subst e
      have Hs := Lib.hid hs
      have Ht := Lib.hid ht
      have hj2 : j < l.length := by omega
      have hw1 : IntKind.i64.wrap ((k : Int) - 1) = (j : Int) := by rw [Go.IntWalk.i64_in _ (by omega)]; omega
      have Hj := Lib.hid hj
      clear hs ht hj
      cases hb : Op.bytesLess t.toList s.toList
      · go_wp2_with fail
        go_quiet (fail)
        go_wp2_with fail
        go_ret
        exact ⟨by rw [ris_not Ht.out (by rw [Hj.out, Nat.sub_add_cancel hk]; exact Hs.out) hb]; rfl, _, drew2 _ _ _⟩
      · go_wp2_with fail
        go_quiet (fail)
        go_wp2_with fail
        refine ⟨⟨k + 1, by omega, by go_num, ?_, nd + nq, by first | exact drew2 _ _ _ | rfl | (rw [drew2]; done)⟩, by simp [intOf]; omega⟩
        intro i a b hi ha hb'
        by_cases h : i + 1 < k
        · exact Hin.out i a b h ha hb'
        · obtain rfl : i = j := by have := Hj.out; omega
          rw [Ht.out] at ha; injection ha with ha; subst ha
          rw [show i + 1 = k by have := Hj.out; omega, Hs.out] at hb'; injection hb' with hb'; subst hb'
          exact hb
    · go_wp2_with fail
      go_ret
      exact ⟨by rw [(ris_iff ltS l).2 (fun j a b ha hb => Hin.out j a b (by have := (List.getElem?_eq_some_iff.1 hb).1; omega) ha hb)]; rfl, _, rfl⟩
end Go.Proofs.YtgmnnpbbiejbnaaGreat.VaE
set_option maxRecDepth 100000
set_option linter.unusedSimpArgs false
set_option linter.unusedVariables false
namespace Go.Proofs.YtgmnnpbbiejbnaaGreat.VaF
open Go.RowKit Go.Proofs.YtgmnnpbbiejbnaaGreat.Mem Go.Proofs.YtgmnnpbbiejbnaaGreat.VaA Go.Proofs.YtgmnnpbbiejbnaaGreat.VaB Go.Proofs.YtgmnnpbbiejbnaaGreat.VaC Go.Proofs.YtgmnnpbbiejbnaaGreat.VaE

theorem short_q {s : ByteArray} {b : Bool} (h : shortB s = b) (w : World) : Calls Tryz.prog 150 #[.string s] w fun e w' => e = .returned (.bool b) ∧ ∃ n, w' = w.drewN n := by
  subst h
  exact (short_calls s w).mono (fun e w' h => ⟨h.1, 0, h.2⟩)

theorem rightS_calls (A : Option Addr) (n c : Nat) (l : List ByteArray) (w : World) (hr : RdS w A n c l) :
    Calls Tryz.prog 163 #[.slice A n c] w fun e w' => e = .returned (.bool (l.all shortB && ris ltS l)) ∧ ∃ nd, w' = w.drewN nd := by
  go_enter Tryz.func163, Tryz.ntmps163
  go_wp2_with fail
  refine (rightL_calls A n c l w hr).mono ?_
  rintro e w1 ⟨rfl, rfl⟩
  cases hb : l.all shortB
  · go_wp2_with fail
    go_ret
    exact ⟨by rw [show (l.all shortB && ris ltS l) = false by rw [hb]; rfl]; rfl, 0, rfl⟩
  · go_wp2_with fail
    refine (valid_calls A n c l _ hr).mono ?_
    rintro e w2 ⟨rfl, nd, rfl⟩
    go_wp2_with fail
    go_ret
    exact ⟨by rw [show (l.all shortB && ris ltS l) = ris ltS l by rw [hb]; rfl]; rfl, nd, rfl⟩

theorem below_drawn_ {B : Nat} {w w' : World} (h : Below B w w') (n : Nat) : Below B w (w'.drewN n) := h.trans ⟨rfl, rfl, rfl, Nat.le_refl _, fun _ _ => rfl⟩
/-- A hash's entries: short, and rising by their names. -/
def okH (l : List (ByteArray × ByteArray)) : Bool := l.all (fun f => shortB f.1 && shortB f.2) && ris (fun a b => ltS a.1 b.1) l

set_option maxHeartbeats 2000000 in
theorem rightH_calls (A : Option Addr) (n c : Nat) (l : List (ByteArray × ByteArray)) (w : World) (hr : RdF w A n c l) :
    Calls Tryz.prog 160 #[.slice A n c] w fun e w' => e = .returned (.bool (okH l)) ∧ Below w.heap.size w w' := by
  obtain rfl := rdf_len hr
  have hcap := hr.cap
  have hbig : c ≤ 9223372036854775807 := hr.big
  go_enter Tryz.func160, Tryz.ntmps160
  go_wp2_with fail
  go_loopw [7] (fun i wr => ∃ k : Nat, k ≤ l.length ∧ i = .int .i64 k ∧ ((l.take k).all (fun f => shortB f.1 && shortB f.2) = true ∧ ∀ j a b, j + 1 < k → l[j]? = some a → l[j + 1]? = some b → ltS a.1 b.1 = true) ∧ Below w.heap.size w wr) (fun i _ => l.length - (intOf i).toNat)
  case atStart => exact ⟨0, Nat.zero_le _, rfl, ⟨rfl, fun j a b h => by omega⟩, Below.refl _ _⟩
  case round =>
    obtain ⟨k, hk, rfl, hin, hb⟩ := hrel
    have Hin := Lib.hid hin
    clear hin
    by_cases hlt : k < l.length
    · obtain ⟨f, hf⟩ : ∃ f, l[k]? = some f := ⟨_, List.getElem?_eq_getElem hlt⟩
      have hrw := hr.below hb
      obtain ⟨p, rfl, cp0, cp1⟩ := rdf_get hrw hf
      have k0 : wr.cell? (p.add (k * 2)) = some (.string f.1) := cp0
      have k1 : wr.cell? ⟨(p.add (k * 2)).block, (p.add (k * 2)).off + 1, none⟩ = some (.string f.2) := cp1
      have hpb : (p.add (k * 2)).block ≠ wr.heap.size := fun e => by
        have := cell_lt k0; omega
      obtain ⟨b1, h1⟩ : ∃ b1, shortB f.1 = b1 := ⟨_, rfl⟩
      obtain ⟨b2, h2⟩ : ∃ b2, shortB f.2 = b2 := ⟨_, rfl⟩
      have Hf := Lib.hid hf
      have Hb := Lib.hid hb
      clear cp0 cp1 hf hb hrw
      have S1 := fun w => short_q h1 w
      have S2 := fun w => short_q h2 w
      have H1 := Lib.hid h1
      have H2 := Lib.hid h2
      clear h1 h2
      cases b1
      · go_wp2_with fail
        go_quiet (first
          | (go_at_call_has 150 (f.1); exact Calls.quiet_of (S1 _))
          | (go_at_call_has 150 (f.2); exact Calls.quiet_of (S2 _)))
        go_wp2_with fail
        go_ret
        exact ⟨by rw [show okH l = false by unfold okH; rw [not_all Hf.out (by rw [H1.out]; rfl)]; rfl]; rfl, below_drawn_ ((Hb.out).alloc Hb.out.size _) _⟩
      cases b2
      · go_wp2_with fail
        go_quiet (first
          | (go_at_call_has 150 (f.1); exact Calls.quiet_of (S1 _))
          | (go_at_call_has 150 (f.2); exact Calls.quiet_of (S2 _)))
        go_wp2_with fail
        go_ret
        exact ⟨by rw [show okH l = false by unfold okH; rw [not_all Hf.out (by rw [H1.out, H2.out]; rfl)]; rfl]; rfl, below_drawn_ ((Hb.out).alloc Hb.out.size _) _⟩
      rcases Nat.eq_zero_or_pos k with h0 | hpos
      · have hdec : decide (0 < k) = false := by rw [h0]; rfl
        have H0 := Lib.hid h0
        clear h0
        go_wp2_with fail
        go_quiet (first
          | (go_at_call_has 150 (f.1); exact Calls.quiet_of (S1 _))
          | (go_at_call_has 150 (f.2); exact Calls.quiet_of (S2 _)))
        go_wp2_with fail
        refine ⟨⟨k + 1, by omega, by go_num, ⟨take_all Hf.out Hin.out.1 (by rw [H1.out, H2.out]; rfl), ?_⟩, below_drawn_ ((Hb.out).alloc Hb.out.size _) _⟩, by simp [intOf]; omega⟩
        intro i a b hi; have := H0.out; omega
      · obtain ⟨j, hj⟩ : ∃ j, j = k - 1 := ⟨_, rfl⟩
        obtain ⟨t, ht⟩ : ∃ t, l[j]? = some t := ⟨_, List.getElem?_eq_getElem (by omega)⟩
        obtain ⟨q, e, cq0, -⟩ := rdf_get (hr.below Hb.out) ht
        injection e with e; subst e
        have q0 : wr.cell? (p.add (j * 2)) = some (.string t.1) := cq0
        have q1 : (wr.alloc (.cells #[.string f.1, .string f.2] 113)).cell? (p.add (j * 2)) = some (.string t.1) := ((Only.refl (fun _ => False) wr).alloc _).cell q0 id
        have hqb : (p.add (j * 2)).block ≠ wr.heap.size := fun e => by
          have := cell_lt q0; omega
        have hj2 : j < l.length := by omega
        have hp' : (0 : Int) < (k : Int) := by omega
        have hw1 : IntKind.i64.wrap ((k : Int) - 1) = (j : Int) := by rw [Go.IntWalk.i64_in _ (by omega)]; omega
        have Hj := Lib.hid hj
        have Ht := Lib.hid ht
        clear cq0 hj ht
        cases hlt' : Op.bytesLess t.1.toList f.1.toList
        · go_wp2_with fail
          go_quiet (first
            | (go_at_call_has 150 (f.1); exact Calls.quiet_of (S1 _))
            | (go_at_call_has 150 (f.2); exact Calls.quiet_of (S2 _)))
          go_wp2_with fail
          go_ret
          exact ⟨by rw [show okH l = false by unfold okH; rw [ris_not Ht.out (by rw [Hj.out, Nat.sub_add_cancel hpos]; exact Hf.out) hlt', Bool.and_false]]; rfl, below_drawn_ ((Hb.out).alloc Hb.out.size _) _⟩
        · go_wp2_with fail
          go_quiet (first
            | (go_at_call_has 150 (f.1); exact Calls.quiet_of (S1 _))
            | (go_at_call_has 150 (f.2); exact Calls.quiet_of (S2 _)))
          go_wp2_with fail
          refine ⟨⟨k + 1, by omega, by go_num, ⟨take_all Hf.out Hin.out.1 (by rw [H1.out, H2.out]; rfl), ?_⟩, below_drawn_ ((Hb.out).alloc Hb.out.size _) _⟩, by simp [intOf]; omega⟩
          intro i a b hi ha hb'
          by_cases h : i + 1 < k
          · exact Hin.out.2 i a b h ha hb'
          · obtain rfl : i = j := by have := Hj.out; omega
            rw [Ht.out] at ha; injection ha with ha; subst ha
            rw [show i + 1 = k by have := Hj.out; omega, Hf.out] at hb'; injection hb' with hb'; subst hb'
            exact hlt'
    · obtain rfl : k = l.length := by omega
      obtain ⟨h1, h2⟩ := Hin.out
      rw [List.take_length] at h1
      go_wp2_with fail
      go_ret
      refine ⟨?_, hb⟩
      have : okH l = true := by
        unfold okH
        rw [h1, (ris_iff _ l).2 (fun j a b ha hb => h2 j a b (by have := (List.getElem?_eq_some_iff.1 hb).1; omega) ha hb)]; rfl
      rw [this]; rfl
end Go.Proofs.YtgmnnpbbiejbnaaGreat.VaF
