/-
  Numbers and texts laid down behind a row of bytes, by the program and by the document. Conditions: as stated.
-/
import Derived.Test.YtjofbagaobdmoaaGreatVaA
set_option maxRecDepth 100000
set_option linter.unusedSimpArgs false
set_option linter.unusedVariables false
namespace Go.Proofs.YtjofbagaobdmoaaGreat.VaB
open Go.RowKit Go.Proofs.YtjofbagaobdmoaaGreat.Mem Go.Proofs.YtjofbagaobdmoaaGreat.VaA

theorem Only.mono' {S S' : Nat → Prop} {w w' : World} (h : Only S w w') (hs : ∀ b, b < w.heap.size → S b → S' b) : Only S' w w' := ⟨h.os, h.tape, h.output, h.size, fun b hb hn => h.block b hb (fun x => hn (hs b hb x))⟩
theorem cell_lt {w : World} {q : Addr} {u : Value} (hc : w.cell? q = some u) : q.block < w.heap.size := by
  rcases Nat.lt_or_ge q.block w.heap.size with hlt | hge
  · exact hlt
  · simp [World.cell?, Array.getElem?_eq_none hge] at hc
theorem only_b {S : Nat → Prop} {w w1 w' : World} (h : Only S w w1) (b : Below w1.heap.size w1 w') : Only S w w' := h.trans (Only.of_below b) (fun k hk => .inr (Nat.le_trans h.size hk))
/-- The blocks of bytes from B on. -/
def BB (B : Nat) (w : World) : Nat → Prop := fun k => B ≤ k ∧ ∃ cs fr, w.heap[k]? = some (.cells cs 5 fr)
/-- Nothing of what lay has turned but blocks of bytes from B on. -/
def Fr (B : Nat) (w w' : World) : Prop := Only (BB B w) w w'
section
variable {B : Nat} {w w1 w' : World}
theorem Fr.refl (B : Nat) (w : World) : Fr B w w := Only.refl _ _
theorem Fr.trans (h : Fr B w w1) (k : Fr B w1 w') : Fr B w w' := Only.trans h k (fun b hb => by
  by_cases hlt : b < w.heap.size
  · by_cases hw : BB B w b
    · exact .inl hw
    · have e := Only.block h b hlt hw
      obtain ⟨h1, cs, fr, h2⟩ := hb
      exact .inl ⟨h1, cs, fr, e.symm.trans h2⟩
  · exact .inr (by omega))
theorem Fr.of_below (h : Below w.heap.size w w') : Fr B w w' := Only.mono' (Only.of_below h) (fun b hb hk => absurd hk (by omega))
theorem Fr.own {v : Value} {l : List UInt8} (ho : OwnY w B v l) (h : Only (fun k => v.ownBlock = some k) w w') : Fr B w w' := h.mono (fun b hb => by
  rcases ho.2 with ⟨rfl, _⟩ | ⟨g, cap, cur, rfl, h1, h2, _⟩
  · cases hb
  · injection hb with hb; subst hb; exact ⟨h1, _, _, h2⟩)
theorem Fr.below (h : Fr B w w') (hB : B ≤ w.heap.size) : Below B w w' := Only.below h hB (fun b hb => hb.1)
theorem Fr.heap (h : Fr B w w') {k : Nat} {o : Obj} (hk : w.heap[k]? = some o) (hn : k < B ∨ ∀ cs fr, o ≠ .cells cs 5 fr) : w'.heap[k]? = some o := Only.heap h hk (fun hb => by
  obtain ⟨h1, cs, fr, h2⟩ := hb
  rcases hn with hn | hn
  · omega
  · rw [hk] at h2; injection h2 with h2; exact hn cs fr h2)
theorem Fr.size (h : Fr B w w') : w.heap.size ≤ w'.heap.size := Only.size h
theorem Fr.alloc (h : Fr B w w') (o : Obj) : Fr B w (w'.alloc o) := Only.alloc h o
end
theorem below_new' {B : Nat} {W w w' : World} (h : Below B W w) (k : Below B w w') : Below B W w' := h.trans k
theorem ownb {w w' : World} {B : Nat} {v : Value} {l : List UInt8} (h : OwnY w B v l) (hb : Below w.heap.size w w') : OwnY w' B v l := own_only h (Only.of_below hb) (fun k hk => by have := (h.lt k hk).2; omega)
theorem own_appS {w : World} {B n : Nat} {v : Value} {l : List UInt8} {S : ByteArray} (h : w.ownsRow B 5 1 v (l.length + S.size) (Lib.byteCells l ++ Lib.strCells S)) : OwnY w B v (l ++ S.data.toList) := by
  unfold OwnY
  rw [byteCells_app, List.length_append]
  exact h
/-- append(b, s...). -/
theorem wpList_appS {ops : Array Oper} {rest : List Oper} {o : Oper} {a : Act} {Q : Exit → Act → World → Prop} {w : World} (hgd : o.guard = none) (s x : Operand)
    (ho : o.op = .call { callee := .builtin .append, args := #[s, x], argTypes := #[96, 9] }) (B : Nat) (v : Value) (l : List UInt8) (hs : a.eval s = v) (hown : OwnY w B v l)
    (S : ByteArray) (hx : a.eval x = .string S) (hl : l.length + S.size ≤ 140737488355328) (hB : B ≤ w.heap.size)
    (h : ∀ v' w', OwnY w' B v' (l ++ S.data.toList) → Fr B w w' → wpList Tryz.prog ops Q rest (a.put o.dst v') w') : wpList Tryz.prog ops Q (o :: rest) a w := by
  obtain ⟨i, hi, hz0, hz1, hz2⟩ := elY.info
  refine Lib.wpList_append_own_string w hgd s x _ _ ho B _ i elY.ht Tryz.underlying9 hi hz0 hz1 hz2 v l.length (Lib.byteCells l) hs hown S hx (by unfold maxLen; omega) hl hB ?_
  intro v' w' h1 h2 _
  exact h v' w' (own_appS (n := 0) h1) (Fr.own hown (Only.of_grown h2))
/-- append(b, x) of one byte. -/
theorem wpList_app1Y {ops : Array Oper} {rest : List Oper} {o : Oper} {a : Act} {Q : Exit → Act → World → Prop} {w : World} (hgd : o.guard = none) (s x : Operand)
    (ho : o.op = .call { callee := .builtin .append, args := #[s, x], argTypes := #[96, 96] }) (B : Nat) (v : Value) (l : List UInt8) (hs : a.eval s = v) (hown : OwnY w B v l)
    (c : Int) (y : UInt8) (hy : c = y.toNat) (hx : a.eval x = .slice (some ⟨w.heap.size, 0, none⟩) 1 1) (hl : l.length + 1 ≤ 140737488355328) (hB : B ≤ w.heap.size)
    (h : ∀ v' w', OwnY w' B v' (l ++ [y]) → Below B w w' → wpList Tryz.prog ops Q rest (a.put o.dst v') w') : wpList Tryz.prog ops Q (o :: rest) a (w.alloc (.cells #[.int .u8 c] 5)) := by
  obtain ⟨i, hi, hz0, hz1, hz2⟩ := elY.info
  subst hy
  refine Base.wpList_append_one hgd s x 96 ho B 5 i (.int .u8 0) 1 elY.ht hi hz0 hz1 hz2 rfl v l.length (Lib.byteCells l) hs hown (.int .u8 y.toNat) rfl hx (by unfold maxLen; omega) (by omega) hB ?_
  intro v' w' h1 h2
  refine h v' w' ?_ h2
  unfold OwnY
  rw [byteCells_app, List.length_append]
  exact h1

theorem le_div (n k : Nat) : n / 256 ^ k = n / 2 ^ (8 * k) := by rw [Nat.pow_mul]
theorem fixr_byte (n k : Nat) : ((n : Int) / 2 ^ (8 * k)) % 256 = ((UInt8.ofNat (n / 2 ^ (8 * k))).toNat : Int) := (byte_cast n (8 * k)).symm

set_option maxHeartbeats 1000000 in
theorem number_calls (B : Nat) (v : Value) (l : List UInt8) (n W : Nat) (w : World) (ho : OwnY w B v l) (h1 : 1 ≤ W) (h8 : W ≤ 8) (hn : n < 2 ^ (8 * W)) (hB : B ≤ w.heap.size) (hl : l.length ≤ 100000000000000) :
    Calls Tryz.prog 149 #[v, .int .u64 n, .int .i64 W] w fun e w' => ∃ v', e = .returned v' ∧ OwnY w' B v' (l ++ le n W) ∧ Fr B w w' := by
  obtain ⟨A, c, rfl⟩ := own_form ho
  go_enter Tryz.func149, Tryz.ntmps149
  go_wp2_with fail
  refine (fix_calls n W w h1 h8 hn).mono ?_
  rintro e w1 ⟨rfl, b1⟩
  have o1 := ownb ho b1
  have hln := le_len n W
  go_wp2_with (at_builtin; refine wpList_appS rfl (.tmp 15) (.tmp 16) rfl B _ l rfl o1 _ rfl (by simp [ByteArray.size, hln]; omega) (Nat.le_trans hB b1.size) ?_; intro v' w' o' b')
  go_ret
  exact ⟨_, rfl, o', (Fr.of_below b1).trans b'⟩
end Go.Proofs.YtjofbagaobdmoaaGreat.VaB
