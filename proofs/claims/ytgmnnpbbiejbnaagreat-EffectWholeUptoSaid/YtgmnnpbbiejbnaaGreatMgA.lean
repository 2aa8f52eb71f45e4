/-
  Laws on memory, over any program: slices that read as lists, rows of the call's own, what a step leaves as it was; append. Conditions: as stated.
  Plain laws of a list of (tick, key) in order: no program in sight. Conditions: as stated.
  Laws on memory, over any program, for rows of elements of several cells: copy, clear, put in, taken out, in place. Conditions: as stated.
  What a map of ticks tells of a list of (tick, key). Conditions: as stated.
  Keys in order: numbers and texts; cmp.Compare and before at both. Conditions: as stated.
  Rows of (tick, key): how they lie; before, slices.BinarySearchFunc. Conditions: as stated.
  slices.BinarySearchFunc at such rows. Conditions: as stated.
  slices.Delete of one element of such a row. Conditions: as stated.
  slices.Insert of one element into such a row. Conditions: as stated.
  slices.Insert of one element into such a row, where there is no room; whatever the room. Conditions: as stated.
  An Index at its block; its Due, Len, Next. Conditions: as stated.
  An Index's Drop. Conditions: as stated.
  An Index's Set. Conditions: as stated.
  New; an Index's Peek. Conditions: as stated.
-/
import Derived.WalkKit
import Derived.WalkSpells
import Derived.Maps.AppendAt
import Derived.BigQuiet
import Derived.Lib.Hide
import Derived.Laws.IdiomCopy
import Derived.Laws.NewBlocks
import Derived.Deep.AppendSrc
import Derived.Maps.OwnOps
import Derived.Maps.OwnSet
import Derived.Maps.Views
import Derived.Test.YtgmnnpbbiejbnaaGreatRows
import Derived.Deep.LoopGhost
import Derived.Laws.Cover1
import Derived.Deep.RegionHeld3
import Derived.BigRegion
import Derived.StillTailTactics
import Derived.Deep.RegionLaw
import Derived.Shelf.RegionOpenPlain
import Derived.Shelf.Spec.SlicesInsert
import Derived.Lib.AppendZerosOnto
import Derived.Sort.AtCall
namespace Go.Proofs.YtgmnnpbbiejbnaaGreat.Mem
open Go.RowKit

/-- But for the blocks in S, what was there is as it was. -/
structure Only (S : Nat → Prop) (w w' : World) : Prop where
  os : w'.os = w.os
  tape : w'.tape = w.tape
  output : w'.output = w.output
  size : w.heap.size ≤ w'.heap.size
  block : ∀ k, k < w.heap.size → ¬ S k → w'.heap[k]? = w.heap[k]?

section
variable {S S' : Nat → Prop} {w w' w1 : World}
theorem Only.refl (S : Nat → Prop) (w : World) : Only S w w := ⟨rfl, rfl, rfl, Nat.le_refl _, fun _ _ _ => rfl⟩
theorem Only.trans (h : Only S w w1) (k : Only S' w1 w') (hs : ∀ b, S' b → S b ∨ w.heap.size ≤ b) : Only S w w' :=
  ⟨k.os.trans h.os, k.tape.trans h.tape, k.output.trans h.output, Nat.le_trans h.size k.size, fun b hb hn => (k.block b (Nat.lt_of_lt_of_le hb h.size) (fun x => (hs b x).elim hn (by omega))).trans (h.block b hb hn)⟩
theorem Only.mono (h : Only S w w') (hs : ∀ b, S b → S' b) : Only S' w w' := ⟨h.os, h.tape, h.output, h.size, fun b hb hn => h.block b hb (fun x => hn (hs b x))⟩
theorem Only.drawn (h : Only S w w') (n : Nat) : Only S w (w'.drewN n) := ⟨h.os, h.tape, h.output, h.size, h.block⟩
theorem Only.drew (h : Only S w w') : Only S w w'.drew := ⟨h.os, h.tape, h.output, h.size, h.block⟩
theorem Only.alloc (h : Only S w w') (o : Obj) : Only S w (w'.alloc o) :=
  ⟨h.os, h.tape, h.output, by simp; have := h.size; omega, fun b hb hn => (Below.heap_alloc _ _ _ (Nat.lt_of_lt_of_le hb h.size)).trans (h.block b hb hn)⟩
theorem Only.put (h : Only S w w') {p : Addr} (hp : S p.block ∨ w.heap.size ≤ p.block) (u : Value) : Only S w (w'.setCell p u) :=
  ⟨h.os, h.tape, h.output, by simp [World.setCell, h.size], fun b hb hn => (Below.heap_setCell _ _ _ _ (fun e => by subst e; exact hp.elim hn (by omega))).trans (h.block b hb hn)⟩
theorem Only.below {B : Nat} (h : Only S w w') (hB : B ≤ w.heap.size) (hs : ∀ b, S b → B ≤ b) : Below B w w' :=
  ⟨h.os, h.tape, h.output, h.size, fun k hk => h.block k (by omega) (fun x => by have := hs k x; omega)⟩
theorem Only.after {B : Nat} (h : Only S w1 w') (hb : Below B w w1) (hB : B ≤ w.heap.size) (hs : ∀ b, S b → B ≤ b) : Below B w w' := hb.trans (h.below (Nat.le_trans hB hb.size) hs)
theorem Only.of_below {B : Nat} (h : Below B w w') : Only (fun b => B ≤ b) w w' := ⟨h.os, h.tape, h.output, h.size, fun k _ hn => h.block k (by omega)⟩
theorem Only.of_grown {row : Option Nat} (h : w.grownBy w' row) : Only (fun b => row = some b) w w' := ⟨h.os, h.tape, h.output, h.size, fun k hk hn => h.block k hk (fun e => hn e.symm)⟩
theorem Only.grown {row : Option Nat} (h : Only (fun b => row = some b) w w') : w.grownBy w' row := ⟨h.os, h.tape, h.output, h.size, fun k hk hn => h.block k hk (fun e => hn e.symm)⟩
theorem Only.cell (h : Only S w w') {p : Addr} {v : Value} (hc : w.cell? p = some v) (hn : ¬ S p.block) : w'.cell? p = some v := by
  have hlt : p.block < w.heap.size := by
    rcases Nat.lt_or_ge p.block w.heap.size with hlt | hge
    · exact hlt
    · simp [World.cell?, Array.getElem?_eq_none hge] at hc
  rw [World.cell?_of_block (w := w) (h.block _ hlt hn)]; exact hc
theorem Only.heap (h : Only S w w') {k : Nat} {o : Obj} (hk : w.heap[k]? = some o) (hn : ¬ S k) : w'.heap[k]? = some o :=
  (h.block k (Array.getElem?_eq_some_iff.1 hk).1 hn).trans hk
end

theorem add_block (a : Addr) (n : Nat) : (a.add n).block = a.block := by unfold Addr.add; split <;> rfl
theorem add_add (a : Addr) (i j : Nat) : (a.add i).add j = a.add (i + j) := by
  unfold Addr.add
  by_cases hi : i = 0 <;> by_cases hj : j = 0 <;> simp [hi, hj, Nat.add_assoc]
theorem add_mk (b o n : Nat) : (⟨b, o, none⟩ : Addr).add n = ⟨b, o + n, none⟩ := by
  unfold Addr.add; split <;> simp_all

/-- The slice '.slice A n c' reads as the cells l, sz cells an element. -/
structure Rd (w : World) (sz : Nat) (A : Option Addr) (n c : Nat) (l : List Value) : Prop where
  len : l.length = n * sz
  cap : n ≤ c
  big : c ≤ maxLen
  get : ∀ j x, l[j]? = some x → ∃ ad, A = some ad ∧ w.cell? (ad.add j) = some x

section
variable {w w' : World} {sz n c : Nat} {A : Option Addr} {l : List Value} {S : Nat → Prop}
theorem Rd.nil (w : World) (sz : Nat) : Rd w sz none 0 0 [] := ⟨by simp, Nat.le_refl _, Nat.zero_le _, fun j x h => by simp at h⟩
theorem Rd.some_ (h : Rd w sz A n c l) (hl : l ≠ []) : ∃ ad, A = some ad ∧ ∀ j x, l[j]? = some x → w.cell? (ad.add j) = some x := by
  match l, hl, h with
  | x :: r, _, h =>
    obtain ⟨ad, e, _⟩ := h.get 0 x rfl
    refine ⟨ad, e, fun j y hy => ?_⟩
    obtain ⟨ad', e', hc⟩ := h.get j y hy
    rw [e] at e'; injection e' with e'; subst e'; exact hc
theorem Rd.drawn (h : Rd w sz A n c l) (k : Nat) : Rd (w.drewN k) sz A n c l := ⟨h.len, h.cap, h.big, h.get⟩
theorem Rd.only (h : Rd w sz A n c l) (ho : Only S w w') (hs : ∀ ad, A = some ad → ¬ S ad.block) : Rd w' sz A n c l :=
  ⟨h.len, h.cap, h.big, fun j x hx => by
    obtain ⟨ad, e, hc⟩ := h.get j x hx
    exact ⟨ad, e, ho.cell hc (by rw [add_block]; exact hs ad e)⟩⟩
theorem Rd.lt (h : Rd w sz A n c l) (hl : l ≠ []) : ∃ ad, A = some ad ∧ ad.block < w.heap.size := by
  obtain ⟨ad, e, hc⟩ := h.some_ hl
  refine ⟨ad, e, ?_⟩
  match l, hl, hc with
  | x :: r, _, hc =>
    have := hc 0 x rfl
    rcases Nat.lt_or_ge ad.block w.heap.size with hlt | hge
    · exact hlt
    · have hb := add_block ad 0
      simp [World.cell?, hb, Array.getElem?_eq_none hge] at this
/-- Under 'Below' of the heap's size then, whatever reads reads on. -/
theorem Rd.below (h : Rd w sz A n c l) (hb : Below w.heap.size w w') : Rd w' sz A n c l :=
  ⟨h.len, h.cap, h.big, fun j x hx => by
    obtain ⟨ad, e, hc⟩ := h.get j x hx
    have hlt : (ad.add j).block < w.heap.size := by
      rcases Nat.lt_or_ge (ad.add j).block w.heap.size with hlt | hge
      · exact hlt
      · simp [World.cell?, Array.getElem?_eq_none hge] at hc
    exact ⟨ad, e, (hb.cell hlt).trans hc⟩⟩
theorem Rd.take (h : Rd w sz A n c l) {k : Nat} (hk : k ≤ n) : Rd w sz A k c (l.take (k * sz)) :=
  ⟨by rw [List.length_take, h.len]; exact Nat.min_eq_left (Nat.mul_le_mul_right _ hk), by have := h.cap; omega, h.big, fun j x hx => h.get j x (by
    rw [List.getElem?_take] at hx; split at hx
    · exact hx
    · cases hx)⟩
/-- 's[k:]' as the model has it. -/
theorem Rd.drop (h : Rd w sz A n c l) {k : Nat} (hk : k ≤ n) : Rd w sz (if c = k then A else A.map (·.add (k * sz))) (n - k) (c - k) (l.drop (k * sz)) := by
  refine ⟨by rw [List.length_drop, h.len, Nat.sub_mul], by have := h.cap; omega, by have := h.big; omega, fun j x hx => ?_⟩
  rw [List.getElem?_drop] at hx
  obtain ⟨ad, rfl, hc⟩ := h.get _ x hx
  have hlt := (List.getElem?_eq_some_iff.1 hx).1
  rw [h.len] at hlt
  have hne : c ≠ k := by
    rintro rfl
    have := h.cap
    obtain rfl : n = c := by omega
    omega
  rw [if_neg hne]
  exact ⟨ad.add (k * sz), rfl, by rw [add_add]; exact hc⟩
theorem Rd.of_own {B : Nat} {e : TypeId} (h : w.ownsRow B e sz (.slice A n c) n l) : Rd w sz A n c l := by
  refine ⟨h.1, ?_, ?_, fun j x hx => ?_⟩
  · rcases h.2 with ⟨e1, _⟩ | ⟨g, cap, cur, e1, _, _, h2, _⟩ <;> injection e1 <;> omega
  · rcases h.2 with ⟨e1, _⟩ | ⟨g, cap, cur, e1, _, _, _, h2, _⟩
    · injection e1; unfold maxLen; omega
    · injection e1; omega
  · rcases h.2 with ⟨e1, h0⟩ | ⟨g, cap, cur, e1, _⟩
    · have := h.1; rw [h0] at this; simp at this; subst this; simp at hx
    · injection e1 with e1 _ _; subst e1
      exact ⟨_, rfl, h.cells rfl j x hx⟩
theorem own_n {B m : Nat} {e : TypeId} (h : w.ownsRow B e sz (.slice A n c) m l) : m = n := by
  rcases h.2 with ⟨e, h0⟩ | ⟨g, cap, cur, e, _⟩
  · injection e with _ e2 _; omega
  · injection e with _ e2 _; exact e2.symm
theorem own_form {B : Nat} {e : TypeId} {v : Value} (h : w.ownsRow B e sz v n l) : ∃ A c, v = .slice A n c := by
  rcases h.2 with ⟨rfl, rfl⟩ | ⟨g, cap, cur, rfl, _⟩
  · exact ⟨none, 0, rfl⟩
  · exact ⟨_, _, rfl⟩
theorem own_only {B : Nat} {e : TypeId} {v : Value} (h : w.ownsRow B e sz v n l) (ho : Only S w w') (hs : ∀ k, v.ownBlock = some k → ¬ S k) : w'.ownsRow B e sz v n l := by
  refine ⟨h.1, ?_⟩
  rcases h.2 with h' | ⟨g, cap, cur, rfl, h1, h2, h3⟩
  · exact .inl h'
  · exact .inr ⟨g, cap, cur, rfl, h1, ho.heap h2 (hs g rfl), h3⟩
theorem own_less {B B' : Nat} {e : TypeId} {v : Value} (h : w.ownsRow B e sz v n l) (hB : B' ≤ B) : w.ownsRow B' e sz v n l := by
  refine ⟨h.1, ?_⟩
  rcases h.2 with h' | ⟨g, cap, cur, rfl, h1, h2⟩
  · exact .inl h'
  · exact .inr ⟨g, cap, cur, rfl, by omega, h2⟩
end

/-- A slice type t of elements e, sz cells and so many bytes each, z their zero. -/
structure El (P : Program) (t e : TypeId) (z : Value) (sz bytes : Nat) : Prop where
  ht : P.underlying t = some (.slice e)
  info : ∃ i, P.info? e = some i ∧ i.zero = some z ∧ i.size = sz ∧ i.bytes = bytes
  hz : z.cells.size = sz
  pos : 0 < sz

section
variable {P : Program} {t e : TypeId} {z : Value} {sz bytes : Nat}
/-- append(v, src...), v the call's own. -/
theorem wpList_app {ops : Array Oper} {rest : List Oper} {o : Oper} {a : Act} {Q : Exit → Act → World → Prop} {w : World} (hgd : o.guard = none) (s x : Operand)
    (E : El P t e z sz bytes) (ho : o.op = .call { callee := .builtin .append, args := #[s, x], argTypes := #[t, t] })
    (B : Nat) (v : Value) (n : Nat) (xs : List Value) (hs : a.eval s = v) (hown : w.ownsRow B e sz v n xs)
    (A : Option Addr) (m c : Nat) (ys : List Value) (hx : a.eval x = .slice A m c) (hr : Rd w sz A m c ys) (h1 : ∀ u ∈ ys, u.oneCell' = true)
    (h63 : n + m ≤ maxLen) (hbytes : (n + m) * bytes ≤ 140737488355328) (hB : B ≤ w.heap.size)
    (h : ∀ v' w', w'.ownsRow B e sz v' (n + m) (xs ++ ys) → Only (fun k => v.ownBlock = some k) w w' → (v'.ownBlock = v.ownBlock ∨ v'.ownBlock = some w.heap.size) → wpList P ops Q rest (a.put o.dst v') w') :
    wpList P ops Q (o :: rest) a w := by
  obtain ⟨i, hi, hz0, hz1, hz2⟩ := E.info
  rcases A with _ | ad
  · have hy : ys = [] := by
      rcases hyy : ys with _ | ⟨y, r⟩
      · rfl
      · subst hyy
        obtain ⟨ad, h, _⟩ := hr.get 0 y rfl
        cases h
    subst hy
    have hm : m = 0 := by
      rcases Nat.eq_zero_or_pos m with h0 | h0
      · exact h0
      · have h1 := Nat.mul_pos h0 E.pos
        have h2 := hr.len
        rw [List.length_nil] at h2
        omega
    subst hm
    refine wpList_plain hgd fun K hK => ?_
    have hrun : (Builtin.append_ #[t, t] o.type #[v, .slice none 0 c]).run P w = .ok v w := by
      rcases hown.2 with ⟨rfl, rfl⟩ | ⟨g, cap, cur, rfl, _, _, hnc, _⟩
      · simp [Builtin.append_, run_underlying E.ht, sizeOf, typeInfo, hi, Builtin.lenOf, Builtin.firstCells]
      · simp [Builtin.append_, run_underlying E.ht, sizeOf, typeInfo, hi, Builtin.lenOf, Builtin.firstCells, hnc, storeCells]
    unfold Oper.wp execOp
    simp only [ho, resolve, invoke, builtin, Sem.run_bind, Sem.run_pure, Result.andThen_ok, List.map_toArray, List.map_cons, List.map_nil, hs, hx, hrun]
    exact hK _ _ (h v w (by simpa using hown) (Only.refl _ _) (.inl rfl))
  · have hcells : ∀ j u, ys[j]? = some u → w.cell? (ad.add j) = some u := fun j u hu => by
      obtain ⟨ad', e', hc⟩ := hr.get j u hu
      injection e' with e'; subst e'; exact hc
    exact wpList_append_own_at (P := P) w hgd s x t ho B e i z sz bytes E.ht hi hz0 hz1 hz2 E.hz E.pos v n xs hs hown ad m c ys hx hr.len hcells h1 h63 hbytes hB
      fun v' w' h2 h3 _ h5 => h v' w' h2 (Only.of_grown h3) h5

/-- append(v, u) of one element of one cell. -/
theorem wpList_app1 {ops : Array Oper} {rest : List Oper} {o : Oper} {a : Act} {Q : Exit → Act → World → Prop} {w : World} (hgd : o.guard = none) (s x : Operand)
    (E : El P t e z 1 bytes) (ho : o.op = .call { callee := .builtin .append, args := #[s, x], argTypes := #[t, t] })
    (B : Nat) (v : Value) (n : Nat) (xs : List Value) (hs : a.eval s = v) (hown : w.ownsRow B e 1 v n xs)
    (u : Value) (hu : u.oneCell' = true) (hx : a.eval x = .slice (some ⟨w.heap.size, 0, none⟩) 1 1)
    (h63 : n + 1 ≤ maxLen) (hbytes : (n + 1) * bytes ≤ 140737488355328) (hB : B ≤ w.heap.size)
    (h : ∀ v' w', w'.ownsRow B e 1 v' (n + 1) (xs ++ [u]) → Only (fun k => v.ownBlock = some k) w w' → (v'.ownBlock = v.ownBlock ∨ ∃ k, v'.ownBlock = some k ∧ w.heap.size ≤ k) → wpList P ops Q rest (a.put o.dst v') w') :
    wpList P ops Q (o :: rest) a (w.alloc (.cells #[u] e)) := by
  refine wpList_app hgd s x E ho B v n xs hs (hown.alloc _) (some ⟨w.heap.size, 0, none⟩) 1 1 [u] hx ⟨by simp, Nat.le_refl _, by unfold maxLen; omega, fun j y hy => ⟨_, rfl, cell_one_new w u e j y hy⟩⟩ (fun y hy => by rw [List.mem_singleton.1 hy]; exact hu) h63 hbytes (by simp; omega) ?_
  intro v' w' h2 h3 h4
  refine h v' w' h2 (((Only.refl _ w).alloc _).trans h3 fun b hb => .inl hb) ?_
  rcases h4 with h4 | h4
  · exact .inl h4
  · exact .inr ⟨_, h4, by simp⟩
end
end Go.Proofs.YtgmnnpbbiejbnaaGreat.Mem
set_option linter.unusedSimpArgs false
set_option linter.unusedVariables false
namespace Go.Proofs.YtgmnnpbbiejbnaaGreat.DuA

/-- A strict order of keys. -/
structure Lin {K : Type} (lt : K → K → Bool) : Prop where
  irr : ∀ a, lt a a = false
  tr : ∀ {a b c}, lt a b = true → lt b c = true → lt a c = true
  tot : ∀ {a b}, lt a b = false → a ≠ b → lt b a = true

section
variable {K : Type} (lt : K → K → Bool)
/-- By tick, then by key. -/
def bef (a b : Int × K) : Bool := decide (a.1 < b.1) || (decide (a.1 = b.1) && lt a.2 b.2)
/-- In order, each key once. -/
structure Srt (l : List (Int × K)) : Prop where
  ord : l.Pairwise (fun a b => bef lt a b = true)
  one : (l.map (·.2)).Nodup
def dropL [DecidableEq K] (l : List (Int × K)) (k : K) : List (Int × K) := l.filter (fun e => decide (e.2 ≠ k))
def insL (e : Int × K) : List (Int × K) → List (Int × K)
  | [] => [e]
  | y :: r => if bef lt e y then e :: y :: r else y :: insL e r
def dueL [DecidableEq K] (l : List (Int × K)) (k : K) : Option Int := (l.find? (fun e => decide (e.2 = k))).map (·.1)
/-- How many stand ahead of e. -/
def posL (l : List (Int × K)) (e : Int × K) : Nat := l.countP (fun x => bef lt x e)
def peekN (now : Int) : List (Int × K) → Nat → Nat
  | e :: r, m + 1 => if e.1 ≤ now then peekN now r m + 1 else 0
  | _, _ => 0
variable {lt}

theorem bef_irr (h : Lin lt) (a : Int × K) : bef lt a a = false := by
  simp [bef, h.irr]
theorem bef_tr (h : Lin lt) {a b c : Int × K} (h1 : bef lt a b = true) (h2 : bef lt b c = true) : bef lt a c = true := by
  simp only [bef, Bool.or_eq_true, Bool.and_eq_true, decide_eq_true_eq] at h1 h2 ⊢
  rcases h1 with h1 | ⟨h1, g1⟩ <;> rcases h2 with h2 | ⟨h2, g2⟩
  · exact .inl (by omega)
  · exact .inl (by omega)
  · exact .inl (by omega)
  · exact .inr ⟨by omega, h.tr g1 g2⟩
theorem bef_tot (h : Lin lt) {a b : Int × K} (h1 : bef lt a b = false) (hn : a ≠ b) : bef lt b a = true := by
  obtain ⟨t, k⟩ := a
  obtain ⟨t', k'⟩ := b
  simp only [bef, Bool.or_eq_false_iff, Bool.and_eq_false_imp, decide_eq_false_iff_not, decide_eq_true_eq, Bool.or_eq_true, Bool.and_eq_true] at h1 ⊢
  by_cases ht : t = t'
  · subst ht
    refine .inr ⟨rfl, h.tot (h1.2 rfl) (fun e => hn (by rw [e]))⟩
  · exact .inl (by omega)
theorem bef_asym (h : Lin lt) {a b : Int × K} (h1 : bef lt a b = true) : bef lt b a = false := by
  cases hc : bef lt b a
  · rfl
  · have := bef_tr h h1 hc
    rw [bef_irr h] at this
    cases this

theorem Srt.nil : Srt lt ([] : List (Int × K)) := ⟨.nil, by simp⟩
theorem Srt.drop [DecidableEq K] {l : List (Int × K)} (h : Srt lt l) (k : K) : Srt lt (dropL l k) :=
  ⟨h.ord.filter _, (List.Nodup.sublist (List.filter_sublist.map _) h.one)⟩
theorem drop_not_mem [DecidableEq K] (l : List (Int × K)) (k : K) : k ∉ (dropL l k).map (·.2) := by
  intro h
  obtain ⟨e, he, rfl⟩ := List.mem_map.1 h
  have := (List.mem_filter.1 he).2
  simp at this
theorem drop_id [DecidableEq K] {l : List (Int × K)} {k : K} (h : k ∉ l.map (·.2)) : dropL l k = l := by
  unfold dropL
  rw [List.filter_eq_self]
  intro e he
  exact decide_eq_true (fun e' => h (e' ▸ List.mem_map_of_mem he))
theorem drop_len [DecidableEq K] (l : List (Int × K)) (k : K) : (dropL l k).length ≤ l.length := List.length_filter_le _ _

theorem due_none [DecidableEq K] {l : List (Int × K)} {k : K} : dueL l k = none ↔ k ∉ l.map (·.2) := by
  unfold dueL
  rw [Option.map_eq_none_iff, List.find?_eq_none]
  simp only [decide_eq_true_eq, List.mem_map, not_exists, not_and]
theorem due_some [DecidableEq K] {l : List (Int × K)} (hn : (l.map (·.2)).Nodup) {k : K} {t : Int} : dueL l k = some t ↔ (t, k) ∈ l := by
  induction l with
  | nil => simp [dueL]
  | cons y r ih =>
    obtain ⟨t', k'⟩ := y
    rw [List.map_cons, List.nodup_cons] at hn
    unfold dueL at ih ⊢
    by_cases hk : k' = k
    · subst hk
      simp only [List.find?_cons, decide_true, Option.map_some, Option.some.injEq, List.mem_cons, Prod.mk.injEq, and_true]
      constructor
      · exact fun h => .inl h.symm
      · rintro (h | h)
        · exact h.symm
        · exact absurd (List.mem_map_of_mem (f := fun e : Int × K => e.2) h) hn.1
    · simp only [List.find?_cons, hk, decide_false, List.mem_cons, Prod.mk.injEq]
      rw [ih hn.2]
      constructor
      · exact fun h => .inr h
      · rintro (h | h)
        · exact absurd h.2.symm hk
        · exact h
/-- The place at which it stands. -/
theorem pos_at [DecidableEq K] (h : Lin lt) : ∀ {l : List (Int × K)} {e : Int × K}, Srt lt l → e ∈ l → l[posL lt l e]? = some e ∧ dropL l e.2 = l.take (posL lt l e) ++ l.drop (posL lt l e + 1)
  | y :: r, e, hs, hm => by
    have ho := List.pairwise_cons.1 hs.ord
    have hn := hs.one
    rw [List.map_cons, List.nodup_cons] at hn
    rcases List.mem_cons.1 hm with rfl | hm
    · have h0 : posL lt (e :: r) e = 0 := by
        unfold posL
        rw [List.countP_eq_zero]
        intro x hx
        rcases List.mem_cons.1 hx with rfl | hx
        · simp [bef_irr h]
        · simp [bef_asym h (ho.1 x hx)]
      rw [h0]
      refine ⟨rfl, ?_⟩
      have : dropL (e :: r) e.2 = dropL r e.2 := by unfold dropL; rw [List.filter_cons_of_neg (by simp)]
      rw [this, drop_id hn.1]
      simp
    · have hb := ho.1 e hm
      have h1 : posL lt (y :: r) e = posL lt r e + 1 := by unfold posL; rw [List.countP_cons_of_pos (p := fun x => bef lt x e) hb]
      obtain ⟨i1, i2⟩ := pos_at h (l := r) (e := e) ⟨ho.2, hn.2⟩ hm
      rw [h1]
      refine ⟨by simpa using i1, ?_⟩
      have hne : y.2 ≠ e.2 := fun e' => hn.1 (e' ▸ List.mem_map_of_mem hm)
      have : dropL (y :: r) e.2 = y :: dropL r e.2 := by unfold dropL; rw [List.filter_cons_of_pos (by simpa using hne)]
      rw [this, i2]
      simp
theorem pos_le (l : List (Int × K)) (e : Int × K) : posL lt l e ≤ l.length := List.countP_le_length
/-- Where it goes. -/
theorem ins_at (h : Lin lt) : ∀ {l : List (Int × K)} {e : Int × K}, Srt lt l → e ∉ l → insL lt e l = l.take (posL lt l e) ++ e :: l.drop (posL lt l e)
  | [], e, _, _ => rfl
  | y :: r, e, hs, hm => by
    have ho := List.pairwise_cons.1 hs.ord
    have hn := hs.one
    rw [List.map_cons, List.nodup_cons] at hn
    unfold insL
    by_cases hb : bef lt e y = true
    · rw [if_pos hb]
      have h0 : posL lt (y :: r) e = 0 := by
        unfold posL
        rw [List.countP_eq_zero]
        intro x hx
        rcases List.mem_cons.1 hx with rfl | hx
        · simp [bef_asym h hb]
        · simp [bef_asym h (bef_tr h hb (ho.1 x hx))]
      rw [h0]
      simp
    · rw [if_neg hb]
      have hb' := bef_tot h (by simpa using hb) (fun e' => hm (by rw [e']; exact List.mem_cons_self))
      have h1 : posL lt (y :: r) e = posL lt r e + 1 := by unfold posL; rw [List.countP_cons_of_pos (p := fun x => bef lt x e) hb']
      rw [h1, ins_at h ⟨ho.2, hn.2⟩ (fun hx => hm (List.mem_cons_of_mem _ hx))]
      simp
theorem ins_mem {e x : Int × K} : ∀ {l : List (Int × K)}, x ∈ insL lt e l ↔ x = e ∨ x ∈ l
  | [] => by simp [insL]
  | y :: r => by
    unfold insL
    split
    · simp
    · rw [List.mem_cons, ins_mem, List.mem_cons]
      constructor
      · rintro (h | h | h)
        · exact .inr (.inl h)
        · exact .inl h
        · exact .inr (.inr h)
      · rintro (h | h | h)
        · exact .inr (.inl h)
        · exact .inl h
        · exact .inr (.inr h)
theorem ins_len (e : Int × K) : ∀ l : List (Int × K), (insL lt e l).length = l.length + 1
  | [] => rfl
  | y :: r => by unfold insL; split <;> simp [ins_len]
theorem Srt.ins (h : Lin lt) {e : Int × K} : ∀ {l : List (Int × K)}, Srt lt l → e.2 ∉ l.map (·.2) → Srt lt (insL lt e l)
  | [], _, _ => ⟨by simp [insL], by simp [insL]⟩
  | y :: r, hs, hm => by
    have ho := List.pairwise_cons.1 hs.ord
    have hn := hs.one
    have hm' := hm
    rw [List.map_cons, List.nodup_cons] at hn
    rw [List.map_cons, List.mem_cons, not_or] at hm
    unfold insL
    split
    case isTrue hb =>
      refine ⟨List.pairwise_cons.2 ⟨fun x hx => ?_, hs.ord⟩, by rw [List.map_cons, List.nodup_cons]; exact ⟨hm', hs.one⟩⟩
      rcases List.mem_cons.1 hx with rfl | hx
      · exact hb
      · exact bef_tr h hb (ho.1 x hx)
    case isFalse hb =>
      have hb' := bef_tot h (by simpa using hb) (fun e' => hm.1 (by rw [e']))
      have ih := Srt.ins h (e := e) (l := r) ⟨ho.2, hn.2⟩ hm.2
      refine ⟨List.pairwise_cons.2 ⟨fun x hx => ?_, ih.ord⟩, ?_⟩
      · rcases ins_mem.1 hx with rfl | hx
        · exact hb'
        · exact ho.1 x hx
      · rw [List.map_cons, List.nodup_cons]
        refine ⟨fun hx => ?_, ih.one⟩
        obtain ⟨z, hz, e'⟩ := List.mem_map.1 hx
        rcases ins_mem.1 hz with rfl | hz
        · exact hm.1 e'
        · exact hn.1 (e' ▸ List.mem_map_of_mem hz)
/-- The document's placing: by one test a step. -/
theorem due_ins [DecidableEq K] (h : Lin lt) {l : List (Int × K)} {e : Int × K} (hs : Srt lt l) (hm : e.2 ∉ l.map (·.2)) (k : K) : dueL (insL lt e l) k = if k = e.2 then some e.1 else dueL l k := by
  have hi := hs.ins h hm
  by_cases hk : k = e.2
  · rw [if_pos hk, due_some hi.one, ins_mem]
    exact .inl (by rw [hk])
  · rw [if_neg hk]
    cases hd : dueL l k with
    | none =>
      rw [due_none] at hd ⊢
      intro hx
      obtain ⟨z, hz, e'⟩ := List.mem_map.1 hx
      rcases ins_mem.1 hz with rfl | hz
      · exact hk e'.symm
      · exact hd (e' ▸ List.mem_map_of_mem hz)
    | some t =>
      rw [due_some hs.one] at hd
      rw [due_some hi.one, ins_mem]
      exact .inr hd
theorem due_drop [DecidableEq K] {l : List (Int × K)} (hn : (l.map (·.2)).Nodup) (k k' : K) : dueL (dropL l k) k' = if k' = k then none else dueL l k' := by
  have hn' : ((dropL l k).map (·.2)).Nodup := List.Nodup.sublist (List.filter_sublist.map _) hn
  by_cases hk : k' = k
  · rw [if_pos hk, due_none, hk]
    exact drop_not_mem l k
  · rw [if_neg hk]
    cases hd : dueL l k' with
    | none =>
      rw [due_none] at hd ⊢
      intro hx
      obtain ⟨z, hz, e'⟩ := List.mem_map.1 hx
      exact hd (e' ▸ List.mem_map_of_mem (List.mem_filter.1 hz).1)
    | some t =>
      rw [due_some hn] at hd
      rw [due_some hn']
      exact List.mem_filter.2 ⟨hd, by simpa using hk⟩
/-- The first so many keys whose tick is not above now. -/
def peekL (l : List (Int × K)) (now most : Int) : List K := (l.take (peekN now l most.toNat)).map (·.2)
end
end Go.Proofs.YtgmnnpbbiejbnaaGreat.DuA
set_option linter.unusedSimpArgs false
set_option linter.unusedVariables false
namespace Go.Proofs.YtgmnnpbbiejbnaaGreat.DuM
open Go Go.RowKit Go.Proofs.YtgmnnpbbiejbnaaGreat.Mem

theorem heap_setCells {g : Nat} {e : TypeId} : ∀ (ys : List Value) (o : Nat) {w : World} {cur : Array Value}, w.heap[g]? = some (.cells cur e (0, 0)) → o + ys.length ≤ cur.size →
    ∃ cur', (w.setCells g o ys).heap[g]? = some (.cells cur' e (0, 0)) ∧ cur'.size = cur.size ∧ cur'.toList = cur.toList.take o ++ ys ++ cur.toList.drop (o + ys.length)
  | [], o, w, cur, h, _ => ⟨cur, h, rfl, by simp⟩
  | v :: r, o, w, cur, h, hl => by
    rw [List.length_cons] at hl
    obtain ⟨cur', h1, h2, h3⟩ := heap_setCells r (o + 1) (w := w.setCell ⟨g, o, none⟩ v) (heap_setCell_same w g o _ _ v h) (by simp; omega)
    refine ⟨cur', h1, by simpa using h2, ?_⟩
    rw [h3]
    have hlt : o < cur.toList.length := by simp; omega
    simp only [Array.toList_setIfInBounds]
    rw [List.drop_set_of_lt (by omega), List.take_set]
    rw [List.take_succ_eq_append_getElem hlt, List.set_append_right _ _ (by simp; omega)]
    simp [show min o cur.size = o by omega]; omega
theorem only_puts {S : Nat → Prop} {w0 : World} (b : Nat) (hb : S b ∨ w0.heap.size ≤ b) : ∀ (vs : List Value) (o : Nat) {w : World}, Only S w0 w → Only S w0 (w.setCells b o vs)
  | [], _, _, h => h
  | v :: r, o, w, h => only_puts b hb r (o + 1) (w := w.setCell ⟨b, o, none⟩ v) (h.put (p := ⟨b, o, none⟩) hb v)
theorem block_cell {w : World} {g j : Nat} {e : TypeId} {cur : Array Value} (h : w.heap[g]? = some (.cells cur e (0, 0))) (hj : j < cur.size) : w.cell? ⟨g, j, none⟩ = some cur[j] := by simp [World.cell?, h, hj]
theorem block_free {w : World} {g j : Nat} {e : TypeId} {cur : Array Value} (h : w.heap[g]? = some (.cells cur e (0, 0))) : w.frozen? ⟨g, j, none⟩ = false := by simp [World.frozen?, h]

section
variable {P : Program}
/-- ALL IS READ BEFORE ANYTHING IS WRITTEN. -/
theorem run_copyN (w : World) (dT sT ty elem : TypeId) (sz b o dLen dCap : Nat) (a : Addr) (sLen sCap : Nat) (cs : List Value)
    (hu : P.underlying dT = some (.slice elem)) (hs : (P.info? elem).map (·.size) = some sz) (k : Nat) (hk : Nat.min sLen dLen = k) (hn : cs.length = k * sz)
    (hsrc : ∀ j v, cs[j]? = some v → w.cell? (a.add j) = some v) (hc : ∀ j, j < cs.length → (w.cell? ⟨b, o + j, none⟩).isSome = true) (hf : ∀ j, j < cs.length → w.frozen? ⟨b, o + j, none⟩ = false) (h1 : ∀ v ∈ cs, v.oneCell' = true) :
    (Builtin.copy_ #[dT, sT] ty #[.slice (some ⟨b, o, none⟩) dLen dCap, .slice (some a) sLen sCap]).run P w = .ok (goInt k) (w.setCells b o cs) := by
  have hl := run_loadCells_list (P := P) w a cs hsrc
  have hst := run_storeCells_cells (P := P) b o cs 0 w (by simpa using hc) (by simpa using hf) h1
  cases hq : P.info? elem with
  | none => simp [hq] at hs
  | some i =>
    have hi : i.size = sz := by simpa [hq] using hs
    rw [hn] at hl
    simp [Builtin.copy_, run_underlying hu, Builtin.lenOf, Builtin.firstCells, sizeOf, typeInfo, hq, hi, hk, hl, hst]
/-- clear of a piece of a row. -/
theorem run_clearN (w : World) (t e ty : TypeId) (z : Value) (ht : P.underlying t = some (.slice e)) (hv : ∀ w, (zeroValue e).run P w = .ok z w) (b o n c : Nat) (hn : 0 < n) (zs : List Value) (hzs : (Builtin.zeroCells z.cells n).toList = zs)
    (h1 : ∀ v ∈ zs, v.oneCell' = true)
    (hc : ∀ j, j < zs.length → (w.cell? ⟨b, o + j, none⟩).isSome = true) (hf : ∀ j, j < zs.length → w.frozen? ⟨b, o + j, none⟩ = false) :
    (Builtin.clear_ #[t] ty #[.slice (some ⟨b, o, none⟩) n c]).run P w = .ok (.tuple #[]) (w.setCells b o zs) := by
  have hst := run_storeCells_cells (P := P) b o zs 0 w (by simpa using hc) (by simpa using hf) h1
  simp only [Nat.add_zero] at hst
  obtain ⟨m, rfl⟩ : ∃ m, n = m + 1 := ⟨n - 1, by omega⟩
  simp [Builtin.clear_, run_underlying ht, hv, hzs, hst]
end
/-- A call as one step of a region that draws. -/
theorem step_enter {P : Program} {ops : Array Oper} {o : Oper} {a : Act} {w : World} {K : Act → World → Prop} {Q : Exit → Act → World → Prop} {E : Prop} (hgd : o.guard = none)
    (f : FuncId) (args : Array Value) (hx : (execOp a.eval o).run P w = .ok (.enter f args) w) (h : Calls P f args w fun e w' => ∃ v, e = .returned v ∧ K (a.put o.dst v) w') : if Region.wanted o (yielded ops a.tmps) = true then Oper.wp P o a w K Q else E := by
  have hw : Region.wanted o (yielded ops a.tmps) = true := by simp [Region.wanted, hgd]
  rw [if_pos hw]
  unfold Oper.wp
  rw [hx, Oper.upon_enter]
  refine h.mono ?_
  rintro e w' ⟨v, rfl, hK⟩
  exact hK
end Go.Proofs.YtgmnnpbbiejbnaaGreat.DuM
set_option linter.unusedSimpArgs false
set_option linter.unusedVariables false
namespace Go.Proofs.YtgmnnpbbiejbnaaGreat.DuN
open Go.Proofs.YtgmnnpbbiejbnaaGreat.DuA
abbrev Dt := DataW (TypeId × Value)

/-- How a key lies in a map. -/
structure KeyC {K : Type} (kl : K → Lit) : Prop where
  inj : ∀ {a b}, kl a = kl b → a = b
  ok : ∀ a, WideAt.IsKeyLit (kl a)
/-- The map tells each key's tick. -/
structure Tells {K : Type} [DecidableEq K] (kl : K → Lit) (D : Dt) (l : List (Int × K)) : Prop where
  is : ∀ k, Maps.has D (kl k) = (dueL l k).isSome
  at_ : ∀ k, D.atKey (kl k) (.lit (.int .i64 0)) = .lit (.int .i64 ((dueL l k).getD 0))

theorem Tells.nil {K : Type} [DecidableEq K] (kl : K → Lit) : Tells kl (.map []) [] := ⟨fun k => rfl, fun k => rfl⟩
theorem Tells.put {K : Type} [DecidableEq K] {kl : K → Lit} (C : KeyC kl) {lt : K → K → Bool} (h : Lin lt) {D : Dt} (hD : Maps.IsMap D) {l : List (Int × K)} (hs : Srt lt l) (hT : Tells kl D l) (k : K) (t : Int) (hm : k ∉ l.map (·.2)) :
    Tells kl (D.put (kl k) (.lit (.int .i64 t))) (insL lt (t, k) l) := by
  refine ⟨fun k' => ?_, fun k' => ?_⟩
  · rw [due_ins h hs hm]
    by_cases e : k' = k
    · subst e; rw [Maps.has_put_same hD (C.ok _), if_pos rfl]; rfl
    · rw [Maps.has_put_other (fun e' => e (C.inj e')), if_neg e]; exact hT.is k'
  · rw [due_ins h hs hm]
    by_cases e : k' = k
    · subst e; rw [Maps.atKey_put_same hD (C.ok _), if_pos rfl]; rfl
    · rw [Maps.atKey_put_other (fun e' => e (C.inj e')), if_neg e]; exact hT.at_ k'
theorem Tells.del {K : Type} [DecidableEq K] {kl : K → Lit} (C : KeyC kl) {D : Dt} {l : List (Int × K)} (hn : (l.map (·.2)).Nodup) (hT : Tells kl D l) (k : K) : Tells kl (D.del (kl k)) (dropL l k) := by
  refine ⟨fun k' => ?_, fun k' => ?_⟩
  · rw [due_drop hn]
    by_cases e : k' = k
    · subst e; rw [Maps.has_del_same, if_pos rfl]; rfl
    · rw [Maps.has_del_other (fun e' => e (C.inj e')), if_neg e]; exact hT.is k'
  · rw [due_drop hn]
    by_cases e : k' = k
    · subst e; rw [Maps.atKey_del_same, if_pos rfl]; rfl
    · rw [Maps.atKey_del_other (fun e' => e (C.inj e')), if_neg e]; exact hT.at_ k'
end Go.Proofs.YtgmnnpbbiejbnaaGreat.DuN
set_option maxRecDepth 100000
set_option linter.unusedSimpArgs false
set_option linter.unusedVariables false
namespace Go.Proofs.YtgmnnpbbiejbnaaGreat.DuB
open Go.RowKit Go.Proofs.YtgmnnpbbiejbnaaGreat.Mem Go.Proofs.YtgmnnpbbiejbnaaGreat.DuA Go.Proofs.YtgmnnpbbiejbnaaGreat.DuM Go.Proofs.YtgmnnpbbiejbnaaGreat.DuN

theorem bl_irrefl : ∀ x : List UInt8, Op.bytesLess x x = false
  | [] => rfl
  | a :: x => by simp [Op.bytesLess, bl_irrefl x]
theorem bl_trans : ∀ x y z : List UInt8, Op.bytesLess x y = true → Op.bytesLess y z = true → Op.bytesLess x z = true
  | _, _, [], _, h => by cases h' : ‹List UInt8› <;> simp_all [Op.bytesLess]
  | _, [], _ :: _, h, _ => by simp [Op.bytesLess] at h
  | [], _ :: _, _ :: _, _, _ => rfl
  | a :: x, b :: y, c :: z, h1, h2 => by
    simp only [Op.bytesLess, Bool.or_eq_true, decide_eq_true_eq, Bool.and_eq_true, beq_iff_eq] at h1 h2 ⊢
    rcases h1 with h1 | ⟨rfl, h1⟩
    · rcases h2 with h2 | ⟨rfl, h2⟩
      · exact .inl (UInt8.lt_trans h1 h2)
      · exact .inl h1
    · rcases h2 with h2 | ⟨rfl, h2⟩
      · exact .inl h2
      · exact .inr ⟨rfl, bl_trans x y z h1 h2⟩
theorem bl_total : ∀ x y : List UInt8, Op.bytesLess x y = false → x ≠ y → Op.bytesLess y x = true
  | [], [], _, h => absurd rfl h
  | _ :: _, [], _, _ => rfl
  | [], _ :: _, h, _ => by simp [Op.bytesLess] at h
  | a :: x, b :: y, h, hn => by
    simp only [Op.bytesLess, Bool.or_eq_false_iff, decide_eq_false_iff_not, Bool.or_eq_true, decide_eq_true_eq, Bool.and_eq_true, beq_iff_eq] at h ⊢
    by_cases e : a = b
    · subst e
      refine .inr ⟨rfl, bl_total x y ?_ (fun e => hn (by rw [e]))⟩
      have := h.2
      simpa using this
    · refine .inl ?_
      have h1 : ¬ a.toNat < b.toNat := h.1
      have h2 : a.toNat ≠ b.toNat := fun e' => e (UInt8.toNat_inj.1 e')
      exact UInt8.lt_iff_toNat_lt.2 (by omega)
theorem toL_inj {a b : ByteArray} (h : a.toList = b.toList) : a = b := by
  rw [ByteArray.toList_eq, ByteArray.toList_eq] at h
  cases a; cases b; simp_all
def ltS (a b : ByteArray) : Bool := Op.bytesLess a.toList b.toList
def ltI (a b : Int) : Bool := decide (a < b)
theorem linS : Lin ltS := ⟨fun a => bl_irrefl _, fun h k => bl_trans _ _ _ h k, fun h hn => bl_total _ _ h (fun e => hn (toL_inj e))⟩
def klS (s : ByteArray) : Lit := .string s.data.toList
theorem keyS : KeyC klS := ⟨fun {a b} h => by unfold klS at h; injection h with h; cases a; cases b; simp_all, fun a => by trivial⟩
def cmpK {K : Type} (lt : K → K → Bool) (a b : K) : Int := if lt a b then -1 else if lt b a then 1 else 0
def cmpE {K : Type} (lt : K → K → Bool) (a b : Int × K) : Int := if a.1 < b.1 then -1 else if b.1 < a.1 then 1 else cmpK lt a.2 b.2
theorem cmp_neg {K : Type} (lt : K → K → Bool) (a b : Int × K) : cmpE lt a b < 0 ↔ bef lt a b = true := by
  unfold cmpE cmpK bef
  by_cases h1 : a.1 < b.1
  · simp [h1]
  · by_cases h2 : b.1 < a.1
    · simp [h1, h2]; omega
    · have h3 : a.1 = b.1 := by omega
      by_cases h4 : lt a.2 b.2 = true
      · simp [h3, h4]
      · by_cases h5 : lt b.2 a.2 = true <;> simp [h3, h4, h5]
theorem nanI_calls (x : Int) (w : World) : Calls Tryz.prog 109 #[.int .i64 x] w fun e w' => e = .returned (.bool false) ∧ w' = w := by
  have hb : (x == x) = true := by simp
  go_enter Tryz.func109, Tryz.ntmps109
  go_wp2_with fail
  go_ret
  exact ⟨by simp, rfl⟩
theorem nanS_calls (x : ByteArray) (w : World) : Calls Tryz.prog 110 #[.string x] w fun e w' => e = .returned (.bool false) ∧ w' = w := by
  have hb : (x.toList == x.toList) = true := by simp
  go_enter Tryz.func110, Tryz.ntmps110
  go_wp2_with fail
  go_ret
  exact ⟨by simp, rfl⟩
theorem cmpI_calls (x y : Int) (w : World) : Calls Tryz.prog 103 #[.int .i64 x, .int .i64 y] w fun e w' => e = .returned (.int .i64 (cmpK ltI x y)) ∧ w' = w := by
  go_enter Tryz.func103, Tryz.ntmps103
  go_wp2_with fail
  refine (nanI_calls x w).mono ?_
  rintro e w1 ⟨rfl, rfl⟩
  go_wp2_with fail
  refine (nanI_calls y _).mono ?_
  rintro e w2 ⟨rfl, rfl⟩
  by_cases h1 : x < y
  · have e : cmpK ltI x y = -1 := by simp [cmpK, ltI, h1]
    have E := Lib.hid e
    clear e
    go_wp2_with fail
    go_ret
    exact ⟨by rw [E.out] <;> rfl, rfl⟩
  · by_cases h2 : y < x
    · have e : cmpK ltI x y = 1 := by simp [cmpK, ltI, h1, h2]
      have E := Lib.hid e
      clear e
      go_wp2_with fail
      go_ret
      exact ⟨by rw [E.out] <;> rfl, rfl⟩
    · have e : cmpK ltI x y = 0 := by simp [cmpK, ltI, h1, h2]
      have E := Lib.hid e
      clear e
      go_wp2_with fail
      go_ret
      exact ⟨by rw [E.out] <;> rfl, rfl⟩
theorem cmpS_calls (x y : ByteArray) (w : World) : Calls Tryz.prog 104 #[.string x, .string y] w fun e w' => e = .returned (.int .i64 (cmpK ltS x y)) ∧ w' = w := by
  go_enter Tryz.func104, Tryz.ntmps104
  go_wp2_with fail
  refine (nanS_calls x w).mono ?_
  rintro e w1 ⟨rfl, rfl⟩
  go_wp2_with fail
  refine (nanS_calls y _).mono ?_
  rintro e w2 ⟨rfl, rfl⟩
  by_cases h1 : Op.bytesLess x.toList y.toList = true
  · have e : cmpK ltS x y = -1 := by simp [cmpK, ltS, h1]
    have E := Lib.hid e
    clear e
    go_wp2_with fail
    go_ret
    exact ⟨by rw [E.out] <;> rfl, rfl⟩
  · have h1' : Op.bytesLess x.toList y.toList = false := by simpa using h1
    clear h1
    by_cases h2 : x = y
    · have hq : (x.toList == y.toList) = true := by simp [h2]
      have e : cmpK ltS x y = 0 := by
        have h3 : ltS y x = false := by rw [h2]; exact linS.irr _
        unfold cmpK; rw [show ltS x y = false from h1', h3]; rfl
      have E := Lib.hid e
      clear e
      clear h2
      go_wp2_with fail
      go_ret
      exact ⟨by rw [E.out] <;> rfl, rfl⟩
    · have hq : (x.toList == y.toList) = false := by
        rw [beq_eq_false_iff_ne]; exact fun e => h2 (toL_inj e)
      have e : cmpK ltS x y = 1 := by
        have h3 : ltS y x = true := linS.tot h1' h2
        unfold cmpK; rw [show ltS x y = false from h1', h3]; rfl
      have E := Lib.hid e
      clear e
      clear h2
      go_wp2_with fail
      go_ret
      exact ⟨by rw [E.out] <;> rfl, rfl⟩
end Go.Proofs.YtgmnnpbbiejbnaaGreat.DuB
set_option maxRecDepth 100000
set_option linter.unusedSimpArgs false
set_option linter.unusedVariables false
namespace Go.Proofs.YtgmnnpbbiejbnaaGreat.DsC
open Go.RowKit Go.Proofs.YtgmnnpbbiejbnaaGreat.Mem Go.Proofs.YtgmnnpbbiejbnaaGreat.DuA Go.Proofs.YtgmnnpbbiejbnaaGreat.DuM Go.Proofs.YtgmnnpbbiejbnaaGreat.DuN Go.Proofs.YtgmnnpbbiejbnaaGreat.DuB

abbrev eo (e : Int × ByteArray) : Obj := .cells #[.int .i64 e.1, Value.string e.2] 165
def ents (l : List (Int × ByteArray)) : List Value := l.flatMap fun e => [.int .i64 e.1, Value.string e.2]
theorem ents_len (l : List (Int × ByteArray)) : (ents l).length = l.length * 2 := by
  induction l with
  | nil => rfl
  | cons e r ih => simp only [ents, List.flatMap_cons, List.length_append, List.length_cons, List.length_nil] at ih ⊢; omega
theorem ents_app (a b : List (Int × ByteArray)) : ents (a ++ b) = ents a ++ ents b := by simp [ents]
theorem ents_one (l : List (Int × ByteArray)) : ∀ u ∈ ents l, u.oneCell' = true := by
  intro u hu; simp only [ents, List.mem_flatMap] at hu; obtain ⟨x, _, h⟩ := hu; simp at h; rcases h with rfl | rfl <;> rfl
theorem ents_take : ∀ (l : List (Int × ByteArray)) (k : Nat), (ents l).take (k * 2) = ents (l.take k)
  | [], k => by simp [ents]
  | e :: r, 0 => by simp [ents]
  | e :: r, k + 1 => by
    have ih := ents_take r k
    rw [show (k + 1) * 2 = k * 2 + 2 by omega]
    simp only [ents, List.flatMap_cons, List.take_succ_cons, List.cons_append, List.nil_append] at ih ⊢
    rw [ih]
theorem ents_drop : ∀ (l : List (Int × ByteArray)) (k : Nat), (ents l).drop (k * 2) = ents (l.drop k)
  | [], k => by simp [ents]
  | e :: r, 0 => by simp [ents]
  | e :: r, k + 1 => by
    have ih := ents_drop r k
    rw [show (k + 1) * 2 = k * 2 + 2 by omega]
    simp only [ents, List.flatMap_cons, List.drop_succ_cons, List.cons_append, List.nil_append] at ih ⊢
    rw [ih]
theorem ents_get : ∀ (l : List (Int × ByteArray)) (i : Nat) (e : Int × ByteArray), l[i]? = some e → (ents l)[i * 2]? = some (.int .i64 e.1) ∧ (ents l)[i * 2 + 1]? = some (Value.string e.2)
  | [], i, e, h => by simp at h
  | y :: r, 0, e, h => by simp at h; subst h; simp [ents]
  | y :: r, i + 1, e, h => by
    obtain ⟨h1, h2⟩ := ents_get r i e (by simpa using h)
    rw [show (i + 1) * 2 = i * 2 + 2 by omega]
    simp only [ents, List.flatMap_cons, List.cons_append, List.nil_append] at h1 h2 ⊢
    exact ⟨by simpa using h1, by rw [show i * 2 + 2 + 1 = i * 2 + 1 + 2 by omega]; simpa using h2⟩
/-- A slice that reads as such a list. -/
abbrev RdE (w : World) (A : Option Addr) (n c : Nat) (l : List (Int × ByteArray)) : Prop := Rd w 2 A n c (ents l)
theorem rde_len {w : World} {A : Option Addr} {n c : Nat} {l : List (Int × ByteArray)} (h : RdE w A n c l) : l.length = n := by have := h.len; rw [ents_len] at this; omega
theorem rde_get {w : World} {A : Option Addr} {n c : Nat} {l : List (Int × ByteArray)} (h : RdE w A n c l) {i : Nat} {e : Int × ByteArray} (hs : l[i]? = some e) :
    ∃ p, A = some p ∧ w.cell? (p.add (i * 2)) = some (.int .i64 e.1) ∧ w.cell? ⟨(p.add (i * 2)).block, (p.add (i * 2)).off + 1, none⟩ = some (Value.string e.2) := by
  obtain ⟨h1, h2⟩ := ents_get l i e hs
  obtain ⟨p, rfl, c1⟩ := h.get _ _ h1
  obtain ⟨p', e', c2⟩ := h.get _ _ h2
  injection e' with e'; subst e'
  exact ⟨_, rfl, c1, by
    have h : w.cell? ((p.add (i * 2)).add 1) = some (Value.string e.2) := by rw [add_add]; exact c2
    exact h⟩
theorem elE : El Tryz.prog 127 165 (.agg #[.int .i64 0, .string ⟨#[]⟩]) 2 24 := by
  obtain ⟨i, h1, h2, h3, h4⟩ := info_parts (show (Tryz.prog.info? 165).map (fun i => (i.zero, i.size, i.bytes)) = some (some (.agg #[.int .i64 0, .string ⟨#[]⟩]), 2, 24) by kernel_rfl)
  exact ⟨Tryz.underlying127, ⟨i, h1, h2, h3, h4⟩, rfl, by decide⟩

theorem al (w : World) (o : Obj) : Below w.heap.size w (w.alloc o) := (Below.refl _ w).alloc (Nat.le_refl _) o
theorem eo_cells (w : World) (e : Int × ByteArray) : (w.alloc (eo e)).cell? ⟨w.heap.size, 0, none⟩ = some (.int .i64 e.1) ∧ (w.alloc (eo e)).cell? ⟨w.heap.size, 1, none⟩ = some (Value.string e.2) := by
  have h := heap_alloc_new w (eo e)
  exact ⟨by unfold World.cell?; simp only [h]; rfl, by unfold World.cell?; simp only [h]; rfl⟩
theorem below_drawn_ {B : Nat} {w w' : World} (h : Below B w w') (n : Nat) : Below B w (w'.drewN n) := h.trans ⟨rfl, rfl, rfl, Nat.le_refl _, fun _ _ => rfl⟩
theorem cell_b {w w' : World} {q : Addr} {u : Value} (hc : w.cell? q = some u) (hb : Below w.heap.size w w') : w'.cell? q = some u := by
  have hlt : q.block < w.heap.size := by
    rcases Nat.lt_or_ge q.block w.heap.size with hlt | hge
    · exact hlt
    · simp [World.cell?, Array.getElem?_eq_none hge] at hc
  exact (hb.cell hlt).trans hc

set_option maxHeartbeats 1000000 in
theorem before_calls (a b : Int × ByteArray) (w : World) : Calls Tryz.prog 97 #[.agg #[.int .i64 a.1, .string a.2], .agg #[.int .i64 b.1, .string b.2]] w fun e w' => e = .returned (.int .i64 (cmpE ltS a b)) ∧ Below w.heap.size w w' := by
  obtain ⟨a1, a2⟩ := a
  obtain ⟨b1, b2⟩ := b
  obtain ⟨W, hW⟩ : ∃ W, (w.alloc (eo (a1, a2))).alloc (eo (b1, b2)) = W := ⟨_, rfl⟩
  have BW : Below w.heap.size w W := by rw [← hW]; exact (al w _).alloc (by simp) _
  have x0 : W.cell? ⟨w.heap.size, 0, none⟩ = some (.int .i64 a1) := by rw [← hW]; exact cell_b (eo_cells w (a1, a2)).1 (al _ _)
  have x1 : W.cell? ⟨w.heap.size, 1, none⟩ = some (.string a2) := by rw [← hW]; exact cell_b (eo_cells w (a1, a2)).2 (al _ _)
  have y0 : W.cell? ⟨w.heap.size + 1, 0, none⟩ = some (.int .i64 b1) := by
    rw [← hW]; have := (eo_cells (w.alloc (eo (a1, a2))) (b1, b2)).1; rwa [World.size_alloc] at this
  have y1 : W.cell? ⟨w.heap.size + 1, 1, none⟩ = some (.string b2) := by
    rw [← hW]; have := (eo_cells (w.alloc (eo (a1, a2))) (b1, b2)).2; rwa [World.size_alloc] at this
  have HW := Lib.hid hW
  clear hW
  go_enter Tryz.func97, Tryz.ntmps97
  go_wp2_with fail
  rw [show (w.alloc (.cells #[.int .i64 a1, .string a2] 165)).alloc (.cells #[.int .i64 b1, .string b2] 165) = W from HW.out]
  go_wp2_with fail
  refine (cmpI_calls a1 b1 W).mono ?_
  rintro e w1 ⟨rfl, rfl⟩
  by_cases h : a1 = b1
  · have e0 : cmpK ltI a1 b1 = 0 := by simp [cmpK, ltI, h]
    have E : Hid (cmpE ltS (a1, a2) (b1, b2) = cmpK ltS a2 b2) := by subst h; simp [cmpE, Hid]
    clear h
    rw [e0]
    clear e0
    go_wp2_with fail
    refine (cmpS_calls a2 b2 _).mono ?_
    rintro e w2 ⟨rfl, rfl⟩
    go_wp2_with fail
    go_ret
    exact ⟨by rw [E.out] <;> rfl, BW⟩
  · have hne : (cmpK ltI a1 b1 == 0) = false := by
      unfold cmpK ltI; by_cases h1 : a1 < b1
      · simp [h1]
      · simp [h1, show b1 < a1 by omega]
    have E : Hid (cmpE ltS (a1, a2) (b1, b2) = cmpK ltI a1 b1) := by
      show cmpE _ _ _ = _
      unfold cmpE cmpK ltI
      by_cases h1 : a1 < b1
      · simp [h1]
      · simp [h1, show b1 < a1 by omega]
    generalize cmpK ltI a1 b1 = C at hne E ⊢
    clear h
    go_wp2_with fail
    go_ret
    exact ⟨by rw [E.out] <;> rfl, BW⟩
end Go.Proofs.YtgmnnpbbiejbnaaGreat.DsC
set_option maxRecDepth 100000
set_option linter.unusedSimpArgs false
set_option linter.unusedVariables false
namespace Go.Proofs.YtgmnnpbbiejbnaaGreat.DsD
open Go.RowKit Go.Proofs.YtgmnnpbbiejbnaaGreat.Mem Go.Proofs.YtgmnnpbbiejbnaaGreat.DuA Go.Proofs.YtgmnnpbbiejbnaaGreat.DuM Go.Proofs.YtgmnnpbbiejbnaaGreat.DuN Go.Proofs.YtgmnnpbbiejbnaaGreat.DuB Go.Proofs.YtgmnnpbbiejbnaaGreat.DsC

theorem pos_bound {l : List (Int × ByteArray)} {e : Int × ByteArray} {i : Nat} (hi : i ≤ l.length) (h1 : ∀ t y, t < i → l[t]? = some y → bef ltS y e = true) (h2 : ∀ t y, i ≤ t → l[t]? = some y → bef ltS y e = false) : posL ltS l e = i := by
  unfold posL
  have h : l = l.take i ++ l.drop i := (List.take_append_drop i l).symm
  rw [h, List.countP_append]
  have a : (l.take i).countP (fun x => bef ltS x e) = i := by
    rw [List.countP_eq_length.2 (fun x hx => ?_), List.length_take]
    · omega
    · obtain ⟨t, ht, rfl⟩ := List.mem_iff_getElem.1 hx
      rw [List.length_take] at ht
      exact h1 t _ (by omega) (by rw [List.getElem_take]; exact List.getElem?_eq_getElem (by omega))
  have b : (l.drop i).countP (fun x => bef ltS x e) = 0 := by
    rw [List.countP_eq_zero]
    intro x hx
    obtain ⟨t, ht, rfl⟩ := List.mem_iff_getElem.1 hx
    rw [List.length_drop] at ht
    rw [h2 (i + t) _ (by omega) (by rw [List.getElem_drop]; exact List.getElem?_eq_getElem (by omega))]
    simp
  omega
theorem below_at {l : List (Int × ByteArray)} (ho : l.Pairwise (fun a b => bef ltS a b = true)) {e : Int × ByteArray} {i j : Nat} {x y : Int × ByteArray} (hij : i ≤ j) (hx : l[i]? = some x) (hy : l[j]? = some y) (h : bef ltS y e = true) : bef ltS x e = true := by
  rcases Nat.lt_or_ge i j with hl | hl
  · obtain ⟨h1, rfl⟩ := List.getElem?_eq_some_iff.1 hx
    obtain ⟨h2, rfl⟩ := List.getElem?_eq_some_iff.1 hy
    exact bef_tr linS (List.pairwise_iff_getElem.1 ho i j h1 h2 hl) h
  · obtain rfl : i = j := by omega
    rw [hx] at hy; injection hy with hy; subst hy; exact h
/-- The state of the search. -/
structure Sr (w : World) (A : Option Addr) (n c : Nat) (l : List (Int × ByteArray)) (e : Int × ByteArray) (wr : World) : Prop where
  b : Below w.heap.size w wr
  r : RdE wr A n c l
  x0 : wr.cell? ⟨w.heap.size, 0, none⟩ = some (.int .i64 e.1)
  x1 : wr.cell? ⟨w.heap.size, 1, none⟩ = some (Value.string e.2)
theorem Sr.below {w wr w' : World} {A : Option Addr} {n c : Nat} {l : List (Int × ByteArray)} {e : Int × ByteArray} (h : Sr w A n c l e wr) (hb : Below wr.heap.size wr w') : Sr w A n c l e w' :=
  ⟨h.b.trans (hb.mono h.b.size), h.r.below hb, cell_b h.x0 hb, cell_b h.x1 hb⟩

/-- What a comparison reads. -/
abbrev Sq (w : World) (g : Nat) (q : Addr) (y e : Int × ByteArray) (w' : World) : Prop :=
  Below w.heap.size w w' ∧ w'.cell? q = some (.int .i64 y.1) ∧ w'.cell? ⟨q.block, q.off + 1, none⟩ = some (Value.string y.2) ∧ w'.cell? ⟨g, 0, none⟩ = some (.int .i64 e.1) ∧ w'.cell? ⟨g, 1, none⟩ = some (Value.string e.2)
theorem sq_below {w w' w1 : World} {g : Nat} {q : Addr} {y e : Int × ByteArray} (h : Sq w g q y e w1) (hb : Below w1.heap.size w1 w') : Sq w g q y e w' :=
  ⟨h.1.trans (hb.mono h.1.size), cell_b h.2.1 hb, cell_b h.2.2.1 hb, cell_b h.2.2.2.1 hb, cell_b h.2.2.2.2 hb⟩
theorem sq_drew {w w1 : World} {g : Nat} {q : Addr} {y e : Int × ByteArray} (h : Sq w g q y e w1) : Sq w g q y e w1.drew := sq_below h ((Below.refl _ _).drew)

set_option maxHeartbeats 2000000 in
theorem search_calls (A : Option Addr) (n c : Nat) (l : List (Int × ByteArray)) (e : Int × ByteArray) (w : World) (hr : RdE w A n c l) (ho : l.Pairwise (fun a b => bef ltS a b = true)) (hn : n ≤ 1099511627776) :
    Calls Tryz.prog 96 #[.slice A n c, .agg #[.int .i64 e.1, .string e.2], .func (.func 97) #[] #[]] w fun e' w' => ∃ b, e' = .returned (.tuple #[.int .i64 (posL ltS l e : Nat), .bool b]) ∧ Below w.heap.size w w' := by
  have hl : l.length = n := rde_len hr
  have hc := hr.cap
  have S0 : Sr w A n c l e (w.alloc (eo e)) := ⟨al w _, hr.below (al w _), (eo_cells w e).1, (eo_cells w e).2⟩
  obtain ⟨t, k⟩ := e
  have Ho := Lib.hid ho
  have HL := Lib.hid hl
  clear ho hr hl
  go_enter Tryz.func96, Tryz.ntmps96
  go_wp2_with fail
  go_loopw [9, 10] (fun i j wr => ∃ lo hi : Nat, i = .int .i64 lo ∧ j = .int .i64 hi ∧ lo ≤ hi ∧ hi ≤ n ∧ Hid ((∀ t' y, t' < lo → l[t']? = some y → bef ltS y (t, k) = true) ∧ (∀ t' y, hi ≤ t' → l[t']? = some y → bef ltS y (t, k) = false)) ∧ Sr w A n c l (t, k) wr) (fun i j _ => (intOf j).toNat - (intOf i).toNat)
  case atStart => exact ⟨0, n, rfl, rfl, Nat.zero_le _, Nat.le_refl _, (show Hid _ from ⟨fun t' y h => by omega, fun t' y h hy => by have := (List.getElem?_eq_some_iff.1 hy).1; have := HL.out; omega⟩), S0⟩
  case round =>
    clear S0
    obtain ⟨lo, hi, rfl, rfl, h1, h2, I, S⟩ := hrel
    by_cases hlt : lo < hi
    · obtain ⟨m, hm⟩ : ∃ m, (lo + hi) / 2 = m := ⟨_, rfl⟩
      have hmn : m < n := by omega
      have hmi : ((lo : Int) + (hi : Int)) / 2 = (m : Int) := by omega
      obtain ⟨y, hy⟩ : ∃ y, l[m]? = some y := ⟨_, List.getElem?_eq_getElem (by have := HL.out; omega)⟩
      have HY := Lib.hid hy
      obtain ⟨p, rfl, c0, c1⟩ := rde_get S.r hy
      have HM := Lib.hid hmi
      have x0 := S.x0
      have x1 := S.x1
      obtain ⟨y1, y2⟩ := y
      clear hy hmi
      have hcall := fun w' => before_calls (y1, y2) (t, k) w'
      go_wp2_with fail
      rw [HM.out]
      have HS : Sq wr w.heap.size (p.add (m * 2)) (y1, y2) (t, k) wr := ⟨Below.refl _ _, c0, c1, x0, x1⟩
      go_region_held3 (fun w' => Sq wr w.heap.size (p.add (m * 2)) (y1, y2) (t, k) w')
        (first | exact sq_drew HS | assumption | exact sq_below (by assumption) (by assumption))
        (first
          | (go_at_call 97; refine (hcall _).mono ?_; rintro e w5 ⟨rfl, hb5⟩))
      have S5 := (S.below ((Below.refl _ _).drew)).below hb5
      clear hb5 HS hcall c0 c1 x0 x1 S
      by_cases hb : bef ltS (y1, y2) (t, k) = true
      · have hneg := (cmp_neg ltS (y1, y2) (t, k)).2 hb
        generalize cmpE ltS (y1, y2) (t, k) = C at *
        have I2 : Hid ((∀ t' y, t' < m + 1 → l[t']? = some y → bef ltS y (t, k) = true) ∧ (∀ t' y, hi ≤ t' → l[t']? = some y → bef ltS y (t, k) = false)) :=
          (show _ ∧ _ from ⟨fun t' y h hy => below_at Ho.out (by omega) hy HY.out hb, I.out.2⟩)
        clear hb
        go_wp2_with fail
        exact ⟨⟨m + 1, hi, by go_num, rfl, by omega, h2, I2, S5⟩, by simp [intOf]; omega⟩
      · have hneg : ¬ cmpE ltS (y1, y2) (t, k) < 0 := fun h => hb ((cmp_neg ltS (y1, y2) (t, k)).1 h)
        generalize cmpE ltS (y1, y2) (t, k) = C at *
        have I2 : Hid ((∀ t' y, t' < lo → l[t']? = some y → bef ltS y (t, k) = true) ∧ (∀ t' y, m ≤ t' → l[t']? = some y → bef ltS y (t, k) = false)) :=
          (show _ ∧ _ from ⟨I.out.1, fun t' y h hy => by
            cases hc : bef ltS y (t, k)
            · rfl
            · exact absurd (below_at Ho.out h HY.out hy hc) hb⟩)
        clear hb
        go_wp2_with fail
        exact ⟨⟨lo, m, rfl, rfl, by omega, by omega, I2, S5⟩, by simp [intOf]; omega⟩
    · obtain rfl : lo = hi := by omega
      have P : Hid (posL ltS l (t, k) = lo) := pos_bound (by have := HL.out; omega) I.out.1 I.out.2
      by_cases hln : lo < n
      · obtain ⟨y, hy⟩ : ∃ y, l[lo]? = some y := ⟨_, List.getElem?_eq_getElem (by have := HL.out; omega)⟩
        obtain ⟨p, rfl, c0, c1⟩ := rde_get S.r hy
        have x0 := S.x0
        have x1 := S.x1
        obtain ⟨y1, y2⟩ := y
        clear hy
        have hcall := fun w' => before_calls (y1, y2) (t, k) w'
        go_wp2_with fail
        have HS : Sq wr w.heap.size (p.add (lo * 2)) (y1, y2) (t, k) wr := ⟨Below.refl _ _, c0, c1, x0, x1⟩
        go_region_held3 (fun w' => Sq wr w.heap.size (p.add (lo * 2)) (y1, y2) (t, k) w')
          (first | exact sq_drew HS | assumption | exact sq_below (by assumption) (by assumption))
          (first
            | (go_at_call 97; refine (hcall _).mono ?_; rintro e w5 ⟨rfl, hb5⟩))
        have S5 := (S.below ((Below.refl _ _).drew)).below hb5
        go_wp2_with fail
        go_ret2
        exact ⟨_, by rw [P.out] <;> rfl, S5.b⟩
      · obtain rfl : lo = n := by omega
        go_wp2_with fail
        go_quiet (fail)
        go_wp2_with fail
        go_ret2
        exact ⟨_, by rw [P.out] <;> rfl, below_drawn_ S.b _⟩
end Go.Proofs.YtgmnnpbbiejbnaaGreat.DsD
set_option maxRecDepth 100000
set_option linter.unusedSimpArgs false
set_option linter.unusedVariables false
namespace Go.Proofs.YtgmnnpbbiejbnaaGreat.DsE
open Go.RowKit Go.Shelf Go.Lib Go.Proofs.YtgmnnpbbiejbnaaGreat.Mem Go.Proofs.YtgmnnpbbiejbnaaGreat.DuA Go.Proofs.YtgmnnpbbiejbnaaGreat.DuM Go.Proofs.YtgmnnpbbiejbnaaGreat.DuN Go.Proofs.YtgmnnpbbiejbnaaGreat.DuB Go.Proofs.YtgmnnpbbiejbnaaGreat.DsC

/-- A row of entries of the call's own. -/
abbrev OwnE (w : World) (B : Nat) (v : Value) (l : List (Int × ByteArray)) : Prop := w.ownsRow B 165 2 v l.length (ents l)
theorem own_block {w : World} {B n c : Nat} {A : Option Addr} {l : List (Int × ByteArray)} (h : OwnE w B (.slice A n c) l) (hn : 0 < n) :
    ∃ g cur, A = some ⟨g, 0, none⟩ ∧ B ≤ g ∧ w.heap[g]? = some (.cells cur 165 (0, 0)) ∧ n ≤ c ∧ c ≤ maxLen ∧ cur.size = c * 2 ∧ l.length = n ∧ cur.toList.take (n * 2) = ents l := by
  have hl : l.length = n := own_n h
  rcases h.2 with ⟨e, h0⟩ | ⟨g, cap, cur, e, h1, h2, h3, h4, h5, h6⟩
  · injection e with _ e2 _; omega
  · injection e with e1 e2 e3
    subst e1 e3
    rw [hl] at h3 h6
    exact ⟨g, cur, rfl, h1, h2, h3, h4, h5, hl, h6⟩
theorem own_of {w : World} {B n c g : Nat} {cur : Array Value} {l : List (Int × ByteArray)} (h1 : B ≤ g) (h2 : w.heap[g]? = some (.cells cur 165 (0, 0))) (h3 : n ≤ c) (h4 : c ≤ maxLen) (h5 : cur.size = c * 2) (hl : l.length = n) (h6 : cur.toList.take (n * 2) = ents l) : OwnE w B (.slice (some ⟨g, 0, none⟩) n c) l := by
  subst hl
  exact ⟨by rw [ents_len], .inr ⟨g, c, cur, rfl, h1, h2, h3, h4, h5, h6⟩⟩

set_option maxHeartbeats 2000000 in
theorem delete_calls (B n c i : Nat) (A : Option Addr) (l : List (Int × ByteArray)) (w : World) (ho : OwnE w B (.slice A n c) l) (hi : i < n) :
    Calls Tryz.prog 98 #[.slice A n c, .int .i64 i, .int .i64 ((i : Int) + 1)] w fun e w' =>
      e = .returned (.slice A (n - 1) c) ∧ OwnE w' B (.slice A (n - 1) c) (l.take i ++ l.drop (i + 1)) ∧ Only (fun k => (.slice A n c : Value).ownBlock = some k) w w' := by
  obtain ⟨g, cur, rfl, hB, hg, hnc, hcm, hcs, hl, hX⟩ := own_block ho (by omega)
  have hcm' : c ≤ 9223372036854775807 := hcm
  obtain ⟨ii, hii, hz0, hz1, hz2⟩ := elE.info
  obtain ⟨news, hnews⟩ : ∃ news, news = ents (l.drop (i + 1)) := ⟨_, rfl⟩
  have hlen : news.length = (n - (i + 1)) * 2 := by rw [hnews, ents_len, List.length_drop, hl]
  have hcl : cur.toList.length = c * 2 := by simpa using hcs
  have hnews' : news = (cur.toList.take (n * 2)).drop ((i + 1) * 2) := by rw [hX, ents_drop, hnews]
  obtain ⟨A', hA', hsrc⟩ : ∃ A' : Addr, (if c = i + 1 then some (⟨g, 0, none⟩ : Addr) else some ⟨g, (i + 1) * 2, none⟩) = some A' ∧ Hid (∀ t u, news[t]? = some u → w.drew.cell? (A'.add t) = some u) := by
    by_cases h : c = i + 1
    · refine ⟨⟨g, 0, none⟩, by simp [h], fun t u hu => ?_⟩
      have h0 : news.length = 0 := by rw [hlen]; omega
      rw [List.length_eq_zero_iff.1 h0] at hu
      simp at hu
    · refine ⟨⟨g, (i + 1) * 2, none⟩, by simp [h], fun t u hu => ?_⟩
      rw [hnews', List.getElem?_drop, List.getElem?_take] at hu
      split at hu
      · rw [add_mk]
        have := (List.getElem?_eq_some_iff.1 hu).1
        show w.cell? _ = _
        rw [block_cell hg (by omega)]
        rw [Array.getElem?_toList] at hu
        rw [Array.getElem?_eq_getElem (by omega)] at hu
        exact hu
      · cases hu
  have s1 : Hid (news.length = (n - (i + 1)) * 2) := hlen
  have s2 : Hid (∀ u ∈ news, u.oneCell' = true) := by rw [hnews]; exact ents_one _
  have s3 : Hid (∀ t, t < news.length → (w.drew.cell? ⟨g, 0 + i * 2 + t, none⟩).isSome = true ∧ w.drew.frozen? ⟨g, 0 + i * 2 + t, none⟩ = false) := by
    intro t ht
    rw [hlen] at ht
    exact ⟨by show (w.cell? _).isSome = true; rw [block_cell hg (by omega)]; rfl, block_free hg⟩
  obtain ⟨W1, hW1⟩ : ∃ W1, W1 = w.drew.setCells g (0 + i * 2) news := ⟨_, rfl⟩
  obtain ⟨cur1, hg1, hs1, hc1⟩ := heap_setCells (w := w.drew) (g := g) (cur := cur) news (0 + i * 2) hg (by omega)
  rw [← hW1] at hg1
  have o1 : Only (fun k => k = g) w W1 := by rw [hW1]; exact only_puts (S := fun k => k = g) g (.inl rfl) _ _ ((Only.refl _ w).drew)
  have hcz : ∀ ty m, (Builtin.clear_ #[127] ty #[.slice (some ⟨g, (n - 1) * 2, none⟩) (n - (n - 1)) m]).run Tryz.prog W1 = .ok (.tuple #[]) (W1.setCells g ((n - 1) * 2) [.int .i64 0, .string ⟨#[]⟩]) :=
    fun ty m => by
     rw [show n - (n - 1) = 1 by omega]
     exact run_clearN W1 _ 165 ty (.agg #[.int .i64 0, .string ⟨#[]⟩]) Tryz.underlying127 (by intro w; kernel_rfl) g ((n - 1) * 2) 1 m (by omega) [.int .i64 0, .string ⟨#[]⟩] (by simp [Builtin.zeroCells, Value.cells, List.range_succ]) (by intro v hv; simp at hv; rcases hv with rfl | rfl <;> rfl)
      (fun j hj => by simp at hj; rw [block_cell hg1 (by omega)]; rfl) (fun j hj => block_free hg1)
  obtain ⟨cur2, hg2, hs2, hc2⟩ := heap_setCells (w := W1) (g := g) (cur := cur1) [.int .i64 0, .string ⟨#[]⟩] ((n - 1) * 2) hg1 (by simp; omega)
  have o2 : Only (fun k => k = g) w (W1.setCells g ((n - 1) * 2) [.int .i64 0, .string ⟨#[]⟩]) := only_puts (S := fun k => k = g) g (.inl rfl) _ _ o1
  have fin : Hid (OwnE (W1.setCells g ((n - 1) * 2) [.int .i64 0, .string ⟨#[]⟩]) B (.slice (some ⟨g, 0, none⟩) (n - 1) c) (l.take i ++ l.drop (i + 1)) ∧ Only (fun k => k = g) w (W1.setCells g ((n - 1) * 2) [.int .i64 0, .string ⟨#[]⟩])) := by
    refine ⟨own_of hB hg2 (by omega) hcm (by omega) (by simp; omega) ?_, o2⟩
    have hc1l : cur1.toList.length = c * 2 := by simp; omega
    rw [hc2, List.append_assoc, List.take_append_of_le_length (by rw [List.length_take]; omega), List.take_take, Nat.min_self, hc1, ents_app, ← ents_take, ← hnews, ← hX, List.take_take, show min (i * 2) (n * 2) = i * 2 by omega, Nat.zero_add, List.take_append_of_le_length (by simp; omega), List.take_of_length_le (by simp; omega)]
  have hW : Hid (W1 = w.drew.setCells g (0 + i * 2) news) := hW1
  have hic : i ≤ c := by omega
  have hjc : i + 1 ≤ c := by omega
  clear hW1 hg hg1 hg2 hc1 hc2 hs1 hs2 hnews hnews' hlen hX hcl o1 o2 ho hl hcs
  go_enter Tryz.func98, Tryz.ntmps98
  go_wp2_with fail
  have htn : ((i : Int) + 1).toNat = i + 1 := by omega
  have hb1 : (0 : Int) ≤ (i : Int) + 1 := by omega
  have hb2 : (i : Int) + 1 ≤ (n : Int) := by omega
  have mixed : Tryz.prog.follows Departure.mixedOrders = true := by kernel_rfl
  go_region_law_o (refine step_append_room rfl (.tmp 22) (.tmp 25) 127 rfl 165 ii 2 Tryz.underlying127 hii hz1 g 0 i c (by simp [Act.eval, Act.put]) A' (n - (i + 1)) (c - (i + 1)) news (by simp [Act.eval, Act.put, htn, hA']) s1.out hsrc.out s2.out (by omega) s3.out ?_; rw [← hW.out])
  rw [show i + (n - (i + 1)) = n - 1 by omega]
  go_wp2_with fail
  go_ret
  obtain ⟨f1, f2⟩ := fin.out
  exact ⟨rfl, f1, f2.mono (fun k h => by rw [h]; rfl)⟩
end Go.Proofs.YtgmnnpbbiejbnaaGreat.DsE
set_option maxRecDepth 100000
set_option linter.unusedSimpArgs false
set_option linter.unusedVariables false
namespace Go.Proofs.YtgmnnpbbiejbnaaGreat.DsF
open Go.RowKit Go.Shelf Go.Lib Go.Proofs.YtgmnnpbbiejbnaaGreat.Mem Go.Proofs.YtgmnnpbbiejbnaaGreat.DuA Go.Proofs.YtgmnnpbbiejbnaaGreat.DuM Go.Proofs.YtgmnnpbbiejbnaaGreat.DuN Go.Proofs.YtgmnnpbbiejbnaaGreat.DuB Go.Proofs.YtgmnnpbbiejbnaaGreat.DsC Go.Proofs.YtgmnnpbbiejbnaaGreat.DsE

def InsPost (B : Nat) (v : Value) (l : List (Int × ByteArray)) (w : World) (e : Ending) (w' : World) : Prop :=
  ∃ v', e = .returned v' ∧ OwnE w' B v' l ∧ Only (fun k => v.ownBlock = some k) w w' ∧ (v'.ownBlock = v.ownBlock ∨ ∃ k, v'.ownBlock = some k ∧ w.heap.size ≤ k)
/-- The one element that is put in, in its own block. -/
structure One (w : World) (vb : Nat) (e : Int × ByteArray) : Prop where
  hp : w.heap[vb]? = some (eo e)
theorem One.rd {w : World} {vb : Nat} {e : Int × ByteArray} (h : One w vb e) : RdE w (some ⟨vb, 0, none⟩) 1 1 [e] := by
  refine ⟨rfl, Nat.le_refl _, by unfold maxLen; omega, fun j x hj => ⟨_, rfl, ?_⟩⟩
  rw [add_mk]
  unfold World.cell?
  simp only [h.hp]
  match j, hj with
  | 0, hj => exact hj
  | 1, hj => exact hj
  | j + 2, hj => simp [ents] at hj

set_option maxHeartbeats 2000000 in
theorem ins_end (B n c vb : Nat) (A : Option Addr) (l : List (Int × ByteArray)) (e : Int × ByteArray) (w : World) (ho : OwnE w B (.slice A n c) l) (h1 : One w vb e) (hB : B ≤ w.heap.size) (hn : (n + 1) * 24 ≤ 140737488355328) :
    Calls Tryz.prog 99 #[.slice A n c, .int .i64 n, .slice (some ⟨vb, 0, none⟩) 1 1] w (InsPost B (.slice A n c) (l ++ [e]) w) := by
  have hl : l.length = n := own_n ho
  have ho' : w.ownsRow B 165 2 (.slice A n c) n (ents l) := by have := ho; unfold OwnE at this; rwa [hl] at this
  have hr := Rd.of_own ho'
  have hc1 := hr.cap
  have hc2 : c ≤ 9223372036854775807 := hr.big
  have hrv := h1.rd
  have HL := Lib.hid hl
  clear hr ho hl
  rcases A with _ | ⟨ab, ao, asp⟩
  all_goals (
    go_enter Tryz.func99, Tryz.ntmps99
    go_wp2_with (at_builtin; refine wpList_app rfl (.tmp 23) (.tmp 24) elE rfl B _ n _ rfl ho' (some ⟨vb, 0, none⟩) 1 1 (ents [e]) rfl hrv (ents_one _) (by unfold maxLen; omega) (by omega) hB ?_; intro v w1 o1 b1 f1)
    all_goals (
      go_ret
      refine ⟨_, rfl, ?_, b1, ?_⟩
      · unfold OwnE
        rw [ents_app, List.length_append, HL.out]
        exact o1
      · rcases f1 with f1 | f1
        · exact .inl f1
        · exact .inr ⟨_, f1, Nat.le_refl _⟩))

theorem take3 {α : Type} {a b c d : List α} {k m : Nat} (hk : k = a.length + b.length + m) (hd : c.take m = d) : (a ++ b ++ c).take k = a ++ (b ++ d) := by
  subst hk hd
  rw [List.append_assoc, Nat.add_assoc, List.take_length_add_append, List.take_length_add_append]

set_option maxHeartbeats 4000000 in
theorem ins_shift (B n c i vb : Nat) (A : Option Addr) (l : List (Int × ByteArray)) (e : Int × ByteArray) (w : World) (ho : OwnE w B (.slice A n c) l) (h1 : One w vb e) (hv : (.slice A n c : Value).ownBlock ≠ some vb) (hi : i < n) (hroom : n + 1 ≤ c) :
    Calls Tryz.prog 99 #[.slice A n c, .int .i64 i, .slice (some ⟨vb, 0, none⟩) 1 1] w (InsPost B (.slice A n c) (l.take i ++ e :: l.drop i) w) := by
  obtain ⟨g, cur, rfl, hB, hg, hnc, hcm, hcs, hl, hX⟩ := own_block ho (by omega)
  have hcm' : c ≤ 9223372036854775807 := hcm
  have hvg : vb ≠ g := fun e => hv (by rw [e]; rfl)
  obtain ⟨ii, hii, hz0, hz1, hz2⟩ := elE.info
  have hsz : (Tryz.prog.info? 165).map (·.size) = some 2 := by rw [hii]; simp [hz1]
  obtain ⟨news, hnews⟩ : ∃ news, news = ents (l.drop i) := ⟨_, rfl⟩
  have hlen : news.length = (n - i) * 2 := by rw [hnews, ents_len, List.length_drop, hl]
  have hcl : cur.toList.length = c * 2 := by simpa using hcs
  have hnews' : news = (cur.toList.take (n * 2)).drop (i * 2) := by rw [hX, ents_drop, hnews]
  have hsrc : ∀ t u, news[t]? = some u → w.drew.cell? ((⟨g, i * 2, none⟩ : Addr).add t) = some u := by
    intro t u hu
    rw [hnews', List.getElem?_drop, List.getElem?_take] at hu
    split at hu
    · rw [add_mk]
      have := (List.getElem?_eq_some_iff.1 hu).1
      show w.cell? _ = _
      rw [block_cell hg (by omega)]
      rw [Array.getElem?_toList] at hu
      rw [Array.getElem?_eq_getElem (by omega)] at hu
      exact hu
    · cases hu
  have hcp1 : ∀ ty dc sc, (Builtin.copy_ #[127, 127] ty #[.slice (some ⟨g, (i + 1) * 2, none⟩) (n - i) dc, .slice (some ⟨g, i * 2, none⟩) (n + 1 - i) sc]).run Tryz.prog w.drew = .ok (goInt ((n - i : Nat) : Int)) (w.drew.setCells g ((i + 1) * 2) news) := fun ty dc sc =>
    run_copyN w.drew _ _ ty 165 2 g ((i + 1) * 2) (n - i) dc ⟨g, i * 2, none⟩ (n + 1 - i) sc news Tryz.underlying127 hsz (n - i) (by simp only [Nat.min_def]; split <;> omega) hlen hsrc
      (fun j hj => by show (w.cell? _).isSome = true; rw [block_cell hg (by omega)]; rfl) (fun j hj => block_free hg) (by rw [hnews]; exact ents_one _)
  obtain ⟨W1, hW1⟩ : ∃ W1, W1 = w.drew.setCells g ((i + 1) * 2) news := ⟨_, rfl⟩
  obtain ⟨cur1, hg1, hs1, hc1⟩ := heap_setCells (w := w.drew) (g := g) (cur := cur) news ((i + 1) * 2) hg (by omega)
  rw [← hW1] at hcp1 hg1
  have o1 : Only (fun k => k = g) w W1 := by rw [hW1]; exact only_puts (S := fun k => k = g) g (.inl rfl) _ _ ((Only.refl _ w).drew)
  have h2 : One W1 vb e := ⟨o1.heap h1.hp hvg⟩
  have hcp2 : ∀ ty dc, (Builtin.copy_ #[127, 127] ty #[.slice (some ⟨g, i * 2, none⟩) (n + 1 - i) dc, .slice (some ⟨vb, 0, none⟩) 1 1]).run Tryz.prog W1 = .ok (goInt 1) (W1.setCells g (i * 2) (ents [e])) := fun ty dc =>
    run_copyN W1 _ _ ty 165 2 g (i * 2) (n + 1 - i) dc ⟨vb, 0, none⟩ 1 1 (ents [e]) Tryz.underlying127 hsz 1 (by simp only [Nat.min_def]; split <;> omega) rfl
      (fun j u hj => by
        obtain ⟨q, hq, hc⟩ := h2.rd.get j u hj
        injection hq with hq; subst hq; exact hc)
      (fun j hj => by rw [block_cell hg1 (by simp [ents] at hj; omega)]; rfl) (fun j hj => block_free hg1) (ents_one _)
  obtain ⟨cur2, hg2, hs2, hc2⟩ := heap_setCells (w := W1) (g := g) (cur := cur1) (ents [e]) (i * 2) hg1 (by simp [ents]; omega)
  have o2 : Only (fun k => k = g) w (W1.setCells g (i * 2) (ents [e])) := only_puts (S := fun k => k = g) g (.inl rfl) _ _ o1
  have fin : Hid (OwnE (W1.setCells g (i * 2) (ents [e])) B (.slice (some ⟨g, 0, none⟩) (n + 1) c) (l.take i ++ e :: l.drop i) ∧ Only (fun k => k = g) w (W1.setCells g (i * 2) (ents [e]))) := by
    refine ⟨own_of hB hg2 hroom hcm (by omega) (by simp; omega) ?_, o2⟩
    have hc1l : cur1.toList.length = c * 2 := by simp; omega
    have e1 : l.take i ++ e :: l.drop i = l.take i ++ ([e] ++ l.drop i) := rfl
    have e2 : (ents [e]).length = 2 := rfl
    have e3 : cur1.toList.take (i * 2) = ents (l.take i) := by
      rw [hc1, List.append_assoc, List.take_append_of_le_length (by rw [List.length_take]; omega), List.take_take, show min (i * 2) ((i + 1) * 2) = i * 2 by omega, ← ents_take, ← hX, List.take_take, show min (i * 2) (n * 2) = i * 2 by omega]
    have e4 : (cur1.toList.drop (i * 2 + 2)).take ((n - i) * 2) = news := by
      have e5 : (cur.toList.take ((i + 1) * 2)).length = (i + 1) * 2 := by rw [List.length_take]; omega
      rw [hc1, show i * 2 + 2 = (i + 1) * 2 by omega, List.append_assoc, List.drop_append_of_le_length (by omega), List.drop_of_length_le (by omega), List.nil_append, List.take_append_of_le_length (by omega), List.take_of_length_le (by omega)]
    rw [hc2, e1, ents_app, ents_app, e3, ← hnews]
    exact take3 (by rw [ents_len, List.length_take, e2, hl, show min i n = i by omega]; omega) e4
  have hov : ∀ lb cb, (callFunc 105 #[.slice (some ⟨vb, 0, none⟩) 1 1, .slice (some ⟨g, (i + 1) * 2, none⟩) lb cb]).run Tryz.prog w = .ok (.value (.bool false)) w := fun lb cb => by
    rw [run_callFunc_extern Tryz.func105 (by kernel_rfl) (by kernel_rfl) (by kernel_rfl) (e := Extern.SlicesOverlaps.overlaps #[127, 127] #[4]) (by kernel_rfl),
      Lib.run_overlaps_apart w 127 4 165 Tryz.underlying127 2 (by intro w; kernel_rfl) ⟨vb, 0, none⟩ ⟨g, (i + 1) * 2, none⟩ 1 1 lb cb hvg 165 165 2 cur.size (by unfold World.shape?; simp only [h1.hp]; rfl) (by unfold World.shape?; simp only [hg]) (by omega) (block_free h1.hp) (block_free h1.hp)]
    rfl
  have hW : Hid (W1 = w.drew.setCells g ((i + 1) * 2) news) := hW1
  have hw1 : IntKind.i64.wrap ((n : Int) + 1) = (n : Int) + 1 := by rw [IntKind.wrap_i64]; omega
  have hw2 : IntKind.i64.wrap ((i : Int) + 1) = (i : Int) + 1 := by rw [IntKind.wrap_i64]; omega
  have t1 : ((n : Int) + 1).toNat = n + 1 := by omega
  have t2 : ((i : Int) + 1).toNat = i + 1 := by omega
  have q1 : (0 : Int) ≤ (i : Int) + 1 := by omega
  have q2 : (0 : Int) ≤ (n : Int) + 1 := by omega
  have q3 : (i : Int) + 1 ≤ (n : Int) + 1 := by omega
  have q4 : (n : Int) + 1 ≤ (c : Int) := by omega
  have q5 : ¬ (c = i + 1) := by omega
  have q6 : ¬ (c = i) := by omega
  have q7 : ¬ ((i : Int) = (n : Int)) := by omega
  have q8 : ¬ ((c : Int) < (n : Int) + 1) := by omega
  have q9 : (i : Int) ≤ (n : Int) + 1 := by omega
  have q10 : i ≤ n := by omega
  have mixed : Tryz.prog.follows Departure.mixedOrders = true := by kernel_rfl
  clear hW1 hg hg1 hg2 hc1 hc2 hs1 hs2 hnews hnews' hlen hX hcl o1 o2 ho hl hcs hsrc h2 h1
  go_enter Tryz.func99, Tryz.ntmps99
  go_wp2_with (simp only [hov])
  go_region_law_o (refine step_copy_runI rfl _ _ 127 127 rfl _ _ (by simp [Act.eval, Act.put]) (by simp [Act.eval, Act.put]) (hcp1 _ _ _) ?_)
  go_wp2_with (at_builtin; refine wpList_copy_runI _ rfl _ _ 127 127 rfl _ _ rfl rfl (hcp2 _ _) ?_)
  go_ret
  obtain ⟨f1, f2⟩ := fin.out
  exact ⟨_, rfl, f1, f2.mono (fun k h => by rw [h]; rfl), .inl rfl⟩
end Go.Proofs.YtgmnnpbbiejbnaaGreat.DsF
set_option maxRecDepth 100000
set_option linter.unusedSimpArgs false
set_option linter.unusedVariables false
namespace Go.Proofs.YtgmnnpbbiejbnaaGreat.DsG
open Go.RowKit Go.Shelf Go.Lib Go.Proofs.YtgmnnpbbiejbnaaGreat.Mem Go.Proofs.YtgmnnpbbiejbnaaGreat.DuA Go.Proofs.YtgmnnpbbiejbnaaGreat.DuM Go.Proofs.YtgmnnpbbiejbnaaGreat.DuN Go.Proofs.YtgmnnpbbiejbnaaGreat.DuB Go.Proofs.YtgmnnpbbiejbnaaGreat.DsC Go.Proofs.YtgmnnpbbiejbnaaGreat.DsE Go.Proofs.YtgmnnpbbiejbnaaGreat.DsF

abbrev zE : Value := .agg #[.int .i64 0, .string ⟨#[]⟩]
theorem zero_size (k : Nat) : (Builtin.zeroCells zE.cells k).size = k * 2 := by
  have h : zE.cells.size = 2 := rfl
  simp [Builtin.zeroCells, h]

set_option maxHeartbeats 4000000 in
theorem ins_grow (B n i vb : Nat) (A : Option Addr) (l : List (Int × ByteArray)) (e : Int × ByteArray) (w : World) (ho : OwnE w B (.slice A n n) l) (h1 : One w vb e) (hB : B ≤ w.heap.size) (hi : i < n) (hn : (n + 1) * 24 ≤ 140737488355328) :
    Calls Tryz.prog 99 #[.slice A n n, .int .i64 i, .slice (some ⟨vb, 0, none⟩) 1 1] w (InsPost B (.slice A n n) (l.take i ++ e :: l.drop i) w) := by
  obtain ⟨g, cur, rfl, hgB, hg, hnc, hcm, hcs, hl, hX⟩ := own_block ho (by omega)
  obtain ⟨ii, hii, hz0, hz1, hz2⟩ := elE.info
  have hsz : (Tryz.prog.info? 165).map (·.size) = some 2 := by rw [hii]; simp [hz1]
  have hbw : g < w.heap.size := (Array.getElem?_eq_some_iff.1 hg).1
  have hvw : vb < w.heap.size := (Array.getElem?_eq_some_iff.1 h1.hp).1
  have hcl : cur.toList.length = n * 2 := by simpa using hcs
  have hXi : cur.toList = ents l := by rw [← hX, List.take_of_length_le (by omega)]
  have hcell : ∀ (W : World), W.heap[g]? = some (.cells cur 165 (0, 0)) → ∀ (o : Nat) t u, ((ents l).drop o)[t]? = some u → W.cell? ((⟨g, o, none⟩ : Addr).add t) = some u := by
    intro W hW o t u hu
    rw [List.getElem?_drop, ← hXi] at hu
    have := (List.getElem?_eq_some_iff.1 hu).1
    rw [add_mk, block_cell hW (by simpa using this)]
    rw [Array.getElem?_toList] at hu
    rw [Array.getElem?_eq_getElem (by simpa using this)] at hu
    exact hu
  have hkk : (n : Int) + 1 - (i : Int) = ((n + 1 - i : Nat) : Int) := by omega
  have hik : i + (n + 1 - i) = n + 1 := by omega
  have hold : (Builtin.firstCells ii.size i (.slice (some ⟨g, 0, none⟩) i n)).run Tryz.prog w.drew = .ok (ents (l.take i)).toArray w.drew := by
    rw [hz1]
    exact run_firstCells_some w.drew 2 i ⟨g, 0, none⟩ i n (ents (l.take i)) (by rw [ents_len, List.length_take]; omega) (fun j v hj => by
      rw [← ents_take, List.getElem?_take] at hj
      split at hj
      · exact hcell w.drew hg 0 j v (by simpa using hj)
      · cases hj)
  have hrz : ∀ ty, (Builtin.append_ #[127, 3] ty #[.slice (some ⟨g, 0, none⟩) i n, .int .i64 ((n : Int) + 1 - (i : Int))]).run Tryz.prog w =
      .ok (.slice (some ⟨w.heap.size, 0, none⟩) (n + 1) (grownCap w (n + 1) n 165)) (w.drew.alloc (.cells ((ents (l.take i)).toArray ++ Builtin.zeroCells zE.cells (n + 1 - i) ++ Builtin.zeroCells zE.cells (grownCap w (n + 1) n 165 - (n + 1))) 165)) := fun ty => by
    have h := Lib.run_append_grow_zeros w 127 3 ty 165 ii _ .i64 .i64 Tryz.underlying127 Tryz.underlying3 hii hz0 (some ⟨g, 0, none⟩) i n (ents (l.take i)) hold (n + 1 - i) (by omega) (by omega) (by omega) (by omega) (by rw [hz2]; omega) (by rw [hz2, hik]; exact growslice_fits (by omega) (by omega))
    rw [hik] at h
    rw [hkk]
    exact h
  obtain ⟨G, hG⟩ : ∃ G, G = grownCap w (n + 1) n 165 := ⟨_, rfl⟩
  have hGn : n + 1 ≤ G := by rw [hG]; exact grownCap_ge w _ _ _
  have hG63 : G ≤ 9223372036854775807 := by
    have := grownCap_le_maxLen w (n + 1) n 165 (by unfold maxLen; omega)
    rw [← hG] at this
    unfold maxLen at this
    omega
  obtain ⟨ROW, hROW⟩ : ∃ ROW : Array Value, ROW = (ents (l.take i)).toArray ++ Builtin.zeroCells zE.cells (n + 1 - i) ++ Builtin.zeroCells zE.cells (G - (n + 1)) := ⟨_, rfl⟩
  rw [← hG] at hrz
  rw [← hROW] at hrz
  have hRl : ROW.size = G * 2 := by
    rw [hROW, Array.size_append, Array.size_append, zero_size, zero_size, List.size_toArray, ents_len, List.length_take]
    omega
  have hRt : ROW.toList.take (i * 2) = ents (l.take i) := by
    rw [hROW]
    simp only [Array.toList_append]
    rw [List.append_assoc, List.take_append_of_le_length (by rw [ents_len, List.length_take]; omega), List.take_of_length_le (by rw [ents_len, List.length_take]; omega)]
  have hdl : (ents (l.drop i)).length = (n - i) * 2 := by rw [ents_len, List.length_drop, hl]
  obtain ⟨W1, hW1⟩ : ∃ W1, W1 = w.drew.alloc (.cells ROW 165) := ⟨_, rfl⟩
  rw [← hW1] at hrz
  have hN1 : W1.heap[w.heap.size]? = some (.cells ROW 165 (0, 0)) := by rw [hW1]; exact heap_alloc_new w.drew _
  have o1 : Only (fun _ => False) w W1 := by rw [hW1]; exact ((Only.refl _ w).drew).alloc _
  have h2 : One W1 vb e := ⟨o1.heap h1.hp id⟩
  obtain ⟨cur1, hg1, hs1, hc1⟩ := heap_setCells (w := W1) (g := w.heap.size) (cur := ROW) (ents [e]) (i * 2) hN1 (by simp [ents]; omega)
  have o2 : Only (fun _ => False) w ((W1.setCells w.heap.size (i * 2) (ents [e]))) := only_puts (S := fun _ => False) w.heap.size (.inr (Nat.le_refl _)) _ _ o1
  obtain ⟨cur2, hg2, hs2, hc2⟩ := heap_setCells (w := (W1.setCells w.heap.size (i * 2) (ents [e])).drew) (g := w.heap.size) (cur := cur1) (ents (l.drop i)) ((i + 1) * 2) hg1 (by omega)
  have o3 : Only (fun _ => False) w ((W1.setCells w.heap.size (i * 2) (ents [e])).drew.setCells w.heap.size ((i + 1) * 2) (ents (l.drop i))) := only_puts (S := fun _ => False) w.heap.size (.inr (Nat.le_refl _)) _ _ o2.drew
  have fin : Hid (OwnE ((W1.setCells w.heap.size (i * 2) (ents [e])).drew.setCells w.heap.size ((i + 1) * 2) (ents (l.drop i))) B (.slice (some ⟨w.heap.size, 0, none⟩) (n + 1) G) (l.take i ++ e :: l.drop i) ∧ Only (fun _ => False) w ((W1.setCells w.heap.size (i * 2) (ents [e])).drew.setCells w.heap.size ((i + 1) * 2) (ents (l.drop i)))) := by
    refine ⟨own_of hB hg2 hGn (by unfold maxLen; omega) (by omega) (by simp; omega) ?_, o3⟩
    have e1 : l.take i ++ e :: l.drop i = (l.take i ++ [e]) ++ l.drop i := by simp
    have e2 : (ents [e]).length = 2 := rfl
    have e3 : cur1.toList.take ((i + 1) * 2) = ents (l.take i ++ [e]) := by
      rw [hc1, hRt, List.take_append_of_le_length (by rw [List.length_append, ents_len, List.length_take, e2]; omega), List.take_of_length_le (by rw [List.length_append, ents_len, List.length_take, e2]; omega), ents_app]
    rw [hc2, e3, e1, ents_app (l.take i ++ [e])]
    rw [List.take_append_of_le_length (by rw [List.length_append, ents_len, hdl, List.length_append, List.length_take]; simp; omega), List.take_of_length_le (by rw [List.length_append, ents_len, hdl, List.length_append, List.length_take]; simp; omega)]
  have hcpA : ∀ (W : World), W = W1 → ∀ ty dc, (Builtin.copy_ #[127, 127] ty #[.slice (some ⟨w.heap.size, i * 2, none⟩) (n + 1 - i) dc, .slice (some ⟨vb, 0, none⟩) 1 1]).run Tryz.prog W = .ok (goInt ((1 : Nat) : Int)) (W.setCells w.heap.size (i * 2) (ents [e])) := fun W hW ty dc => by
    have hNW : W.heap[w.heap.size]? = some (.cells ROW 165 (0, 0)) := by subst hW; exact hN1
    have h2W : One W vb e := by subst hW; exact h2
    exact run_copyN W _ _ ty 165 2 w.heap.size (i * 2) (n + 1 - i) dc ⟨vb, 0, none⟩ 1 1 (ents [e]) Tryz.underlying127 hsz 1 (by simp only [Nat.min_def]; split <;> omega) rfl
      (fun j u hj => by
        obtain ⟨q, hq, hc⟩ := h2W.rd.get j u hj
        injection hq with hq; subst hq; exact hc)
      (fun j hj => by rw [block_cell hNW (by simp [ents] at hj; omega)]; rfl) (fun j hj => block_free hNW) (ents_one _)
  have hoB : (W1.setCells w.heap.size (i * 2) (ents [e])).heap[g]? = some (.cells cur 165 (0, 0)) := o2.heap hg id
  have hcpB : ∀ (W : World), W.heap = (W1.setCells w.heap.size (i * 2) (ents [e])).heap → ∀ ty dc sc, (Builtin.copy_ #[127, 127] ty #[.slice (some ⟨w.heap.size, (i + 1) * 2, none⟩) (n - i) dc, .slice (some ⟨g, i * 2, none⟩) (n - i) sc]).run Tryz.prog W = .ok (goInt ((n - i : Nat) : Int)) (W.setCells w.heap.size ((i + 1) * 2) (ents (l.drop i))) := fun W hW ty dc sc => by
    have hNW : W.heap[w.heap.size]? = some (.cells cur1 165 (0, 0)) := by rw [hW]; exact hg1
    have hgW : W.heap[g]? = some (.cells cur 165 (0, 0)) := by rw [hW]; exact hoB
    exact run_copyN W _ _ ty 165 2 w.heap.size ((i + 1) * 2) (n - i) dc ⟨g, i * 2, none⟩ (n - i) sc (ents (l.drop i)) Tryz.underlying127 hsz (n - i) (by simp) hdl
      (fun j u hj => hcell W hgW (i * 2) j u (by rw [ents_drop]; exact hj))
      (fun j hj => by rw [block_cell hNW (by omega)]; rfl) (fun j hj => block_free hNW) (ents_one _)
  have mixed : Tryz.prog.follows Departure.mixedOrders = true := by kernel_rfl
  have hw0 : IntKind.i64.wrap ((n : Int) + 1) = (n : Int) + 1 := by rw [IntKind.wrap_i64]; omega
  have hw2 : IntKind.i64.wrap ((i : Int) + 1) = (i : Int) + 1 := by rw [IntKind.wrap_i64]; omega
  have hw3 : IntKind.i64.wrap ((n : Int) + 1 - (i : Int)) = (n : Int) + 1 - (i : Int) := by rw [IntKind.wrap_i64]; omega
  have t2 : ((i : Int) + 1).toNat = i + 1 := by omega
  have q1 : (0 : Int) ≤ (i : Int) + 1 := by omega
  have q3 : (i : Int) + 1 ≤ (n : Int) + 1 := by omega
  have q5 : ¬ (G = i + 1) := by omega
  have q6 : ¬ (G = i) := by omega
  have q6' : ¬ (n = i) := by omega
  have q7 : ¬ ((i : Int) = (n : Int)) := by omega
  have q8 : (n : Int) < (n : Int) + 1 := by omega
  have q9 : (i : Int) ≤ (n : Int) + 1 := by omega
  have q10 : i ≤ n := by omega
  have HX := Lib.hid hW1
  clear hcl hXi hcell hkk hik hold hG hROW hRl hRt hdl hN1 o1 o2 o3 h2 hg1 hg2 hs1 hs2 hc1 hc2 hoB hX ho h1 hg hcs hl hW1
  go_enter Tryz.func99, Tryz.ntmps99
  go_wp2_with (first
    | (at_builtin; refine Lib.wpList_append_run _ rfl _ _ _ _ rfl _ _ rfl rfl _ _ (hrz _) ?_)
    | (at_builtin; refine wpList_copy_runI _ rfl _ _ 127 127 rfl _ _ rfl rfl (hcpA _ rfl _ _) ?_))
  obtain ⟨W2, hW2⟩ : ∃ W2, W1.setCells w.heap.size (i * 2) (ents [e]) = W2 := ⟨_, rfl⟩
  rw [hW2] at hcpB fin ⊢
  clear hW2
  have hcpB' := hcpB W2.drew rfl
  go_region_law_o (refine step_copy_runI rfl _ _ 127 127 rfl _ _ (by simp [Act.eval, Act.put]) (by simp [Act.eval, Act.put]) (hcpB' _ _ _) ?_)
  go_wp2_with fail
  go_ret
  obtain ⟨f1, f2⟩ := fin.out
  exact ⟨_, rfl, f1, f2.mono (fun k h => h.elim), .inr ⟨_, rfl, Nat.le_refl _⟩⟩

theorem insert_calls (B n c i vb : Nat) (A : Option Addr) (l : List (Int × ByteArray)) (e : Int × ByteArray) (w : World) (ho : OwnE w B (.slice A n c) l) (h1 : One w vb e) (hv : (.slice A n c : Value).ownBlock ≠ some vb) (hB : B ≤ w.heap.size) (hi : i ≤ n) (hn : n ≤ 4398046511104) :
    Calls Tryz.prog 99 #[.slice A n c, .int .i64 i, .slice (some ⟨vb, 0, none⟩) 1 1] w (InsPost B (.slice A n c) (l.take i ++ e :: l.drop i) w) := by
  have hl : l.length = n := own_n ho
  by_cases h : i = n
  · subst h
    have := ins_end B i c vb A l e w ho h1 hB (by omega)
    rwa [List.take_of_length_le (by omega), List.drop_of_length_le (by omega)]
  · obtain ⟨g, cur, -, -, -, hnc, -⟩ := own_block ho (by omega)
    by_cases hr : n + 1 ≤ c
    · exact ins_shift B n c i vb A l e w ho h1 hv (by omega) hr
    · obtain rfl : c = n := by omega
      exact ins_grow B c i vb A l e w ho h1 hB (by omega) (by omega)
end Go.Proofs.YtgmnnpbbiejbnaaGreat.DsG
set_option maxRecDepth 100000
set_option linter.unusedSimpArgs false
set_option linter.unusedVariables false
namespace Go.Proofs.YtgmnnpbbiejbnaaGreat.DsH
open Go.RowKit Go.Shelf Go.Proofs.YtgmnnpbbiejbnaaGreat.Mem Go.Proofs.YtgmnnpbbiejbnaaGreat.DuA Go.Proofs.YtgmnnpbbiejbnaaGreat.DuM Go.Proofs.YtgmnnpbbiejbnaaGreat.DuN Go.Proofs.YtgmnnpbbiejbnaaGreat.DuB Go.Proofs.YtgmnnpbbiejbnaaGreat.DsC Go.Proofs.YtgmnnpbbiejbnaaGreat.DsD Go.Proofs.YtgmnnpbbiejbnaaGreat.DsE Go.Proofs.YtgmnnpbbiejbnaaGreat.DsF Go.Proofs.YtgmnnpbbiejbnaaGreat.DsG

def okk (k : ByteArray) : Prop := k.size ≤ maxLen
theorem keyed : Maps.Keyed Tryz.prog 9 := Maps.string_keyed Tryz.underlying9
theorem key_of {k : ByteArray} (hk : okk k) : keyOf Tryz.prog 9 (Value.string k) = some (klS k) := by
  unfold okk at hk
  simp [keyOf, Tryz.underlying9, mapKey, klS]
  first
    | exact hk
    | (have hmin : IntKind.i64.min = -9223372036854775808 := rfl
       have hmax : IntKind.i64.max = 9223372036854775807 := rfl
       simp only [Lit.wf, Bool.and_eq_true, decide_eq_true_eq]
       omega)
abbrev Mp (w : World) (m N : Nat) (D : Dt) : Prop := w.ownsMap Tryz.prog 9 (plainElem Tryz.prog 3) m N D
/-- An Index at block g, its map at block m, its row v. -/
structure Ix (w : World) (B g m : Nat) (v : Value) (l : List (Int × ByteArray)) (N : Nat) : Prop where
  hp : w.heap[g]? = some (.cells #[.map (some m), v] 129 (0, 0))
  mp : ∃ D, Mp w m N D ∧ Tells klS D l
  own : OwnE w B v l
  gB : B ≤ g
  mB : B ≤ m
  gm : g ≠ m
  vg : v.ownBlock ≠ some g
  vm : v.ownBlock ≠ some m
  srt : Srt ltS l
  len : l.length ≤ N
  rng : ∀ e ∈ l, 0 ≤ e.1 ∧ e.1 ≤ 9007199254740992
  kok : ∀ e ∈ l, okk e.2
/-- Its blocks. -/
def IxS (g m : Nat) (v : Value) (k : Nat) : Prop := k = g ∨ k = m ∨ v.ownBlock = some k
section
variable {w w' : World} {B g m : Nat} {v : Value} {l : List (Int × ByteArray)} {N : Nat} {S : Nat → Prop}
theorem Ix.only (h : Ix w B g m v l N) (ho : Only S w w') (hs : ∀ k, IxS g m v k → ¬ S k) : Ix w' B g m v l N := by
  obtain ⟨D, ⟨es, clock, hb, F, hn, hD⟩, hT⟩ := h.mp
  exact { h with hp := ho.heap h.hp (hs g (.inl rfl)), mp := ⟨D, ⟨es, clock, ho.heap hb (hs m (.inr (.inl rfl))), F, hn, hD⟩, hT⟩, own := own_only h.own ho (fun k hk => hs k (.inr (.inr hk))) }
theorem Ix.lt (h : Ix w B g m v l N) : ∀ k, IxS g m v k → B ≤ k ∧ k < w.heap.size := by
  intro k hk
  rcases hk with rfl | rfl | hk
  · exact ⟨h.gB, (Array.getElem?_eq_some_iff.1 h.hp).1⟩
  · obtain ⟨D, hM, _⟩ := h.mp
    exact ⟨h.mB, hM.lt⟩
  · exact h.own.lt k hk
theorem Ix.below (h : Ix w B g m v l N) (hb : Below w.heap.size w w') : Ix w' B g m v l N :=
  h.only (Only.of_below hb) (fun k hk => by have := (h.lt k hk).2; omega)
theorem Ix.drew (h : Ix w B g m v l N) : Ix w.drew B g m v l N := h.below ((Below.refl _ _).drew)
theorem Ix.drawn (h : Ix w B g m v l N) (n : Nat) : Ix (w.drewN n) B g m v l N := h.below (below_drawn_ (Below.refl _ _) n)
theorem Ix.cells (h : Ix w B g m v l N) : w.cell? ⟨g, 0, none⟩ = some (.map (some m)) ∧ w.cell? ⟨g, 1, none⟩ = some v ∧ w.frozen? ⟨g, 1, none⟩ = false := by
  have h1 := h.hp
  exact ⟨by unfold World.cell?; simp only [h1]; rfl, by unfold World.cell?; simp only [h1]; rfl, by unfold World.frozen?; simp only [h1]; rfl⟩
theorem Ix.look (h : Ix w B g m v l N) {k : ByteArray} (hk : okk k) : (Instr.lookup 126 (.map (some m)) (Value.string k) true).run Tryz.prog w = .ok (.tuple #[.int .i64 ((dueL l k).getD 0), .bool (dueL l k).isSome]) w := by
  obtain ⟨D, hM, hT⟩ := h.mp
  obtain ⟨u, ps, hrun, hv⟩ := hM.look_ok keyed Tryz.underlying126 (Tryz.zeroValue3 w) (plainElem_int Tryz.underlying3 (by decide)) (key := Value.string k) (kl := klS k) (key_of hk)
  obtain ⟨c, rfl, hc, -⟩ := plainElem_int_inv Tryz.underlying3 hv
  have hc' := congrArg Prod.fst hc
  rw [hT.at_ k] at hc'
  rw [hrun, hT.is k]
  simp only [DataW.lit.injEq, Lit.int.injEq, true_and] at hc'
  rw [hc']
end

end Go.Proofs.YtgmnnpbbiejbnaaGreat.DsH
set_option maxRecDepth 100000
set_option linter.unusedSimpArgs false
set_option linter.unusedVariables false
namespace Go.Proofs.YtgmnnpbbiejbnaaGreat.DsI
open Go.RowKit Go.Shelf Go.Proofs.YtgmnnpbbiejbnaaGreat.Mem Go.Proofs.YtgmnnpbbiejbnaaGreat.DuA Go.Proofs.YtgmnnpbbiejbnaaGreat.DuM Go.Proofs.YtgmnnpbbiejbnaaGreat.DuN Go.Proofs.YtgmnnpbbiejbnaaGreat.DuB Go.Proofs.YtgmnnpbbiejbnaaGreat.DsC Go.Proofs.YtgmnnpbbiejbnaaGreat.DsD Go.Proofs.YtgmnnpbbiejbnaaGreat.DsE Go.Proofs.YtgmnnpbbiejbnaaGreat.DsF Go.Proofs.YtgmnnpbbiejbnaaGreat.DsG Go.Proofs.YtgmnnpbbiejbnaaGreat.DsH

/-- What a call that turns an Index leaves. -/
def Turn (B g m : Nat) (v : Value) (l' : List (Int × ByteArray)) (N : Nat) (w w' : World) : Prop :=
  ∃ v', Ix w' B g m v' l' N ∧ Only (IxS g m v) w w' ∧ (v'.ownBlock = v.ownBlock ∨ ∃ k, v'.ownBlock = some k ∧ w.heap.size ≤ k)
theorem Turn.refl {w : World} {B g m N : Nat} {v : Value} {l : List (Int × ByteArray)} (h : Ix w B g m v l N) : Turn B g m v l N w w := ⟨v, h, Only.refl _ _, .inl rfl⟩
theorem srt_drop {l : List (Int × ByteArray)} {k : ByteArray} (h : Srt ltS l) : Srt ltS (dropL l k) := h.drop k
theorem mem_drop {l : List (Int × ByteArray)} {k : ByteArray} {e : Int × ByteArray} (h : e ∈ dropL l k) : e ∈ l := (List.mem_filter.1 h).1

theorem ob (A : Option Addr) (n c n' c' : Nat) : (.slice A n c : Value).ownBlock = (.slice A n' c' : Value).ownBlock := by cases A <;> rfl
theorem only_b {S : Nat → Prop} {w w' : World} (h : Below w.heap.size w w') : Only S w w' := ⟨h.os, h.tape, h.output, h.size, fun k hk _ => h.block k hk⟩
theorem put_cells {w : World} {g : Nat} {a b u : Value} (h : w.heap[g]? = some (.cells #[a, b] 129 (0, 0))) : (w.setCell ⟨g, 1, none⟩ u).heap[g]? = some (.cells #[a, u] 129 (0, 0)) := by
  rw [heap_setCell_same w g 1 _ _ _ h]; rfl

set_option maxHeartbeats 4000000 in
theorem drop_calls (B g m : Nat) (v : Value) (l : List (Int × ByteArray)) (N : Nat) (k : ByteArray) (w : World) (h : Ix w B g m v l N) (hk : okk k) (hB : B ≤ w.heap.size) (hN : N ≤ 1099511627776) :
    Calls Tryz.prog 67 #[.pointer (some ⟨g, 0, none⟩), .string k] w fun e w' => e = .returned (.bool (dueL l k).isSome) ∧ Turn B g m v (dropL l k) N w w' := by
  obtain ⟨c0, -, -⟩ := h.cells
  have hlk := h.look hk
  rcases hd : dueL l k with _ | t
  · rw [hd] at hlk
    have hid : dropL l k = l := drop_id (due_none.1 hd)
    rw [hid]
    go_enter Tryz.func67, Tryz.ntmps67
    go_wp2_with fail
    go_ret
    exact ⟨rfl, Turn.refl h⟩
  · rw [hd] at hlk
    have hm := (due_some h.srt.one).1 hd
    obtain ⟨p1, p2⟩ := pos_at linS h.srt hm
    obtain ⟨A, c, rfl⟩ := own_form h.own
    have hr : RdE w A l.length c l := Rd.of_own h.own
    obtain ⟨i, hi⟩ : ∃ i, posL ltS l (t, k) = i := ⟨_, rfl⟩
    rw [hi] at p1 p2
    have hil : i < l.length := (List.getElem?_eq_some_iff.1 p1).1
    have hlN := h.len
    have hsr := search_calls A l.length c l (t, k) w hr h.srt.ord (by omega)
    rw [hi] at hsr
    have P2 : Hid (dropL l k = l.take i ++ l.drop (i + 1)) := p2
    clear p1 p2 hi hd hm
    obtain ⟨n, hn⟩ : ∃ n, l.length = n := ⟨_, rfl⟩
    have c1 : w.cell? ⟨g, 1, none⟩ = some (.slice A l.length c) := h.cells.2.1
    rw [hn] at hil hlN hsr c1
    have HN := Lib.hid hn
    clear hr
    have hlk' : (Instr.lookup 126 (.map (some m)) (Value.string k) true).run Tryz.prog w = .ok (.tuple #[.int .i64 t, .bool true]) w := hlk
    clear hlk
    go_enter Tryz.func67, Tryz.ntmps67
    go_wp2_with fail
    refine hsr.mono ?_
    rintro e w1 ⟨b, rfl, b1⟩
    have h1 := h.below b1
    have O1 : Only (IxS g m (.slice A n c)) w w1 := only_b b1
    have c1' : w1.cell? ⟨g, 1, none⟩ = some (.slice A n c) := by rw [← HN.out]; exact h1.cells.2.1
    clear c0 c1 hlk' hsr
    go_wp2_with fail
    have ho1 : OwnE w1 B (.slice A n c) l := by rw [← HN.out]; exact h1.own
    refine (delete_calls B n c i A l w1 ho1 hil).mono ?_
    rintro e w2 ⟨rfl, o2, O2⟩
    have gv := h.vg
    have mv := h.vm
    have gm := h.gm
    rw [HN.out] at gv mv
    have hp2 := O2.heap h1.hp (fun e => gv e)
    rw [HN.out] at hp2
    have c20 : w2.cell? ⟨g, 0, none⟩ = some (.map (some m)) := by unfold World.cell?; simp only [hp2]; rfl
    have c21 : w2.cell? ⟨g, 1, none⟩ = some (.slice A n c) := by unfold World.cell?; simp only [hp2]; rfl
    have f21 : w2.frozen? ⟨g, 1, none⟩ = false := by unfold World.frozen?; simp only [hp2]; rfl
    have hp3 := put_cells (u := .slice A (n - 1) c) hp2
    have c30 : (w2.setCell ⟨g, 1, none⟩ (.slice A (n - 1) c)).cell? ⟨g, 0, none⟩ = some (.map (some m)) := by unfold World.cell?; simp only [hp3]; rfl
    obtain ⟨D, hM1, hT⟩ := h1.mp
    have O3 : Only (fun k => k = g) w2 (w2.setCell ⟨g, 1, none⟩ (.slice A (n - 1) c)) := (Only.refl (fun k => k = g) w2).put (p := ⟨g, 1, none⟩) (.inl rfl) _
    have hM3 : Mp (w2.setCell ⟨g, 1, none⟩ (.slice A (n - 1) c)) m N D := by
      obtain ⟨es, clock, hb, F, hn, hD⟩ := hM1
      exact ⟨es, clock, O3.heap (O2.heap hb (fun e => mv e)) (fun e => gm e.symm), F, hn, hD⟩
    have o3 : OwnE (w2.setCell ⟨g, 1, none⟩ (.slice A (n - 1) c)) B (.slice A (n - 1) c) (l.take i ++ l.drop (i + 1)) := own_only o2 O3 (fun k hk e => gv (by rw [← e, ← hk]; exact ob _ _ _ _ _))
    have O13 : Only (IxS g m (.slice A n c)) w (w2.setCell ⟨g, 1, none⟩ (.slice A (n - 1) c)) :=
      (O1.trans O2 (fun b hb => .inl (.inr (.inr hb)))).trans O3 (fun b hb => .inl (.inl hb))
    clear c1' O1 O2 O3 hM1 hp2 b1
    go_wp2_with (at_delete; refine wpList_delete_own _ rfl _ _ 126 9 rfl 3 keyed Tryz.underlying126 _ m N D rfl hM3 _ _ rfl (key_of hk) ?_; intro w3 hown3 hturn3)
    go_ret
    have O4 := Only.of_grown hturn3.grown
    have hp4 := O4.heap hp3 (fun e => by injection e with e; exact gm e.symm)
    have o4 := own_only o3 O4 (fun k hk e => by injection e with e; exact mv (by rw [e, ← hk]; exact ob _ _ _ _ _))
    rw [← P2.out] at o4
    refine ⟨rfl, .slice A (n - 1) c, ⟨hp4, ⟨_, hown3, hT.del keyS h.srt.one k⟩, ?_, h.gB, h.mB, gm, (by rw [ob A (n - 1) c n c]; exact gv), (by rw [ob A (n - 1) c n c]; exact mv), srt_drop h.srt, ?_, fun e he => h.rng e (mem_drop he), fun e he => h.kok e (mem_drop he)⟩, ?_, .inl (ob _ _ _ _ _)⟩
    · exact o4
    · have := drop_len l k; have := h.len; omega
    · rw [HN.out]
      exact O13.trans O4 (fun b hb => .inl (.inr (.inl (by injection hb with hb; exact hb.symm))))
end Go.Proofs.YtgmnnpbbiejbnaaGreat.DsI
set_option maxRecDepth 100000
set_option linter.unusedSimpArgs false
set_option linter.unusedVariables false
namespace Go.Proofs.YtgmnnpbbiejbnaaGreat.DsJ
open Go.RowKit Go.Shelf Go.Proofs.YtgmnnpbbiejbnaaGreat.Mem Go.Proofs.YtgmnnpbbiejbnaaGreat.DuA Go.Proofs.YtgmnnpbbiejbnaaGreat.DuM Go.Proofs.YtgmnnpbbiejbnaaGreat.DuN Go.Proofs.YtgmnnpbbiejbnaaGreat.DuB Go.Proofs.YtgmnnpbbiejbnaaGreat.DsC Go.Proofs.YtgmnnpbbiejbnaaGreat.DsD Go.Proofs.YtgmnnpbbiejbnaaGreat.DsE Go.Proofs.YtgmnnpbbiejbnaaGreat.DsF Go.Proofs.YtgmnnpbbiejbnaaGreat.DsG Go.Proofs.YtgmnnpbbiejbnaaGreat.DsH Go.Proofs.YtgmnnpbbiejbnaaGreat.DsI

def okT (t : Int) : Prop := 0 ≤ t ∧ t ≤ 9007199254740992
instance (t : Int) : Decidable (okT t) := by unfold okT; infer_instance
def setL (l : List (Int × ByteArray)) (k : ByteArray) (t : Int) : List (Int × ByteArray) := if okT t then insL ltS (t, k) (dropL l k) else l
def setE (t : Int) : Int := if okT t then 0 else 70
theorem Turn.more {B g m N N' : Nat} {v : Value} {l : List (Int × ByteArray)} {w w' : World} (h : Turn B g m v l N w w') (hN : N ≤ N') : Turn B g m v l N' w w' := by
  obtain ⟨v', h1, h2⟩ := h
  obtain ⟨D, hM, hT⟩ := h1.mp
  exact ⟨v', { h1 with len := by have := h1.len; omega, mp := ⟨D, hM.mono hN, hT⟩ }, h2⟩

theorem own_lt {w : World} {B : Nat} {v : Value} {l : List (Int × ByteArray)} (h : OwnE w B v l) : ∀ k, v.ownBlock = some k → k < w.heap.size := fun k hk => (h.lt k hk).2
/-- What the search and the placing read. -/
abbrev Sx (w : World) (g eb : Nat) (v : Value) (e : Int × ByteArray) (w' : World) : Prop :=
  Below w.heap.size w w' ∧ w'.cell? ⟨g, 1, none⟩ = some v ∧ w'.cell? ⟨eb, 0, none⟩ = some (.int .i64 e.1) ∧ w'.cell? ⟨eb, 1, none⟩ = some (Value.string e.2)
theorem sx_below {w w' w1 : World} {g eb : Nat} {v : Value} {e : Int × ByteArray} (h : Sx w g eb v e w1) (hb : Below w1.heap.size w1 w') : Sx w g eb v e w' :=
  ⟨h.1.trans (hb.mono h.1.size), cell_b h.2.1 hb, cell_b h.2.2.1 hb, cell_b h.2.2.2 hb⟩
theorem sx_drew {w w1 : World} {g eb : Nat} {v : Value} {e : Int × ByteArray} (h : Sx w g eb v e w1) : Sx w g eb v e w1.drew := sx_below h ((Below.refl _ _).drew)

abbrev S7 (g eb : Nat) (v : Value) (e : Int × ByteArray) (w' : World) : Prop :=
  w'.cell? ⟨g, 1, none⟩ = some v ∧ w'.cell? ⟨eb, 0, none⟩ = some (.int .i64 e.1) ∧ w'.cell? ⟨eb, 1, none⟩ = some (Value.string e.2)

set_option maxHeartbeats 4000000 in
theorem set_calls (B g m : Nat) (v : Value) (l : List (Int × ByteArray)) (N : Nat) (k : ByteArray) (t : Int) (w : World) (h : Ix w B g m v l N) (hk : okk k) (hB : B ≤ w.heap.size) (hN : N ≤ 1099511627775) :
    Calls Tryz.prog 68 #[.pointer (some ⟨g, 0, none⟩), .string k, .int .i64 t] w fun e w' => e = .returned (.int .i64 (setE t)) ∧ Turn B g m v (setL l k t) (N + 1) w w' := by
  unfold setE setL
  by_cases ht : okT t
  rotate_left
  · rw [if_neg ht, if_neg ht]
    have hR := Turn.more (Turn.refl h) (Nat.le_add_right N 1)
    by_cases h0 : t < 0
    · go_enter Tryz.func68, Tryz.ntmps68
      go_wp2_with fail
      go_ret
      exact ⟨rfl, hR⟩
    · have h1 : 9007199254740992 < t := by unfold okT at ht; omega
      go_enter Tryz.func68, Tryz.ntmps68
      go_wp2_with fail
      go_ret
      exact ⟨rfl, hR⟩
  rw [if_pos ht, if_pos ht]
  have ht' := ht
  obtain ⟨t0, t1⟩ := ht
  have hnk : k ∉ (dropL l k).map (·.2) := drop_not_mem l k
  have hkT := Lib.hid hnk
  obtain ⟨l1, hl1⟩ : ∃ l1, dropL l k = l1 := ⟨_, rfl⟩
  have hdr := drop_calls B g m v l N k w h hk hB (by omega)
  have hgm := h.gm
  have hltS := h.lt
  rw [hl1] at hdr hnk ⊢
  clear hl1 hkT
  go_enter Tryz.func68, Tryz.ntmps68
  go_wp2_with fail
  refine hdr.mono ?_
  rintro e w1 ⟨rfl, v1, h1, O1, hv1⟩
  obtain ⟨A, c, rfl⟩ := own_form h1.own
  obtain ⟨D, hM1, hT⟩ := h1.mp
  have hMis := hM1.isMap
  obtain ⟨c10, c11, -⟩ := h1.cells
  have hlen := h1.len
  obtain ⟨n, hn⟩ : ∃ n, l1.length = n := ⟨_, rfl⟩
  have HN := Lib.hid hn
  rw [hn] at c11
  go_wp2_with (at_mapUpdate; refine wpList_mapUpdate_own _ rfl _ _ _ 126 rfl 9 3 keyed Tryz.underlying126 _ m N D rfl hM1 (by unfold maxLen; omega) _ _ (klS k) rfl rfl (key_of hk) (.lit (.int .i64 t)) [] (plainElem_int Tryz.underlying3 (by simp only [Lit.wf, Bool.and_eq_true, decide_eq_true_eq]; exact ⟨(show (-9223372036854775808 : Int) ≤ t by omega), (show t ≤ (9223372036854775807 : Int) by omega)⟩)) ?_; intro w2 hown2 hturn2)
  have O2 := Only.of_grown hturn2
  have hp2 := O2.heap h1.hp (fun e => by injection e with e; exact hgm e.symm)
  have o2 : OwnE w2 B (.slice A n c) l1 := by rw [← HN.out]; exact own_only h1.own O2 (fun k hk e => by injection e with e; exact h1.vm (by rw [hk, e]))
  rw [HN.out] at hp2
  obtain ⟨W3, hW3⟩ : ∃ W3, w2.alloc (.cells #[.int .i64 t, Value.string k] 165) = W3 := ⟨_, rfl⟩
  have b3 : Below w2.heap.size w2 W3 := by rw [← hW3]; exact al _ _
  have x30 : W3.cell? ⟨w2.heap.size, 0, none⟩ = some (.int .i64 t) := by rw [← hW3]; exact (eo_cells w2 (t, k)).1
  have x31 : W3.cell? ⟨w2.heap.size, 1, none⟩ = some (Value.string k) := by rw [← hW3]; exact (eo_cells w2 (t, k)).2
  have hp3 : W3.heap[g]? = some (.cells #[.map (some m), .slice A n c] 129 (0, 0)) := (only_b (S := fun _ => False) b3).heap hp2 id
  have c31 : W3.cell? ⟨g, 1, none⟩ = some (.slice A n c) := by unfold World.cell?; simp only [hp3]; rfl
  have o3 : OwnE W3 B (.slice A n c) l1 := own_only o2 (only_b (S := fun _ => False) b3) (fun _ _ => id)
  have H3 := Lib.hid hW3
  clear hW3 c10 c11 hM1
  rw [show w2.alloc (.cells #[.int .i64 t, .string k] 165) = W3 from H3.out]
  have hsr := fun w' (hb : Below W3.heap.size W3 w') => search_calls A n c l1 (t, k) w' (Rd.below (Rd.of_own (by have := o3; unfold OwnE at this; rwa [HN.out] at this)) hb) h1.srt.ord (by omega)
  have HS : Sx W3 g w2.heap.size (.slice A n c) (t, k) W3 := ⟨Below.refl _ _, c31, x30, x31⟩
  obtain ⟨i, hi⟩ : ∃ i, posL ltS l1 (t, k) = i := ⟨_, rfl⟩
  have hin : i ≤ n := by rw [← hi, ← HN.out]; exact pos_le _ _
  have HI : Hid (insL ltS (t, k) l1 = l1.take i ++ (t, k) :: l1.drop i) := by
    show _ = _
    rw [← hi]
    exact ins_at linS h1.srt (fun hm => hnk (List.mem_map_of_mem (f := fun e : Int × ByteArray => e.2) hm))
  rw [hi] at hsr
  clear hi
  go_region_held3 (fun w' => Sx W3 g w2.heap.size (.slice A n c) (t, k) w')
    (first | exact sx_drew HS | assumption | exact sx_below (by assumption) (by assumption))
    (first
      | (go_at_call 96; refine (hsr _ ((Below.refl _ _).drew)).mono ?_; rintro e w5 ⟨bb, rfl, hb5⟩))
  have HS5 := sx_below (sx_drew HS) hb5
  obtain ⟨b5, c50, x50, x51⟩ := HS5
  have HS5 : Sx w5 g w2.heap.size (.slice A n c) (t, k) w5 := ⟨Below.refl _ _, c50, x50, x51⟩
  clear hb5 HS
  have O5 : Only (fun _ => False) W3 (w5.alloc (eo (t, k))).drew := only_b (b5.trans (((al w5 (eo (t, k))).drew).mono b5.size))
  have o5 : OwnE (w5.alloc (eo (t, k))).drew B (.slice A n c) l1 := own_only o3 O5 (fun _ _ => id)
  have o5' : OwnE w5 B (.slice A n c) l1 := own_only o3 (only_b (S := fun _ => False) b5) (fun _ _ => id)
  have hp5 := O5.heap hp3 id
  have hlt5 := own_lt o5'
  have hBw : B ≤ w5.heap.size := by
    have e1 := O1.size
    have e2 := O2.size
    have e3 := b3.size
    have e4 := b5.size
    omega
  have hins := insert_calls B n c i w5.heap.size A l1 (t, k) (w5.alloc (eo (t, k))).drew o5 ⟨heap_alloc_new w5 _⟩ (fun e => by have := hlt5 _ e; exact Nat.lt_irrefl _ this) (by show B ≤ (w5.alloc _).heap.size; rw [World.size_alloc]; omega) hin (by omega)
  have gv : (.slice A n c : Value).ownBlock ≠ some g := by rw [← HN.out]; exact h1.vg
  have mv : (.slice A n c : Value).ownBlock ≠ some m := by rw [← HN.out]; exact h1.vm
  have ev : (.slice A n c : Value).ownBlock ≠ some w2.heap.size := fun e => Nat.lt_irrefl _ (own_lt o2 _ e)
  have HK5 : S7 g w2.heap.size (.slice A n c) (t, k) (w5.alloc (eo (t, k))).drew := ⟨cell_b c50 ((al _ _).drew), cell_b x50 ((al _ _).drew), cell_b x51 ((al _ _).drew)⟩
  have HK5' : S7 g w2.heap.size (.slice A n c) (t, k) w5.drew := ⟨c50, x50, x51⟩
  have HK5'' : S7 g w2.heap.size (.slice A n c) (t, k) w5 := ⟨c50, x50, x51⟩
  clear c50 x50 x51 HS5
  go_wp2_with fail
  have mixed : Tryz.prog.follows Departure.mixedOrders = true := by kernel_rfl
  have HI' := HI.out
  obtain ⟨L7, hL7⟩ : ∃ L7, l1.take i ++ (t, k) :: l1.drop i = L7 := ⟨_, rfl⟩
  rw [hL7] at hins HI'
  have hM5 : Mp (w5.alloc (eo (t, k))).drew m (N + 1) (D.put (klS k) (.lit (.int .i64 t))) := by
    obtain ⟨es, clock, hb, F, hn, hD⟩ := hown2
    exact ⟨es, clock, O5.heap ((only_b (S := fun _ => False) b3).heap hb id) id, F, hn, hD⟩
  have FIN : Hid (∀ (A7 : Option Addr) (c7 : Nat) (w7 : World), OwnE w7 B (.slice A7 L7.length c7) L7 → Only (fun k => (.slice A n c : Value).ownBlock = some k) (w5.alloc (eo (t, k))).drew w7 →
      ((.slice A7 L7.length c7 : Value).ownBlock = (.slice A n c : Value).ownBlock ∨ ∃ k', (.slice A7 L7.length c7 : Value).ownBlock = some k' ∧ (w5.alloc (eo (t, k))).drew.heap.size ≤ k') →
      Turn B g m v (insL ltS (t, k) l1) (N + 1) w (w7.setCell ⟨g, 1, none⟩ (.slice A7 L7.length c7))) := by
    intro A7 c7 w7 o7 O7 hv7
    have hgl : g < (w5.alloc (eo (t, k))).drew.heap.size := (Array.getElem?_eq_some_iff.1 hp5).1
    have hml : m < (w5.alloc (eo (t, k))).drew.heap.size := hM5.lt
    have gv7 : (.slice A7 L7.length c7 : Value).ownBlock ≠ some g := by
      rcases hv7 with e | ⟨k', e, h'⟩
      · rw [e]; exact gv
      · rw [e]; intro e'; injection e' with e'; omega
    have mv7 : (.slice A7 L7.length c7 : Value).ownBlock ≠ some m := by
      rcases hv7 with e | ⟨k', e, h'⟩
      · rw [e]; exact mv
      · rw [e]; intro e'; injection e' with e'; omega
    have hp7 := O7.heap hp5 (fun e => gv e)
    have O8 : Only (fun k => k = g) w7 (w7.setCell ⟨g, 1, none⟩ (.slice A7 L7.length c7)) := (Only.refl (fun k => k = g) w7).put (p := ⟨g, 1, none⟩) (.inl rfl) _
    have z1 : Only (IxS g m v) w w2 := O1.trans O2 (fun b hb => .inl (.inr (.inl (by injection hb with hb; exact hb.symm))))
    have z2 : Only (IxS g m v) w (w5.alloc (eo (t, k))).drew := (z1.trans (only_b (S := fun _ => False) b3) (fun b hb => hb.elim)).trans O5 (fun b hb => hb.elim)
    have z3 : Only (IxS g m v) w w7 := z2.trans O7 (fun b hb => by
      rw [HN.out] at hv1
      rcases hv1 with e | ⟨k', e, h'⟩
      · exact .inl (.inr (.inr (by rw [← e]; exact hb)))
      · rw [e] at hb; injection hb with hb; exact .inr (by omega))
    have hsl := h1.srt.ins linS (e := (t, k)) hnk
    refine ⟨.slice A7 L7.length c7, ⟨put_cells hp7, ⟨_, ?_, hT.put keyS linS ?_ h1.srt k t hnk⟩, ?_, h.gB, h.mB, hgm, gv7, mv7, hsl, ?_, ?_, ?_⟩, z3.trans O8 (fun b hb => .inl (.inl hb)), ?_⟩
    · obtain ⟨es, clock, hb, F, hn, hD⟩ := hM5
      exact ⟨es, clock, O8.heap (O7.heap hb (fun e => mv e)) (fun e => hgm e.symm), F, hn, hD⟩
    · exact hMis
    · rw [HI']
      exact own_only o7 O8 (fun k hk e => gv7 (by rw [hk, e]))
    · rw [ins_len]; omega
    · intro e he
      rcases ins_mem.1 he with rfl | he
      · exact ht'
      · exact h1.rng e he
    · intro e he
      rcases ins_mem.1 he with rfl | he
      · exact hk
      · exact h1.kok e he
    · rcases hv7 with e | ⟨k', e, h'⟩
      · rw [e]
        rw [HN.out] at hv1
        exact hv1
      · exact .inr ⟨k', e, Nat.le_trans z2.size h'⟩
  obtain ⟨d1, d2, d3⟩ := HK5
  obtain ⟨e1, e2, e3⟩ := HK5'
  go_region_law (first
    | (refine step_enter rfl 99 #[.slice A n c, .int .i64 i, .slice (some ⟨w5.heap.size, 0, none⟩) 1 1] (by simp [go_sem, execOp, resolve, invoke]) ?_; refine hins.mono ?_; rintro e w7 ⟨v7, rfl, o7, O7, hv7⟩; obtain ⟨A7, c7, rfl⟩ := own_form o7; have hp7 := O7.heap hp5 (fun e => gv e); have g7 : w7.cell? ⟨g, 1, none⟩ = some (.slice A n c) := (by unfold World.cell?; simp only [hp7]; rfl); have f7 : w7.frozen? ⟨g, 1, none⟩ = false := (by unfold World.frozen?; simp only [hp7]; rfl); refine ⟨_, rfl, ?_⟩))
  all_goals (
    go_wp2_with fail
    go_ret
    exact ⟨rfl, by have q := FIN.out A7 c7 w7 o7 O7 hv7; first | exact q | (rw [HI'] at q; exact q)⟩)
end Go.Proofs.YtgmnnpbbiejbnaaGreat.DsJ
set_option maxRecDepth 100000
set_option linter.unusedSimpArgs false
set_option linter.unusedVariables false
namespace Go.Proofs.YtgmnnpbbiejbnaaGreat.DsK
open Go.RowKit Go.Shelf Go.Proofs.YtgmnnpbbiejbnaaGreat.Mem Go.Proofs.YtgmnnpbbiejbnaaGreat.DuA Go.Proofs.YtgmnnpbbiejbnaaGreat.DuM Go.Proofs.YtgmnnpbbiejbnaaGreat.DuN Go.Proofs.YtgmnnpbbiejbnaaGreat.DuB Go.Proofs.YtgmnnpbbiejbnaaGreat.DsC Go.Proofs.YtgmnnpbbiejbnaaGreat.DsD Go.Proofs.YtgmnnpbbiejbnaaGreat.DsE Go.Proofs.YtgmnnpbbiejbnaaGreat.DsF Go.Proofs.YtgmnnpbbiejbnaaGreat.DsG Go.Proofs.YtgmnnpbbiejbnaaGreat.DsH Go.Proofs.YtgmnnpbbiejbnaaGreat.DsI Go.Proofs.YtgmnnpbbiejbnaaGreat.DsJ

theorem mk_map (w : World) : (Instr.makeMap 126 none).run Tryz.prog w = .ok (.map (some w.heap.size)) (w.alloc (.map #[] 0)) := by
  simp [Instr.makeMap, run_underlying Tryz.underlying126, Result.andThen]
theorem new_calls (w : World) : Calls Tryz.prog 42 #[] w fun e w' => ∃ g m, e = .returned (.pointer (some ⟨g, 0, none⟩)) ∧ Ix w' w.heap.size g m (.slice none 0 0) [] 0 ∧ Below w.heap.size w w' := by
  have hmk := mk_map w
  go_enter Tryz.func42, Tryz.ntmps42
  go_wp2_with fail
  go_ret
  have hM := World.ownsMap_made (H := TypeId × Value) w Tryz.prog 9 (plainElem Tryz.prog 3)
  have hh := heap_alloc_new (w.alloc (.map #[] 0)) (.cells #[.map (some w.heap.size), .slice none 0 0] 129)
  rw [World.size_alloc] at hh
  refine ⟨_, w.heap.size, rfl, ⟨hh, ⟨_, hM.alloc _, Tells.nil klS⟩, World.ownsRow_nil _ _ _ _, (by omega), Nat.le_refl _, (by omega), (fun h => nomatch h), (fun h => nomatch h), Srt.nil, Nat.le_refl _, (fun e he => nomatch he), (fun e he => nomatch he)⟩, ((al w _).alloc (by simp) _)⟩

def keysV (l : List ByteArray) : List Value := l.map (Value.string)
theorem elKs : El Tryz.prog 38 9 (.string ⟨#[]⟩) 1 16 := by
  obtain ⟨i, h1, h2, h3, h4⟩ := info_parts (show (Tryz.prog.info? 9).map (fun i => (i.zero, i.size, i.bytes)) = some (some (.string ⟨#[]⟩), 1, 16) by kernel_rfl)
  exact ⟨Tryz.underlying38, ⟨i, h1, h2, h3, h4⟩, rfl, by decide⟩
/-- A row of keys of the call's own. -/
abbrev OwnKs (w : World) (B : Nat) (v : Value) (l : List ByteArray) : Prop := w.ownsRow B 9 1 v l.length (keysV l)
abbrev RdKs (w : World) (A : Option Addr) (n c : Nat) (l : List ByteArray) : Prop := Rd w 1 A n c (keysV l)

end Go.Proofs.YtgmnnpbbiejbnaaGreat.DsK
