/-
  Laws on memory, over any program: slices that read as lists, rows of the call's own, what a step leaves as it was; append. Conditions: as stated.
-/
import Derived.WalkKit
import Derived.WalkSpells
import Derived.Maps.AppendAt
import Derived.BigQuiet
import Derived.Lib.Hide
namespace Go.Proofs.YtjofbagaobdmoaaGreat.Mem
open Go.RowKit

/-- But for the blocks in S, what was there is as it was. -/
structure Only (S : Nat → Prop) (w w' : World) : Prop where
  os : w'.os = w.os
  tape : w'.tape = w.tape
  output : w'.output = w.output
  size : w.heap.size ≤ w'.heap.size
  block : ∀ k, k < w.heap.size → ¬ S k → w'.heap[k]? = w.heap[k]?

section
variable {S S' : Nat → Prop} {w w' w1 : World}
theorem Only.refl (S : Nat → Prop) (w : World) : Only S w w := ⟨rfl, rfl, rfl, Nat.le_refl _, fun _ _ _ => rfl⟩
theorem Only.trans (h : Only S w w1) (k : Only S' w1 w') (hs : ∀ b, S' b → S b ∨ w.heap.size ≤ b) : Only S w w' :=
  ⟨k.os.trans h.os, k.tape.trans h.tape, k.output.trans h.output, Nat.le_trans h.size k.size, fun b hb hn => (k.block b (Nat.lt_of_lt_of_le hb h.size) (fun x => (hs b x).elim hn (by omega))).trans (h.block b hb hn)⟩
theorem Only.mono (h : Only S w w') (hs : ∀ b, S b → S' b) : Only S' w w' := ⟨h.os, h.tape, h.output, h.size, fun b hb hn => h.block b hb (fun x => hn (hs b x))⟩
theorem Only.drawn (h : Only S w w') (n : Nat) : Only S w (w'.drewN n) := ⟨h.os, h.tape, h.output, h.size, h.block⟩
theorem Only.drew (h : Only S w w') : Only S w w'.drew := ⟨h.os, h.tape, h.output, h.size, h.block⟩
theorem Only.alloc (h : Only S w w') (o : Obj) : Only S w (w'.alloc o) :=
  ⟨h.os, h.tape, h.output, by simp; have := h.size; omega, fun b hb hn => (Below.heap_alloc _ _ _ (Nat.lt_of_lt_of_le hb h.size)).trans (h.block b hb hn)⟩
theorem Only.put (h : Only S w w') {p : Addr} (hp : S p.block ∨ w.heap.size ≤ p.block) (u : Value) : Only S w (w'.setCell p u) :=
  ⟨h.os, h.tape, h.output, by simp [World.setCell, h.size], fun b hb hn => (Below.heap_setCell _ _ _ _ (fun e => by subst e; exact hp.elim hn (by omega))).trans (h.block b hb hn)⟩
theorem Only.below {B : Nat} (h : Only S w w') (hB : B ≤ w.heap.size) (hs : ∀ b, S b → B ≤ b) : Below B w w' :=
  ⟨h.os, h.tape, h.output, h.size, fun k hk => h.block k (by omega) (fun x => by have := hs k x; omega)⟩
theorem Only.after {B : Nat} (h : Only S w1 w') (hb : Below B w w1) (hB : B ≤ w.heap.size) (hs : ∀ b, S b → B ≤ b) : Below B w w' := hb.trans (h.below (Nat.le_trans hB hb.size) hs)
theorem Only.of_below {B : Nat} (h : Below B w w') : Only (fun b => B ≤ b) w w' := ⟨h.os, h.tape, h.output, h.size, fun k _ hn => h.block k (by omega)⟩
theorem Only.of_grown {row : Option Nat} (h : w.grownBy w' row) : Only (fun b => row = some b) w w' := ⟨h.os, h.tape, h.output, h.size, fun k hk hn => h.block k hk (fun e => hn e.symm)⟩
theorem Only.grown {row : Option Nat} (h : Only (fun b => row = some b) w w') : w.grownBy w' row := ⟨h.os, h.tape, h.output, h.size, fun k hk hn => h.block k hk (fun e => hn e.symm)⟩
theorem Only.cell (h : Only S w w') {p : Addr} {v : Value} (hc : w.cell? p = some v) (hn : ¬ S p.block) : w'.cell? p = some v := by
  have hlt : p.block < w.heap.size := by
    rcases Nat.lt_or_ge p.block w.heap.size with hlt | hge
    · exact hlt
    · simp [World.cell?, Array.getElem?_eq_none hge] at hc
  rw [World.cell?_of_block (w := w) (h.block _ hlt hn)]; exact hc
theorem Only.heap (h : Only S w w') {k : Nat} {o : Obj} (hk : w.heap[k]? = some o) (hn : ¬ S k) : w'.heap[k]? = some o :=
  (h.block k (Array.getElem?_eq_some_iff.1 hk).1 hn).trans hk
end

theorem add_block (a : Addr) (n : Nat) : (a.add n).block = a.block := by unfold Addr.add; split <;> rfl
theorem add_add (a : Addr) (i j : Nat) : (a.add i).add j = a.add (i + j) := by
  unfold Addr.add
  by_cases hi : i = 0 <;> by_cases hj : j = 0 <;> simp [hi, hj, Nat.add_assoc]
theorem add_mk (b o n : Nat) : (⟨b, o, none⟩ : Addr).add n = ⟨b, o + n, none⟩ := by
  unfold Addr.add; split <;> simp_all

/-- The slice '.slice A n c' reads as the cells l, sz cells an element. -/
structure Rd (w : World) (sz : Nat) (A : Option Addr) (n c : Nat) (l : List Value) : Prop where
  len : l.length = n * sz
  cap : n ≤ c
  big : c ≤ maxLen
  get : ∀ j x, l[j]? = some x → ∃ ad, A = some ad ∧ w.cell? (ad.add j) = some x

section
variable {w w' : World} {sz n c : Nat} {A : Option Addr} {l : List Value} {S : Nat → Prop}
theorem Rd.nil (w : World) (sz : Nat) : Rd w sz none 0 0 [] := ⟨by simp, Nat.le_refl _, Nat.zero_le _, fun j x h => by simp at h⟩
theorem Rd.some_ (h : Rd w sz A n c l) (hl : l ≠ []) : ∃ ad, A = some ad ∧ ∀ j x, l[j]? = some x → w.cell? (ad.add j) = some x := by
  match l, hl, h with
  | x :: r, _, h =>
    obtain ⟨ad, e, _⟩ := h.get 0 x rfl
    refine ⟨ad, e, fun j y hy => ?_⟩
    obtain ⟨ad', e', hc⟩ := h.get j y hy
    rw [e] at e'; injection e' with e'; subst e'; exact hc
theorem Rd.drawn (h : Rd w sz A n c l) (k : Nat) : Rd (w.drewN k) sz A n c l := ⟨h.len, h.cap, h.big, h.get⟩
theorem Rd.only (h : Rd w sz A n c l) (ho : Only S w w') (hs : ∀ ad, A = some ad → ¬ S ad.block) : Rd w' sz A n c l :=
  ⟨h.len, h.cap, h.big, fun j x hx => by
    obtain ⟨ad, e, hc⟩ := h.get j x hx
    exact ⟨ad, e, ho.cell hc (by rw [add_block]; exact hs ad e)⟩⟩
theorem Rd.lt (h : Rd w sz A n c l) (hl : l ≠ []) : ∃ ad, A = some ad ∧ ad.block < w.heap.size := by
  obtain ⟨ad, e, hc⟩ := h.some_ hl
  refine ⟨ad, e, ?_⟩
  match l, hl, hc with
  | x :: r, _, hc =>
    have := hc 0 x rfl
    rcases Nat.lt_or_ge ad.block w.heap.size with hlt | hge
    · exact hlt
    · have hb := add_block ad 0
      simp [World.cell?, hb, Array.getElem?_eq_none hge] at this
/-- Under 'Below' of the heap's size then, whatever reads reads on. -/
theorem Rd.below (h : Rd w sz A n c l) (hb : Below w.heap.size w w') : Rd w' sz A n c l :=
  ⟨h.len, h.cap, h.big, fun j x hx => by
    obtain ⟨ad, e, hc⟩ := h.get j x hx
    have hlt : (ad.add j).block < w.heap.size := by
      rcases Nat.lt_or_ge (ad.add j).block w.heap.size with hlt | hge
      · exact hlt
      · simp [World.cell?, Array.getElem?_eq_none hge] at hc
    exact ⟨ad, e, (hb.cell hlt).trans hc⟩⟩
theorem Rd.take (h : Rd w sz A n c l) {k : Nat} (hk : k ≤ n) : Rd w sz A k c (l.take (k * sz)) :=
  ⟨by rw [List.length_take, h.len]; exact Nat.min_eq_left (Nat.mul_le_mul_right _ hk), by have := h.cap; omega, h.big, fun j x hx => h.get j x (by
    rw [List.getElem?_take] at hx; split at hx
    · exact hx
    · cases hx)⟩
/-- 's[k:]' as the model has it. -/
theorem Rd.drop (h : Rd w sz A n c l) {k : Nat} (hk : k ≤ n) : Rd w sz (if c = k then A else A.map (·.add (k * sz))) (n - k) (c - k) (l.drop (k * sz)) := by
  refine ⟨by rw [List.length_drop, h.len, Nat.sub_mul], by have := h.cap; omega, by have := h.big; omega, fun j x hx => ?_⟩
  rw [List.getElem?_drop] at hx
  obtain ⟨ad, rfl, hc⟩ := h.get _ x hx
  have hlt := (List.getElem?_eq_some_iff.1 hx).1
  rw [h.len] at hlt
  have hne : c ≠ k := by
    rintro rfl
    have := h.cap
    obtain rfl : n = c := by omega
    omega
  rw [if_neg hne]
  exact ⟨ad.add (k * sz), rfl, by rw [add_add]; exact hc⟩
theorem Rd.of_own {B : Nat} {e : TypeId} (h : w.ownsRow B e sz (.slice A n c) n l) : Rd w sz A n c l := by
  refine ⟨h.1, ?_, ?_, fun j x hx => ?_⟩
  · rcases h.2 with ⟨e1, _⟩ | ⟨g, cap, cur, e1, _, _, h2, _⟩ <;> injection e1 <;> omega
  · rcases h.2 with ⟨e1, _⟩ | ⟨g, cap, cur, e1, _, _, _, h2, _⟩
    · injection e1; unfold maxLen; omega
    · injection e1; omega
  · rcases h.2 with ⟨e1, h0⟩ | ⟨g, cap, cur, e1, _⟩
    · have := h.1; rw [h0] at this; simp at this; subst this; simp at hx
    · injection e1 with e1 _ _; subst e1
      exact ⟨_, rfl, h.cells rfl j x hx⟩
theorem own_n {B m : Nat} {e : TypeId} (h : w.ownsRow B e sz (.slice A n c) m l) : m = n := by
  rcases h.2 with ⟨e, h0⟩ | ⟨g, cap, cur, e, _⟩
  · injection e with _ e2 _; omega
  · injection e with _ e2 _; exact e2.symm
theorem own_form {B : Nat} {e : TypeId} {v : Value} (h : w.ownsRow B e sz v n l) : ∃ A c, v = .slice A n c := by
  rcases h.2 with ⟨rfl, rfl⟩ | ⟨g, cap, cur, rfl, _⟩
  · exact ⟨none, 0, rfl⟩
  · exact ⟨_, _, rfl⟩
theorem own_only {B : Nat} {e : TypeId} {v : Value} (h : w.ownsRow B e sz v n l) (ho : Only S w w') (hs : ∀ k, v.ownBlock = some k → ¬ S k) : w'.ownsRow B e sz v n l := by
  refine ⟨h.1, ?_⟩
  rcases h.2 with h' | ⟨g, cap, cur, rfl, h1, h2, h3⟩
  · exact .inl h'
  · exact .inr ⟨g, cap, cur, rfl, h1, ho.heap h2 (hs g rfl), h3⟩
theorem own_less {B B' : Nat} {e : TypeId} {v : Value} (h : w.ownsRow B e sz v n l) (hB : B' ≤ B) : w.ownsRow B' e sz v n l := by
  refine ⟨h.1, ?_⟩
  rcases h.2 with h' | ⟨g, cap, cur, rfl, h1, h2⟩
  · exact .inl h'
  · exact .inr ⟨g, cap, cur, rfl, by omega, h2⟩
end

/-- A slice type t of elements e, sz cells and so many bytes each, z their zero. -/
structure El (P : Program) (t e : TypeId) (z : Value) (sz bytes : Nat) : Prop where
  ht : P.underlying t = some (.slice e)
  info : ∃ i, P.info? e = some i ∧ i.zero = some z ∧ i.size = sz ∧ i.bytes = bytes
  hz : z.cells.size = sz
  pos : 0 < sz

section
variable {P : Program} {t e : TypeId} {z : Value} {sz bytes : Nat}
/-- append(v, src...), v the call's own. -/
theorem wpList_app {ops : Array Oper} {rest : List Oper} {o : Oper} {a : Act} {Q : Exit → Act → World → Prop} {w : World} (hgd : o.guard = none) (s x : Operand)
    (E : El P t e z sz bytes) (ho : o.op = .call { callee := .builtin .append, args := #[s, x], argTypes := #[t, t] })
    (B : Nat) (v : Value) (n : Nat) (xs : List Value) (hs : a.eval s = v) (hown : w.ownsRow B e sz v n xs)
    (A : Option Addr) (m c : Nat) (ys : List Value) (hx : a.eval x = .slice A m c) (hr : Rd w sz A m c ys) (h1 : ∀ u ∈ ys, u.oneCell' = true)
    (h63 : n + m ≤ maxLen) (hbytes : (n + m) * bytes ≤ 140737488355328) (hB : B ≤ w.heap.size)
    (h : ∀ v' w', w'.ownsRow B e sz v' (n + m) (xs ++ ys) → Only (fun k => v.ownBlock = some k) w w' → (v'.ownBlock = v.ownBlock ∨ v'.ownBlock = some w.heap.size) → wpList P ops Q rest (a.put o.dst v') w') :
    wpList P ops Q (o :: rest) a w := by
  obtain ⟨i, hi, hz0, hz1, hz2⟩ := E.info
  rcases A with _ | ad
  · have hy : ys = [] := by
      rcases hyy : ys with _ | ⟨y, r⟩
      · rfl
      · subst hyy
        obtain ⟨ad, h, _⟩ := hr.get 0 y rfl
        cases h
    subst hy
    have hm : m = 0 := by
      rcases Nat.eq_zero_or_pos m with h0 | h0
      · exact h0
      · have h1 := Nat.mul_pos h0 E.pos
        have h2 := hr.len
        rw [List.length_nil] at h2
        omega
    subst hm
    refine wpList_plain hgd fun K hK => ?_
    have hrun : (Builtin.append_ #[t, t] o.type #[v, .slice none 0 c]).run P w = .ok v w := by
      rcases hown.2 with ⟨rfl, rfl⟩ | ⟨g, cap, cur, rfl, _, _, hnc, _⟩
      · simp [Builtin.append_, run_underlying E.ht, sizeOf, typeInfo, hi, Builtin.lenOf, Builtin.firstCells]
      · simp [Builtin.append_, run_underlying E.ht, sizeOf, typeInfo, hi, Builtin.lenOf, Builtin.firstCells, hnc, storeCells]
    unfold Oper.wp execOp
    simp only [ho, resolve, invoke, builtin, Sem.run_bind, Sem.run_pure, Result.andThen_ok, List.map_toArray, List.map_cons, List.map_nil, hs, hx, hrun]
    exact hK _ _ (h v w (by simpa using hown) (Only.refl _ _) (.inl rfl))
  · have hcells : ∀ j u, ys[j]? = some u → w.cell? (ad.add j) = some u := fun j u hu => by
      obtain ⟨ad', e', hc⟩ := hr.get j u hu
      injection e' with e'; subst e'; exact hc
    exact wpList_append_own_at (P := P) w hgd s x t ho B e i z sz bytes E.ht hi hz0 hz1 hz2 E.hz E.pos v n xs hs hown ad m c ys hx hr.len hcells h1 h63 hbytes hB
      fun v' w' h2 h3 _ h5 => h v' w' h2 (Only.of_grown h3) h5

/-- append(v, u) of one element of one cell. -/
theorem wpList_app1 {ops : Array Oper} {rest : List Oper} {o : Oper} {a : Act} {Q : Exit → Act → World → Prop} {w : World} (hgd : o.guard = none) (s x : Operand)
    (E : El P t e z 1 bytes) (ho : o.op = .call { callee := .builtin .append, args := #[s, x], argTypes := #[t, t] })
    (B : Nat) (v : Value) (n : Nat) (xs : List Value) (hs : a.eval s = v) (hown : w.ownsRow B e 1 v n xs)
    (u : Value) (hu : u.oneCell' = true) (hx : a.eval x = .slice (some ⟨w.heap.size, 0, none⟩) 1 1)
    (h63 : n + 1 ≤ maxLen) (hbytes : (n + 1) * bytes ≤ 140737488355328) (hB : B ≤ w.heap.size)
    (h : ∀ v' w', w'.ownsRow B e 1 v' (n + 1) (xs ++ [u]) → Only (fun k => v.ownBlock = some k) w w' → (v'.ownBlock = v.ownBlock ∨ ∃ k, v'.ownBlock = some k ∧ w.heap.size ≤ k) → wpList P ops Q rest (a.put o.dst v') w') :
    wpList P ops Q (o :: rest) a (w.alloc (.cells #[u] e)) := by
  refine wpList_app hgd s x E ho B v n xs hs (hown.alloc _) (some ⟨w.heap.size, 0, none⟩) 1 1 [u] hx ⟨by simp, Nat.le_refl _, by unfold maxLen; omega, fun j y hy => ⟨_, rfl, cell_one_new w u e j y hy⟩⟩ (fun y hy => by rw [List.mem_singleton.1 hy]; exact hu) h63 hbytes (by simp; omega) ?_
  intro v' w' h2 h3 h4
  refine h v' w' h2 (((Only.refl _ w).alloc _).trans h3 fun b hb => .inl hb) ?_
  rcases h4 with h4 | h4
  · exact .inl h4
  · exact .inr ⟨_, h4, by simp⟩
end
end Go.Proofs.YtjofbagaobdmoaaGreat.Mem
