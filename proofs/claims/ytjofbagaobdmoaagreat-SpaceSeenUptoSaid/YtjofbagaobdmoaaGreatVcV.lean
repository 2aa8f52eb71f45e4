/-
  Rows that may be written; append onto them. Conditions: as stated.
-/
import Derived.Test.YtjofbagaobdmoaaGreatVaT
import Derived.ArgAppend
set_option maxRecDepth 100000
set_option linter.unusedSimpArgs false
set_option linter.unusedVariables false
namespace Go.Proofs.YtjofbagaobdmoaaGreat.VcV
open Go Go.RowKit Go.Proofs.YtjofbagaobdmoaaGreat.Mem Go.Proofs.YtjofbagaobdmoaaGreat.VaA Go.Proofs.YtjofbagaobdmoaaGreat.VaC Go.Proofs.YtjofbagaobdmoaaGreat.VaH Go.Proofs.YtjofbagaobdmoaaGreat.VaT

/-- A slice whose cells are there and may be written, spare room too. -/
def Wr (w : World) (e : TypeId) (sz n c : Nat) (A : Option Addr) : Prop :=
  (A = none ∧ n = 0 ∧ c = 0) ∨ ∃ g cur, A = some ⟨g, 0, none⟩ ∧ w.heap[g]? = some (.cells cur e (0, 0)) ∧ n ≤ c ∧ c ≤ maxLen ∧ c * sz ≤ cur.size
theorem heap_setC {w : World} {g : Nat} {cur : Array Value} {e : TypeId} (h : w.heap[g]? = some (.cells cur e (0, 0))) (b j : Nat) (u : Value) : ∃ cur', (w.setCell ⟨b, j, none⟩ u).heap[g]? = some (.cells cur' e (0, 0)) ∧ cur'.size = cur.size := by
  by_cases hb : b = g
  · subst hb
    exact ⟨cur.setIfInBounds j u, by simp [World.setCell, Array.getElem?_modify, h], by simp⟩
  · exact ⟨cur, by simp [World.setCell, Array.getElem?_modify, h, hb], rfl⟩
section
variable {w w' : World} {e : TypeId} {sz n c : Nat} {A : Option Addr}
theorem Wr.put (h : Wr w e sz n c A) (b j : Nat) (u : Value) : Wr (w.setCell ⟨b, j, none⟩ u) e sz n c A := by
  rcases h with h | ⟨g, cur, h1, h2, h3, h4, h5⟩
  · exact .inl h
  · obtain ⟨cur', k1, k2⟩ := heap_setC h2 b j u
    exact .inr ⟨g, cur', h1, k1, h3, h4, by omega⟩
theorem Wr.puts (b : Nat) : ∀ (vs : List Value) (o : Nat) {w : World}, Wr w e sz n c A → Wr (w.setCells b o vs) e sz n c A
  | [], o, w, h => h
  | v :: vs, o, w, h => Wr.puts b vs (o + 1) (h.put b o v)
theorem Wr.below (h : Wr w e sz n c A) (hb : Below w.heap.size w w') : Wr w' e sz n c A := by
  rcases h with h | ⟨g, cur, h1, h2, h3⟩
  · exact .inl h
  · exact .inr ⟨g, cur, h1, (hb.block _ (Array.getElem?_eq_some_iff.1 h2).1).trans h2, h3⟩
theorem Wr.only {S : Nat → Prop} (h : Wr w e sz n c A) (ho : Only S w w') (hn : ∀ ad, A = some ad → ¬ S ad.block) : Wr w' e sz n c A := by
  rcases h with h | ⟨g, cur, h1, h2, h3⟩
  · exact .inl h
  · exact .inr ⟨g, cur, h1, ho.heap h2 (hn _ h1), h3⟩
theorem Wr.lt (h : Wr w e sz n c A) : ∀ ad, A = some ad → ad.block < w.heap.size := by
  rcases h with ⟨h, _⟩ | ⟨g, cur, h1, h2, h3⟩
  · rintro ad rfl; cases h
  · rintro ad hA
    rw [hA] at h1; injection h1 with h1; subst h1
    exact (Array.getElem?_eq_some_iff.1 h2).1
theorem Wr.cap (h : Wr w e sz n c A) : n ≤ c ∧ c ≤ maxLen := by
  rcases h with ⟨h, rfl, rfl⟩ | ⟨g, cur, h1, h2, h3, h4, h5⟩
  · exact ⟨Nat.le_refl _, Nat.zero_le _⟩
  · exact ⟨h3, h4⟩
theorem wr_own {B : Nat} {X : List Value} (h : w.ownsRow B e sz (.slice A n c) n X) : Wr w e sz n c A := by
  rcases h.2 with ⟨h1, h2⟩ | ⟨g, cap, cur, h1, h2, h3, h4, h5, h6, h7⟩
  · injection h1 with h1 h3 h4
    exact .inl ⟨h1, h2, h4⟩
  · injection h1 with h1 h8 h9
    subst h9
    exact .inr ⟨g, cur, h1, h3, h4, h5, by omega⟩
theorem Wr.clip (h : Wr w e sz n c A) : Wr w e sz n n A := by
  rcases h with ⟨h, rfl, rfl⟩ | ⟨g, cur, h1, h2, h3, h4, h5⟩
  · exact .inl ⟨h, rfl, rfl⟩
  · exact .inr ⟨g, cur, h1, h2, Nat.le_refl _, by omega, Nat.le_trans (Nat.mul_le_mul_right _ h3) h5⟩
theorem wr_cell {g j : Nat} {cur : Array Value} (h : w.heap[g]? = some (.cells cur e (0, 0))) (hj : j < cur.size) : w.cell? ⟨g, j, none⟩ = some cur[j] := by simp [World.cell?, h, hj]
theorem wr_free {g j : Nat} {cur : Array Value} (h : w.heap[g]? = some (.cells cur e (0, 0))) : w.frozen? ⟨g, j, none⟩ = false := by simp [World.frozen?, h]
end

theorem only_puts {S : Nat → Prop} {w0 : World} (b : Nat) (hb : S b) : ∀ (vs : List Value) (o : Nat) {w : World}, Only S w0 w → Only S w0 (w.setCells b o vs)
  | [], o, w, h => h
  | v :: vs, o, w, h => only_puts b hb vs (o + 1) (h.put (p := ⟨b, o, none⟩) (.inl hb) v)

section
variable {P : Program} {t e : TypeId} {z : Value} {sz bytes : Nat}
/-- append(v, src...), v any row that may be written. -/
theorem wpList_appW {ops : Array Oper} {rest : List Oper} {o : Oper} {a : Act} {Q : Exit → Act → World → Prop} {w : World} (hgd : o.guard = none) (s x : Operand)
    (E : El P t e z sz bytes) (ho : o.op = .call { callee := .builtin .append, args := #[s, x], argTypes := #[t, t] })
    (A : Option Addr) (n c : Nat) (hs : a.eval s = .slice A n c) (hw : Wr w e sz n c A)
    (ad : Addr) (ys : List Value) (hx : a.eval x = .slice (some ad) 1 1) (hl : ys.length = sz) (hy : ∀ j u, ys[j]? = some u → w.cell? (ad.add j) = some u) (h1 : ∀ u ∈ ys, u.oneCell' = true)
    (h63 : n + 1 ≤ maxLen) (hbytes : (n + 1) * bytes ≤ 140737488355328)
    (h : ∀ A' c' w', Wr w' e sz (n + 1) c' A' → Only (fun k => ∃ b, A = some b ∧ b.block = k) w w' → (A' = A ∨ ∀ b, A' = some b → w.heap.size ≤ b.block) → (∀ e' sz' n' c' A', Wr w e' sz' n' c' A' → Wr w' e' sz' n' c' A') → wpList P ops Q rest (a.put o.dst (.slice A' (n + 1) c')) w') :
    wpList P ops Q (o :: rest) a w := by
  obtain ⟨i, hi, hz0, hz1, hz2⟩ := E.info
  have fin : ∀ (X : List Value) (v' : Value) (w' : World), w'.ownsRow w.heap.size e sz v' (n + 1) X → w.grownBy w' none → wpList P ops Q rest (a.put o.dst v') w' := fun X v' w' q1 q2 => by
    have q3 : Below w.heap.size w w' := (Only.of_grown q2).below (Nat.le_refl _) (fun b hb => by cases hb)
    obtain ⟨A', c', rfl⟩ : ∃ A' c', v' = .slice A' (n + 1) c' := by
      rcases q1.2 with ⟨_, h2⟩ | ⟨g, cap, cur, h1, _⟩
      · omega
      · exact ⟨_, _, h1⟩
    refine h A' c' w' (wr_own q1) ((Only.of_grown q2).mono (fun b hb => by cases hb)) (.inr fun b hb => ?_) (fun e' sz' n' c' A' hW => hW.below q3)
    subst hb
    exact (q1.lt b.block rfl).1
  rcases hw with ⟨rfl, rfl, rfl⟩ | ⟨g, cur, rfl, hg, hnc, hcm, hcs⟩
  · exact wpList_append_grows w hgd s x t ho e i z sz bytes E.ht hi hz0 hz1 hz2 E.hz E.pos none 0 0 [] hs (fun _ => ⟨rfl, rfl⟩) (by simp) (fun b hb => by cases hb) ad 1 1 ys hx (by omega) hy h1 (by omega) h63 hbytes (fun v' w' q1 q2 => fin _ v' w' q1 q2)
  · have hns : n * sz ≤ cur.size := Nat.le_trans (Nat.mul_le_mul_right _ hnc) hcs
    refine wpList_append_arg w hgd s x t ho e i z sz bytes E.ht hi hz0 hz1 hz2 E.hz E.pos g 0 n c (cur.toList.take (n * sz)) hs (by rw [List.length_take, Array.length_toList]; omega) (fun j u hj => ?_) ad 1 1 ys hx (by omega) hy h1 (fun hr j hj => ?_) h63 hbytes (fun hr => ?_) (fun hr v' w' q1 q2 => fin _ v' w' q1 q2)
    · rw [List.getElem?_take] at hj
      split at hj
      · rw [Array.getElem?_toList] at hj
        obtain ⟨h5, h6⟩ := Array.getElem?_eq_some_iff.1 hj
        rw [Nat.zero_add, wr_cell hg h5, h6]
      · cases hj
    · have hlt : 0 + n * sz + j < cur.size := by
        have : (n + 1) * sz ≤ c * sz := Nat.mul_le_mul_right _ hr
        rw [Nat.succ_mul] at this
        omega
      rw [wr_cell hg hlt]
      exact ⟨rfl, wr_free hg⟩
    · refine h (some ⟨g, 0, none⟩) c _ (Wr.puts g ys _ (.inr ⟨g, cur, rfl, hg, hr, hcm, hcs⟩)) ?_ (.inl rfl) (fun e' sz' n' c' A' hW => hW.puts g ys _)
      exact only_puts (S := fun k => ∃ b, some (⟨g, 0, none⟩ : Addr) = some b ∧ b.block = k) g ⟨_, rfl, rfl⟩ ys _ (Only.refl _ w)
end
end Go.Proofs.YtjofbagaobdmoaaGreat.VcV
