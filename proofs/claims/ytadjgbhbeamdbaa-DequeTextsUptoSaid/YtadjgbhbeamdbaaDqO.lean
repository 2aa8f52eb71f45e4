/-
  What a Deque's PushBack, PopFront and PopBack hand back and leave. Conditions: as stated.
-/
import Derived.Test.YtadjgbhbeamdbaaDqG
import Derived.Test.YtadjgbhbeamdbaaDqC
import Derived.Test.YtadjgbhbeamdbaaDqI
import Derived.Test.YtadjgbhbeamdbaaDqF
import Derived.Deep.RegionHeld3
import Derived.Lib.SliceRun
set_option maxRecDepth 100000
set_option linter.unusedSimpArgs false
set_option linter.unusedVariables false
namespace Go.Proofs.Ytadjgbhbeamdbaa.DqO
open Go.RowKit Go.Proofs.Ytadjgbhbeamdbaa.Mem Go.Proofs.Ytadjgbhbeamdbaa.DqA Go.Proofs.Ytadjgbhbeamdbaa.DqB Go.Proofs.Ytadjgbhbeamdbaa.DqD Go.Proofs.Ytadjgbhbeamdbaa.DqF Go.Proofs.Ytadjgbhbeamdbaa.DqG Go.Proofs.Ytadjgbhbeamdbaa.DqI

/-- A Deque at block g, its store and its place told. -/
structure DqF (w : World) (B g : Nat) (v : Value) (xs : List Int) (f : Nat) : Prop where
  hp : w.heap[g]? = some (.cells #[v, .int .i64 f] 74 (0, 0))
  ge : B ≤ g
  own : OwnI w B v xs
  le : f ≤ xs.length
  ne : v.ownBlock ≠ some g
/-- A Deque that holds l, its store of N numbers at most. -/
def Dqn (w : World) (B g : Nat) (v : Value) (l : List Int) (N : Nat) : Prop := ∃ xs f, DqF w B g v xs f ∧ xs.drop f = l ∧ xs.length ≤ N
theorem Dqn.dq {w : World} {B g N : Nat} {v : Value} {l : List Int} (h : Dqn w B g v l N) (hN : N ≤ 17592186044416) : Dq w B g v l := by
  obtain ⟨xs, f, ⟨a, b, c, d, e⟩, hl, hn⟩ := h
  exact ⟨xs, f, a, b, c, d, hl, e, by omega⟩
theorem Dqn.more {w : World} {B g N N' : Nat} {v : Value} {l : List Int} (h : Dqn w B g v l N) (hN : N ≤ N') : Dqn w B g v l N' := by
  obtain ⟨xs, f, a, hl, hn⟩ := h
  exact ⟨xs, f, a, hl, by omega⟩
theorem Dqn.len {w : World} {B g N : Nat} {v : Value} {l : List Int} (h : Dqn w B g v l N) : l.length ≤ N := by
  obtain ⟨xs, f, a, rfl, hn⟩ := h
  simp; omega
theorem Dqn.only {w w' : World} {B g N : Nat} {v : Value} {l : List Int} {S : Nat → Prop} (h : Dqn w B g v l N) (ho : Only S w w') (h1 : ¬ S g) (h2 : ∀ k, v.ownBlock = some k → ¬ S k) : Dqn w' B g v l N := by
  obtain ⟨xs, f, ⟨a, b, c, d, e⟩, hl, hn⟩ := h
  exact ⟨xs, f, ⟨ho.heap a h1, b, own_only c ho h2, d, e⟩, hl, hn⟩
theorem Dqn.lt {w : World} {B g N : Nat} {v : Value} {l : List Int} (h : Dqn w B g v l N) : g < w.heap.size := by
  obtain ⟨xs, f, ⟨a, _⟩, _⟩ := h
  exact (Array.getElem?_eq_some_iff.1 a).1
theorem Dqn.ge {w : World} {B g N : Nat} {v : Value} {l : List Int} (h : Dqn w B g v l N) : B ≤ g := by
  obtain ⟨xs, f, ⟨_, b, _⟩, _⟩ := h
  exact b
theorem Dqn.olt {w : World} {B g N : Nat} {v : Value} {l : List Int} (h : Dqn w B g v l N) : ∀ k, v.ownBlock = some k → B ≤ k ∧ k < w.heap.size := by
  obtain ⟨xs, f, ⟨_, b, c, _⟩, _⟩ := h
  exact c.lt
theorem Dqn.below {w w' : World} {B g N : Nat} {v : Value} {l : List Int} (h : Dqn w B g v l N) (hb : Below w.heap.size w w') : Dqn w' B g v l N :=
  h.only (Only.of_below hb) (by have := h.lt; omega) (fun k hk => by have := (h.olt k hk).2; omega)
theorem Dqn.drawn {w : World} {B g N : Nat} {v : Value} {l : List Int} (h : Dqn w B g v l N) (n : Nat) : Dqn (w.drewN n) B g v l N := by
  obtain ⟨xs, f, ⟨a, b, c, d, e⟩, hl, hn⟩ := h
  exact ⟨xs, f, ⟨a, b, c, d, e⟩, hl, hn⟩

theorem DqF.cells {w : World} {B g f : Nat} {v : Value} {xs : List Int} (h : DqF w B g v xs f) :
    w.cell? ⟨g, 0, none⟩ = some v ∧ w.cell? ⟨g, 1, none⟩ = some (.int .i64 f) ∧ w.frozen? ⟨g, 0, none⟩ = false ∧ w.frozen? ⟨g, 1, none⟩ = false := by
  have h1 := h.hp
  exact ⟨by simp [World.cell?, h1], by simp [World.cell?, h1], by simp [World.frozen?, h1], by simp [World.frozen?, h1]⟩
theorem DqF.only {w w' : World} {B g f : Nat} {v : Value} {xs : List Int} {S : Nat → Prop} (h : DqF w B g v xs f) (ho : Only S w w') (h1 : ¬ S g) (h2 : ∀ k, v.ownBlock = some k → ¬ S k) : DqF w' B g v xs f :=
  ⟨ho.heap h.hp h1, h.ge, own_only h.own ho h2, h.le, h.ne⟩
theorem put_own {w : World} {B g i : Nat} {v u : Value} {xs : List Int} (ho : OwnI w B v xs) (hne : v.ownBlock ≠ some g) : OwnI (w.setCell ⟨g, i, none⟩ u) B v xs :=
  own_only ho ((Only.refl (fun k => k = g) w).put (p := ⟨g, i, none⟩) (.inl rfl) u) (fun k hk e => hne (by rw [hk, e]))
theorem dqf_set0 {w : World} {B g f : Nat} {v0 v : Value} {xs : List Int} (hh : w.heap[g]? = some (.cells #[v0, .int .i64 f] 74 (0, 0))) (hB : B ≤ g)
    (ho : OwnI w B v xs) (hf : f ≤ xs.length) (hne : v.ownBlock ≠ some g) : DqF (w.setCell ⟨g, 0, none⟩ v) B g v xs f :=
  ⟨by rw [heap_setCell_same w g 0 _ _ v hh]; rfl, hB, put_own ho hne, hf, hne⟩
theorem dqf_set1 {w : World} {B g f f' : Nat} {v : Value} {xs : List Int} (h : DqF w B g v xs f) (hf : f' ≤ xs.length) : DqF (w.setCell ⟨g, 1, none⟩ (.int .i64 f')) B g v xs f' :=
  ⟨by rw [heap_setCell_same w g 1 _ _ _ h.hp]; rfl, h.ge, put_own h.own h.ne, hf, h.ne⟩

/-- So many numbers set to 0. -/
def zeroL (xs : List Int) (o m : Nat) : List Int := xs.take o ++ (List.replicate m 0 ++ xs.drop (o + m))
theorem zero_len (xs : List Int) (o m : Nat) (h : o + m ≤ xs.length) : (zeroL xs o m).length = xs.length := by unfold zeroL; simp; omega
theorem zero_drop (xs : List Int) (o m : Nat) (h : o + m ≤ xs.length) : (zeroL xs o m).drop (o + m) = xs.drop (o + m) := by
  unfold zeroL
  rw [← List.append_assoc, List.drop_append_of_le_length (by simp; omega), List.drop_eq_nil_of_le (by simp; omega)]; rfl
theorem zero_get (xs : List Int) (o m j : Nat) (h : o + m ≤ xs.length) : (ints (zeroL xs o m))[j]? = if o ≤ j ∧ j < o + m then some (.int .i64 0) else (ints xs)[j]? := by
  simp only [ints, zeroL, List.getElem?_map, List.getElem?_append, List.length_take, List.length_replicate, Nat.min_eq_left (show o ≤ xs.length by omega)]
  by_cases h1 : j < o
  · rw [if_pos h1, if_neg (by omega), List.getElem?_take, if_pos h1]
  · rw [if_neg h1]
    by_cases h2 : j < o + m
    · rw [if_pos (by omega), if_pos (by omega), List.getElem?_replicate, if_pos (by omega)]; rfl
    · rw [if_neg (by omega), if_neg (by omega), List.getElem?_drop, show o + m + (j - o - m) = j by omega]
theorem own_zero {w : World} {B b n c : Nat} {xs : List Int} (h : OwnI w B (.slice (some ⟨b, 0, none⟩) n c) xs) (o m : Nat) (hom : o + m ≤ xs.length) :
    OwnI (w.setCells b o (List.replicate m (.int .i64 0))) B (.slice (some ⟨b, 0, none⟩) n c) (zeroL xs o m) := by
  have hn : xs.length = n := own_n h
  rcases h.2 with ⟨e, _⟩ | ⟨g, cap, cur, e, hBg, hg, hnc, hcm, hcs, htk⟩
  · cases e
  injection e with e1 e2 e3
  injection e1 with e1
  injection e1 with e1
  subst e1 e3
  have hget : ∀ j, j < xs.length → cur[j]? = (ints xs)[j]? := fun j hj => by
    rw [← htk, List.getElem?_take, if_pos (by omega), Array.getElem?_toList]
  refine own_of (by rw [zero_len _ _ _ hom, hn]) hBg (put_heap _ w b o cur _ hg) (by omega) hcm (by rw [putA_size]; omega) (fun j hj => ?_)
  rw [putA_get _ _ _ _ (by simp; omega), zero_get _ _ _ _ hom, List.length_replicate]
  by_cases h1 : o ≤ j ∧ j < o + m
  · rw [if_pos h1, if_pos h1, List.getElem?_replicate, if_pos (by omega)]
  · rw [if_neg h1, if_neg h1, hget j (by omega)]

/-- A Deque holds l' now; nothing but its own blocks has turned. -/
def Turns (B g : Nat) (v : Value) (l' : List Int) (N : Nat) (w w' : World) : Prop :=
  ∃ v', Dqn w' B g v' l' N ∧ Only (fun k => k = g ∨ v.ownBlock = some k) w w' ∧ (v'.ownBlock = v.ownBlock ∨ ∃ k, v'.ownBlock = some k ∧ w.heap.size ≤ k)


theorem clear_run (w : World) (ty : TypeId) (b o n c : Nat) (hn : 0 < n) (hc : ∀ j, j < n → (w.cell? ⟨b, o + j, none⟩).isSome = true) (hf : ∀ j, j < n → w.frozen? ⟨b, o + j, none⟩ = false) :
    (Builtin.clear_ #[22] ty #[.slice (some ⟨b, o, none⟩) n c]).run Try.prog w = .ok (.tuple #[]) (w.setCells b o (List.replicate n (.int .i64 0))) :=
  Lib.run_clear_slice w _ _ ty (.int .i64 0) Try.underlying22 (fun w => by simp [go_sem]) rfl rfl b o n c hn hc hf

/-- 'clear' as one step of a region that draws its order. -/
theorem step_clear {P : Program} {ops : Array Oper} {o : Oper} {a : Act} {w w' : World} {K : Act → World → Prop} {Q : Exit → Act → World → Prop} {E : Prop} (hgd : o.guard = none) (s : Operand) (T : TypeId)
    (ho : o.op = .call { callee := .builtin .clear, args := #[s], argTypes := #[T] }) (v : Value) (hs : a.eval s = v) (hrun : ∀ ty, (Builtin.clear_ #[T] ty #[v]).run P w = .ok (.tuple #[]) w')
    (h : K (a.put o.dst (.tuple #[])) w') : if Region.wanted o (yielded ops a.tmps) = true then Oper.wp P o a w K Q else E := by
  have hw : Region.wanted o (yielded ops a.tmps) = true := by simp [Region.wanted, hgd]
  rw [if_pos hw]
  unfold Oper.wp
  simp [execOp, ho, resolve, invoke, builtin, hs, hrun, Result.andThen]
  exact h

/-- The cells of a row. -/
theorem row_cells {w : World} {B b n c : Nat} {xs : List Int} (h : OwnI w B (.slice (some ⟨b, 0, none⟩) n c) xs) : (∀ j, j < n → (w.cell? ⟨b, j, none⟩).isSome = true) ∧ ∀ j, j < n → w.frozen? ⟨b, j, none⟩ = false := by
  have hn : xs.length = n := own_n h
  refine ⟨fun j hj => ?_, fun j _ => World.ownsRow.frozenAt (by unfold OwnI at h; rw [hn] at h; exact h) j⟩
  obtain ⟨y, hy⟩ : ∃ y, xs[j]? = some y := ⟨_, List.getElem?_eq_getElem (by omega)⟩
  have := World.ownsRow.cells h (g := b) rfl j (.int .i64 y) (by simp [ints, hy])
  rw [add_mk, Nat.zero_add] at this
  rw [this]; rfl

/-- How many are popped. -/
def popN (len : Nat) (n : Int) : Nat := (max 0 (min n len)).toNat

/-- A Deque holds l' now, in the block that its store had. -/
def TurnsS (B g : Nat) (v : Value) (l' : List Int) (N : Nat) (w w' : World) : Prop :=
  ∃ v', Dqn w' B g v' l' N ∧ Only (fun k => k = g ∨ v.ownBlock = some k) w w' ∧ v'.ownBlock = v.ownBlock



end Go.Proofs.Ytadjgbhbeamdbaa.DqO
