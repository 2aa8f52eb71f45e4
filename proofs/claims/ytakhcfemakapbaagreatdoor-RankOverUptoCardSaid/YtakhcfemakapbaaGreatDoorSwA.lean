/-
  sort.Slice's family where 'less' may lay blocks: the worlds it passes through, what is asked of 'less' and of the swap. Conditions: as stated.
-/
import Derived.Test.YtakhcfemakapbaaGreatDoorRows
import Derived.Test.YtakhcfemakapbaaGreatDoorDuM
import Derived.Shelf.SlSortFuncK.WholeK
import Derived.Shelf.GgSortFunc.Tiny
import Derived.Shelf.Lay
import Derived.Ground.GgsProg
import Derived.Sort.AtCall
set_option maxRecDepth 100000
set_option linter.unusedSimpArgs false
set_option linter.unusedVariables false
namespace Go.Proofs
open Go.Shelf Go.RowKit Go.Lib Go.Sort
shelf_lay LaysGg.n6 Ggs 6 at Tryz as YtakhcfemakapbaaGreatDoor.sortSl
end Go.Proofs
namespace Go.Proofs.YtakhcfemakapbaaGreatDoor.SwA
open Go Go.Shelf Go.RowKit Go.Sort Go.Proofs.YtakhcfemakapbaaGreatDoor.Mem Go.Proofs.YtakhcfemakapbaaGreatDoor.DuM
variable {α : Type} [Inhabited α]
theorem only_grow {w : World} (S : Nat → Prop) (q : Nat) (os : Array Obj) : Only S w (grow (w.drewN q) os) :=
  ⟨rfl, rfl, rfl, by simp [grow], fun i hi _ => by simp [grow, Array.getElem?_append, hi]⟩
/-- What is asked. -/
structure Env (enc : α → List Value) (k : Nat) (lt : α → α → Bool) (g : Nat) (lb : Array Value) (sf : Nat) (sb : Array Value) (blk off size : Nat) (w0 : World) : Prop where
  less : ∀ W dk, SWK enc k w0 blk off dk W → dk.size = size → ∀ i j : Nat, i < size → j < size →
    Calls Tryz.prog g (#[.int .i64 i, .int .i64 j] ++ lb) W fun e w' => e = .returned (.bool (lt dk[i]! dk[j]!)) ∧ ∃ q os, w' = grow (W.drewN q) os
  swap : SwapSwapsK Tryz.prog sf sb enc k blk off size
  holds : ∃ d0, HoldsK enc k w0 blk off d0 ∧ d0.size = size
  hblk : blk < w0.heap.size
  hsz : size < 4611686018427387904
  hk : ∀ x, (enc x).length = k
  eg : ∀ args w, (callFunc g args).run Tryz.prog w = .ok (.enter g args) w
section
variable {enc : α → List Value} {k : Nat} {lt : α → α → Bool} {g : Nat} {lb : Array Value} {sf : Nat} {sb : Array Value} {blk off size : Nat} {w0 W W' W1 : World} {dk : Array α}
theorem swk_grow (h : SWK enc k w0 blk off dk W) (q : Nat) (os : Array Obj) : SWK enc k w0 blk off dk (grow (W.drewN q) os) := by
  obtain ⟨n, os', hw⟩ := h.drewN q
  exact ⟨n, os' ++ os, by rw [hw]; unfold sortWorldK; rw [grow_grow]⟩
/-- A function's own box of the two functions. -/
structure Bx (B : Nat) (x y : Value) (blk : Nat) (W : World) : Prop where
  c0 : W.cell? ⟨B, 0, none⟩ = some x
  c1 : W.cell? ⟨B, 1, none⟩ = some y
  ne : B ≠ blk
  lt : B < W.heap.size
theorem Bx.new (W : World) (x y : Value) (T : TypeId) (hb : blk < W.heap.size) : Bx W.heap.size x y blk (W.alloc (.cells #[x, y] T)) := by
  have h := heap_alloc_new W (.cells #[x, y] T)
  refine ⟨?_, ?_, by omega, by simp⟩ <;> (unfold World.cell?; simp only [h]; rfl)
theorem Bx.only {B : Nat} {x y : Value} (h : Bx B x y blk W) (ho : Only (fun b => b = blk) W W') : Bx B x y blk W' :=
  ⟨ho.cell h.c0 h.ne, ho.cell h.c1 h.ne, h.ne, Nat.lt_of_lt_of_le h.lt ho.size⟩
/-- Where a function stands: the row holds dk; since W only the row was turned. -/
structure St (enc : α → List Value) (k : Nat) (blk off : Nat) (w0 W : World) (dk : Array α) (W' : World) : Prop where
  sw : SWK enc k w0 blk off dk W'
  on : Only (fun b => b = blk) W W'
theorem St.start (h : SWK enc k w0 blk off dk W) : St enc k blk off w0 W dk W := ⟨h, Only.refl _ _⟩
theorem St.grow (h : St enc k blk off w0 W dk W') (q : Nat) (os : Array Obj) : St enc k blk off w0 W dk (Sort.grow (W'.drewN q) os) :=
  ⟨swk_grow h.sw q os, h.on.trans (only_grow (fun _ => False) q os) (fun _ e => e.elim)⟩
theorem St.drew (h : St enc k blk off w0 W dk W') : St enc k blk off w0 W dk W'.drew := ⟨h.sw.drewN 1, h.on.drew⟩
theorem St.alloc (h : St enc k blk off w0 W dk W') (o : Obj) : St enc k blk off w0 W dk (W'.alloc o) := ⟨h.sw.alloc o, h.on.alloc o⟩
theorem St.trans {dk' : Array α} (h : St enc k blk off w0 W dk W1) (h2 : St enc k blk off w0 W1 dk' W') : St enc k blk off w0 W dk' W' := ⟨h2.sw, h.on.trans h2.on (fun _ e => .inl e)⟩
theorem Env.hold (E : Env enc k lt g lb sf sb blk off size w0) (h : SWK enc k w0 blk off dk W) (hs : dk.size = size) : HoldsK enc k W blk off dk := by
  obtain ⟨d0, h0, hd⟩ := E.holds
  exact h.holds E.hblk h0 (hs.trans hd.symm)
/-- The swap. -/
theorem Env.swp (E : Env enc k lt g lb sf sb blk off size w0) (h : St enc k blk off w0 W dk W') (hs : dk.size = size) {i j : Nat} (hi : i < size) (hj : j < size) :
    ∃ W2, (callFunc sf (#[.int .i64 i, .int .i64 j] ++ sb)).run Tryz.prog W' = .ok (.value (.tuple #[])) W2 ∧ St enc k blk off w0 W (Sort.swp dk i j) W2 ∧ Only (fun b => b = blk) W' W2 := by
  refine ⟨_, E.swap W' dk (E.hold h.sw hs) hs i j hi hj, ⟨h.sw.swap E.hk E.hblk i j (by omega) (by omega), ?_⟩, ?_⟩
  · exact only_puts (S := fun b => b = blk) blk (.inl rfl) _ _ (only_puts (S := fun b => b = blk) blk (.inl rfl) _ _ h.on)
  · exact only_puts (S := fun b => b = blk) blk (.inl rfl) _ _ (only_puts (S := fun b => b = blk) blk (.inl rfl) _ _ (Only.refl _ _))
end
abbrev dV (g : Nat) (lb : Array Value) (sf : Nat) (sb : Array Value) : Value := .agg #[.func (.func g) #[] lb, .func (.func sf) #[] sb]
end Go.Proofs.YtakhcfemakapbaaGreatDoor.SwA
