/-
  An Index at its block; its Due, Len, Next. Conditions: as stated.
-/
import Derived.Test.YtjofbagaobdmoaaGreatDsD
import Derived.Test.YtjofbagaobdmoaaGreatDsG
import Derived.Maps.OwnOps
import Derived.Maps.OwnSet
set_option maxRecDepth 100000
set_option linter.unusedSimpArgs false
set_option linter.unusedVariables false
namespace Go.Proofs.YtjofbagaobdmoaaGreat.DsH
open Go.RowKit Go.Shelf Go.Proofs.YtjofbagaobdmoaaGreat.Mem Go.Proofs.YtjofbagaobdmoaaGreat.DuA Go.Proofs.YtjofbagaobdmoaaGreat.DuM Go.Proofs.YtjofbagaobdmoaaGreat.DuN Go.Proofs.YtjofbagaobdmoaaGreat.DuB Go.Proofs.YtjofbagaobdmoaaGreat.DsC Go.Proofs.YtjofbagaobdmoaaGreat.DsD Go.Proofs.YtjofbagaobdmoaaGreat.DsE Go.Proofs.YtjofbagaobdmoaaGreat.DsF Go.Proofs.YtjofbagaobdmoaaGreat.DsG

def okk (k : ByteArray) : Prop := k.size ≤ maxLen
theorem keyed : Maps.Keyed Tryz.prog 9 := Maps.string_keyed Tryz.underlying9
theorem key_of {k : ByteArray} (hk : okk k) : keyOf Tryz.prog 9 (Value.string k) = some (klS k) := by
  unfold okk at hk
  simp [keyOf, Tryz.underlying9, mapKey, klS]
  first
    | exact hk
    | (have hmin : IntKind.i64.min = -9223372036854775808 := rfl
       have hmax : IntKind.i64.max = 9223372036854775807 := rfl
       simp only [Lit.wf, Bool.and_eq_true, decide_eq_true_eq]
       omega)
abbrev tM : TypeId := 125
abbrev Mp (w : World) (m N : Nat) (D : Dt) : Prop := w.ownsMap Tryz.prog 9 (plainElem Tryz.prog 3) m N D
/-- An Index at block g, its map at block m, its row v. -/
structure Ix (w : World) (B g m : Nat) (v : Value) (l : List (Int × ByteArray)) (N : Nat) : Prop where
  hp : w.heap[g]? = some (.cells #[.map (some m), v] 128 (0, 0))
  mp : ∃ D, Mp w m N D ∧ Tells klS D l
  own : OwnE w B v l
  gB : B ≤ g
  mB : B ≤ m
  gm : g ≠ m
  vg : v.ownBlock ≠ some g
  vm : v.ownBlock ≠ some m
  srt : Srt ltS l
  len : l.length ≤ N
  rng : ∀ e ∈ l, 0 ≤ e.1 ∧ e.1 ≤ 9007199254740992
  kok : ∀ e ∈ l, okk e.2
/-- Its blocks. -/
def IxS (g m : Nat) (v : Value) (k : Nat) : Prop := k = g ∨ k = m ∨ v.ownBlock = some k
section
variable {w w' : World} {B g m : Nat} {v : Value} {l : List (Int × ByteArray)} {N : Nat} {S : Nat → Prop}
theorem Ix.only (h : Ix w B g m v l N) (ho : Only S w w') (hs : ∀ k, IxS g m v k → ¬ S k) : Ix w' B g m v l N := by
  obtain ⟨D, ⟨es, clock, hb, F, hn, hD⟩, hT⟩ := h.mp
  exact { h with hp := ho.heap h.hp (hs g (.inl rfl)), mp := ⟨D, ⟨es, clock, ho.heap hb (hs m (.inr (.inl rfl))), F, hn, hD⟩, hT⟩, own := own_only h.own ho (fun k hk => hs k (.inr (.inr hk))) }
theorem Ix.lt (h : Ix w B g m v l N) : ∀ k, IxS g m v k → B ≤ k ∧ k < w.heap.size := by
  intro k hk
  rcases hk with rfl | rfl | hk
  · exact ⟨h.gB, (Array.getElem?_eq_some_iff.1 h.hp).1⟩
  · obtain ⟨D, hM, _⟩ := h.mp
    exact ⟨h.mB, hM.lt⟩
  · exact h.own.lt k hk
theorem Ix.below (h : Ix w B g m v l N) (hb : Below w.heap.size w w') : Ix w' B g m v l N :=
  h.only (Only.of_below hb) (fun k hk => by have := (h.lt k hk).2; omega)
theorem Ix.drew (h : Ix w B g m v l N) : Ix w.drew B g m v l N := h.below ((Below.refl _ _).drew)
theorem Ix.drawn (h : Ix w B g m v l N) (n : Nat) : Ix (w.drewN n) B g m v l N := h.below (below_drawn_ (Below.refl _ _) n)
theorem Ix.cells (h : Ix w B g m v l N) : w.cell? ⟨g, 0, none⟩ = some (.map (some m)) ∧ w.cell? ⟨g, 1, none⟩ = some v ∧ w.frozen? ⟨g, 1, none⟩ = false := by
  have h1 := h.hp
  exact ⟨by unfold World.cell?; simp only [h1]; rfl, by unfold World.cell?; simp only [h1]; rfl, by unfold World.frozen?; simp only [h1]; rfl⟩
theorem Ix.look (h : Ix w B g m v l N) {k : ByteArray} (hk : okk k) : (Instr.lookup 125 (.map (some m)) (Value.string k) true).run Tryz.prog w = .ok (.tuple #[.int .i64 ((dueL l k).getD 0), .bool (dueL l k).isSome]) w := by
  obtain ⟨D, hM, hT⟩ := h.mp
  obtain ⟨u, ps, hrun, hv⟩ := hM.look_ok keyed Tryz.underlying125 (Tryz.zeroValue3 w) (plainElem_int Tryz.underlying3 (by decide)) (key := Value.string k) (kl := klS k) (key_of hk)
  obtain ⟨c, rfl, hc, -⟩ := plainElem_int_inv Tryz.underlying3 hv
  have hc' := congrArg Prod.fst hc
  rw [hT.at_ k] at hc'
  rw [hrun, hT.is k]
  simp only [DataW.lit.injEq, Lit.int.injEq, true_and] at hc'
  rw [hc']
end

def opt (l : List (Int × ByteArray)) (k : ByteArray) : Value := .tuple #[.int .i64 ((dueL l k).getD 0), .bool (dueL l k).isSome]
def nextV (l : List (Int × ByteArray)) : Value := match l with | [] => .tuple #[.string ⟨#[]⟩, .int .i64 0, .bool false] | e :: _ => .tuple #[Value.string e.2, .int .i64 e.1, .bool true]
end Go.Proofs.YtjofbagaobdmoaaGreat.DsH
