/-
  An Index at its block; its Due, Len, Next. Conditions: as stated.
-/
import Derived.Test.YtabgngdimbflkaaDiD
import Derived.Test.YtabgngdimbflkaaDiG
import Derived.Maps.OwnOps
import Derived.Maps.OwnSet
set_option maxRecDepth 100000
set_option linter.unusedSimpArgs false
set_option linter.unusedVariables false
namespace Go.Proofs.Ytabgngdimbflkaa.DiH
open Go.RowKit Go.Shelf Go.Proofs.Ytabgngdimbflkaa.Mem Go.Proofs.Ytabgngdimbflkaa.DuA Go.Proofs.Ytabgngdimbflkaa.DuM Go.Proofs.Ytabgngdimbflkaa.DuN Go.Proofs.Ytabgngdimbflkaa.DuB Go.Proofs.Ytabgngdimbflkaa.DiC Go.Proofs.Ytabgngdimbflkaa.DiD Go.Proofs.Ytabgngdimbflkaa.DiE Go.Proofs.Ytabgngdimbflkaa.DiF Go.Proofs.Ytabgngdimbflkaa.DiG

def okk (k : Int) : Prop := -9223372036854775808 ≤ k ∧ k ≤ 9223372036854775807
theorem keyed : Maps.Keyed Try.prog 3 := Maps.int_keyed Try.underlying3
theorem key_of {k : Int} (hk : okk k) : keyOf Try.prog 3 (Value.int .i64 k) = some (klI k) := by
  unfold okk at hk
  simp [keyOf, Try.underlying3, mapKey, klI]
  first
    | exact hk
    | (have hmin : IntKind.i64.min = -9223372036854775808 := rfl
       have hmax : IntKind.i64.max = 9223372036854775807 := rfl
       simp only [Lit.wf, Bool.and_eq_true, decide_eq_true_eq]
       omega)
abbrev tM : TypeId := 77
abbrev Mp (w : World) (m N : Nat) (D : Dt) : Prop := w.ownsMap Try.prog 3 (plainElem Try.prog 3) m N D
/-- An Index at block g, its map at block m, its row v. -/
structure Ix (w : World) (B g m : Nat) (v : Value) (l : List (Int × Int)) (N : Nat) : Prop where
  hp : w.heap[g]? = some (.cells #[.map (some m), v] 80 (0, 0))
  mp : ∃ D, Mp w m N D ∧ Tells klI D l
  own : OwnE w B v l
  gB : B ≤ g
  mB : B ≤ m
  gm : g ≠ m
  vg : v.ownBlock ≠ some g
  vm : v.ownBlock ≠ some m
  srt : Srt ltI l
  len : l.length ≤ N
  rng : ∀ e ∈ l, 0 ≤ e.1 ∧ e.1 ≤ 9007199254740992
  kok : ∀ e ∈ l, okk e.2
/-- Its blocks. -/
def IxS (g m : Nat) (v : Value) (k : Nat) : Prop := k = g ∨ k = m ∨ v.ownBlock = some k
section
variable {w w' : World} {B g m : Nat} {v : Value} {l : List (Int × Int)} {N : Nat} {S : Nat → Prop}
theorem Ix.only (h : Ix w B g m v l N) (ho : Only S w w') (hs : ∀ k, IxS g m v k → ¬ S k) : Ix w' B g m v l N := by
  obtain ⟨D, ⟨es, clock, hb, F, hn, hD⟩, hT⟩ := h.mp
  exact { h with hp := ho.heap h.hp (hs g (.inl rfl)), mp := ⟨D, ⟨es, clock, ho.heap hb (hs m (.inr (.inl rfl))), F, hn, hD⟩, hT⟩, own := own_only h.own ho (fun k hk => hs k (.inr (.inr hk))) }
theorem Ix.lt (h : Ix w B g m v l N) : ∀ k, IxS g m v k → B ≤ k ∧ k < w.heap.size := by
  intro k hk
  rcases hk with rfl | rfl | hk
  · exact ⟨h.gB, (Array.getElem?_eq_some_iff.1 h.hp).1⟩
  · obtain ⟨D, hM, _⟩ := h.mp
    exact ⟨h.mB, hM.lt⟩
  · exact h.own.lt k hk
theorem Ix.below (h : Ix w B g m v l N) (hb : Below w.heap.size w w') : Ix w' B g m v l N :=
  h.only (Only.of_below hb) (fun k hk => by have := (h.lt k hk).2; omega)
theorem Ix.drew (h : Ix w B g m v l N) : Ix w.drew B g m v l N := h.below ((Below.refl _ _).drew)
theorem Ix.drawn (h : Ix w B g m v l N) (n : Nat) : Ix (w.drewN n) B g m v l N := h.below (below_drawn_ (Below.refl _ _) n)
theorem Ix.cells (h : Ix w B g m v l N) : w.cell? ⟨g, 0, none⟩ = some (.map (some m)) ∧ w.cell? ⟨g, 1, none⟩ = some v ∧ w.frozen? ⟨g, 1, none⟩ = false := by
  have h1 := h.hp
  exact ⟨by unfold World.cell?; simp only [h1]; rfl, by unfold World.cell?; simp only [h1]; rfl, by unfold World.frozen?; simp only [h1]; rfl⟩
theorem Ix.look (h : Ix w B g m v l N) {k : Int} (hk : okk k) : (Instr.lookup 77 (.map (some m)) (Value.int .i64 k) true).run Try.prog w = .ok (.tuple #[.int .i64 ((dueL l k).getD 0), .bool (dueL l k).isSome]) w := by
  obtain ⟨D, hM, hT⟩ := h.mp
  obtain ⟨u, ps, hrun, hv⟩ := hM.look_ok keyed Try.underlying77 (Try.zeroValue3 w) (plainElem_int Try.underlying3 (by decide)) (key := Value.int .i64 k) (kl := klI k) (key_of hk)
  obtain ⟨c, rfl, hc, -⟩ := plainElem_int_inv Try.underlying3 hv
  have hc' := congrArg Prod.fst hc
  rw [hT.at_ k] at hc'
  rw [hrun, hT.is k]
  simp only [DataW.lit.injEq, Lit.int.injEq, true_and] at hc'
  rw [hc']
end

def opt (l : List (Int × Int)) (k : Int) : Value := .tuple #[.int .i64 ((dueL l k).getD 0), .bool (dueL l k).isSome]
theorem due_calls (B g m : Nat) (v : Value) (l : List (Int × Int)) (N : Nat) (k : Int) (w : World) (h : Ix w B g m v l N) (hk : okk k) :
    Calls Try.prog 22 #[.pointer (some ⟨g, 0, none⟩), .int .i64 k] w fun e w' => e = .returned (opt l k) ∧ w' = w := by
  unfold opt
  obtain ⟨c0, -, -⟩ := h.cells
  have hlk := h.look hk
  generalize (dueL l k).getD 0 = T at hlk ⊢
  generalize (dueL l k).isSome = b at hlk ⊢
  go_enter Try.func22, Try.ntmps22
  go_wp2_with fail
  go_ret2
  exact ⟨rfl, rfl⟩
theorem len_calls (B g m : Nat) (v : Value) (l : List (Int × Int)) (N : Nat) (w : World) (h : Ix w B g m v l N) :
    Calls Try.prog 24 #[.pointer (some ⟨g, 0, none⟩)] w fun e w' => e = .returned (.int .i64 l.length) ∧ w' = w := by
  obtain ⟨-, c1, -⟩ := h.cells
  obtain ⟨A, c, rfl⟩ := own_form h.own
  go_enter Try.func24, Try.ntmps24
  go_wp2_with fail
  go_ret
  exact ⟨rfl, rfl⟩
end Go.Proofs.Ytabgngdimbflkaa.DiH
