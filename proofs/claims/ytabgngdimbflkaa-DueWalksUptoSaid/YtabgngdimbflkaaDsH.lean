/-
  An Index at its block; its Due, Len, Next. Conditions: as stated.
-/
import Derived.Test.YtabgngdimbflkaaDsD
import Derived.Test.YtabgngdimbflkaaDsG
import Derived.Maps.OwnOps
import Derived.Maps.OwnSet
set_option maxRecDepth 100000
set_option linter.unusedSimpArgs false
set_option linter.unusedVariables false
namespace Go.Proofs.Ytabgngdimbflkaa.DsH
open Go.RowKit Go.Shelf Go.Proofs.Ytabgngdimbflkaa.Mem Go.Proofs.Ytabgngdimbflkaa.DuA Go.Proofs.Ytabgngdimbflkaa.DuM Go.Proofs.Ytabgngdimbflkaa.DuN Go.Proofs.Ytabgngdimbflkaa.DuB Go.Proofs.Ytabgngdimbflkaa.DsC Go.Proofs.Ytabgngdimbflkaa.DsD Go.Proofs.Ytabgngdimbflkaa.DsE Go.Proofs.Ytabgngdimbflkaa.DsF Go.Proofs.Ytabgngdimbflkaa.DsG

def okk (k : ByteArray) : Prop := k.size ≤ maxLen
theorem keyed : Maps.Keyed Try.prog 9 := Maps.string_keyed Try.underlying9
theorem key_of {k : ByteArray} (hk : okk k) : keyOf Try.prog 9 (Value.string k) = some (klS k) := by
  unfold okk at hk
  simp [keyOf, Try.underlying9, mapKey, klS]
  first
    | exact hk
    | (have hmin : IntKind.i64.min = -9223372036854775808 := rfl
       have hmax : IntKind.i64.max = 9223372036854775807 := rfl
       simp only [Lit.wf, Bool.and_eq_true, decide_eq_true_eq]
       omega)
abbrev tM : TypeId := 68
abbrev Mp (w : World) (m N : Nat) (D : Dt) : Prop := w.ownsMap Try.prog 9 (plainElem Try.prog 3) m N D
/-- An Index at block g, its map at block m, its row v. -/
structure Ix (w : World) (B g m : Nat) (v : Value) (l : List (Int × ByteArray)) (N : Nat) : Prop where
  hp : w.heap[g]? = some (.cells #[.map (some m), v] 71 (0, 0))
  mp : ∃ D, Mp w m N D ∧ Tells klS D l
  own : OwnE w B v l
  gB : B ≤ g
  mB : B ≤ m
  gm : g ≠ m
  vg : v.ownBlock ≠ some g
  vm : v.ownBlock ≠ some m
  srt : Srt ltS l
  len : l.length ≤ N
  rng : ∀ e ∈ l, 0 ≤ e.1 ∧ e.1 ≤ 9007199254740992
  kok : ∀ e ∈ l, okk e.2
/-- Its blocks. -/
def IxS (g m : Nat) (v : Value) (k : Nat) : Prop := k = g ∨ k = m ∨ v.ownBlock = some k
section
variable {w w' : World} {B g m : Nat} {v : Value} {l : List (Int × ByteArray)} {N : Nat} {S : Nat → Prop}
theorem Ix.only (h : Ix w B g m v l N) (ho : Only S w w') (hs : ∀ k, IxS g m v k → ¬ S k) : Ix w' B g m v l N := by
  obtain ⟨D, ⟨es, clock, hb, F, hn, hD⟩, hT⟩ := h.mp
  exact { h with hp := ho.heap h.hp (hs g (.inl rfl)), mp := ⟨D, ⟨es, clock, ho.heap hb (hs m (.inr (.inl rfl))), F, hn, hD⟩, hT⟩, own := own_only h.own ho (fun k hk => hs k (.inr (.inr hk))) }
theorem Ix.lt (h : Ix w B g m v l N) : ∀ k, IxS g m v k → B ≤ k ∧ k < w.heap.size := by
  intro k hk
  rcases hk with rfl | rfl | hk
  · exact ⟨h.gB, (Array.getElem?_eq_some_iff.1 h.hp).1⟩
  · obtain ⟨D, hM, _⟩ := h.mp
    exact ⟨h.mB, hM.lt⟩
  · exact h.own.lt k hk
theorem Ix.below (h : Ix w B g m v l N) (hb : Below w.heap.size w w') : Ix w' B g m v l N :=
  h.only (Only.of_below hb) (fun k hk => by have := (h.lt k hk).2; omega)
theorem Ix.drew (h : Ix w B g m v l N) : Ix w.drew B g m v l N := h.below ((Below.refl _ _).drew)
theorem Ix.drawn (h : Ix w B g m v l N) (n : Nat) : Ix (w.drewN n) B g m v l N := h.below (below_drawn_ (Below.refl _ _) n)
theorem Ix.cells (h : Ix w B g m v l N) : w.cell? ⟨g, 0, none⟩ = some (.map (some m)) ∧ w.cell? ⟨g, 1, none⟩ = some v ∧ w.frozen? ⟨g, 1, none⟩ = false := by
  have h1 := h.hp
  exact ⟨by unfold World.cell?; simp only [h1]; rfl, by unfold World.cell?; simp only [h1]; rfl, by unfold World.frozen?; simp only [h1]; rfl⟩
theorem Ix.look (h : Ix w B g m v l N) {k : ByteArray} (hk : okk k) : (Instr.lookup 68 (.map (some m)) (Value.string k) true).run Try.prog w = .ok (.tuple #[.int .i64 ((dueL l k).getD 0), .bool (dueL l k).isSome]) w := by
  obtain ⟨D, hM, hT⟩ := h.mp
  obtain ⟨u, ps, hrun, hv⟩ := hM.look_ok keyed Try.underlying68 (Try.zeroValue3 w) (plainElem_int Try.underlying3 (by decide)) (key := Value.string k) (kl := klS k) (key_of hk)
  obtain ⟨c, rfl, hc, -⟩ := plainElem_int_inv Try.underlying3 hv
  have hc' := congrArg Prod.fst hc
  rw [hT.at_ k] at hc'
  rw [hrun, hT.is k]
  simp only [DataW.lit.injEq, Lit.int.injEq, true_and] at hc'
  rw [hc']
end

def opt (l : List (Int × ByteArray)) (k : ByteArray) : Value := .tuple #[.int .i64 ((dueL l k).getD 0), .bool (dueL l k).isSome]
theorem due_calls (B g m : Nat) (v : Value) (l : List (Int × ByteArray)) (N : Nat) (k : ByteArray) (w : World) (h : Ix w B g m v l N) (hk : okk k) :
    Calls Try.prog 26 #[.pointer (some ⟨g, 0, none⟩), .string k] w fun e w' => e = .returned (opt l k) ∧ w' = w := by
  unfold opt
  obtain ⟨c0, -, -⟩ := h.cells
  have hlk := h.look hk
  generalize (dueL l k).getD 0 = T at hlk ⊢
  generalize (dueL l k).isSome = b at hlk ⊢
  go_enter Try.func26, Try.ntmps26
  go_wp2_with fail
  go_ret2
  exact ⟨rfl, rfl⟩
theorem len_calls (B g m : Nat) (v : Value) (l : List (Int × ByteArray)) (N : Nat) (w : World) (h : Ix w B g m v l N) :
    Calls Try.prog 29 #[.pointer (some ⟨g, 0, none⟩)] w fun e w' => e = .returned (.int .i64 l.length) ∧ w' = w := by
  obtain ⟨-, c1, -⟩ := h.cells
  obtain ⟨A, c, rfl⟩ := own_form h.own
  go_enter Try.func29, Try.ntmps29
  go_wp2_with fail
  go_ret
  exact ⟨rfl, rfl⟩
def nextV (l : List (Int × ByteArray)) : Value := match l with | [] => .tuple #[.string ⟨#[]⟩, .int .i64 0, .bool false] | e :: _ => .tuple #[Value.string e.2, .int .i64 e.1, .bool true]
theorem next_calls (B g m : Nat) (v : Value) (l : List (Int × ByteArray)) (N : Nat) (w : World) (h : Ix w B g m v l N) (hN : N ≤ 4398046511104) :
    Calls Try.prog 15 #[.pointer (some ⟨g, 0, none⟩)] w fun e w' => e = .returned (nextV l) ∧ ∃ nd, w' = w.drewN nd := by
  have hlen := len_calls B g m v l N w h
  obtain ⟨-, c1, -⟩ := h.cells
  obtain ⟨A, c, rfl⟩ := own_form h.own
  rcases l with _ | ⟨⟨t, k⟩, r⟩
  · go_enter Try.func15, Try.ntmps15
    go_wp2_with fail
    refine hlen.mono ?_
    rintro e w1 ⟨rfl, rfl⟩
    go_wp2_with fail
    go_ret3
    exact ⟨rfl, 0, rfl⟩
  · have hr : RdE w A (r.length + 1) c ((t, k) :: r) := Rd.of_own h.own
    obtain ⟨p, rfl, x0, x1⟩ := rde_get hr (i := 0) rfl
    have hcap := hr.cap
    rw [Nat.zero_mul, show p.add 0 = p by simp [Addr.add]] at x0 x1
    have hz : ¬ (((r.length + 1 : Nat) : Int) = 0) := by omega
    have hlen' : ((((t, k) :: r : List (Int × ByteArray)).length : Nat) : Int) = ((r.length + 1 : Nat) : Int) := rfl
    rw [hlen'] at hlen
    obtain ⟨n, hn⟩ : ∃ n, r.length + 1 = n := ⟨_, rfl⟩
    have hn0 : 0 < n := by omega
    have c1' : w.cell? ⟨g, 1, none⟩ = some (.slice (some p) n c) := by rw [← hn]; exact c1
    rw [hn] at hlen hz
    have hq : ((n : Int) == 0) = false := by simp; omega
    clear c1 hr hcap h hlen' hn
    go_enter Try.func15, Try.ntmps15
    go_wp2_with fail
    refine hlen.mono ?_
    rintro e w1 ⟨rfl, rfl⟩
    go_wp2_with fail
    go_quiet (fail)
    go_wp2_with fail
    go_ret3
    exact ⟨rfl, nq, rfl⟩
end Go.Proofs.Ytabgngdimbflkaa.DsH
