/-
  The walk of DequeWalks. Conditions: as stated.
-/
import Derived.Test.YtgbgdgncdanblaaDrG
import Derived.Test.YtgbgdgncdanblaaDrH
import Derived.Test.YtgbgdgncdanblaaDrJ
import Derived.Test.YtgbgdgncdanblaaDrK
set_option maxRecDepth 100000
set_option linter.unusedSimpArgs false
set_option linter.unusedVariables false
namespace Go.Proofs.Ytgbgdgncdanblaa.DrI
open Go.RowKit Go.Shelf Go.Proofs.Ytgbgdgncdanblaa.Mem Go.Proofs.Ytgbgdgncdanblaa.DqA Go.Proofs.Ytgbgdgncdanblaa.DqB Go.Proofs.Ytgbgdgncdanblaa.DqD Go.Proofs.Ytgbgdgncdanblaa.DqF Go.Proofs.Ytgbgdgncdanblaa.DqI Go.Proofs.Ytgbgdgncdanblaa.DqO Go.Proofs.Ytgbgdgncdanblaa.DqR Go.Proofs.Ytgbgdgncdanblaa.DrB Go.Proofs.Ytgbgdgncdanblaa.DrG Go.Proofs.Ytgbgdgncdanblaa.DrH
theorem run_store_func {P : Program} {w : World} (a : Addr) (m : Mode) (fn : Fn) (fi ca : Array Value) : (store a (.func fn fi ca) m).run P w = stored P w a (.func fn fi ca) m := run_store P w a _ m rfl
attribute [local go_sem] Oper.semAt_some run_store_func

theorem size_le_of_only {S : Nat → Prop} {A B : World} (h : Only S A B) : A.heap.size ≤ B.heap.size := h.size
theorem ownFrom_only {β : Type} {B : Nat} {S : Nat → Prop} {w₀ : World} (hB : w₀.heap.size ≤ B) : OwnFrom B (fun (_ : β) W => Only S w₀ W) :=
  fun s X Y row hs hg hr => hs.trans (Only.of_grown hg) (fun b hb => .inr (Nat.le_trans hB (hr b hb).1))
theorem keepsFrom_only {B : Nat} {S : Nat → Prop} {A C : World} (h : Only S A C) (hs : ∀ k, S k → ∀ o, A.heap[k]? = some o → o.isCells = true) : KeepsFrom B A C :=
  ⟨h.size, fun k o _ hk ho => h.heap hk (fun hS => by rw [hs k hS o hk] at ho; cases ho)⟩

theorem Boxed.only {S : Nat → Prop} {A C : World} {b : Nat} {t : TypeId} {v : Value} (h : Boxed A b t v) (ho : Only S A C) (hn : ¬ S b) : Boxed C b t v := ho.heap h hn
theorem Boxed.below_ {A C : World} {b : Nat} {t : TypeId} {v : Value} (h : Boxed A b t v) (ho : Below A.heap.size A C) : Boxed C b t v := (Only.of_below ho).heap h (by have := Boxed.lt h; omega)

/-- A range that is left at once. -/
theorem loop_once {g : Operand} {a : Act} {w : World} (Bs : Nat) (A6 : Option Addr) (c6 : Nat) (l : List Int) (hlen : l.length ≤ 1048576) (T : Nat → Prop) (hg : a.eval g = .func (.func 68) #[] #[.pointer (some ⟨Bs, 0, none⟩)])
    (hBs : Bs < w.heap.size) (hc : w.cell? ⟨Bs, 0, none⟩ = some (.slice A6 l.length c6)) (hr : RdI w A6 l.length c6 l) (hTA : ∀ ad, A6 = some ad → T ad.block) :
    (Code.rangeFunc g #[29, 30] Code.skip (Code.block 1 (Code.exit 0))).wpIn Fence.wide 8 Try.prog
      (fun e a' W' => (e = .normal ∨ e = .exit 0) ∧ ∃ D, w.heap.size ≤ D ∧ Only (fun _ => False) w W' ∧ W'.heap[D]? = some (.deferred (some [])) ∧ a' = { a with defers := { target := .collected D, args := #[] } :: a.defers }) a w := by
  refine wpIn_rangeFunc_ownH (α := Fin l.length) rfl (by decide) (gf := 68) (lb := #[.pointer (some ⟨Bs, 0, none⟩)]) hg trivial (enters_of Try.func68 (by kernel_rfl) rfl)
    (all_stops Fence.wide 7 trivial rfl (by decide) Bs A6 c6 l (by omega) T w hBs hc hr hTA) (fun h k => Keeps.t h k) Keeps.b (Below.refl _ _) (fun _ => rfl)
    (fun _ W' => Only (fun _ => False) w W') (fun c _ W' => c = .exit 0 ∧ Only (fun _ => False) w W') (ownFrom_only (Nat.le_refl _))
    (fun c s X Y row hs hg hr => ⟨hs.1, ownFrom_only (Nat.le_refl _) s X Y row hs.2 hg hr⟩) (Only.refl _ _) (fun _ _ _ => True) (fun _ _ _ _ _ _ hs _ _ => hs) ?assign ?body ?done ?stop
  case assign =>
    intro l1 pre x W' K hi hK
    gi_wp2
    exact hK _ _ (KeepsFrom.refl _ _) (fun _ _ h _ => h) hi trivial
  case body =>
    rintro l1 pre x a' W' hl1 hr1 hi - hlt
    gi_wp2
    exact ⟨KeepsFrom.refl _ _, rfl, hi⟩
  case done =>
    rintro D ys W1 hD hys hi hK
    exact ⟨.inl rfl, D, hD, hi, hK, rfl⟩
  case stop =>
    rintro D cc pre W1 hD hpre ⟨rfl, hi⟩ hK
    gi_wp2
    all_goals exact ⟨.inr rfl, D, hD, hi, hK, rfl⟩
theorem two_ways {Q : Exit → Act → World → Prop} {e : Exit} {i : Nat} {a : Act} {w : World} (he : e = .normal ∨ e = .exit i) (h1 : Q (.exit i) a w = Q .normal a w) (h : Q .normal a w) : Q e a w := by
  rcases he with rfl | rfl
  · exact h
  · rw [h1]; exact h

theorem Dqn.cellsOf {w : World} {B g N : Nat} {v : Value} {l : List Int} (h : Dqn w B g v l N) : (∀ o, w.heap[g]? = some o → o.isCells = true) ∧ ∀ k, v.ownBlock = some k → ∀ o, w.heap[k]? = some o → o.isCells = true := by
  obtain ⟨xs, f, ⟨a, b, c, d, e⟩, hl, hn⟩ := h
  refine ⟨fun o ho => by rw [a] at ho; cases ho; rfl, fun k hk o ho => ?_⟩
  rcases c.2 with ⟨rfl, _⟩ | ⟨b', cap, cur, rfl, _, h2, _⟩
  · cases hk
  · injection hk with hk; subst hk
    rw [h2] at ho; cases ho; rfl
theorem Boxed.cellsOf {w : World} {b : Nat} {t : TypeId} {v : Value} (h : Boxed w b t v) : ∀ o, w.heap[b]? = some o → o.isCells = true := fun o ho => by
  rw [show w.heap[b]? = _ from h] at ho; cases ho; rfl
/-- The slice's block, where it has one that is read, holds cells. -/
theorem rd_kept {X Y : World} {A : Option Addr} {n c : Nat} {l : List Int} (h : RdI X A n c l) (hc : ∀ p u, X.cell? p = some u → Y.cell? p = some u) : RdI Y A n c l :=
  ⟨h.len, h.cap, h.big, fun j x hx => by obtain ⟨ad, e, h1⟩ := h.get j x hx; exact ⟨ad, e, hc _ _ h1⟩⟩
theorem rd_only {S : Nat → Prop} {X Y : World} {A : Option Addr} {n c : Nat} {l : List Int} (h : RdI X A n c l) (ho : Only S X Y) (hs : l ≠ [] → ∀ ad, A = some ad → ¬ S ad.block) : RdI Y A n c l := by
  by_cases hl : l = []
  · subst hl
    exact ⟨h.len, h.cap, h.big, fun j x hx => by simp [ints] at hx⟩
  · exact h.only ho (hs hl)

theorem Dqn.base {w : World} {B B' g N : Nat} {v : Value} {l : List Int} (h : Dqn w B g v l N) (hB : B' ≤ B) : Dqn w B' g v l N := by
  obtain ⟨xs, f, ⟨a, b, c, d, e⟩, hl, hn⟩ := h
  exact ⟨xs, f, ⟨a, Nat.le_trans hB b, own_less c hB, d, e⟩, hl, hn⟩
/-- The activation with which a round begins: four variables are set. -/
def G (a : Act) (p q s t : Nat) (u v : Value) : Act := { tmps := (((a.tmps.setIfInBounds p u).setIfInBounds q v).setIfInBounds s u).setIfInBounds t v, defers := [] }
/-- What the end of the walk reads. -/
structure Cz (s B5 B7 B8 D1 D2 D3 g : Nat) (n0 : Int) (s2 s7 : Value) (w : World) : Prop where
  b8 : Boxed w B8 3 (.int .i64 n0)
  b2 : Boxed w s 22 s2
  b5 : Boxed w B5 23 (.pointer (some ⟨g, 0, none⟩))
  b7 : Boxed w B7 22 s7
  b4 : Boxed w (s + 1 + 1) 4 (.bool false)
  d1 : w.heap[D1]? = some (.deferred (some []))
  d2 : w.heap[D2]? = some (.deferred (some []))
  d3 : w.heap[D3]? = some (.deferred (some []))
theorem heap_below {w w' : World} {k : Nat} {o : Obj} (h : w.heap[k]? = some o) (hb : Below w.heap.size w w') : w'.heap[k]? = some o := (hb.block _ (Array.getElem?_eq_some_iff.1 h).1).trans h
theorem Cz.below {s B5 B7 B8 D1 D2 D3 g : Nat} {n0 : Int} {s2 s7 : Value} {w w' : World} (h : Cz s B5 B7 B8 D1 D2 D3 g n0 s2 s7 w) (hb : Below w.heap.size w w') : Cz s B5 B7 B8 D1 D2 D3 g n0 s2 s7 w' :=
  ⟨Boxed.below_ h.b8 hb, Boxed.below_ h.b2 hb, Boxed.below_ h.b5 hb, Boxed.below_ h.b7 hb, Boxed.below_ h.b4 hb, heap_below h.d1 hb, heap_below h.d2 hb, heap_below h.d3 hb⟩
section
variable {w4 w w' : World} {s B5 B7 B8 D1 D2 D3 g : Nat} {n0 : Int} {s2 s7 : Value}
/-- All that the last region asks. -/
abbrev Full (w4 : World) (s B5 B7 B8 g : Nat) (n0 : Int) (s2 s7 : Value) (w : World) : Prop := Only (fun b => b = s + 1 + 1) w4 w ∧ w.cell? ⟨B8, 0, none⟩ = some (.int .i64 n0) ∧ w.cell? ⟨s, 0, none⟩ = some s2 ∧
    w.cell? ⟨B5, 0, none⟩ = some (.pointer (some ⟨g, 0, none⟩)) ∧ w.cell? ⟨B7, 0, none⟩ = some s7 ∧ ∃ u, Boxed w (s + 1 + 1) 4 u
theorem full_of (z : Cz s B5 B7 B8 D1 D2 D3 g n0 s2 s7 w4) (hn : s + 1 + 1 < B5 ∧ s + 1 + 1 < B7 ∧ s + 1 + 1 < B8) (h : Only (fun b => b = s + 1 + 1) w4 w) (hb : ∃ u, Boxed w (s + 1 + 1) 4 u) : Full w4 s B5 B7 B8 g n0 s2 s7 w :=
  ⟨h, (Boxed.only z.b8 h (by omega)).cell, (Boxed.only z.b2 h (by omega)).cell, (Boxed.only z.b5 h (by omega)).cell, (Boxed.only z.b7 h (by omega)).cell, hb⟩
theorem full_start (z : Cz s B5 B7 B8 D1 D2 D3 g n0 s2 s7 w4) (hn : s + 1 + 1 < B5 ∧ s + 1 + 1 < B7 ∧ s + 1 + 1 < B8) : Full w4 s B5 B7 B8 g n0 s2 s7 w4.drew := full_of z hn ((Only.refl _ _).drew) ⟨_, z.b4⟩
theorem full_below (z : Cz s B5 B7 B8 D1 D2 D3 g n0 s2 s7 w4) (hn : s + 1 + 1 < B5 ∧ s + 1 + 1 < B7 ∧ s + 1 + 1 < B8) (h : Full w4 s B5 B7 B8 g n0 s2 s7 w) (hb : Below w.heap.size w w') : Full w4 s B5 B7 B8 g n0 s2 s7 w' := full_of z hn (only_b h.1 hb) (by obtain ⟨u, h⟩ := h.2.2.2.2.2; exact ⟨u, Boxed.below_ h hb⟩)
theorem full_set (z : Cz s B5 B7 B8 D1 D2 D3 g n0 s2 s7 w4) (hn : s + 1 + 1 < B5 ∧ s + 1 + 1 < B7 ∧ s + 1 + 1 < B8) (h : Full w4 s B5 B7 B8 g n0 s2 s7 w) (u : Value) : Full w4 s B5 B7 B8 g n0 s2 s7 (w.setCell ⟨s + 1 + 1, 0, none⟩ u) :=
  full_of z hn (h.1.put (p := ⟨s + 1 + 1, 0, none⟩) (.inl rfl) u) (by obtain ⟨u', h⟩ := h.2.2.2.2.2; exact ⟨u, Boxed.set u h⟩)
theorem full_drawn (z : Cz s B5 B7 B8 D1 D2 D3 g n0 s2 s7 w4) (hn : s + 1 + 1 < B5 ∧ s + 1 + 1 < B7 ∧ s + 1 + 1 < B8) (h : Full w4 s B5 B7 B8 g n0 s2 s7 w) (m : Nat) : Full w4 s B5 B7 B8 g n0 s2 s7 (w.drewN m) := full_below z hn h (below_drawn (Below.refl _ _) m)
end
/-- What 'do' leaves. -/
def DoLeft (B g N : Nat) (v : Value) (l : List Int) (A : Option Addr) (m : Nat) (w : World) (A' : Option Addr) (n' c' : Nat) (w' : World) : Prop :=
  ∃ l' v' N', RdI w' A' n' c' l' ∧ Dqn w' B g v' l' N' ∧ Apart g v' A' l' ∧ l'.length ≤ l.length + m + 1 ∧ N' ≤ max (N + m) (m + l.length + l.length + 1) ∧ Only (fun k => k = g ∨ v.ownBlock = some k) w w' ∧ (∀ k, v'.ownBlock = some k → v.ownBlock = some k ∨ w.heap.size ≤ k) ∧ (∀ ad, A' = some ad → l' ≠ [] → (A' = A ∧ l' = l) ∨ w.heap.size ≤ ad.block)
/-- A region behind which the activation is of one form. -/
theorem via {F : Fence} {n : Nat} {P : Program} {c : Code} {a : Act} {w : World} {Q : Exit → Act → World → Prop} {f : Option Addr → Nat → Nat → Act} {D : Option Addr → Nat → Nat → World → Prop}
    (h1 : c.wpIn F n P (fun e a w => e = .normal ∧ ∃ A n c, a = f A n c ∧ D A n c w) a w) (h2 : ∀ A n c w, D A n c w → Q .normal (f A n c) w) : c.wpIn F n P Q a w :=
  wpIn_mono h1 (fun e a w h => by obtain ⟨rfl, A, n, c, rfl, hd⟩ := h; exact h2 A n c w hd)
/-- The law of a range at a pair of variables; the body is told of its loop's record. -/
theorem ownL {F : Fence} {n : Nat} {P : Program} {α : Type} {g : Operand} {ps : Array Tmp} {assign body : Code} {Q : Exit → Act → World → Prop} {a : Act} {w : World}
    (hro : F.round = none) (h1 : 1 ≤ n) {gf : Nat} {lb : Array Value} (hg : a.eval g = .func (.func gf) #[] lb) (hFg : F.fn gf) (eg : ∀ args w, (callFunc gf args).run P w = .ok (.enter gf args) w)
    {encs : α → Array Value} {Kp : World → World → Prop} {S Sp : List α → Prop} {N : Nat} {w0 : World} (hseq : SeqStopsK F (n - 1) P gf lb encs Kp S Sp N w0)
    (hKt : ∀ {A B C : World}, Kp A B → Kp B C → Kp A C) (hKb : ∀ (W : World) (l : Nat) (o o' : Obj), w.heap.size ≤ l → W.heap[l]? = some o → o.isCells = false → o.isWalk = false → Kp W (W.putObj l o')) (hb0 : Below w0.heap.size w0 w) (hps : ∀ x, (encs x).size = ps.size)
    (I : List α → World → Prop) (Ix : Code → List α → World → Prop) (hI : OwnFrom w.heap.size I) (hIx : ∀ c, OwnFrom w.heap.size (Ix c)) (h0 : I [] w) (p q s t : Nat) (u v : α → Value) (hKr : ∀ W, Kp W W)
    (hassign : ∀ (l : Nat) (x : α) (W : World) (K : Act → World → Prop), K (G a p q s t (u x) (v x)) W →
      assign.wpIn (F.inRound l) (n - 1 - 1) P (Exit.then K (fun _ _ _ => False)) { tmps := (ps.zip (encs x)).foldl (fun t (p, v) => t.setIfInBounds p v) a.tmps, defers := [] } W)
    (hbody : ∀ (l : Nat) (pre : List α) (x : α) (W : World), w.heap.size ≤ l → (∃ r, W.heap[l]? = some (.loop r)) → I pre W → pre.length < N → body.wpIn (F.inRound l) (n - 1 - 1) P (ownPostG w.heap.size Kp I Ix (pre ++ [x]) W) (G a p q s t (u x) (v x)) W)
    (hdone : ∀ (D : Nat) (xs : List α) (W : World), w.heap.size ≤ D → S xs → I xs W → W.heap[D]? = some (.deferred (some [])) → Q .normal { a with defers := { target := .collected D, args := #[] } :: a.defers } W)
    (hstop : ∀ (D : Nat) (c : Code) (pre : List α) (W : World), w.heap.size ≤ D → Sp pre → Ix c pre W → W.heap[D]? = some (.deferred (some [])) → c.wpIn F n P Q { a with defers := { target := .collected D, args := #[] } :: a.defers } W) :
    (Code.rangeFunc g ps assign body).wpIn F n P Q a w :=
  wpIn_rangeFunc_ownH hro h1 hg hFg eg hseq (fun h k => hKt h k) hKb hb0 hps I Ix hI hIx h0 (fun x a' _ => a' = G a p q s t (u x) (v x)) (fun _ _ _ _ _ _ hs _ _ => hs)
    (fun l pre x W K hi hK => hassign l x W K (hK _ _ (KeepsFrom.refl _ _) (hKr W) hi rfl)) (fun l pre x a' W hl hr hi e hlt => by subst e; exact hbody l pre x W hl hr hi hlt) hdone hstop
/-- The blocks that the walk turns. -/
def S1 (g : Nat) (v1 : Value) (B7 B8 : Nat) : Nat → Prop := fun k => (k = g ∨ v1.ownBlock = some k) ∨ k = B7 ∨ k = B8
/-- What holds when k rounds of the walk are over. -/
structure Lw (W W2 : World) (g B7 B8 : Nat) (v1 : Value) (ds : List DD) (k : Nat) (v : Value) (N : Nat) (l : List Int) (A : Option Addr) (c : Nat) (X : World) : Prop where
  b8 : Boxed X B8 3 (.int .i64 k)
  b7 : Boxed X B7 22 (.slice A l.length c)
  rd : RdI X A l.length c l
  dq : Dqn X W.heap.size g v l N
  ap : Apart g v A l
  len : l.length + wt (ds.drop k) ≤ 1048576
  cap : N + wt (ds.drop k) ≤ 4194304
  own : ∀ k, v.ownBlock = some k → v1.ownBlock = some k ∨ W2.heap.size ≤ k
  sep : ∀ ad, A = some ad → l ≠ [] → ad.block < W.heap.size ∨ W2.heap.size ≤ ad.block
  on : Only (S1 g v1 B7 B8) W2 X
/-- What lies where the walk begins. -/
structure Pre (W W2 : World) (g B7 B8 : Nat) (v1 : Value) : Prop where
  ge : W.heap.size ≤ g
  g7 : g < B7
  g8 : g < B8
  o : ∀ k, v1.ownBlock = some k → W.heap.size ≤ k ∧ k < B7 ∧ k < B8
  w7 : W.heap.size ≤ B7
  w8 : W.heap.size ≤ B8
  d78 : B7 ≠ B8
  l7 : B7 < W2.heap.size
  l8 : B8 < W2.heap.size
  bel : Below W.heap.size W W2
section
variable {W W2 X Y : World} {g B7 B8 : Nat} {v1 v : Value} {ds : List DD} {k N : Nat} {l : List Int} {A : Option Addr} {c : Nat}
theorem Lw.kept (h : Lw W W2 g B7 B8 v1 ds k v N l A c X) {row : Option Nat} (hg : X.grownBy Y row) (hr : ∀ r, row = some r → W2.heap.size ≤ r ∧ ∃ o : Obj, X.heap[r]? = some o ∧ o.isCells = false) : Lw W W2 g B7 B8 v1 ds k v N l A c Y := by
  have hO := Only.of_grown hg
  have hn : ∀ b, (∀ o, X.heap[b]? = some o → o.isCells = true) → ¬ (row = some b) := fun b hb e => by
    obtain ⟨_, o, ho, hc⟩ := hr b e
    rw [hb o ho] at hc; cases hc
  have hd := Dqn.cellsOf h.dq
  exact ⟨Boxed.only h.b8 hO (hn _ (Boxed.cellsOf h.b8)), Boxed.only h.b7 hO (hn _ (Boxed.cellsOf h.b7)), rd_kept h.rd (fun p u hp => cell_kept hp hg (fun r e => (hr r e).2)),
    h.dq.only hO (hn _ hd.1) (fun k hk => hn _ (hd.2 k hk)), h.ap, h.len, h.cap, h.own, h.sep, h.on.trans hO (fun b e => .inr (hr b e).1)⟩
theorem Lw.below (h : Lw W W2 g B7 B8 v1 ds k v N l A c X) (hb : Below X.heap.size X Y) : Lw W W2 g B7 B8 v1 ds k v N l A c Y :=
  ⟨Boxed.below_ h.b8 hb, Boxed.below_ h.b7 hb, h.rd.below hb, h.dq.below hb, h.ap, h.len, h.cap, h.own, h.sep, only_b h.on hb⟩
theorem Pre.s1 (p : Pre W W2 g B7 B8 v1) : ∀ b, S1 g v1 B7 B8 b → W.heap.size ≤ b := fun b h => by
  rcases h with (h | h) | h | h
  · have := p.ge; omega
  · exact (p.o b h).1
  · have := p.w7; omega
  · have := p.w8; omega
theorem Lw.bel (h : Lw W W2 g B7 B8 v1 ds k v N l A c X) (p : Pre W W2 g B7 B8 v1) : Below W.heap.size W X := h.on.after p.bel (Nat.le_refl _) p.s1
theorem Lw.own7 (h : Lw W W2 g B7 B8 v1 ds k v N l A c X) (p : Pre W W2 g B7 B8 v1) : v.ownBlock ≠ some B7 ∧ v.ownBlock ≠ some B8 := by
  have h7 := p.l7
  have h8 := p.l8
  constructor <;> intro e
  · rcases h.own _ e with h | h
    · have := (p.o _ h).2; omega
    · omega
  · rcases h.own _ e with h | h
    · have := (p.o _ h).2; omega
    · omega
theorem Lw.nsep (h : Lw W W2 g B7 B8 v1 ds k v N l A c X) (p : Pre W W2 g B7 B8 v1) : ∀ ad, A = some ad → l ≠ [] → ad.block ≠ B7 ∧ ad.block ≠ B8 := fun ad e hl => by
  have h1 := p.w7
  have h2 := p.w8
  have h3 := p.l7
  have h4 := p.l8
  rcases h.sep ad e hl with h | h <;> constructor <;> omega
/-- 'at' has been raised. -/
theorem Lw.up (h : Lw W W2 g B7 B8 v1 ds k v N l A c X) (p : Pre W W2 g B7 B8 v1) (u : Value) :
    Boxed (X.setCell ⟨B8, 0, none⟩ u) B8 3 u ∧ Boxed (X.setCell ⟨B8, 0, none⟩ u) B7 22 (.slice A l.length c) ∧ RdI (X.setCell ⟨B8, 0, none⟩ u) A l.length c l ∧
    Dqn (X.setCell ⟨B8, 0, none⟩ u) W.heap.size g v l N ∧ Only (S1 g v1 B7 B8) W2 (X.setCell ⟨B8, 0, none⟩ u) ∧ Only (fun k => k = B8) X (X.setCell ⟨B8, 0, none⟩ u) := by
  have hO : Only (fun k => k = B8) X (X.setCell ⟨B8, 0, none⟩ u) := (Only.refl (fun k => k = B8) X).put (p := ⟨B8, 0, none⟩) (.inl rfl) u
  have h8 := h.own7 p
  have g8 := p.g8
  exact ⟨Boxed.set u h.b8, Boxed.only h.b7 hO p.d78, rd_only h.rd hO (fun hl ad e => (h.nsep p ad e hl).2), h.dq.only hO (by omega) (fun k hk e => by subst e; exact h8.2 hk),
    h.on.trans hO (fun b e => .inl (.inr (.inr e))), hO⟩
theorem wt_end (h : ds.length ≤ k) : wt (ds.drop k) = 0 := by rw [List.drop_eq_nil_of_le h]; rfl
/-- A round in which nothing is done. -/
theorem Lw.idle (h : Lw W W2 g B7 B8 v1 ds k v N l A c X) (p : Pre W W2 g B7 B8 v1) (hk : ds.length ≤ k) : Lw W W2 g B7 B8 v1 ds (k + 1) v N l A c (X.setCell ⟨B8, 0, none⟩ (.int .i64 ((k : Int) + 1))) := by
  obtain ⟨h1, h2, h3, h4, h5, h6⟩ := h.up p (.int .i64 ((k : Int) + 1))
  have hl := h.len
  have hc := h.cap
  exact ⟨by simpa using h1, h2, h3, h4, h.ap, by rw [wt_end (by omega)]; omega, by rw [wt_end (by omega)]; omega, h.own, h.sep, h5⟩
/-- A round in which a deed is done. -/
theorem Lw.doneBy (h : Lw W W2 g B7 B8 v1 ds k v N l A c X) (p : Pre W W2 g B7 B8 v1) {x : DD} (hx : ds[k]? = some x) {u : Value} {Z : World} {A' : Option Addr} {c' N' : Nat} {l' : List Int} {v' : Value} {Xd : World}
    (hXd : Below (X.setCell ⟨B8, 0, none⟩ (.int .i64 ((k : Int) + 1))).heap.size (X.setCell ⟨B8, 0, none⟩ (.int .i64 ((k : Int) + 1))) Xd)
    (hr : RdI Z A' l'.length c' l') (hd : Dqn Z W.heap.size g v' l' N') (ha : Apart g v' A' l') (hl : l'.length ≤ l.length + x.nL + 1) (hN : N' ≤ max (N + x.nL) (x.nL + l.length + l.length + 1))
    (ho : Only (fun k => k = g ∨ v.ownBlock = some k) Xd Z) (hf : ∀ k, v'.ownBlock = some k → v.ownBlock = some k ∨ Xd.heap.size ≤ k) (hA : ∀ ad, A' = some ad → l' ≠ [] → (A' = A ∧ l' = l) ∨ Xd.heap.size ≤ ad.block) :
    Lw W W2 g B7 B8 v1 ds (k + 1) v' N' l' A' c' (Z.setCell ⟨B7, 0, none⟩ (.slice A' l'.length c')) ∧ Only (fun b => b = B8 ∨ (b = g ∨ v.ownBlock = some b) ∨ b = B7) X (Z.setCell ⟨B7, 0, none⟩ (.slice A' l'.length c')) := by
  obtain ⟨h1, h2, h3, h4, h5, h6⟩ := h.up p (.int .i64 ((k : Int) + 1))
  have hw := wt_drop ds k x hx
  have g7 := p.g7
  have g8 := p.g8
  have h7 := h.own7 p
  have hlen := h.len
  have hcap := h.cap
  have hs5 := h5.size
  have hsd := hXd.size
  have l7 := p.l7
  have l8 := p.l8
  have hown : ∀ k, v'.ownBlock = some k → v1.ownBlock = some k ∨ W2.heap.size ≤ k := fun k hk => by
    rcases hf k hk with h' | h'
    · exact h.own k h'
    · exact .inr (by omega)
  have h1d := Boxed.below_ h1 hXd
  have h2d := Boxed.below_ h2 hXd
  have hO : Only (fun k => k = B7) Z (Z.setCell ⟨B7, 0, none⟩ (.slice A' l'.length c')) := (Only.refl (fun k => k = B7) Z).put (p := ⟨B7, 0, none⟩) (.inl rfl) _
  have hv7 : v'.ownBlock ≠ some B7 := fun e => by
    rcases hown _ e with h' | h'
    · have := (p.o _ h').2; omega
    · omega
  have hsep : ∀ ad, A' = some ad → l' ≠ [] → ad.block ≠ B7 ∧ ad.block ≠ B8 := fun ad e hne => by
    rcases hA ad e hne with ⟨h', h''⟩ | h'
    · subst h' h''; exact h.nsep p ad e hne
    · constructor <;> omega
  have hsep' : ∀ ad, A' = some ad → l' ≠ [] → ad.block < W.heap.size ∨ W2.heap.size ≤ ad.block := fun ad e hne => by
    rcases hA ad e hne with ⟨h', h''⟩ | h'
    · subst h' h''; exact h.sep ad e hne
    · exact .inr (by omega)
  have hn7 : ¬ (B7 = g ∨ v.ownBlock = some B7) := fun e => e.elim (by omega) h7.1
  have hn8 : ¬ (B8 = g ∨ v.ownBlock = some B8) := fun e => e.elim (by omega) h7.2
  have hXZ : Only (fun b => b = B8 ∨ (b = g ∨ v.ownBlock = some b) ∨ b = B7) X (Z.setCell ⟨B7, 0, none⟩ (.slice A' l'.length c')) :=
    (((h6.mono (S' := fun b => b = B8 ∨ (b = g ∨ v.ownBlock = some b) ∨ b = B7) (fun b e => .inl e)) |> fun q => only_b q hXd).trans ho (fun b e => .inl (.inr (.inl e)))).trans hO (fun b e => .inl (.inr (.inr e)))
  refine ⟨⟨by simpa using Boxed.only (Boxed.only h1d ho hn8) hO (fun e => p.d78 e.symm), Boxed.set _ (Boxed.only h2d ho hn7), rd_only hr hO (fun hne ad e => (hsep ad e hne).1), hd.only hO (by omega) (fun k hk e => by subst e; exact hv7 hk), ha, by omega, by omega, hown, hsep', ?_⟩, hXZ⟩
  refine h.on.trans hXZ (fun b e => ?_)
  rcases e with e | (e | e) | e
  · exact .inl (.inr (.inr e))
  · exact .inl (.inl (.inl e))
  · rcases h.own b e with h' | h'
    · exact .inl (.inl (.inr h'))
    · exact .inr h'
  · exact .inl (.inr (.inl e))
/-- The blocks that a round turns hold cells. -/
theorem Lw.cellsOf (h : Lw W W2 g B7 B8 v1 ds k v N l A c X) : ∀ b, (b = B8 ∨ (b = g ∨ v.ownBlock = some b) ∨ b = B7) → ∀ o, X.heap[b]? = some o → o.isCells = true := fun b e => by
  have hd := Dqn.cellsOf h.dq
  rcases e with rfl | (rfl | e) | rfl
  · exact Boxed.cellsOf h.b8
  · exact hd.1
  · exact hd.2 b e
  · exact Boxed.cellsOf h.b7
end

set_option maxHeartbeats 40000000 in
theorem walks_calls (A : Option Addr) (n c : Nat) (l : List Int) (AD : Option Addr) (nD cD : Nat) (ds : List DD) (W : World) (hl0 : RdI W A n c l) (hD : RdD W AD nD cD ds) (hb : n + wt ds ≤ 1048576) :
    Calls Try.prog 8 #[.slice A n c, .slice AD nD cD] W fun e w' => e = .returned (.bool true) ∧ Below W.heap.size W w' := by
  obtain rfl := rdi_len hl0
  obtain rfl := hD.len
  have hdl : ds.length ≤ 1048576 := by have := wt_len ds; omega
  refine (callsIn_wide (n := 8)).1 ?_
  refine callsIn_of_wp_marks Try.func8 rfl trivial ?_ rfl
  simp only [Try.ntmps8, List.size_toArray, List.length_cons, List.length_nil, Nat.reduceAdd, Nat.reduceSub, Array.replicate_succ, Array.replicate_zero, List.push_toArray, List.append_toArray, List.nil_append, List.cons_append]
  refine wpIn_wide.2 ?_
  have heq : ∀ (bs : Array Value) (w : World), Sem.run Try.prog (binOp BinOp.eql 69 (Value.func (.func 68) #[] bs) Value.nilFunc) w = .ok (.bool false) w := fun _ _ => by kernel_rfl
  have b2 := ((Boxed.new W 22 (.slice A l.length c)).alloc (.cells #[.slice AD ds.length cD] 41)).alloc (.cells #[.bool false] 4)
  have b3 := (Boxed.new (W.alloc (.cells #[.slice A l.length c] 22)) 41 (.slice AD ds.length cD)).alloc (.cells #[.bool false] 4)
  have b4 := Boxed.new ((W.alloc (.cells #[.slice A l.length c] 22)).alloc (.cells #[.slice AD ds.length cD] 41)) 4 (.bool false)
  have hBa : Below W.heap.size W (((W.alloc (.cells #[.slice A l.length c] 22)).alloc (.cells #[.slice AD ds.length cD] 41)).alloc (.cells #[.bool false] 4)) := ((((Below.refl _ W).alloc (Nat.le_refl _) _).alloc (by simp) _).alloc (by simp; omega) _)
  simp only [World.size_alloc] at b3 b4
  have hsz : (((W.alloc (.cells #[.slice A l.length c] 22)).alloc (.cells #[.slice AD ds.length cD] 41)).alloc (.cells #[.bool false] 4)).heap.size = W.heap.size + 3 := by simp
  have c2 := b2.cell
  go_wp2_with fail
  clear c2
  obtain ⟨Wa, hWa⟩ : ∃ Wa, ((W.alloc (.cells #[.slice A l.length c] 22)).alloc (.cells #[.slice AD ds.length cD] 41)).alloc (.cells #[.bool false] 4) = Wa := ⟨_, rfl⟩
  rw [hWa] at b2 b3 b4 hBa hsz ⊢
  clear hWa
  have ra := hl0.below hBa
  refine (ofN_calls A _ c l _ ra (by omega)).mono ?_
  rintro e w1 ⟨g, v1, rfl, hd1, hb1⟩
  have hgl := hd1.lt
  have hgg := hd1.ge
  have hvl := hd1.olt
  have b21 := Boxed.below_ b2 hb1
  have b31 := Boxed.below_ b3 hb1
  have b41 := Boxed.below_ b4 hb1
  have bB1 := below_new hBa hb1
  have h1sz := hb1.size
  clear b2 b3 b4 ra hb1
  have b5 := Boxed.new w1 23 (.pointer (some ⟨g, 0, none⟩))
  have b2n := b21.alloc (.cells #[.pointer (some ⟨g, 0, none⟩)] 23)
  have b3n := b31.alloc (.cells #[.pointer (some ⟨g, 0, none⟩)] 23)
  have b4n := b41.alloc (.cells #[.pointer (some ⟨g, 0, none⟩)] 23)
  have bBn := bB1.alloc (by have := bB1.size; omega) (.cells #[.pointer (some ⟨g, 0, none⟩)] 23)
  have hdn := hd1.below ((Below.refl _ w1).alloc (Nat.le_refl _) (.cells #[.pointer (some ⟨g, 0, none⟩)] 23))
  have hszn : (w1.alloc (.cells #[.pointer (some ⟨g, 0, none⟩)] 23)).heap.size = w1.heap.size + 1 := by simp
  have c5 := b5.cell
  clear b21 b31 b41 bB1 hd1
  go_wp2_with fail
  obtain ⟨wn, hwn⟩ : ∃ wn, w1.alloc (.cells #[.pointer (some ⟨g, 0, none⟩)] 23) = wn := ⟨_, rfl⟩
  obtain ⟨B5, hB5⟩ : ∃ B5, B5 = w1.heap.size := ⟨_, rfl⟩
  rw [hwn] at b5 b2n b3n b4n bBn hdn hszn ⊢
  rw [← hB5] at b5 hszn ⊢
  have hB5a : w1.heap.size ≤ B5 := Nat.le_of_eq hB5.symm
  clear c5 hwn hB5
  refine (awake_calls wn).mono ?_
  rintro e w4 ⟨rfl, hb4⟩
  have b24 := Boxed.below_ b2n hb4
  have b34 := Boxed.below_ b3n hb4
  have b44 := Boxed.below_ b4n hb4
  have b54 := Boxed.below_ b5 hb4
  have hd4 := hdn.below hb4
  have bB4 := below_new bBn hb4
  have sz4 := hb4.size
  clear b2n b3n b4n b5 hdn bBn hb4
  have c5 := b54.cell
  go_wp2_with fail
  refine (allIter_calls _ g v1 l w4 (hd4.dq (by omega))).mono ?_
  rintro e w5 ⟨A6, cS, Bs, rfl, hBs, bS5, hO5, hb5⟩
  have b25 := Boxed.below_ b24 hb5
  have b35 := Boxed.below_ b34 hb5
  have b45 := Boxed.below_ b44 hb5
  have b55 := Boxed.below_ b54 hb5
  have hd5 := hd4.below hb5
  have bB5 := below_new bB4 hb5
  have sz5 := hb5.size
  clear b24 b34 b44 b54 hd4 bB4 hb5 c5
  have hBsl := Boxed.lt bS5
  have hs5 := hBa.size
  have b6 := Boxed.new w5 69 (.func (.func 68) #[] #[.pointer (some ⟨Bs, 0, none⟩)])
  obtain ⟨ob6, hob6⟩ : ∃ o : Obj, o = (.cells #[.func (.func 68) #[] #[.pointer (some ⟨Bs, 0, none⟩)]] 69) := ⟨_, rfl⟩
  have b2n := Boxed.alloc b25 ob6
  have b3n := Boxed.alloc b35 ob6
  have b4n := Boxed.alloc b45 ob6
  have b5n := Boxed.alloc b55 ob6
  have bSn := Boxed.alloc bS5 ob6
  have bBn := bB5.alloc (by have := bB5.size; omega) ob6
  have hdn := hd5.below ((Below.refl _ w5).alloc (Nat.le_refl _) ob6)
  have hOn : OwnI (w5.alloc ob6) w4.heap.size (.slice A6 l.length cS) l := hO5.alloc ob6
  have hszn : (w5.alloc ob6).heap.size = w5.heap.size + 1 := by simp
  rw [hob6] at b2n b3n b4n b5n bSn bBn hdn hOn hszn
  clear hob6 ob6 b25 b35 b45 b55 bS5 bB5 hd5 hO5
  have c6' := b6.cell
  go_wp2_with fail
  obtain ⟨W0, hW0⟩ : ∃ W0, w5.alloc (.cells #[.func (.func 68) #[] #[.pointer (some ⟨Bs, 0, none⟩)]] 69) = W0 := ⟨_, rfl⟩
  rw [hW0] at b6 b2n b3n b4n b5n bSn bBn hdn hOn hszn ⊢
  obtain ⟨B6, hB6⟩ : ∃ B6, B6 = w5.heap.size := ⟨_, rfl⟩
  rw [← hB6] at b6 hszn ⊢
  have hB6a : w5.heap.size ≤ B6 := Nat.le_of_eq hB6.symm
  clear hW0 hB6 c6'
  obtain ⟨T, hT⟩ : ∃ T : Nat → Prop, T = fun k => k = Bs ∨ (Value.slice A6 l.length cS).ownBlock = some k := ⟨_, rfl⟩
  have hTB : T Bs := by rw [hT]; exact .inl rfl
  have hTA : ∀ ad, A6 = some ad → T ad.block := fun ad e => by rw [hT, e]; exact .inr rfl
  have hTA6 : ∀ b, (Value.slice A6 l.length cS).ownBlock = some b → T b := fun b hb => by rw [hT]; exact .inr hb
  have hTl : ∀ k, T k → w1.heap.size ≤ k ∧ k < W0.heap.size := fun k h => by
    rw [hT] at h
    rcases h with rfl | h
    · omega
    · have := hOn.lt k h; omega
  have HT := Lib.hid hT
  clear hT
  refine (wpIn_wide (n := 8)).1 (wpIn_mono (loop_once Bs A6 cS l (by omega) T rfl (by omega) bSn.cell (Rd.of_own hOn) hTA) ?_)
  rintro e a' W1 ⟨he, D1, hD1, hi1, hK1, rfl⟩
  refine two_ways he rfl ?_
  clear he
  have b21 := Boxed.only b2n hi1 id
  have b31 := Boxed.only b3n hi1 id
  have b41 := Boxed.only b4n hi1 id
  have b51 := Boxed.only b5n hi1 id
  have b61 := Boxed.only b6 hi1 id
  have bS1 := Boxed.only bSn hi1 id
  have hd1 := hdn.only hi1 id (fun _ _ => id)
  have hO1 := own_only hOn hi1 (fun _ _ => id)
  have bB1 : Below W.heap.size W W1 := hi1.after bBn (Nat.le_refl _) (fun _ h => h.elim)
  have sz1 := hi1.size
  have hDs : D1 < W1.heap.size := (Array.getElem?_eq_some_iff.1 hK1).1
  clear b2n b3n b4n b5n b6 bSn hdn hOn bBn hi1
  obtain ⟨oA, hoA⟩ : ∃ o : Obj, o = (.cells #[.slice A l.length c] 22) := ⟨_, rfl⟩
  obtain ⟨oB, hoB⟩ : ∃ o : Obj, o = (.cells #[.int .i64 0] 3) := ⟨_, rfl⟩
  have b7 := Boxed.alloc (Boxed.new W1 22 (.slice A l.length c)) oB
  have b8 := Boxed.new (W1.alloc oA) 3 (.int .i64 0)
  have b22 := (Boxed.alloc b21 oA).alloc oB
  have b32 := (Boxed.alloc b31 oA).alloc oB
  have b42 := (Boxed.alloc b41 oA).alloc oB
  have b52 := (Boxed.alloc b51 oA).alloc oB
  have b62 := (Boxed.alloc b61 oA).alloc oB
  have bS2 := (Boxed.alloc bS1 oA).alloc oB
  have hN2 : Below W1.heap.size W1 ((W1.alloc oA).alloc oB) := ((Below.refl _ W1).alloc (Nat.le_refl _) oA).alloc (by simp) oB
  have hd2 := hd1.below hN2
  have hO2 := (hO1.alloc oA).alloc oB
  have bB2 := below_new bB1 hN2
  have hK2 := (hN2.block _ hDs).trans hK1
  have sz2 : ((W1.alloc oA).alloc oB).heap.size = W1.heap.size + 2 := by simp
  rw [World.size_alloc] at b8
  rw [hoA] at b22 b32 b42 b52 b62 bS2 hd2 hO2 bB2 sz2 hK2 b8
  rw [hoB] at b7 b22 b32 b42 b52 b62 bS2 hd2 hO2 bB2 sz2 hK2
  clear hoA hoB oA oB hN2 b31 b41 b51 bS1 hd1 hO1 bB1 hK1
  have cc2 := b21.cell
  have cc6 := b62.cell
  go_wp2_with fail
  obtain ⟨W2, hW2⟩ : ∃ W2, (W1.alloc (.cells #[.slice A l.length c] 22)).alloc (.cells #[.int .i64 0] 3) = W2 := ⟨_, rfl⟩
  obtain ⟨B7, hB7⟩ : ∃ B7, B7 = W1.heap.size := ⟨_, rfl⟩
  obtain ⟨B8, hB8⟩ : ∃ B8, B8 = W1.heap.size + 1 := ⟨_, rfl⟩
  rw [← hB7] at b7
  rw [← hB8] at b8
  rw [hW2] at b7 b8 b22 b32 b42 b52 b62 bS2 hd2 hO2 bB2 hK2 sz2 ⊢
  rw [← hB8, ← hB7]
  have hB7a : W1.heap.size ≤ B7 ∧ B7 < B8 ∧ B8 < W2.heap.size := by omega
  have hB7b : W1.heap.size + 2 ≤ W2.heap.size := by omega
  clear cc2 cc6 hW2 b21 b61 hB7 hB8 sz2
  have hvw : ∀ k, v1.ownBlock = some k → Wa.heap.size ≤ k ∧ k < w1.heap.size := hvl
  have HP : Pre W W2 g B7 B8 v1 := ⟨by omega, by omega, by omega, fun k hk => by have := hvw k hk; exact ⟨by omega, by omega, by omega⟩, by omega, by omega, by omega, by omega, by omega, bB2⟩
  have hn1 : ∀ b, b < Wa.heap.size ∨ (w1.heap.size ≤ b ∧ b < W1.heap.size) → ¬ S1 g v1 B7 B8 b := fun b hb hs => by
    rcases hs with (h | h) | h | h
    · omega
    · have := hvw b h; omega
    · omega
    · omega
  have hA0 : l ≠ [] → ∀ ad, A = some ad → ad.block < W.heap.size := fun hne ad e => by
    obtain ⟨ad', e', h⟩ := Rd.lt hl0 (by intro e2; apply hne; have := congrArg List.length e2; simpa [ints] using this)
    rw [e] at e'; injection e' with e'; subst e'; exact h
  have L0 : Lw W W2 g B7 B8 v1 ds 0 v1 l.length l A c W2 := ⟨b8, b7, hl0.below bB2, Dqn.base hd2 hs5, fun hne ad e => ⟨by have := hA0 hne ad e; omega, fun h => by have := hA0 hne ad e; have := hvw _ h; omega⟩, by simpa using hb, by simp; omega, fun k h => .inl h, fun ad e hne => .inl (hA0 hne ad e), Only.refl _ _⟩
  refine (wpIn_wide (n := 8)).1 ?_
  refine ownL (α := Fin l.length) rfl (by decide) (gf := 68) (lb := #[.pointer (some ⟨Bs, 0, none⟩)]) rfl trivial (enters_of Try.func68 (by kernel_rfl) rfl)
    (all_stops Fence.wide 7 trivial rfl (by decide) Bs A6 cS l (by omega) T W2 (by omega) bS2.cell (Rd.of_own hO2) hTA) (fun h k => Keeps.t h k) Keeps.b (Below.refl _ _) (fun _ => rfl)
    (fun pre W' => pre = upto l.length pre.length ∧ ∃ v N l' A' c', Lw W W2 g B7 B8 v1 ds pre.length v N l' A' c' W') (fun _ pre _ => ¬ ∃ k, k ≤ l.length ∧ pre = upto l.length k)
    (fun pre X Y row hs hg hr => ⟨hs.1, by obtain ⟨v, N, l', A', c', h⟩ := hs.2; exact ⟨v, N, l', A', c', h.kept hg hr⟩⟩) (fun _ _ _ _ _ hs _ _ => hs) ⟨rfl, v1, l.length, l, A, c, L0⟩
    33 34 9 10 (fun x => .int .i64 (x.1 : Int)) (fun x => .int .i64 (l[x.1]'x.2)) (fun _ _ _ h _ => h) ?assign ?body ?done ?stop
  case assign =>
    intro l1 x W' K hK
    unfold encP
    gi_wp2
    exact hK
  case body =>
    rintro l1 pre x X hl1 ⟨r1, hr1⟩ ⟨hpre, v, N, l', A', c', L⟩ hlt
    obtain ⟨k, hk⟩ : ∃ k, k = pre.length := ⟨_, rfl⟩
    rw [← hk] at L hpre hlt
    have bX := L.bel HP
    have x2 := Boxed.only b22 L.on (hn1 _ (.inl (by omega)))
    have x3 := Boxed.only b32 L.on (hn1 _ (.inl (by omega)))
    have x4 := Boxed.only b42 L.on (hn1 _ (.inl (by omega)))
    have x5 := Boxed.only b52 L.on (hn1 _ (.inr (by omega)))
    have x6 := Boxed.only b62 L.on (hn1 _ (.inr (by omega)))
    have xS := Boxed.only bS2 L.on (hn1 _ (.inr (by have := hTl _ hTB; omega)))
    have hTo : ∀ b, (Value.slice A6 l.length cS).ownBlock = some b → w1.heap.size ≤ b ∧ b < W1.heap.size := fun b hb => by have := hTl b (hTA6 b hb); omega
    have oX := own_only hO2 L.on (fun b hb => hn1 _ (.inr (hTo b hb)))
    have c2 := x2.cell
    have c8 := L.b8.cell
    have rX := hl0.below bX
    obtain ⟨p, rfl, cx⟩ := rX.get x.1 (.int .i64 (l[x.1]'x.2)) (by simp [ints])
    have Hk := Lib.hid (And.intro hk hpre)
    clear hk hpre
    have c4 := x4.cell
    have f4 := x4.frozen
    by_cases hxk : x.1 = k
    · obtain ⟨xv, hxv⟩ : ∃ xv, xv = l[x.1]'x.2 := ⟨_, rfl⟩
      unfold G
      rw [← hxv] at cx ⊢
      rw [hxk] at cx ⊢
      have hkl : k < l.length := hlt
      have f8 := L.b8.frozen
      have f7 := L.b7.frozen
      have c3 := x3.cell
      have c5 := x5.cell
      have c6 := x6.cell
      have c7 := L.b7.cell
      clear hxv
      by_cases hkd : k < ds.length
      · obtain ⟨y, hy⟩ : ∃ y, ds[k]? = some y := ⟨_, List.getElem?_eq_getElem hkd⟩
        obtain ⟨q, rfl, cp⟩ := hD.get k y hy
        have hqb : (q.add (k * 6)).block < W.heap.size := by
          have h := cp 0 _ rfl
          rcases Nat.lt_or_ge (q.add (k * 6)).block W.heap.size with hlt | hge
          · exact hlt
          · have hb := add_block (q.add (k * 6)) 0
            simp [World.cell?, hb, Array.getElem?_eq_none hge] at h
        have cp' := fun j u hj => DqL.cell_below (cp j u hj) bX
        have k0 : X.cell? (q.add (k * 6)) = some (.int .i64 y.kind) := cp' 0 _ rfl
        have k1 : X.cell? ⟨(q.add (k * 6)).block, (q.add (k * 6)).off + 1, none⟩ = some (.slice y.AL y.nL y.cL) := cp' 1 _ rfl
        have k2 : X.cell? ⟨(q.add (k * 6)).block, (q.add (k * 6)).off + 2, none⟩ = some (.int .i64 y.a) := cp' 2 _ rfl
        have k3 : X.cell? ⟨(q.add (k * 6)).block, (q.add (k * 6)).off + 3, none⟩ = some (.int .i64 y.b) := cp' 3 _ rfl
        have k4 : X.cell? ⟨(q.add (k * 6)).block, (q.add (k * 6)).off + 4, none⟩ = some (.int .i64 y.d) := cp' 4 _ rfl
        have k5 : X.cell? ⟨(q.add (k * 6)).block, (q.add (k * 6)).off + 5, none⟩ = some (.bool y.bf) := cp' 5 _ rfl
        obtain ⟨hL, ⟨a1, a2⟩, ⟨b1, b2⟩⟩ := hD.ok y (List.mem_of_getElem? hy)
        have hqn : (q.add (k * 6)).block ≠ B8 := by omega
        obtain ⟨u8, u7, ur, ud, uo, h6⟩ := L.up HP (.int .i64 ((k : Int) + 1))
        have d5 : (X.setCell ⟨B8, 0, none⟩ (.int .i64 ((k : Int) + 1))).drew.cell? ⟨B5, 0, none⟩ = _ := (Boxed.only x5 h6 (by omega)).cell
        have d3 : (X.setCell ⟨B8, 0, none⟩ (.int .i64 ((k : Int) + 1))).drew.cell? ⟨W.heap.size + 1, 0, none⟩ = _ := (Boxed.only x3 h6 (by omega)).cell
        have d7 : (X.setCell ⟨B8, 0, none⟩ (.int .i64 ((k : Int) + 1))).drew.cell? ⟨B7, 0, none⟩ = _ := u7.cell
        have e0 : (X.setCell ⟨B8, 0, none⟩ (.int .i64 ((k : Int) + 1))).drew.cell? (q.add (k * 6)) = _ := h6.cell k0 hqn
        have e1 : (X.setCell ⟨B8, 0, none⟩ (.int .i64 ((k : Int) + 1))).drew.cell? ⟨(q.add (k * 6)).block, (q.add (k * 6)).off + 1, none⟩ = _ := h6.cell k1 hqn
        have e2 : (X.setCell ⟨B8, 0, none⟩ (.int .i64 ((k : Int) + 1))).drew.cell? ⟨(q.add (k * 6)).block, (q.add (k * 6)).off + 2, none⟩ = _ := h6.cell k2 hqn
        have e3 : (X.setCell ⟨B8, 0, none⟩ (.int .i64 ((k : Int) + 1))).drew.cell? ⟨(q.add (k * 6)).block, (q.add (k * 6)).off + 3, none⟩ = _ := h6.cell k3 hqn
        have e4 : (X.setCell ⟨B8, 0, none⟩ (.int .i64 ((k : Int) + 1))).drew.cell? ⟨(q.add (k * 6)).block, (q.add (k * 6)).off + 4, none⟩ = _ := h6.cell k4 hqn
        have e5 : (X.setCell ⟨B8, 0, none⟩ (.int .i64 ((k : Int) + 1))).drew.cell? ⟨(q.add (k * 6)).block, (q.add (k * 6)).off + 5, none⟩ = _ := h6.cell k5 hqn
        have hw := wt_drop ds k y hy
        have hLl := L.len
        have hLc := L.cap
        have hyA : Apart g v y.AL y.L := fun hne ad e => by
          have h1 := HP.ge
          have hlt : ad.block < W.heap.size := by
            obtain ⟨ad', e', h⟩ := Rd.lt hL (by intro e2; apply hne; have := congrArg List.length e2; simpa [ints] using this)
            rw [e] at e'; injection e' with e'; subst e'; exact h
          exact ⟨by omega, fun h => by
            rcases L.own _ h with h | h
            · have := (HP.o _ h).1; omega
            · have := HP.bel.size; omega⟩
        have HD := do_calls W.heap.size g N v l' A' l'.length c' y.kind y.AL y.nL y.cL y.L y.a y.b y.d y.bf (X.setCell ⟨B8, 0, none⟩ (.int .i64 ((k : Int) + 1))).drew (ud.drawn 1) (ur.drawn 1) L.ap ((hL.below (uo.after bB2 (Nat.le_refl _) HP.s1)).drawn 1) hyA (by have := (uo.after bB2 (Nat.le_refl _) HP.s1).size; exact this) (by omega) (by omega) (by omega) a1 a2 b1 b2
        have hmix : Try.prog.follows .mixedOrders = true := by kernel_rfl
        have hmx : (X.setCell ⟨B8, 0, none⟩ (.int .i64 ((k : Int) + 1))).drew.heap = (X.setCell ⟨B8, 0, none⟩ (.int .i64 ((k : Int) + 1))).heap := rfl
        have hn2 : ∀ b, b < Wa.heap.size ∨ (w1.heap.size ≤ b ∧ b < W1.heap.size) → ¬ (b = B8 ∨ (b = g ∨ v.ownBlock = some b) ∨ b = B7) := fun b hb hs => by
          rcases hs with h | (h | h) | h
          · omega
          · omega
          · rcases L.own _ h with h | h
            · have := hvw b h; omega
            · omega
          · omega
        have hn7 : ¬ (B7 = g ∨ v.ownBlock = some B7) := fun e => e.elim (fun e => by have := HP.g7; omega) (L.own7 HP).1
        clear cp cp' k0 k1 k2 k3 k4 k5 hmix
        gi_wp2_with fail
        refine DrI.via (DrJ.deed_region l1 p q p W.heap.size B5 B6 B7 B8 g Bs l.length ds.length c cD k l'.length c' y.nL y.cL A' y.AL xv y.kind y.a y.b y.d y.bf _ (DoLeft W.heap.size g N v l' A' y.nL (X.setCell ⟨B8, 0, none⟩ (.int .i64 ((k : Int) + 1))).drew) d5 d3 d7 e0 e1 e2 e3 e4 e5 hkd
          (HD.mono (fun e w h => by obtain ⟨A2, n2, c2, l2, v2, N2, rfl, hE⟩ := h; exact ⟨A2, n2, c2, rfl, l2, v2, N2, hE⟩))) ?_
        rintro A2 n2 c2 w3 ⟨l2, v2, N2, r2, hd2', ha2, hl2, hN2, ho2, hf2, hA2⟩
        obtain rfl := rdi_len r2
        obtain ⟨LZ, HO⟩ := L.doneBy HP hy (u := .bool true) (Xd := (X.setCell ⟨B8, 0, none⟩ (.int .i64 ((k : Int) + 1))).drew) ⟨rfl, rfl, rfl, Nat.le_refl _, fun _ _ => rfl⟩ r2 hd2' ha2 hl2 hN2 ho2 hf2 hA2
        have w7 := Boxed.only (show Boxed (X.setCell ⟨B8, 0, none⟩ (.int .i64 ((k : Int) + 1))).drew B7 22 _ from u7) ho2 hn7
        have fw7 := w7.frozen
        have cw7 := w7.cell
        have KF : KeepsFrom W2.heap.size X (w3.setCell ⟨B7, 0, none⟩ (.slice A2 l2.length c2)) := keepsFrom_only HO L.cellsOf
        have KT : Keeps T X (w3.setCell ⟨B7, 0, none⟩ (.slice A2 l2.length c2)) := Keeps.of_only HO (fun b hT => hn2 b (.inr (by have := hTl _ hT; omega)))
        have z6 := Boxed.alloc (Boxed.only x6 HO (hn2 _ (.inr (by omega)))) (.cells #[.int .i64 0] 3)
        have z2 := Boxed.alloc (Boxed.only x2 HO (hn2 _ (.inl (by omega)))) (.cells #[.int .i64 0] 3)
        have zS := Boxed.alloc (Boxed.only xS HO (hn2 _ (.inr (by have := hTl _ hTB; omega)))) (.cells #[.int .i64 0] 3)
        have zO := (own_only oX HO (fun b hb => hn2 b (.inr (hTo b hb)))).alloc (.cells #[.int .i64 0] 3)
        have zr := HO.heap hr1 (fun e => by
          rcases e with e | (e | e) | e
          · omega
          · have := HP.g7; omega
          · have hd := (Dqn.cellsOf L.dq).2 _ e _ hr1; cases hd
          · omega)
        have z13 : Boxed ((w3.setCell ⟨B7, 0, none⟩ (.slice A2 l2.length c2)).alloc (.cells #[.int .i64 0] 3)) w3.heap.size 3 (.int .i64 0) := by
          have h := Boxed.new (w3.setCell ⟨B7, 0, none⟩ (.slice A2 l2.length c2)) 3 (.int .i64 0)
          rwa [show (w3.setCell ⟨B7, 0, none⟩ (.slice A2 l2.length c2)).heap.size = w3.heap.size from by simp [World.setCell]] at h
        have zle : (w3.setCell ⟨B7, 0, none⟩ (.slice A2 l2.length c2)).heap.size ≤ w3.heap.size := by simp [World.setCell]
        have zge : X.heap.size ≤ (w3.setCell ⟨B7, 0, none⟩ (.slice A2 l2.length c2)).heap.size := HO.size
        have hszX : W2.heap.size ≤ w3.heap.size := by have := L.on.size; omega
        have cz6 := z6.cell
        have zr2 := (Only.refl (fun _ => False) (w3.setCell ⟨B7, 0, none⟩ (.slice A2 l2.length c2))).alloc (.cells #[.int .i64 0] 3) |>.heap zr id
        clear u8 u7 ur ud uo d5 d3 d7 e0 e1 e2 e3 e4 e5 HD w7 hyA hd2' r2 ha2 ho2
        gi_wp2_with fail
        refine wpIn_mono (DrK.inner_loop l1 Bs w3.heap.size A6 cS l (by omega) T _ r1 zr2 z13 (Boxed.lt zS) zS.cell (Rd.of_own zO) hTA (fun b hb => by have := hTl b hb; omega)) ?_
        rintro e a4 Wi ⟨he, rfl, hbi, hoi⟩
        refine two_ways he rfl ?_
        clear he
        have hbZ : Below (w3.setCell ⟨B7, 0, none⟩ (.slice A2 l2.length c2)).heap.size (w3.setCell ⟨B7, 0, none⟩ (.slice A2 l2.length c2)) Wi := hoi.after ((Below.refl _ (w3.setCell ⟨B7, 0, none⟩ (.slice A2 l2.length c2))).alloc (Nat.le_refl _) _) (Nat.le_refl _) (fun b e => by rw [e]; exact zle)
        have y2 := Boxed.only z2 hoi (fun e => by have := hszX; omega)
        have ci2 := y2.cell
        have ci13 := hbi.cell
        have hF : KeepsFrom W2.heap.size X Wi := KF.trans (keepsFrom_only (Only.of_below hbZ) (fun b hb o ho => absurd (Array.getElem?_eq_some_iff.1 ho).1 (Nat.not_lt.2 hb)))
        have hT2 : Keeps T X Wi := KT.t (Keeps.of_only (Only.of_below hbZ) (fun b hT hb => by have := hTl b hT; have := L.on.size; have := Nat.le_trans zge hb; omega))
        have LW := LZ.below hbZ
        have hmin : ((min 2 l.length : Nat) : Int) = min 2 (l.length : Int) := by omega
        rw [hmin] at ci13
        clear hbi hoi y2 z2 zS zO zr z13 z6 LZ KF KT hmin
        gi_wp2_with fail
        obtain ⟨hk, hpre⟩ := Hk
        have hl1 : (pre ++ [x]).length = k + 1 := by simp [hk]
        have hxe : x = ⟨k, hlt⟩ := Fin.ext hxk
        exact ⟨hF, hT2, by rw [hl1, upto_succ hlt, ← hpre, hxe], v2, N2, l2, A2, c2, by rw [hl1]; exact LW⟩
      · have LZ := L.idle HP (by omega)
        obtain ⟨u8, u7, ur, ud, uo, h6⟩ := L.up HP (.int .i64 ((k : Int) + 1))
        have KF : KeepsFrom W2.heap.size X (X.setCell ⟨B8, 0, none⟩ (.int .i64 ((k : Int) + 1))) := keepsFrom_only h6 (fun b e => by subst e; exact Boxed.cellsOf L.b8)
        have KT : Keeps T X (X.setCell ⟨B8, 0, none⟩ (.int .i64 ((k : Int) + 1))) := Keeps.of_only h6 (fun b hT e => by subst e; have := hTl _ hT; omega)
        have z6 := Boxed.alloc (Boxed.only x6 h6 (by omega)) (.cells #[.int .i64 0] 3)
        have z2 := Boxed.alloc (Boxed.only x2 h6 (by omega)) (.cells #[.int .i64 0] 3)
        have zS := Boxed.alloc (Boxed.only xS h6 (by have := hTl _ hTB; omega)) (.cells #[.int .i64 0] 3)
        have zO := (own_only oX h6 (fun b hb e => by have := hTo b hb; omega)).alloc (.cells #[.int .i64 0] 3)
        have zr := h6.heap hr1 (by omega)
        have z13 : Boxed ((X.setCell ⟨B8, 0, none⟩ (.int .i64 ((k : Int) + 1))).alloc (.cells #[.int .i64 0] 3)) X.heap.size 3 (.int .i64 0) := by
          have h := Boxed.new (X.setCell ⟨B8, 0, none⟩ (.int .i64 ((k : Int) + 1))) 3 (.int .i64 0)
          rwa [show (X.setCell ⟨B8, 0, none⟩ (.int .i64 ((k : Int) + 1))).heap.size = X.heap.size from by simp [World.setCell]] at h
        have zle : (X.setCell ⟨B8, 0, none⟩ (.int .i64 ((k : Int) + 1))).heap.size ≤ X.heap.size := by simp [World.setCell]
        have hszX : W2.heap.size ≤ X.heap.size := L.on.size
        have zge : X.heap.size ≤ (X.setCell ⟨B8, 0, none⟩ (.int .i64 ((k : Int) + 1))).heap.size := h6.size
        have cz6 := z6.cell
        have zr2 := (Only.refl (fun _ => False) (X.setCell ⟨B8, 0, none⟩ (.int .i64 ((k : Int) + 1)))).alloc (.cells #[.int .i64 0] 3) |>.heap zr id
        clear u8 u7 ur ud uo
        gi_wp2_with fail
        refine wpIn_mono (DrK.inner_loop l1 Bs X.heap.size A6 cS l (by omega) T _ r1 zr2 z13 (Boxed.lt zS) zS.cell (Rd.of_own zO) hTA (fun b hb => by have := hTl b hb; omega)) ?_
        rintro e a4 Wi ⟨he, rfl, hbi, hoi⟩
        refine two_ways he rfl ?_
        clear he
        have hbZ : Below (X.setCell ⟨B8, 0, none⟩ (.int .i64 ((k : Int) + 1))).heap.size (X.setCell ⟨B8, 0, none⟩ (.int .i64 ((k : Int) + 1))) Wi := hoi.after ((Below.refl _ (X.setCell ⟨B8, 0, none⟩ (.int .i64 ((k : Int) + 1)))).alloc (Nat.le_refl _) _) (Nat.le_refl _) (fun b e => by rw [e]; exact zle)
        have y2 := Boxed.only z2 hoi (fun e => by have := hszX; omega)
        have ci2 := y2.cell
        have ci13 := hbi.cell
        have hF : KeepsFrom W2.heap.size X Wi := KF.trans (keepsFrom_only (Only.of_below hbZ) (fun b hb o ho => absurd (Array.getElem?_eq_some_iff.1 ho).1 (Nat.not_lt.2 hb)))
        have hT2 : Keeps T X Wi := KT.t (Keeps.of_only (Only.of_below hbZ) (fun b hT hb => by have := hTl b hT; have := L.on.size; have := Nat.le_trans zge hb; omega))
        have LW := LZ.below hbZ
        have hmin : ((min 2 l.length : Nat) : Int) = min 2 (l.length : Int) := by omega
        rw [hmin] at ci13
        clear hbi hoi y2 z2 zS zO zr z13 z6 LZ KF KT hmin
        gi_wp2_with fail
        obtain ⟨hk, hpre⟩ := Hk
        have hl1 : (pre ++ [x]).length = k + 1 := by simp [hk]
        have hxe : x = ⟨k, hlt⟩ := Fin.ext hxk
        exact ⟨hF, hT2, by rw [hl1, upto_succ hlt, ← hpre, hxe], v, N, l', A', c', by rw [hl1]; exact LW⟩
    · have hne : ¬ ((x.1 : Int) = (k : Int)) := by omega
      have hn8 : ¬ ∃ j, j ≤ l.length ∧ pre ++ [x] = upto l.length j := by
        obtain ⟨hk, hpre⟩ := Hk
        rintro ⟨j, hj, e⟩
        have hl := congrArg List.length e
        rw [upto_len hj, List.length_append, List.length_singleton, ← hk] at hl
        subst hl
        rw [upto_succ hlt, ← hpre] at e
        have := List.append_cancel_left e
        injection this with this
        apply hxk
        rw [this]
      unfold G
      gi_wp2_with fail
      exact ⟨keepsFrom_only ((Only.refl (fun b => b = W.heap.size + 1 + 1) X).put (p := ⟨W.heap.size + 1 + 1, 0, none⟩) (.inl rfl) _) (fun b hb => by subst hb; exact Boxed.cellsOf x4), hn8⟩
  case done =>
    rintro D2 ys W3 hD2 hys ⟨hpre, v, N, l', A', c', L⟩ hK3
    have hk : ys.length = l.length := by rw [hys, upto_len (Nat.le_refl _)]
    rw [hk] at L
    clear hpre hys hk
    obtain ⟨u8, u7, ur, ud, uo, h6⟩ := L.up HP (.int .i64 0)
    have bX := L.bel HP
    have hTo : ∀ b, (Value.slice A6 l.length cS).ownBlock = some b → w1.heap.size ≤ b ∧ b < W1.heap.size := fun b hb => by have := hTl b (hTA6 b hb); omega
    have z2 := Boxed.only (Boxed.only b22 L.on (hn1 _ (.inl (by omega)))) h6 (by omega)
    have z4 := Boxed.only (Boxed.only b42 L.on (hn1 _ (.inl (by omega)))) h6 (by omega)
    have z5 := Boxed.only (Boxed.only b52 L.on (hn1 _ (.inr (by omega)))) h6 (by omega)
    have z6 := Boxed.only (Boxed.only b62 L.on (hn1 _ (.inr (by omega)))) h6 (by omega)
    have zS := Boxed.only (Boxed.only bS2 L.on (hn1 _ (.inr (by have := hTl _ hTB; omega)))) h6 (by have := hTl _ hTB; omega)
    have zO := own_only (own_only hO2 L.on (fun b hb => hn1 _ (.inr (hTo b hb)))) h6 (fun b hb e => by have := hTo b hb; omega)
    have zK1 := h6.heap (L.on.heap hK2 (hn1 _ (.inr (by omega)))) (by omega)
    have zK2 := h6.heap hK3 (by omega)
    have zB : Below W.heap.size W (W3.setCell ⟨B8, 0, none⟩ (.int .i64 0)) := h6.after bX (Nat.le_refl _) (fun b e => by subst e; exact HP.w8)
    have zs := h6.size
    have hs3 := L.on.size
    have lC := L.cap
    have lL := L.len
    have lD2 : D2 < W3.heap.size := (Array.getElem?_eq_some_iff.1 hK3).1
    have c2 := (Boxed.only b22 L.on (hn1 _ (.inl (by omega)))).cell
    have c8 := L.b8.cell
    have f8 := L.b8.frozen
    have cz6 := z6.cell
    go_wp2_with fail
    obtain ⟨X3, hX3⟩ : ∃ X3, W3.setCell ⟨B8, 0, none⟩ (.int .i64 0) = X3 := ⟨_, rfl⟩
    rw [hX3] at u8 u7 ur ud uo h6 z2 z4 z5 z6 zS zO zK1 zK2 zB zs cz6 ⊢
    clear hX3 c2 c8 f8 cz6
    refine (wpIn_wide (n := 8)).1 ?_
    refine ownL (α := Fin l.length) rfl (by decide) (gf := 68) (lb := #[.pointer (some ⟨Bs, 0, none⟩)]) rfl trivial (enters_of Try.func68 (by kernel_rfl) rfl)
      (all_stops Fence.wide 7 trivial rfl (by decide) Bs A6 cS l (by omega) T X3 (by omega) zS.cell (Rd.of_own zO) hTA) (fun h k => Keeps.t h k) Keeps.b (Below.refl _ _) (fun _ => rfl)
      (fun pre W' => pre = upto l.length pre.length ∧ Boxed W' B8 3 (.int .i64 pre.length) ∧ Only (fun b => b = B8) X3 W') (fun _ pre _ => ¬ ∃ k, k ≤ l.length ∧ pre = upto l.length k)
      (fun s X Y row hs hg hr => ⟨hs.1, boxed_own B8 3 (fun s : List (Fin l.length) => .int .i64 s.length) s X Y row hs.2.1 hg (fun r e => (hr r e).2), ownFrom_only (β := Unit) (Nat.le_refl _) () X Y row hs.2.2 hg hr⟩) (fun _ _ _ _ _ hs _ _ => hs) ⟨rfl, u8, Only.refl _ _⟩
      88 89 14 15 (fun x => .int .i64 (x.1 : Int)) (fun x => .int .i64 (l[x.1]'x.2)) (fun _ _ _ h _ => h) ?assign3 ?body3 ?done3 ?stop3
    case assign3 =>
      intro l1 x W' K hK
      unfold encP
      gi_wp2
      exact hK
    case body3 =>
      rintro l1 pre x X hl1 - ⟨hpre, hb8, ho⟩ hlt
      obtain ⟨k, hk⟩ : ∃ k, k = pre.length := ⟨_, rfl⟩
      rw [← hk] at hb8 hpre hlt
      have x2 := Boxed.only z2 ho (by omega)
      have x4 := Boxed.only z4 ho (by omega)
      have c2 := x2.cell
      have c4 := x4.cell
      have f4 := x4.frozen
      have c8 := hb8.cell
      have f8 := hb8.frozen
      have rX := hl0.below (ho.after zB (Nat.le_refl _) (fun b e => by subst e; exact HP.w8))
      have h7 : Only (fun b => b = B8) X (X.setCell ⟨B8, 0, none⟩ (.int .i64 ((k : Int) + 1))) := (Only.refl (fun b => b = B8) X).put (p := ⟨B8, 0, none⟩) (.inl rfl) _
      have hKF : KeepsFrom X3.heap.size X (X.setCell ⟨B8, 0, none⟩ (.int .i64 ((k : Int) + 1))) := keepsFrom_only h7 (fun b e => by subst e; exact Boxed.cellsOf hb8)
      have hKT : Keeps T X (X.setCell ⟨B8, 0, none⟩ (.int .i64 ((k : Int) + 1))) := Keeps.of_only h7 (fun b hT e => by subst e; have := hTl _ hT; omega)
      have hB9 := Boxed.set (.int .i64 ((k : Int) + 1)) hb8
      have hO9 := ho.trans h7 (fun b e => .inl e)
      obtain ⟨p, rfl, cx⟩ := rX.get x.1 (.int .i64 (l[x.1]'x.2)) (by simp [ints])
      have Hk := Lib.hid (And.intro hk hpre)
      clear hk hpre
      by_cases hxk : x.1 = k
      · obtain ⟨xv, hxv⟩ : ∃ xv, xv = l[x.1]'x.2 := ⟨_, rfl⟩
        unfold G
        rw [← hxv] at cx ⊢
        rw [hxk] at cx ⊢
        have hkl : k < l.length := hlt
        clear hxv
        gi_wp2_with fail
        obtain ⟨hk, hpre⟩ := Hk
        have hl1 : (pre ++ [x]).length = k + 1 := by simp [hk]
        have hxe : x = ⟨k, hlt⟩ := Fin.ext hxk
        exact ⟨hKF, hKT, by rw [hl1, upto_succ hlt, ← hpre, hxe], by rw [hl1]; exact hB9, hO9⟩
      · have hne : ¬ ((x.1 : Int) = (k : Int)) := by omega
        have hn8 : ¬ ∃ j, j ≤ l.length ∧ pre ++ [x] = upto l.length j := by
          obtain ⟨hk, hpre⟩ := Hk
          rintro ⟨j, hj, e⟩
          have hl := congrArg List.length e
          rw [upto_len hj, List.length_append, List.length_singleton, ← hk] at hl
          subst hl
          rw [upto_succ hlt, ← hpre] at e
          have := List.append_cancel_left e
          injection this with this
          apply hxk
          rw [this]
        unfold G
        gi_wp2_with fail
        exact ⟨keepsFrom_only ((Only.refl (fun b => b = W.heap.size + 1 + 1) X).put (p := ⟨W.heap.size + 1 + 1, 0, none⟩) (.inl rfl) _) (fun b hb => by subst hb; exact Boxed.cellsOf x4), hn8⟩
    case done3 =>
      rintro D3 ys W4 hD3 hys ⟨-, hb8, ho⟩ hK4
      have hk : ys.length = l.length := by rw [hys, upto_len (Nat.le_refl _)]
      rw [hk] at hb8
      clear hys hk
      have x2 := Boxed.only z2 ho (by omega)
      have x4 := Boxed.only z4 ho (by omega)
      have x5 := Boxed.only z5 ho (by omega)
      have x7 := Boxed.only u7 ho (by omega)
      have k1 := ho.heap zK1 (by omega)
      have k2 := ho.heap zK2 (by omega)
      have dq4 := ud.only ho (by have := HP.g8; omega) (fun k hk e => by subst e; exact (L.own7 HP).2 hk)
      have r4 := rd_only ur ho (fun hl ad e => (L.nsep HP ad e hl).2)
      have B4 := ho.after zB (Nat.le_refl _) (fun b e => by subst e; exact HP.w8)
      have S4 : DqL.St W W4 g v l' A' l'.length c' l' := ⟨dq4.dq (by omega), r4, B4⟩
      have Z4 : Cz W.heap.size B5 B7 B8 D1 D2 D3 g l.length (.slice A l.length c) (.slice A' l'.length c') W4 := ⟨hb8, x2, x5, x7, x4, k1, k2, hK4⟩
      clear hb8 x2 x4 x5 x7 k1 k2 u8 u7 ur ud uo h6 z2 z4 z5 z6 zS zO zK1 zK2 zB bX
      have N4 : W.heap.size + 1 + 1 < B5 ∧ W.heap.size + 1 + 1 < B7 ∧ W.heap.size + 1 + 1 < B8 := by omega
      have hgn : g ≠ W.heap.size + 1 + 1 := by omega
      have hvn : ∀ k, v.ownBlock = some k → k ≠ W.heap.size + 1 + 1 := fun k hk => by
        rcases L.own k hk with h | h
        · have := hvw k h; omega
        · omega
      have hAn : l' ≠ [] → ∀ ad, A' = some ad → ad.block ≠ W.heap.size + 1 + 1 := fun hl ad e => by
        rcases L.sep ad e hl with h | h <;> omega
      have dqF : ∀ w', Only (fun b => b = W.heap.size + 1 + 1) W4 w' → Dq w' W.heap.size g v l' := fun w' h => (dq4.only h hgn hvn).dq (by omega)
      have rdF : ∀ w', Only (fun b => b = W.heap.size + 1 + 1) W4 w' → RdI w' A' l'.length c' l' := fun w' h => rd_only r4 h (fun hl ad e => hAn hl ad e)
      have KF := Lib.hid (And.intro dqF (And.intro rdF (And.intro B4 (And.intro hsz (And.intro hD1 (And.intro hD2 (And.intro hD3 (And.intro hs3 zs))))))))
      clear hgn hvn hAn dqF rdF B4 dq4 r4 S4 hvl hvw HT hTl hTA hTB hTA6 hn1 L0 hO2 bS2 b62 b52 b42 b32 b22 b7 b8 hd2 hK2 hK3 hK4 hA0 hD hl0 hTo L HP
      go_wp2_with fail
      go_region_held3 (fun w' => Full W4 W.heap.size B5 B7 B8 g l.length (.slice A l.length c) (.slice A' l'.length c') w')
        (first
          | exact full_start Z4 N4
          | assumption
          | exact full_set Z4 N4 (by assumption) _
          | exact full_below Z4 N4 (by assumption) (by assumption)
          | exact full_drawn Z4 N4 (by assumption) _)
        (first
          | (go_at_call 16; refine (list_calls _ g v l' _ (KF.out.1 _ (And.left (‹Full W4 W.heap.size B5 B7 B8 g l.length (.slice A l.length c) (.slice A' l'.length c') _›)))).mono ?_; rintro e w18 ⟨s18, rfl, ho18, hb18⟩; obtain ⟨A18, c18, rfl⟩ := own_form ho18; have hr18 := Rd.of_own ho18)
          | (go_at_call 13; refine (same_calls _ _ _ _ _ _ l' l' _ hr18 (KF.out.2.1 _ (And.left (‹Full W4 W.heap.size B5 B7 B8 g l.length (.slice A l.length c) (.slice A' l'.length c') _›)))).mono ?_; rintro e w19 ⟨rfl, nd19, rfl⟩; obtain ⟨u4, h4⟩ := (‹Full W4 W.heap.size B5 B7 B8 g l.length (.slice A l.length c) (.slice A' l'.length c') w18›).2.2.2.2.2; have c4 : (w18.drewN nd19).cell? ⟨W.heap.size + 1 + 1, 0, none⟩ = some u4 := h4.cell; have f4 : (w18.drewN nd19).frozen? ⟨W.heap.size + 1 + 1, 0, none⟩ = false := h4.frozen))
      all_goals (
        have HU := And.left (‹Full W4 W.heap.size B5 B7 B8 g l.length (.slice A l.length c) (.slice A' l'.length c') ((w18.drewN nd19).setCell ⟨W.heap.size + 1 + 1, 0, none⟩ (.bool true))›)
        have bU : Boxed ((w18.drewN nd19).setCell ⟨W.heap.size + 1 + 1, 0, none⟩ (.bool true)) (W.heap.size + 1 + 1) 4 (.bool true) := Boxed.set (.bool true) (show Boxed (w18.drewN nd19) (W.heap.size + 1 + 1) 4 u4 from h4)
        go_wp2_with fail
        obtain ⟨U, hU⟩ : ∃ U, (w18.drewN nd19).setCell ⟨W.heap.size + 1 + 1, 0, none⟩ (.bool true) = U := ⟨_, rfl⟩
        rw [hU] at HU bU ⊢
        clear hU
        obtain ⟨-, -, B4, hsz', hD1', hD2', hD3', hs3', zs'⟩ := KF.out
        have hd4 : ∀ D : Nat, W4.heap[D]? = some (Obj.deferred (some [])) → U.heap[D]? = some (Obj.deferred (some [])) := fun D h => HU.heap h (fun e => by
          have := Boxed.cellsOf Z4.b4 _ (by rw [← e]; exact h)
          cases this)
        have e3 := hd4 _ Z4.d3
        have e2 := hd4 _ Z4.d2
        have e1 := hd4 _ Z4.d1
        have n12 : D1 ≠ D2 := by omega
        have n13 : D1 ≠ D3 := by omega
        have n23 : D2 ≠ D3 := by omega
        have BU := HU.after B4 (Nat.le_refl _) (fun b e => by rw [e]; omega)
        refine ⟨by simp, .inl ⟨_, _, rfl, run_takeDeferred e3, ?_⟩⟩
        have e2' := (World.putObj_heap_other (w := U) (o := Obj.deferred none) n23).trans e2
        have e1' := (World.putObj_heap_other (w := U) (o := Obj.deferred none) n13).trans e1
        have q3 := cell_kept bU.cell (grownBy_putObj' _ D3 (.deferred none)) (fun r e => by cases e; exact ⟨_, e3, rfl⟩)
        have C3 := BU.trans (belowK_b (w := W) (Nat.le_refl _) _ D3 _ (.deferred none) (by omega) e3 rfl rfl)
        refine ⟨by simp, .inl ⟨_, _, rfl, run_takeDeferred e2', ?_⟩⟩
        have e1'' := (World.putObj_heap_other (w := U.putObj D3 (.deferred none)) (o := Obj.deferred none) n12).trans e1'
        have q2 := cell_kept q3 (grownBy_putObj' _ D2 (.deferred none)) (fun r e => by cases e; exact ⟨_, e2', rfl⟩)
        have C2 := C3.trans (belowK_b (w := W) (Nat.le_refl _) _ D2 _ (.deferred none) (by omega) e2' rfl rfl)
        refine ⟨by simp, .inl ⟨_, _, rfl, run_takeDeferred e1'', ?_⟩⟩
        have q1 := cell_kept q2 (grownBy_putObj' _ D1 (.deferred none)) (fun r e => by cases e; exact ⟨_, e1'', rfl⟩)
        have C1 := C2.trans (belowK_b (w := W) (Nat.le_refl _) _ D1 _ (.deferred none) (by omega) e1'' rfl rfl)
        refine ⟨.bool true, ?_, rfl, C1⟩
        simp [results, Try.f8, go_sem, q1])
    case stop3 =>
      rintro D3 cc pre W4 hD3 hsp hn hK4
      exact (hn hsp).elim
  case stop =>
    rintro D2 cc pre W3 hD2 hsp hn hK3
    exact (hn hsp).elim
end Go.Proofs.Ytgbgdgncdanblaa.DrI
