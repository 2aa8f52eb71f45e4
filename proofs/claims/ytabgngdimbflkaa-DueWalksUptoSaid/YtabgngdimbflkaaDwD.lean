/-
  The loop within a round of DueWalks: it is left at its second round, or at the list's end. Conditions: as stated.
-/
import Derived.Test.YtabgngdimbflkaaDwA
set_option maxRecDepth 100000
set_option linter.unusedSimpArgs false
set_option linter.unusedVariables false
namespace Go.Proofs.Ytabgngdimbflkaa.DwD
open Go.RowKit Go.Shelf Go.Proofs.Ytabgngdimbflkaa.Mem Go.Proofs.Ytabgngdimbflkaa.DsC Go.Proofs.Ytabgngdimbflkaa.DsM Go.Proofs.Ytabgngdimbflkaa.DuP
attribute [local go_sem] Oper.semAt_some
/-- The law of a range within a round, at a pair of variables. -/
theorem ownM {F : Fence} {n : Nat} {P : Program} {α : Type} {g : Operand} {ps : Array Tmp} {assign body : Code} {Q : Exit → Act → World → Prop} {a : Act} {w : World}
    {l₀ : Nat} {r₀ : Loop} (hro : F.round = some l₀) (hl₀ : w.heap[l₀]? = some (.loop r₀)) (h1 : 1 ≤ n) {gf : Nat} {lb : Array Value} (hg : a.eval g = .func (.func gf) #[] lb) (hFg : F.fn gf) (eg : ∀ args w, (callFunc gf args).run P w = .ok (.enter gf args) w)
    {encs : α → Array Value} {Kp : World → World → Prop} {S Sp : List α → Prop} {N : Nat} {w0 : World} (hseq : SeqStopsK F (n - 1) P gf lb encs Kp S Sp N w0)
    (hKt : ∀ {A B C : World}, Kp A B → Kp B C → Kp A C) (hKb : ∀ (W : World) (l : Nat) (o o' : Obj), w.heap.size ≤ l → W.heap[l]? = some o → o.isCells = false → o.isWalk = false → Kp W (W.putObj l o')) (hb0 : Below w0.heap.size w0 w) (hps : ∀ x, (encs x).size = ps.size)
    (I : List α → World → Prop) (Ix : Code → List α → World → Prop) (hI : OwnFrom w.heap.size I) (hIx : ∀ c, OwnFrom w.heap.size (Ix c)) (h0 : I [] w) (p q s t : Nat) (u v : α → Value) (hKr : ∀ W, Kp W W)
    (hassign : ∀ (l : Nat) (x : α) (W : World) (K : Act → World → Prop), K (G a p q s t (u x) (v x)) W →
      assign.wpIn (F.inRound l) (n - 1 - 1) P (Exit.then K (fun _ _ _ => False)) { tmps := (ps.zip (encs x)).foldl (fun t (p, v) => t.setIfInBounds p v) a.tmps, defers := [] } W)
    (hbody : ∀ (l : Nat) (pre : List α) (x : α) (W : World), w.heap.size ≤ l → (∃ r, W.heap[l]? = some (.loop r)) → I pre W → pre.length < N → body.wpIn (F.inRound l) (n - 1 - 1) P (ownPostG w.heap.size Kp I Ix (pre ++ [x]) W) (G a p q s t (u x) (v x)) W)
    (hdone : ∀ (xs : List α) (W : World), S xs → I xs W → Q .normal a W)
    (hstop : ∀ (c : Code) (pre : List α) (W : World), Sp pre → Ix c pre W → c.wpIn F n P Q a W) :
    (Code.rangeFunc g ps assign body).wpIn F n P Q a w :=
  wpIn_rangeFunc_ownN hro hl₀ h1 hg hFg eg hseq (fun h k => hKt h k) hKb hb0 hps I Ix hI hIx h0 (fun x a' _ => a' = G a p q s t (u x) (v x)) (fun _ _ _ _ _ _ hs _ _ => hs)
    (fun l pre x W K hi hK => hassign l x W K (hK _ _ (KeepsFrom.refl _ _) (hKr W) hi rfl)) (fun l pre x a' W hl hr hi e hlt => by subst e; exact hbody l pre x W hl hr hi hlt) hdone hstop


set_option maxHeartbeats 2000000 in
theorem inner_loop {x0 x1 x2 x3 x4 x5 x6 x7 x8 x9 x10 x11 x12 x13 x15 x16 x17 x18 x19 x20 x21 x22 x23 x24 x25 x26 x27 x28 x29 x30 x31 x32 x33 x34 x35 x36 x37 x38 x39 x40 x41 x42 x43 x44 x45 x46 x47 x48 x49 x50 x51 x52 x53 x54 x55 x56 x57 x58 x59 x60 x61 x62 x63 x64 x65 x66 x67 x68 x69 x70 x71 x72 x73 x75 x76 x77 x78 x79 x80 x81 x82 x83 x84 x85 x86 x87 x88 x89 x90 x91 x92 x93 x94 x95 x96 x97 x98 x99 x100 x101 x102 x103 x104 x105 x106 x107 x108 x109 x110 : Value} (l1 Bs B14 : Nat) (A6 : Option Addr) (cS : Nat) (l : List (Int × ByteArray)) (hlen : l.length ≤ 1048576) (T : Nat → Prop) (w : World) (r1 : Loop) (hr1 : w.heap[l1]? = some (.loop r1)) (b14 : Boxed w B14 3 (.int .i64 0))
    (hBs : Bs < w.heap.size) (hc : w.cell? ⟨Bs, 0, none⟩ = some (.slice A6 l.length cS)) (hr : RdE w A6 l.length cS l) (hTA : ∀ ad, A6 = some ad → T ad.block) (hT : ∀ k, T k → k < B14) :
    ((Code.rangeFunc (Operand.tmp 74) #[75, 76] Code.skip (Code.block 7 ((Code.region 25 #[{ dst := some 77, op := Op.load 3 (Operand.tmp 14), type := 3, pos := "law.go:210", after := #[], guard := none }, { dst := some 78, op := Op.binOp BinOp.add 3 (Operand.tmp 77) (Operand.const (Value.int IntKind.i64 1)) 3, type := 3, pos := "law.go:210", after := #[{ on := 0, ground := Ground.data }], guard := none }, { dst := none, op := Op.store 3 (Operand.tmp 14) (Operand.tmp 78), type := 0, pos := "law.go:210", after := #[{ on := 1, ground := Ground.data }, { on := 0, ground := Ground.phase }, { on := 1, ground := Ground.phase }], guard := none }] false).seq ((Code.region 26 #[{ dst := some 79, op := Op.load 3 (Operand.tmp 14), type := 3, pos := "law.go:211", after := #[], guard := none }, { dst := some 80, op := Op.binOp BinOp.eql 3 (Operand.tmp 79) (Operand.const (Value.int IntKind.i64 2)) 3, type := 4, pos := "law.go:211", after := #[{ on := 0, ground := Ground.data }], guard := none }] false).seq (Code.cond (Operand.tmp 80) (Code.exit 6) Code.skip)))))).wpIn (Fence.wide.inRound l1) 6 Try.prog
      (fun e a' W' => (e = .normal ∨ e = .exit 6) ∧ a' = { tmps := #[x0, x1, x2, x3, x4, x5, x6, x7, x8, x9, x10, x11, x12, x13, .pointer (some ⟨B14, 0, none⟩), x15, x16, x17, x18, x19, x20, x21, x22, x23, x24, x25, x26, x27, x28, x29, x30, x31, x32, x33, x34, x35, x36, x37, x38, x39, x40, x41, x42, x43, x44, x45, x46, x47, x48, x49, x50, x51, x52, x53, x54, x55, x56, x57, x58, x59, x60, x61, x62, x63, x64, x65, x66, x67, x68, x69, x70, x71, x72, x73, .func (.func 34) #[] #[.pointer (some ⟨Bs, 0, none⟩)], x75, x76, x77, x78, x79, x80, x81, x82, x83, x84, x85, x86, x87, x88, x89, x90, x91, x92, x93, x94, x95, x96, x97, x98, x99, x100, x101, x102, x103, x104, x105, x106, x107, x108, x109, x110], defers := [] } ∧ Boxed W' B14 3 (.int .i64 (min 2 l.length : Nat)) ∧ Only (fun b => b = B14) w W') { tmps := #[x0, x1, x2, x3, x4, x5, x6, x7, x8, x9, x10, x11, x12, x13, .pointer (some ⟨B14, 0, none⟩), x15, x16, x17, x18, x19, x20, x21, x22, x23, x24, x25, x26, x27, x28, x29, x30, x31, x32, x33, x34, x35, x36, x37, x38, x39, x40, x41, x42, x43, x44, x45, x46, x47, x48, x49, x50, x51, x52, x53, x54, x55, x56, x57, x58, x59, x60, x61, x62, x63, x64, x65, x66, x67, x68, x69, x70, x71, x72, x73, .func (.func 34) #[] #[.pointer (some ⟨Bs, 0, none⟩)], x75, x76, x77, x78, x79, x80, x81, x82, x83, x84, x85, x86, x87, x88, x89, x90, x91, x92, x93, x94, x95, x96, x97, x98, x99, x100, x101, x102, x103, x104, x105, x106, x107, x108, x109, x110], defers := [] } w := by
  refine ownM (α := Fin l.length) (l₀ := l1) (r₀ := r1) rfl hr1 (by decide) (gf := 34) (lb := #[.pointer (some ⟨Bs, 0, none⟩)]) rfl trivial (enters_of Try.func34 (by kernel_rfl) rfl)
    (SeqStopsK.inRound l1 (all_stops Fence.wide 5 trivial rfl (by decide) Bs A6 cS l (by omega) T w hBs hc hr hTA)) (fun h k => Keeps.t h k) Keeps.b (Below.refl _ _) (fun _ => rfl)
    (fun pre W' => pre.length ≤ 1 ∧ Boxed W' B14 3 (.int .i64 pre.length) ∧ Only (fun b => b = B14) w W') (fun c pre W' => c = .exit 6 ∧ pre.length = 2 ∧ Boxed W' B14 3 (.int .i64 2) ∧ Only (fun b => b = B14) w W')
    (fun s X Y row hs hg hr => ⟨hs.1, boxed_own B14 3 (fun s : List (Fin l.length) => .int .i64 s.length) s X Y row hs.2.1 hg (fun r e => (hr r e).2), ownFrom_only (β := Unit) (Nat.le_refl _) () X Y row hs.2.2 hg hr⟩)
    (fun c s X Y row hs hg hr => ⟨hs.1, hs.2.1, boxed_own B14 3 (fun _ : Unit => .int .i64 2) () X Y row hs.2.2.1 hg (fun r e => (hr r e).2), ownFrom_only (β := Unit) (Nat.le_refl _) () X Y row hs.2.2.2 hg hr⟩) ⟨by simp, b14, Only.refl _ _⟩
    75 76 75 76 (fun x => .string (l[x.1]'x.2).2) (fun x => .int .i64 (l[x.1]'x.2).1) (fun _ _ _ h _ => h) ?assign ?body ?done ?stop
  case assign =>
    intro l2 x W' K hK
    unfold encP
    gi_wp2
    exact hK
  case body =>
    rintro l2 pre x X hl2 - ⟨hle, hb, ho⟩ hlt
    have hk : ∀ u, Only (fun b => b = B14) X (X.setCell ⟨B14, 0, none⟩ u) := fun u => (Only.refl (fun b => b = B14) X).put (p := ⟨B14, 0, none⟩) (.inl rfl) u
    have hK : ∀ u, KeepsFrom w.heap.size X (X.setCell ⟨B14, 0, none⟩ u) := fun u => keepsFrom_only (hk u) (fun b e => by subst e; exact boxed_cells hb)
    have hT' : ∀ u, Keeps T X (X.setCell ⟨B14, 0, none⟩ u) := fun u => Keeps.of_only (hk u) (fun b hb e => by have := hT b hb; omega)
    have ho' : ∀ u, Only (fun b => b = B14) w (X.setCell ⟨B14, 0, none⟩ u) := fun u => ho.trans (hk u) (fun b e => .inl e)
    have hb' : ∀ u, Boxed (X.setCell ⟨B14, 0, none⟩ u) B14 3 u := fun u => Boxed.set u hb
    have cb := hb.cell
    have fb := hb.frozen
    have hl : (pre ++ [x]).length = pre.length + 1 := by simp
    unfold G
    rcases (show pre.length = 0 ∨ pre.length = 1 by omega) with h | h
    · rw [h] at cb hl
      have cb' : X.cell? ⟨B14, 0, none⟩ = some (.int .i64 0) := cb
      clear cb hle hlt
      gi_wp2_with fail
      exact ⟨hK _, hT' _, by rw [hl]; exact Nat.le_refl _, by rw [hl]; exact hb' _, ho' _⟩
    · rw [h] at cb hl
      have cb' : X.cell? ⟨B14, 0, none⟩ = some (.int .i64 1) := cb
      clear cb hle hlt
      gi_wp2_with fail
      exact ⟨hK _, rfl, by rw [hl], hb' _, ho' _⟩
  case done =>
    rintro ys W3 hys ⟨hle, hb, ho⟩
    have hk : ys.length = l.length := by rw [hys, upto_len (Nat.le_refl _)]
    rw [hk] at hb hle
    exact ⟨.inl rfl, rfl, by rw [Nat.min_eq_right (by omega)]; exact hb, ho⟩
  case stop =>
    rintro cc pre W3 ⟨j, hj, e⟩ ⟨rfl, h2, hb, ho⟩
    have hk : j = 2 := by rw [e, upto_len hj] at h2; exact h2
    exact wpIn_exit ⟨.inr rfl, rfl, by rw [Nat.min_eq_left (by omega)]; exact hb, ho⟩
end Go.Proofs.Ytabgngdimbflkaa.DwD
