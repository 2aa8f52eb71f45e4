/-
  The range over All in RankOver, three ways. Conditions: as stated.
-/
import Derived.Test.YtakhcfemakapbaaGreatDoorRjW
set_option maxRecDepth 100000
set_option linter.unusedSimpArgs false
set_option linter.unusedVariables false
namespace Go.Proofs.YtakhcfemakapbaaGreatDoor.RjY
open Go Go.RowKit Go.Shelf Go.Sort Go.Proofs.YtakhcfemakapbaaGreatDoor.Mem Go.Proofs.YtakhcfemakapbaaGreatDoor.DuA Go.Proofs.YtakhcfemakapbaaGreatDoor.DuM Go.Proofs.YtakhcfemakapbaaGreatDoor.DuN Go.Proofs.YtakhcfemakapbaaGreatDoor.NumA Go.Proofs.YtakhcfemakapbaaGreatDoor.NumC Go.Proofs.YtakhcfemakapbaaGreatDoor.NumE Go.Proofs.YtakhcfemakapbaaGreatDoor.RkA Go.Proofs.YtakhcfemakapbaaGreatDoor.RkC Go.Proofs.YtakhcfemakapbaaGreatDoor.RkB Go.Proofs.YtakhcfemakapbaaGreatDoor.RkE Go.Proofs.YtakhcfemakapbaaGreatDoor.RkF Go.Proofs.YtakhcfemakapbaaGreatDoor.RkH Go.Proofs.YtakhcfemakapbaaGreatDoor.RkI Go.Proofs.YtakhcfemakapbaaGreatDoor.RkL Go.Proofs.YtakhcfemakapbaaGreatDoor.RkM Go.Proofs.YtakhcfemakapbaaGreatDoor.RkN Go.Proofs.YtakhcfemakapbaaGreatDoor.RkO Go.Proofs.YtakhcfemakapbaaGreatDoor.RkP Go.Proofs.YtakhcfemakapbaaGreatDoor.RkQ Go.Proofs.YtakhcfemakapbaaGreatDoor.RkR Go.Proofs.YtakhcfemakapbaaGreatDoor.RkS Go.Proofs.YtakhcfemakapbaaGreatDoor.RkU Go.Proofs.YtakhcfemakapbaaGreatDoor.RkW Go.Proofs.YtakhcfemakapbaaGreatDoor.RjJ Go.Proofs.YtakhcfemakapbaaGreatDoor.RjK Go.Proofs.YtakhcfemakapbaaGreatDoor.RjL Go.Proofs.YtakhcfemakapbaaGreatDoor.RjM Go.Proofs.YtakhcfemakapbaaGreatDoor.RjN Go.Proofs.YtakhcfemakapbaaGreatDoor.RjO Go.Proofs.YtakhcfemakapbaaGreatDoor.RjQ Go.Proofs.YtakhcfemakapbaaGreatDoor.RjV Go.Proofs.YtakhcfemakapbaaGreatDoor.RjW
attribute [local go_sem] Oper.semAt_some

theorem keepsFrom_only' {B : Nat} {S : Nat → Prop} {A C : World} (h : Only S A C) (hs : ∀ k, B ≤ k → S k → ∀ o, A.heap[k]? = some o → o.isCells = true) : KeepsFrom B A C :=
  ⟨h.size, fun k o hB hk ho => h.heap hk (fun hS => by rw [hs k hB hS o hk] at ho; cases ho)⟩
/-- Between two rounds of the range. -/
structure R2 (w : World) (B0 g m N BG : Nat) (v0 : Value) (got : List En) (gv : Value) (X : World) : Prop where
  rk : ∃ v cur, Rk X B0 g m v cur N ∧ (v.ownBlock = v0.ownBlock ∨ ∃ k, v.ownBlock = some k ∧ w.heap.size ≤ k) ∧ ∀ k, v.ownBlock = some k → gv.ownBlock ≠ some k
  bg : Boxed X BG 22 gv
  got : OwnE X w.heap.size gv got
  on : Only (fun k => RkS g m v0 k ∨ k = BG) w X
structure Pr (w : World) (g m BG : Nat) (v0 : Value) : Prop where
  pk : ∀ k, RkS g m v0 k → k < w.heap.size
  pb : BG < w.heap.size
  nb : ∀ k, RkS g m v0 k → BG ≠ k
section
variable {w X Y : World} {B0 g m N BG : Nat} {v0 : Value} {got : List En} {gv : Value}
theorem R2.off (s : R2 w B0 g m N BG v0 got gv X) (p : Pr w g m BG v0) {v : Value} (hv : v.ownBlock = v0.ownBlock ∨ ∃ k, v.ownBlock = some k ∧ w.heap.size ≤ k) : ∀ k, RkS g m v k → RkS g m v0 k ∨ (v.ownBlock = some k ∧ w.heap.size ≤ k) := fun k hk => by
  rcases hk with hk | hk | hk
  · exact .inl (.inl hk)
  · exact .inl (.inr (.inl hk))
  · rcases hv with hv | ⟨q, hv, hq⟩
    · exact .inl (.inr (.inr (by rw [← hv]; exact hk)))
    · rw [hk] at hv; injection hv with hv; exact .inr ⟨hk, by omega⟩
theorem R2.kept (s : R2 w B0 g m N BG v0 got gv X) (p : Pr w g m BG v0) {row : Option Nat} (hg : X.grownBy Y row) (hr : ∀ r, row = some r → w.heap.size ≤ r ∧ ∃ o : Obj, X.heap[r]? = some o ∧ o.isCells = false) : R2 w B0 g m N BG v0 got gv Y := by
  have hO := Only.of_grown hg
  have hn : ∀ b, (∀ o, X.heap[b]? = some o → o.isCells = true) → ¬ (row = some b) := fun b hb e => by
    obtain ⟨_, o, ho, hc⟩ := hr b e
    rw [hb o ho] at hc; cases hc
  obtain ⟨v, cur, hk, hv, hsep⟩ := s.rk
  refine ⟨⟨v, cur, hk.only hO (fun q hq e => ?_), hv, hsep⟩, boxed_only s.bg hO (hn _ (boxed_cells s.bg)), own_only s.got hO (fun k hk => hn k (own_cells s.got k hk)), s.on.trans hO (fun b e => .inr (hr b e).1)⟩
  rcases s.off p hv q hq with h | ⟨h, _⟩
  · have := (hr _ e).1; have := p.pk q h; omega
  · exact hn q (own_cells hk.own q h) e
/-- One more has come, and its name is dropped. -/
theorem R2.next (s : R2 w B0 g m N BG v0 got gv X) (p : Pr w g m BG v0) {w3 w4 : World} {A3 : Option Addr} {q3 : Nat} {f : En} {cur' : List En} {v : Value}
    (hv : v.ownBlock = v0.ownBlock ∨ ∃ k, v.ownBlock = some k ∧ w.heap.size ≤ k) (hsep : ∀ k, v.ownBlock = some k → gv.ownBlock ≠ some k) {cur : List En} (hX : Rk X B0 g m v cur N)
    (o3 : w3.ownsRow w.heap.size 51 2 (.slice A3 (got.length + 1) q3) (got.length + 1) (ents got ++ [.string f.2, .int .i64 f.1])) (O3 : Only (fun k => gv.ownBlock = some k) X w3)
    (g3 : (Value.slice A3 (got.length + 1) q3).ownBlock = gv.ownBlock ∨ ∃ k, (Value.slice A3 (got.length + 1) q3).ownBlock = some k ∧ X.heap.size ≤ k)
    (ht : Turn B0 g m v cur' N (w3.setCell ⟨BG, 0, none⟩ (.slice A3 (got.length + 1) q3)) w4) :
    R2 w B0 g m N BG v0 (got ++ [f]) (.slice A3 (got.length + 1) q3) w4 ∧ Only (fun k => gv.ownBlock = some k ∨ k = BG ∨ RkS g m v k) X w4 ∧ KeepsFrom w.heap.size X w4 := by
  have lt := s.got.lt
  have hO : Only (fun k => k = BG) w3 (w3.setCell ⟨BG, 0, none⟩ (.slice A3 (got.length + 1) q3)) := (Only.refl (fun k => k = BG) w3).put (p := ⟨BG, 0, none⟩) (.inl rfl) _
  have b3 : Boxed w3 BG 22 gv := boxed_only s.bg O3 (fun e => by have := (lt _ e).1; have := p.pb; omega)
  have hs := s.on.size
  have hoff := s.off p hv
  obtain ⟨v', hk', O4, hv'⟩ := ht
  have s3 := O3.size
  have s4 := O4.size
  have s34 : (w3.setCell ⟨BG, 0, none⟩ (.slice A3 (got.length + 1) q3)).heap.size = w3.heap.size := by simp [World.setCell]
  have hnBG : ¬ RkS g m v BG := fun h => by
    rcases hoff BG h with h1 | ⟨_, h1⟩
    · exact p.nb BG h1 rfl
    · have := p.pb; omega
  have hvX : ∀ k, v.ownBlock = some k → k < X.heap.size := fun k h => (hX.own.lt k h).2
  have hgv3 : ∀ k, (Value.slice A3 (got.length + 1) q3).ownBlock = some k → ¬ RkS g m v k := fun k hk h => by
    have l3 := (o3.lt k hk).1
    rcases hoff k h with h1 | ⟨h1, _⟩
    · have := p.pk k h1; omega
    · rcases g3 with g3 | ⟨z, g3, hz⟩
      · rw [hk] at g3; exact hsep k h1 g3.symm
      · rw [hk] at g3; injection g3 with g3; have := hvX k h1; omega
  have XZ : Only (fun k => gv.ownBlock = some k ∨ k = BG ∨ RkS g m v k) X w4 := ((O3.mono (fun b e => .inl e)).trans hO (fun b e => .inl (.inr (.inl e)))).trans O4 (fun b e => .inl (.inr (.inr e)))
  refine ⟨⟨⟨v', cur', hk', ?_, ?_⟩, boxed_only (Boxed.set _ b3) O4 hnBG, ?_, s.on.trans XZ (fun b e => ?_)⟩, XZ, keepsFrom_only' XZ (fun k hB e o ho => ?_)⟩
  · rcases hv' with h1 | ⟨z, h1, hz⟩
    · rw [h1]; exact hv
    · exact .inr ⟨z, h1, by omega⟩
  · intro k hk hg
    rcases hv' with h1 | ⟨z, h1, hz⟩
    · rw [h1] at hk
      exact hgv3 k hg (.inr (.inr hk))
    · rw [hk] at h1; injection h1 with h1
      have := (o3.lt k hg).2; omega
  · have e1 : w3.ownsRow w.heap.size 51 2 (.slice A3 (got.length + 1) q3) (got ++ [f]).length (ents (got ++ [f])) := by
      rw [List.length_append, ents_app]; exact o3
    exact own_only (own_only e1 hO (fun k hk e => by have := (e1.lt k hk).1; have := p.pb; omega)) O4 (fun k hk e => hgv3 k hk e)
  · rcases e with e | e | e
    · exact .inr (lt b e).1
    · exact .inl (.inr e)
    · rcases hoff b e with h1 | ⟨_, h1⟩
      · exact .inl (.inl h1)
      · exact .inr h1
  · rcases e with e | e | e
    · exact own_cells s.got k e o ho
    · rw [e] at ho; exact boxed_cells s.bg o ho
    · rcases hoff k e with h1 | ⟨h1, _⟩
      · have := p.pk k h1; omega
      · exact own_cells hX.own k h1 o ho
end
theorem came_upto (l : List En) (k : Nat) (hk : k ≤ l.length) : came l (upto l.length k) = l.take k := by
  refine List.ext_getElem (by rw [came_len, upto_len hk, List.length_take]; omega) (fun i h1 h2 => ?_)
  simp [came, upto]
set_option maxHeartbeats 4000000 in
theorem range_one (w : World) (B3 b5 Bs BT BG B0 B9 BM g m N : Nat) (lv : Int) (A9 : Option Addr) (c9 : Nat) (AM : Option Addr) (cM : Nat) (v0 : Value) (l : List En) (hlen : l.length ≤ 1048576) (hgd : Gd l) (FX : Fx B3 b5 Bs lv g A9 c9 AM cM l B9 BM w) (xT : Boxed w BT 3 (.int .i64 1)) (gv0 : Value) (H0 : R2 w B0 g m N BG v0 [] gv0 w) (PR : Pr w g m BG v0)
    (hFB : ∀ k, FB B3 b5 Bs A9 AM k → ¬ (RkS g m v0 k ∨ k = BG) ∧ k < w.heap.size) (hBT : ¬ RkS g m v0 BT ∧ BT ≠ BG) (hB0 : B0 ≤ w.heap.size) (hN : N ≤ 1000000000) {ds : List Deferred} {x0 x1 x2 x4 x6 x7 x8 x9 x10 x11 x12 x15 x16 x17 x18 x19 x20 x21 x22 x23 x24 x25 x26 x27 x28 x29 x30 x31 x32 x33 x34 x35 x36 x37 x38 x39 x40 x41 x42 x43 x44 x45 x46 x47 x48 x49 x50 x51 x52 x53 x54 x55 x56 x57 x58 x59 x60 x61 x62 x63 x64 x65 x66 x68 x69 x70 x71 x72 x73 x74 x75 x76 x77 x78 x79 x80 x81 x82 x83 x84 x85 x86 x87 x88 x89 x90 x91 x92 x93 x94 x95 x96 x97 x98 x99 x100 x101 x102 x103 x104 x105 x106 x107 x108 x109 x110 : Value} :
    ((Code.rangeFunc (Operand.tmp 67) #[68, 69] ((Code.region 20 #[{ dst := some 15, op := Op.assign (Operand.tmp 68), type := 9, pos := "law.go:257", after := #[], guard := none }] false).seq (Code.region 21 #[{ dst := some 16, op := Op.assign (Operand.tmp 69), type := 3, pos := "law.go:257", after := #[], guard := none }] false)) (Code.block 5 ((Code.region 22 #[{ dst := some 70, op := Op.load 22 (Operand.tmp 14), type := 22, pos := "law.go:258", after := #[], guard := none }, { dst := some 71, op := Op.move (Operand.tmp 15), type := 9, pos := "law.go:258", after := #[], guard := none }, { dst := some 72, op := Op.move (Operand.tmp 16), type := 3, pos := "law.go:258", after := #[], guard := none }, { dst := some 73, op := Op.build 51 #[(0, Operand.tmp 71), (1, Operand.tmp 72)], type := 51, pos := "law.go:258", after := #[{ on := 1, ground := Ground.data }, { on := 2, ground := Ground.data }], guard := none }, { dst := some 74, op := Op.buildSlice 22 1 #[(0, Operand.tmp 73)], type := 22, pos := "law.go:258", after := #[{ on := 3, ground := Ground.data }], guard := none }, { dst := some 75, op := Op.call { callee := Callee.builtin Builtin.append, args := #[Operand.tmp 70, Operand.tmp 74], argTypes := #[22, 22] }, type := 22, pos := "law.go:258", after := #[{ on := 0, ground := Ground.data }, { on := 4, ground := Ground.data }], guard := none }, { dst := none, op := Op.store 22 (Operand.tmp 14) (Operand.tmp 75), type := 0, pos := "law.go:258", after := #[{ on := 5, ground := Ground.data }, { on := 5, ground := Ground.chain }, { on := 0, ground := Ground.phase }, { on := 1, ground := Ground.phase }, { on := 2, ground := Ground.phase }, { on := 3, ground := Ground.phase }, { on := 4, ground := Ground.phase }, { on := 5, ground := Ground.phase }], guard := none }] false).seq ((Code.region 23 #[{ dst := some 76, op := Op.load 24 (Operand.tmp 5), type := 24, pos := "law.go:259", after := #[], guard := none }, { dst := some 77, op := Op.move (Operand.tmp 15), type := 9, pos := "law.go:259", after := #[], guard := none }, { dst := some 78, op := Op.call { callee := Callee.value (Operand.func 29), args := #[Operand.tmp 76, Operand.tmp 77], argTypes := #[24, 9] }, type := 4, pos := "law.go:259", after := #[{ on := 0, ground := Ground.data }, { on := 1, ground := Ground.data }], guard := none }] false).seq ((Code.region 24 #[{ dst := some 79, op := Op.load 3 (Operand.tmp 13), type := 3, pos := "law.go:260", after := #[], guard := none }, { dst := some 80, op := Op.binOp BinOp.eql 3 (Operand.tmp 79) (Operand.const (Value.int IntKind.i64 0)) 3, type := 4, pos := "law.go:260", after := #[{ on := 0, ground := Ground.data }], guard := none }, { dst := some 81, op := Op.move (Operand.tmp 80), type := 4, pos := "law.go:260", after := #[{ on := 1, ground := Ground.data }], guard := none }, { dst := some 82, op := Op.load 22 (Operand.tmp 14), type := 22, pos := "law.go:260", after := #[{ on := 2, ground := Ground.guard }], guard := some (2, true) }, { dst := some 83, op := Op.call { callee := Callee.builtin Builtin.len, args := #[Operand.tmp 82], argTypes := #[22] }, type := 3, pos := "law.go:260", after := #[{ on := 3, ground := Ground.data }, { on := 2, ground := Ground.guard }], guard := some (2, true) }, { dst := some 84, op := Op.load 3 (Operand.tmp 3), type := 3, pos := "law.go:260", after := #[{ on := 2, ground := Ground.guard }], guard := some (2, true) }, { dst := some 85, op := Op.binOp BinOp.eql 3 (Operand.tmp 83) (Operand.tmp 84) 3, type := 4, pos := "law.go:260", after := #[{ on := 4, ground := Ground.data }, { on := 5, ground := Ground.data }, { on := 2, ground := Ground.guard }], guard := some (2, true) }, { dst := some 86, op := Op.pick (Operand.tmp 81) (Operand.tmp 85) (Operand.const (Value.bool false)), type := 4, pos := "law.go:260", after := #[{ on := 2, ground := Ground.data }, { on := 6, ground := Ground.data }], guard := none }] false).seq (Code.cond (Operand.tmp 86) (Code.exit 4) Code.skip))))))).wpIn Fence.wide 8 Tryz.prog
      (fun e a' W' => (e = .normal ∨ e = .exit 4) ∧ ∃ D gv, w.heap.size ≤ D ∧ W'.heap[D]? = some (.deferred (some [])) ∧ a' = { tmps := #[x0, x1, x2, .pointer (some ⟨B3, 0, none⟩), x4, .pointer (some ⟨b5, 0, none⟩), x6, x7, x8, x9, x10, x11, x12, .pointer (some ⟨BT, 0, none⟩), .pointer (some ⟨BG, 0, none⟩), x15, x16, x17, x18, x19, x20, x21, x22, x23, x24, x25, x26, x27, x28, x29, x30, x31, x32, x33, x34, x35, x36, x37, x38, x39, x40, x41, x42, x43, x44, x45, x46, x47, x48, x49, x50, x51, x52, x53, x54, x55, x56, x57, x58, x59, x60, x61, x62, x63, x64, x65, x66, .func (.func 55) #[] #[.pointer (some ⟨Bs, 0, none⟩)], x68, x69, x70, x71, x72, x73, x74, x75, x76, x77, x78, x79, x80, x81, x82, x83, x84, x85, x86, x87, x88, x89, x90, x91, x92, x93, x94, x95, x96, x97, x98, x99, x100, x101, x102, x103, x104, x105, x106, x107, x108, x109, x110], defers := { target := .collected D, args := #[] } :: ds } ∧ R2 w B0 g m N BG v0 (l.take l.length) gv W')
      { tmps := #[x0, x1, x2, .pointer (some ⟨B3, 0, none⟩), x4, .pointer (some ⟨b5, 0, none⟩), x6, x7, x8, x9, x10, x11, x12, .pointer (some ⟨BT, 0, none⟩), .pointer (some ⟨BG, 0, none⟩), x15, x16, x17, x18, x19, x20, x21, x22, x23, x24, x25, x26, x27, x28, x29, x30, x31, x32, x33, x34, x35, x36, x37, x38, x39, x40, x41, x42, x43, x44, x45, x46, x47, x48, x49, x50, x51, x52, x53, x54, x55, x56, x57, x58, x59, x60, x61, x62, x63, x64, x65, x66, .func (.func 55) #[] #[.pointer (some ⟨Bs, 0, none⟩)], x68, x69, x70, x71, x72, x73, x74, x75, x76, x77, x78, x79, x80, x81, x82, x83, x84, x85, x86, x87, x88, x89, x90, x91, x92, x93, x94, x95, x96, x97, x98, x99, x100, x101, x102, x103, x104, x105, x106, x107, x108, x109, x110], defers := ds } w := by
  obtain ⟨T, hT⟩ : ∃ T : Nat → Prop, T = fun k => k = Bs ∨ (Value.slice A9 0 0).ownBlock = some k := ⟨_, rfl⟩
  have hTA : ∀ ad, A9 = some ad → T ad.block := fun ad e => by rw [hT, e]; exact .inr rfl
  have hTF : ∀ k, T k → FB B3 b5 Bs A9 AM k := fun k hk => by
    rw [hT] at hk
    rcases hk with hk | hk
    · exact .inr (.inr (.inl hk))
    · exact .inr (.inr (.inr (.inl hk)))
  clear hT
  refine ownL (α := Fin l.length) rfl (by decide) (gf := 55) (lb := #[.pointer (some ⟨Bs, 0, none⟩)]) rfl trivial (enters_of Tryz.func55 (by kernel_rfl) rfl)
    (all_stops Fence.wide 7 trivial rfl (by decide) Bs A9 c9 l (by omega) T w FX.bs.lt FX.bs.cell (Rd.of_own FX.rs) hTA) (fun h k => Keeps.t h k) Keeps.b (Below.refl _ _) (fun _ => rfl)
    (fun pre W' => (∃ gv, R2 w B0 g m N BG v0 (came l pre) gv W')) (fun _ _ _ => False)
    (fun pre X Y row hs hg hr => by obtain ⟨gv, h⟩ := hs; exact ⟨gv, h.kept PR hg hr⟩) (fun _ _ _ _ _ hs _ _ => hs) ⟨gv0, by simpa [came] using H0⟩
    68 69 15 16 (fun x => .string (l[x.1]'x.2).2) (fun x => .int .i64 (l[x.1]'x.2).1) (fun _ _ _ h _ => h) ?assign ?body ?done (fun D c pre W1 _ _ h _ => h.elim)
  case assign =>
    intro l2 x W' K hK
    unfold encP
    gi_wp2
    exact hK
  case body =>
    rintro l1 pre x X hl1 - ⟨gv, S⟩ hlt
    obtain ⟨y, hy⟩ : ∃ y, l[x.1]'x.2 = y := ⟨_, rfl⟩
    have hym : y ∈ l := by rw [← hy]; exact List.getElem_mem _
    have fx := FX.only S.on (fun k hk => (hFB k hk).1)
    have hpl : (came l pre).length + 1 ≤ l.length := by rw [came_len]; exact hlt
    have hX := S.on.size
    have cG := S.bg.cell
    have lt2 := S.got.lt
    have pb := PR.pb
    have xTX := boxed_only xT S.on (fun e => e.elim hBT.1 hBT.2)
    obtain ⟨gl, hgl⟩ : ∃ gl, came l pre = gl := ⟨_, rfl⟩
    have hgl2 : came l (pre ++ [x]) = gl ++ [y] := by rw [came_app, hgl, hy]
    have hgll : gl.length = pre.length := by rw [← hgl, came_len]
    rw [hgl] at S hpl
    unfold G
    dsimp only
    rw [hy]
    have Hgl := Lib.hid (And.intro hgl2 (And.intro hgll hlt))
    clear hgl hgl2 hlt hgll
    have c5 : ∀ u (w3 : World), Only (fun k => gv.ownBlock = some k) X w3 → (w3.setCell ⟨BG, 0, none⟩ u).cell? ⟨b5, 0, none⟩ = some (.pointer (some ⟨g, 0, none⟩)) := fun u w3 O3 => by
      have h1 := boxed_only fx.b5 O3 (fun e => by have := (lt2 _ e).1; have := (hFB b5 (.inr (.inl rfl))).2; omega)
      exact (boxed_only h1 ((Only.refl (fun k => k = BG) w3).put (p := ⟨BG, 0, none⟩) (.inl rfl) u) (fun e => (hFB b5 (.inr (.inl rfl))).1 (.inr e))).cell
    gi_wp2_with (gi_at_builtin; refine wpListIn_app2b rfl _ _ elE rfl w.heap.size gv _ _ rfl S.got (.string y.2) (.int .i64 y.1) rfl rfl _ rfl rfl (by unfold maxLen; omega) (by omega) hX ?_; intro v3 w3 o3 O3 g3; obtain ⟨A3, q3, rfl⟩ := own_form o3; have b3' := boxed_only S.bg O3 (fun e => by have := (lt2 _ e).1; omega); have c3' := b3'.cell; have f3 := b3'.frozen; have c5' := c5 (.slice A3 (gl.length + 1) q3) w3 O3)
    obtain ⟨v, cur, hd, hv, hsep⟩ := S.rk
    have oXZ : Only (fun k => gv.ownBlock = some k ∨ k = BG) X (w3.setCell ⟨BG, 0, none⟩ (.slice A3 (gl.length + 1) q3)) := (O3.mono (fun b e => .inl e)).trans ((Only.refl (fun k => k = BG) w3).put (p := ⟨BG, 0, none⟩) (.inl rfl) _) (fun b e => .inl (.inr e))
    have d3 : Rk (w3.setCell ⟨BG, 0, none⟩ (.slice A3 (gl.length + 1) q3)) B0 g m v cur N := hd.only oXZ (fun q hq e => by
      rcases S.off PR hv q hq with h1 | ⟨h1, h2⟩
      · rcases e with e | e
        · have := (lt2 _ e).1; have := PR.pk q h1; omega
        · exact PR.nb q h1 e.symm
      · rcases e with e | e
        · exact hsep q h1 e
        · omega)
    have hdr := drop_calls B0 g m v cur N y.2 _ d3 (hgd.ok _ hym) (Nat.le_trans hB0 (Nat.le_trans hX oXZ.size)) hN
    refine ⟨trivial, (CallsIn.inRound l1 (callsIn_wide.2 hdr)).mono ?_⟩
    rintro e w4 ⟨rfl, ht⟩
    obtain ⟨R', X', K'⟩ := S.next PR hv hsep hd o3 O3 g3 ht
    have fx4 := FX.only R'.on (fun k hk => (hFB k hk).1)
    have cT4 := (boxed_only xT R'.on (fun e => e.elim hBT.1 hBT.2)).cell
    have cG4 := R'.bg.cell
    have c34 := fx4.b3.cell
    have KT : Keeps T X w4 := Keeps.of_only X' (fun k hk e => by
      have h1 := hFB k (hTF k hk)
      rcases e with e | e | e
      · have := (lt2 _ e).1; omega
      · exact h1.1 (.inr e)
      · rcases S.off PR hv k e with h2 | ⟨_, h2⟩
        · exact h1.1 (.inl h2)
        · omega)
    clear hdr d3 oXZ ht hd fx4 fx cG c3' f3 b3' c5' hv hsep
    gi_wp2_with fail
    exact ⟨K', KT, _, by rw [Hgl.out.1]; exact R'⟩
  case done =>
    rintro D ys W1 hD hys ⟨gv, h⟩ hK
    refine ⟨.inl rfl, D, gv, hD, hK, rfl, ?_⟩
    rw [hys, came_all] at h
    rw [List.take_length]
    exact h
set_option maxHeartbeats 4000000 in
theorem range_all (w : World) (B3 b5 Bs BT BG B0 B9 BM g m N : Nat) (lv : Int) (A9 : Option Addr) (c9 : Nat) (AM : Option Addr) (cM : Nat) (v0 : Value) (l : List En) (hlen : l.length ≤ 1048576) (hgd : Gd l) (FX : Fx B3 b5 Bs lv g A9 c9 AM cM l B9 BM w) (xT : Boxed w BT 3 (.int .i64 0)) (gv0 : Value) (H0 : R2 w B0 g m N BG v0 [] gv0 w) (PR : Pr w g m BG v0)
    (hFB : ∀ k, FB B3 b5 Bs A9 AM k → ¬ (RkS g m v0 k ∨ k = BG) ∧ k < w.heap.size) (hBT : ¬ RkS g m v0 BT ∧ BT ≠ BG) (hB0 : B0 ≤ w.heap.size) (hN : N ≤ 1000000000) (hns : ∀ k : Nat, 1 ≤ k → k ≤ l.length → ((k : Int) == lv) = false) {ds : List Deferred} {x0 x1 x2 x4 x6 x7 x8 x9 x10 x11 x12 x15 x16 x17 x18 x19 x20 x21 x22 x23 x24 x25 x26 x27 x28 x29 x30 x31 x32 x33 x34 x35 x36 x37 x38 x39 x40 x41 x42 x43 x44 x45 x46 x47 x48 x49 x50 x51 x52 x53 x54 x55 x56 x57 x58 x59 x60 x61 x62 x63 x64 x65 x66 x68 x69 x70 x71 x72 x73 x74 x75 x76 x77 x78 x79 x80 x81 x82 x83 x84 x85 x86 x87 x88 x89 x90 x91 x92 x93 x94 x95 x96 x97 x98 x99 x100 x101 x102 x103 x104 x105 x106 x107 x108 x109 x110 : Value} :
    ((Code.rangeFunc (Operand.tmp 67) #[68, 69] ((Code.region 20 #[{ dst := some 15, op := Op.assign (Operand.tmp 68), type := 9, pos := "law.go:257", after := #[], guard := none }] false).seq (Code.region 21 #[{ dst := some 16, op := Op.assign (Operand.tmp 69), type := 3, pos := "law.go:257", after := #[], guard := none }] false)) (Code.block 5 ((Code.region 22 #[{ dst := some 70, op := Op.load 22 (Operand.tmp 14), type := 22, pos := "law.go:258", after := #[], guard := none }, { dst := some 71, op := Op.move (Operand.tmp 15), type := 9, pos := "law.go:258", after := #[], guard := none }, { dst := some 72, op := Op.move (Operand.tmp 16), type := 3, pos := "law.go:258", after := #[], guard := none }, { dst := some 73, op := Op.build 51 #[(0, Operand.tmp 71), (1, Operand.tmp 72)], type := 51, pos := "law.go:258", after := #[{ on := 1, ground := Ground.data }, { on := 2, ground := Ground.data }], guard := none }, { dst := some 74, op := Op.buildSlice 22 1 #[(0, Operand.tmp 73)], type := 22, pos := "law.go:258", after := #[{ on := 3, ground := Ground.data }], guard := none }, { dst := some 75, op := Op.call { callee := Callee.builtin Builtin.append, args := #[Operand.tmp 70, Operand.tmp 74], argTypes := #[22, 22] }, type := 22, pos := "law.go:258", after := #[{ on := 0, ground := Ground.data }, { on := 4, ground := Ground.data }], guard := none }, { dst := none, op := Op.store 22 (Operand.tmp 14) (Operand.tmp 75), type := 0, pos := "law.go:258", after := #[{ on := 5, ground := Ground.data }, { on := 5, ground := Ground.chain }, { on := 0, ground := Ground.phase }, { on := 1, ground := Ground.phase }, { on := 2, ground := Ground.phase }, { on := 3, ground := Ground.phase }, { on := 4, ground := Ground.phase }, { on := 5, ground := Ground.phase }], guard := none }] false).seq ((Code.region 23 #[{ dst := some 76, op := Op.load 24 (Operand.tmp 5), type := 24, pos := "law.go:259", after := #[], guard := none }, { dst := some 77, op := Op.move (Operand.tmp 15), type := 9, pos := "law.go:259", after := #[], guard := none }, { dst := some 78, op := Op.call { callee := Callee.value (Operand.func 29), args := #[Operand.tmp 76, Operand.tmp 77], argTypes := #[24, 9] }, type := 4, pos := "law.go:259", after := #[{ on := 0, ground := Ground.data }, { on := 1, ground := Ground.data }], guard := none }] false).seq ((Code.region 24 #[{ dst := some 79, op := Op.load 3 (Operand.tmp 13), type := 3, pos := "law.go:260", after := #[], guard := none }, { dst := some 80, op := Op.binOp BinOp.eql 3 (Operand.tmp 79) (Operand.const (Value.int IntKind.i64 0)) 3, type := 4, pos := "law.go:260", after := #[{ on := 0, ground := Ground.data }], guard := none }, { dst := some 81, op := Op.move (Operand.tmp 80), type := 4, pos := "law.go:260", after := #[{ on := 1, ground := Ground.data }], guard := none }, { dst := some 82, op := Op.load 22 (Operand.tmp 14), type := 22, pos := "law.go:260", after := #[{ on := 2, ground := Ground.guard }], guard := some (2, true) }, { dst := some 83, op := Op.call { callee := Callee.builtin Builtin.len, args := #[Operand.tmp 82], argTypes := #[22] }, type := 3, pos := "law.go:260", after := #[{ on := 3, ground := Ground.data }, { on := 2, ground := Ground.guard }], guard := some (2, true) }, { dst := some 84, op := Op.load 3 (Operand.tmp 3), type := 3, pos := "law.go:260", after := #[{ on := 2, ground := Ground.guard }], guard := some (2, true) }, { dst := some 85, op := Op.binOp BinOp.eql 3 (Operand.tmp 83) (Operand.tmp 84) 3, type := 4, pos := "law.go:260", after := #[{ on := 4, ground := Ground.data }, { on := 5, ground := Ground.data }, { on := 2, ground := Ground.guard }], guard := some (2, true) }, { dst := some 86, op := Op.pick (Operand.tmp 81) (Operand.tmp 85) (Operand.const (Value.bool false)), type := 4, pos := "law.go:260", after := #[{ on := 2, ground := Ground.data }, { on := 6, ground := Ground.data }], guard := none }] false).seq (Code.cond (Operand.tmp 86) (Code.exit 4) Code.skip))))))).wpIn Fence.wide 8 Tryz.prog
      (fun e a' W' => (e = .normal ∨ e = .exit 4) ∧ ∃ D gv, w.heap.size ≤ D ∧ W'.heap[D]? = some (.deferred (some [])) ∧ a' = { tmps := #[x0, x1, x2, .pointer (some ⟨B3, 0, none⟩), x4, .pointer (some ⟨b5, 0, none⟩), x6, x7, x8, x9, x10, x11, x12, .pointer (some ⟨BT, 0, none⟩), .pointer (some ⟨BG, 0, none⟩), x15, x16, x17, x18, x19, x20, x21, x22, x23, x24, x25, x26, x27, x28, x29, x30, x31, x32, x33, x34, x35, x36, x37, x38, x39, x40, x41, x42, x43, x44, x45, x46, x47, x48, x49, x50, x51, x52, x53, x54, x55, x56, x57, x58, x59, x60, x61, x62, x63, x64, x65, x66, .func (.func 55) #[] #[.pointer (some ⟨Bs, 0, none⟩)], x68, x69, x70, x71, x72, x73, x74, x75, x76, x77, x78, x79, x80, x81, x82, x83, x84, x85, x86, x87, x88, x89, x90, x91, x92, x93, x94, x95, x96, x97, x98, x99, x100, x101, x102, x103, x104, x105, x106, x107, x108, x109, x110], defers := { target := .collected D, args := #[] } :: ds } ∧ R2 w B0 g m N BG v0 (l.take l.length) gv W')
      { tmps := #[x0, x1, x2, .pointer (some ⟨B3, 0, none⟩), x4, .pointer (some ⟨b5, 0, none⟩), x6, x7, x8, x9, x10, x11, x12, .pointer (some ⟨BT, 0, none⟩), .pointer (some ⟨BG, 0, none⟩), x15, x16, x17, x18, x19, x20, x21, x22, x23, x24, x25, x26, x27, x28, x29, x30, x31, x32, x33, x34, x35, x36, x37, x38, x39, x40, x41, x42, x43, x44, x45, x46, x47, x48, x49, x50, x51, x52, x53, x54, x55, x56, x57, x58, x59, x60, x61, x62, x63, x64, x65, x66, .func (.func 55) #[] #[.pointer (some ⟨Bs, 0, none⟩)], x68, x69, x70, x71, x72, x73, x74, x75, x76, x77, x78, x79, x80, x81, x82, x83, x84, x85, x86, x87, x88, x89, x90, x91, x92, x93, x94, x95, x96, x97, x98, x99, x100, x101, x102, x103, x104, x105, x106, x107, x108, x109, x110], defers := ds } w := by
  obtain ⟨T, hT⟩ : ∃ T : Nat → Prop, T = fun k => k = Bs ∨ (Value.slice A9 0 0).ownBlock = some k := ⟨_, rfl⟩
  have hTA : ∀ ad, A9 = some ad → T ad.block := fun ad e => by rw [hT, e]; exact .inr rfl
  have hTF : ∀ k, T k → FB B3 b5 Bs A9 AM k := fun k hk => by
    rw [hT] at hk
    rcases hk with hk | hk
    · exact .inr (.inr (.inl hk))
    · exact .inr (.inr (.inr (.inl hk)))
  clear hT
  refine ownL (α := Fin l.length) rfl (by decide) (gf := 55) (lb := #[.pointer (some ⟨Bs, 0, none⟩)]) rfl trivial (enters_of Tryz.func55 (by kernel_rfl) rfl)
    (all_stops Fence.wide 7 trivial rfl (by decide) Bs A9 c9 l (by omega) T w FX.bs.lt FX.bs.cell (Rd.of_own FX.rs) hTA) (fun h k => Keeps.t h k) Keeps.b (Below.refl _ _) (fun _ => rfl)
    (fun pre W' => (∃ gv, R2 w B0 g m N BG v0 (came l pre) gv W')) (fun _ _ _ => False)
    (fun pre X Y row hs hg hr => by obtain ⟨gv, h⟩ := hs; exact ⟨gv, h.kept PR hg hr⟩) (fun _ _ _ _ _ hs _ _ => hs) ⟨gv0, by simpa [came] using H0⟩
    68 69 15 16 (fun x => .string (l[x.1]'x.2).2) (fun x => .int .i64 (l[x.1]'x.2).1) (fun _ _ _ h _ => h) ?assign ?body ?done (fun D c pre W1 _ _ h _ => h.elim)
  case assign =>
    intro l2 x W' K hK
    unfold encP
    gi_wp2
    exact hK
  case body =>
    rintro l1 pre x X hl1 - ⟨gv, S⟩ hlt
    obtain ⟨y, hy⟩ : ∃ y, l[x.1]'x.2 = y := ⟨_, rfl⟩
    have hym : y ∈ l := by rw [← hy]; exact List.getElem_mem _
    have fx := FX.only S.on (fun k hk => (hFB k hk).1)
    have hpl : (came l pre).length + 1 ≤ l.length := by rw [came_len]; exact hlt
    have hX := S.on.size
    have cG := S.bg.cell
    have lt2 := S.got.lt
    have pb := PR.pb
    have xTX := boxed_only xT S.on (fun e => e.elim hBT.1 hBT.2)
    obtain ⟨gl, hgl⟩ : ∃ gl, came l pre = gl := ⟨_, rfl⟩
    have hgl2 : came l (pre ++ [x]) = gl ++ [y] := by rw [came_app, hgl, hy]
    have hgll : gl.length = pre.length := by rw [← hgl, came_len]
    rw [hgl] at S hpl
    unfold G
    dsimp only
    rw [hy]
    have Hgl := Lib.hid (And.intro hgl2 (And.intro hgll hlt))
    clear hgl hgl2 hlt hgll
    have c5 : ∀ u (w3 : World), Only (fun k => gv.ownBlock = some k) X w3 → (w3.setCell ⟨BG, 0, none⟩ u).cell? ⟨b5, 0, none⟩ = some (.pointer (some ⟨g, 0, none⟩)) := fun u w3 O3 => by
      have h1 := boxed_only fx.b5 O3 (fun e => by have := (lt2 _ e).1; have := (hFB b5 (.inr (.inl rfl))).2; omega)
      exact (boxed_only h1 ((Only.refl (fun k => k = BG) w3).put (p := ⟨BG, 0, none⟩) (.inl rfl) u) (fun e => (hFB b5 (.inr (.inl rfl))).1 (.inr e))).cell
    gi_wp2_with (gi_at_builtin; refine wpListIn_app2b rfl _ _ elE rfl w.heap.size gv _ _ rfl S.got (.string y.2) (.int .i64 y.1) rfl rfl _ rfl rfl (by unfold maxLen; omega) (by omega) hX ?_; intro v3 w3 o3 O3 g3; obtain ⟨A3, q3, rfl⟩ := own_form o3; have b3' := boxed_only S.bg O3 (fun e => by have := (lt2 _ e).1; omega); have c3' := b3'.cell; have f3 := b3'.frozen; have c5' := c5 (.slice A3 (gl.length + 1) q3) w3 O3)
    obtain ⟨v, cur, hd, hv, hsep⟩ := S.rk
    have oXZ : Only (fun k => gv.ownBlock = some k ∨ k = BG) X (w3.setCell ⟨BG, 0, none⟩ (.slice A3 (gl.length + 1) q3)) := (O3.mono (fun b e => .inl e)).trans ((Only.refl (fun k => k = BG) w3).put (p := ⟨BG, 0, none⟩) (.inl rfl) _) (fun b e => .inl (.inr e))
    have d3 : Rk (w3.setCell ⟨BG, 0, none⟩ (.slice A3 (gl.length + 1) q3)) B0 g m v cur N := hd.only oXZ (fun q hq e => by
      rcases S.off PR hv q hq with h1 | ⟨h1, h2⟩
      · rcases e with e | e
        · have := (lt2 _ e).1; have := PR.pk q h1; omega
        · exact PR.nb q h1 e.symm
      · rcases e with e | e
        · exact hsep q h1 e
        · omega)
    have hdr := drop_calls B0 g m v cur N y.2 _ d3 (hgd.ok _ hym) (Nat.le_trans hB0 (Nat.le_trans hX oXZ.size)) hN
    refine ⟨trivial, (CallsIn.inRound l1 (callsIn_wide.2 hdr)).mono ?_⟩
    rintro e w4 ⟨rfl, ht⟩
    obtain ⟨R', X', K'⟩ := S.next PR hv hsep hd o3 O3 g3 ht
    have fx4 := FX.only R'.on (fun k hk => (hFB k hk).1)
    have cT4 := (boxed_only xT R'.on (fun e => e.elim hBT.1 hBT.2)).cell
    have cG4 := R'.bg.cell
    have c34 := fx4.b3.cell
    have KT : Keeps T X w4 := Keeps.of_only X' (fun k hk e => by
      have h1 := hFB k (hTF k hk)
      rcases e with e | e | e
      · have := (lt2 _ e).1; omega
      · exact h1.1 (.inr e)
      · rcases S.off PR hv k e with h2 | ⟨_, h2⟩
        · exact h1.1 (.inl h2)
        · omega)
    clear hdr d3 oXZ ht hd fx4 fx cG c3' f3 b3' c5' hv hsep
    have hcmp : (((gl.length : Int) + 1) == lv) = false := by have := hns (gl.length + 1) (by omega) (by omega); simpa using this
    gi_wp2_with fail
    exact ⟨K', KT, _, by rw [Hgl.out.1]; exact R'⟩
  case done =>
    rintro D ys W1 hD hys ⟨gv, h⟩ hK
    refine ⟨.inl rfl, D, gv, hD, hK, rfl, ?_⟩
    rw [hys, came_all] at h
    rw [List.take_length]
    exact h
set_option maxHeartbeats 4000000 in
theorem range_stop (w : World) (B3 b5 Bs BT BG B0 B9 BM g m N : Nat) (lv : Int) (A9 : Option Addr) (c9 : Nat) (AM : Option Addr) (cM : Nat) (v0 : Value) (l : List En) (hlen : l.length ≤ 1048576) (hgd : Gd l) (FX : Fx B3 b5 Bs lv g A9 c9 AM cM l B9 BM w) (xT : Boxed w BT 3 (.int .i64 0)) (gv0 : Value) (H0 : R2 w B0 g m N BG v0 [] gv0 w) (PR : Pr w g m BG v0)
    (hFB : ∀ k, FB B3 b5 Bs A9 AM k → ¬ (RkS g m v0 k ∨ k = BG) ∧ k < w.heap.size) (hBT : ¬ RkS g m v0 BT ∧ BT ≠ BG) (hB0 : B0 ≤ w.heap.size) (hN : N ≤ 1000000000) (Q : Nat) (hQ : lv = Q) (hQ1 : 1 ≤ Q) (hQ2 : Q ≤ l.length) {ds : List Deferred} {x0 x1 x2 x4 x6 x7 x8 x9 x10 x11 x12 x15 x16 x17 x18 x19 x20 x21 x22 x23 x24 x25 x26 x27 x28 x29 x30 x31 x32 x33 x34 x35 x36 x37 x38 x39 x40 x41 x42 x43 x44 x45 x46 x47 x48 x49 x50 x51 x52 x53 x54 x55 x56 x57 x58 x59 x60 x61 x62 x63 x64 x65 x66 x68 x69 x70 x71 x72 x73 x74 x75 x76 x77 x78 x79 x80 x81 x82 x83 x84 x85 x86 x87 x88 x89 x90 x91 x92 x93 x94 x95 x96 x97 x98 x99 x100 x101 x102 x103 x104 x105 x106 x107 x108 x109 x110 : Value} :
    ((Code.rangeFunc (Operand.tmp 67) #[68, 69] ((Code.region 20 #[{ dst := some 15, op := Op.assign (Operand.tmp 68), type := 9, pos := "law.go:257", after := #[], guard := none }] false).seq (Code.region 21 #[{ dst := some 16, op := Op.assign (Operand.tmp 69), type := 3, pos := "law.go:257", after := #[], guard := none }] false)) (Code.block 5 ((Code.region 22 #[{ dst := some 70, op := Op.load 22 (Operand.tmp 14), type := 22, pos := "law.go:258", after := #[], guard := none }, { dst := some 71, op := Op.move (Operand.tmp 15), type := 9, pos := "law.go:258", after := #[], guard := none }, { dst := some 72, op := Op.move (Operand.tmp 16), type := 3, pos := "law.go:258", after := #[], guard := none }, { dst := some 73, op := Op.build 51 #[(0, Operand.tmp 71), (1, Operand.tmp 72)], type := 51, pos := "law.go:258", after := #[{ on := 1, ground := Ground.data }, { on := 2, ground := Ground.data }], guard := none }, { dst := some 74, op := Op.buildSlice 22 1 #[(0, Operand.tmp 73)], type := 22, pos := "law.go:258", after := #[{ on := 3, ground := Ground.data }], guard := none }, { dst := some 75, op := Op.call { callee := Callee.builtin Builtin.append, args := #[Operand.tmp 70, Operand.tmp 74], argTypes := #[22, 22] }, type := 22, pos := "law.go:258", after := #[{ on := 0, ground := Ground.data }, { on := 4, ground := Ground.data }], guard := none }, { dst := none, op := Op.store 22 (Operand.tmp 14) (Operand.tmp 75), type := 0, pos := "law.go:258", after := #[{ on := 5, ground := Ground.data }, { on := 5, ground := Ground.chain }, { on := 0, ground := Ground.phase }, { on := 1, ground := Ground.phase }, { on := 2, ground := Ground.phase }, { on := 3, ground := Ground.phase }, { on := 4, ground := Ground.phase }, { on := 5, ground := Ground.phase }], guard := none }] false).seq ((Code.region 23 #[{ dst := some 76, op := Op.load 24 (Operand.tmp 5), type := 24, pos := "law.go:259", after := #[], guard := none }, { dst := some 77, op := Op.move (Operand.tmp 15), type := 9, pos := "law.go:259", after := #[], guard := none }, { dst := some 78, op := Op.call { callee := Callee.value (Operand.func 29), args := #[Operand.tmp 76, Operand.tmp 77], argTypes := #[24, 9] }, type := 4, pos := "law.go:259", after := #[{ on := 0, ground := Ground.data }, { on := 1, ground := Ground.data }], guard := none }] false).seq ((Code.region 24 #[{ dst := some 79, op := Op.load 3 (Operand.tmp 13), type := 3, pos := "law.go:260", after := #[], guard := none }, { dst := some 80, op := Op.binOp BinOp.eql 3 (Operand.tmp 79) (Operand.const (Value.int IntKind.i64 0)) 3, type := 4, pos := "law.go:260", after := #[{ on := 0, ground := Ground.data }], guard := none }, { dst := some 81, op := Op.move (Operand.tmp 80), type := 4, pos := "law.go:260", after := #[{ on := 1, ground := Ground.data }], guard := none }, { dst := some 82, op := Op.load 22 (Operand.tmp 14), type := 22, pos := "law.go:260", after := #[{ on := 2, ground := Ground.guard }], guard := some (2, true) }, { dst := some 83, op := Op.call { callee := Callee.builtin Builtin.len, args := #[Operand.tmp 82], argTypes := #[22] }, type := 3, pos := "law.go:260", after := #[{ on := 3, ground := Ground.data }, { on := 2, ground := Ground.guard }], guard := some (2, true) }, { dst := some 84, op := Op.load 3 (Operand.tmp 3), type := 3, pos := "law.go:260", after := #[{ on := 2, ground := Ground.guard }], guard := some (2, true) }, { dst := some 85, op := Op.binOp BinOp.eql 3 (Operand.tmp 83) (Operand.tmp 84) 3, type := 4, pos := "law.go:260", after := #[{ on := 4, ground := Ground.data }, { on := 5, ground := Ground.data }, { on := 2, ground := Ground.guard }], guard := some (2, true) }, { dst := some 86, op := Op.pick (Operand.tmp 81) (Operand.tmp 85) (Operand.const (Value.bool false)), type := 4, pos := "law.go:260", after := #[{ on := 2, ground := Ground.data }, { on := 6, ground := Ground.data }], guard := none }] false).seq (Code.cond (Operand.tmp 86) (Code.exit 4) Code.skip))))))).wpIn Fence.wide 8 Tryz.prog
      (fun e a' W' => (e = .normal ∨ e = .exit 4) ∧ ∃ D gv, w.heap.size ≤ D ∧ W'.heap[D]? = some (.deferred (some [])) ∧ a' = { tmps := #[x0, x1, x2, .pointer (some ⟨B3, 0, none⟩), x4, .pointer (some ⟨b5, 0, none⟩), x6, x7, x8, x9, x10, x11, x12, .pointer (some ⟨BT, 0, none⟩), .pointer (some ⟨BG, 0, none⟩), x15, x16, x17, x18, x19, x20, x21, x22, x23, x24, x25, x26, x27, x28, x29, x30, x31, x32, x33, x34, x35, x36, x37, x38, x39, x40, x41, x42, x43, x44, x45, x46, x47, x48, x49, x50, x51, x52, x53, x54, x55, x56, x57, x58, x59, x60, x61, x62, x63, x64, x65, x66, .func (.func 55) #[] #[.pointer (some ⟨Bs, 0, none⟩)], x68, x69, x70, x71, x72, x73, x74, x75, x76, x77, x78, x79, x80, x81, x82, x83, x84, x85, x86, x87, x88, x89, x90, x91, x92, x93, x94, x95, x96, x97, x98, x99, x100, x101, x102, x103, x104, x105, x106, x107, x108, x109, x110], defers := { target := .collected D, args := #[] } :: ds } ∧ R2 w B0 g m N BG v0 (l.take Q) gv W')
      { tmps := #[x0, x1, x2, .pointer (some ⟨B3, 0, none⟩), x4, .pointer (some ⟨b5, 0, none⟩), x6, x7, x8, x9, x10, x11, x12, .pointer (some ⟨BT, 0, none⟩), .pointer (some ⟨BG, 0, none⟩), x15, x16, x17, x18, x19, x20, x21, x22, x23, x24, x25, x26, x27, x28, x29, x30, x31, x32, x33, x34, x35, x36, x37, x38, x39, x40, x41, x42, x43, x44, x45, x46, x47, x48, x49, x50, x51, x52, x53, x54, x55, x56, x57, x58, x59, x60, x61, x62, x63, x64, x65, x66, .func (.func 55) #[] #[.pointer (some ⟨Bs, 0, none⟩)], x68, x69, x70, x71, x72, x73, x74, x75, x76, x77, x78, x79, x80, x81, x82, x83, x84, x85, x86, x87, x88, x89, x90, x91, x92, x93, x94, x95, x96, x97, x98, x99, x100, x101, x102, x103, x104, x105, x106, x107, x108, x109, x110], defers := ds } w := by
  obtain ⟨T, hT⟩ : ∃ T : Nat → Prop, T = fun k => k = Bs ∨ (Value.slice A9 0 0).ownBlock = some k := ⟨_, rfl⟩
  have hTA : ∀ ad, A9 = some ad → T ad.block := fun ad e => by rw [hT, e]; exact .inr rfl
  have hTF : ∀ k, T k → FB B3 b5 Bs A9 AM k := fun k hk => by
    rw [hT] at hk
    rcases hk with hk | hk
    · exact .inr (.inr (.inl hk))
    · exact .inr (.inr (.inr (.inl hk)))
  clear hT
  refine ownL (α := Fin l.length) rfl (by decide) (gf := 55) (lb := #[.pointer (some ⟨Bs, 0, none⟩)]) rfl trivial (enters_of Tryz.func55 (by kernel_rfl) rfl)
    (all_stops Fence.wide 7 trivial rfl (by decide) Bs A9 c9 l (by omega) T w FX.bs.lt FX.bs.cell (Rd.of_own FX.rs) hTA) (fun h k => Keeps.t h k) Keeps.b (Below.refl _ _) (fun _ => rfl)
    (fun pre W' => (∃ gv, R2 w B0 g m N BG v0 (came l pre) gv W') ∧ pre.length < Q) (fun c pre W' => c = .exit 4 ∧ pre.length = Q ∧ ∃ gv, R2 w B0 g m N BG v0 (came l pre) gv W')
    (fun pre X Y row hs hg hr => ⟨(by obtain ⟨⟨gv, h⟩, _⟩ := hs; exact ⟨gv, h.kept PR hg hr⟩), hs.2⟩) (fun c pre X Y row hs hg hr => ⟨hs.1, hs.2.1, by obtain ⟨_, _, gv, h⟩ := hs; exact ⟨gv, h.kept PR hg hr⟩⟩) ⟨⟨gv0, by simpa [came] using H0⟩, by simp; omega⟩
    68 69 15 16 (fun x => .string (l[x.1]'x.2).2) (fun x => .int .i64 (l[x.1]'x.2).1) (fun _ _ _ h _ => h) ?assign ?body ?done ?stop
  case assign =>
    intro l2 x W' K hK
    unfold encP
    gi_wp2
    exact hK
  case body =>
    rintro l1 pre x X hl1 - ⟨⟨gv, S⟩, hpQ⟩ hlt
    obtain ⟨y, hy⟩ : ∃ y, l[x.1]'x.2 = y := ⟨_, rfl⟩
    have hym : y ∈ l := by rw [← hy]; exact List.getElem_mem _
    have fx := FX.only S.on (fun k hk => (hFB k hk).1)
    have hpl : (came l pre).length + 1 ≤ l.length := by rw [came_len]; exact hlt
    have hX := S.on.size
    have cG := S.bg.cell
    have lt2 := S.got.lt
    have pb := PR.pb
    have xTX := boxed_only xT S.on (fun e => e.elim hBT.1 hBT.2)
    obtain ⟨gl, hgl⟩ : ∃ gl, came l pre = gl := ⟨_, rfl⟩
    have hgl2 : came l (pre ++ [x]) = gl ++ [y] := by rw [came_app, hgl, hy]
    have hgll : gl.length = pre.length := by rw [← hgl, came_len]
    rw [hgl] at S hpl
    unfold G
    dsimp only
    rw [hy]
    have Hgl := Lib.hid (And.intro hgl2 (And.intro hgll hlt))
    clear hgl hgl2 hlt hgll
    have c5 : ∀ u (w3 : World), Only (fun k => gv.ownBlock = some k) X w3 → (w3.setCell ⟨BG, 0, none⟩ u).cell? ⟨b5, 0, none⟩ = some (.pointer (some ⟨g, 0, none⟩)) := fun u w3 O3 => by
      have h1 := boxed_only fx.b5 O3 (fun e => by have := (lt2 _ e).1; have := (hFB b5 (.inr (.inl rfl))).2; omega)
      exact (boxed_only h1 ((Only.refl (fun k => k = BG) w3).put (p := ⟨BG, 0, none⟩) (.inl rfl) u) (fun e => (hFB b5 (.inr (.inl rfl))).1 (.inr e))).cell
    gi_wp2_with (gi_at_builtin; refine wpListIn_app2b rfl _ _ elE rfl w.heap.size gv _ _ rfl S.got (.string y.2) (.int .i64 y.1) rfl rfl _ rfl rfl (by unfold maxLen; omega) (by omega) hX ?_; intro v3 w3 o3 O3 g3; obtain ⟨A3, q3, rfl⟩ := own_form o3; have b3' := boxed_only S.bg O3 (fun e => by have := (lt2 _ e).1; omega); have c3' := b3'.cell; have f3 := b3'.frozen; have c5' := c5 (.slice A3 (gl.length + 1) q3) w3 O3)
    obtain ⟨v, cur, hd, hv, hsep⟩ := S.rk
    have oXZ : Only (fun k => gv.ownBlock = some k ∨ k = BG) X (w3.setCell ⟨BG, 0, none⟩ (.slice A3 (gl.length + 1) q3)) := (O3.mono (fun b e => .inl e)).trans ((Only.refl (fun k => k = BG) w3).put (p := ⟨BG, 0, none⟩) (.inl rfl) _) (fun b e => .inl (.inr e))
    have d3 : Rk (w3.setCell ⟨BG, 0, none⟩ (.slice A3 (gl.length + 1) q3)) B0 g m v cur N := hd.only oXZ (fun q hq e => by
      rcases S.off PR hv q hq with h1 | ⟨h1, h2⟩
      · rcases e with e | e
        · have := (lt2 _ e).1; have := PR.pk q h1; omega
        · exact PR.nb q h1 e.symm
      · rcases e with e | e
        · exact hsep q h1 e
        · omega)
    have hdr := drop_calls B0 g m v cur N y.2 _ d3 (hgd.ok _ hym) (Nat.le_trans hB0 (Nat.le_trans hX oXZ.size)) hN
    refine ⟨trivial, (CallsIn.inRound l1 (callsIn_wide.2 hdr)).mono ?_⟩
    rintro e w4 ⟨rfl, ht⟩
    obtain ⟨R', X', K'⟩ := S.next PR hv hsep hd o3 O3 g3 ht
    have fx4 := FX.only R'.on (fun k hk => (hFB k hk).1)
    have cT4 := (boxed_only xT R'.on (fun e => e.elim hBT.1 hBT.2)).cell
    have cG4 := R'.bg.cell
    have c34 := fx4.b3.cell
    have KT : Keeps T X w4 := Keeps.of_only X' (fun k hk e => by
      have h1 := hFB k (hTF k hk)
      rcases e with e | e | e
      · have := (lt2 _ e).1; omega
      · exact h1.1 (.inr e)
      · rcases S.off PR hv k e with h2 | ⟨_, h2⟩
        · exact h1.1 (.inl h2)
        · omega)
    clear hdr d3 oXZ ht hd fx4 fx cG c3' f3 b3' c5' hv hsep
    subst hQ
    by_cases hs : gl.length + 1 = Q
    · have hcmp : (((gl.length : Int) + 1) == (Q : Int)) = true := by simp; omega
      have Hs := Lib.hid hs
      clear hs
      gi_wp2_with fail
      exact ⟨K', rfl, by rw [List.length_append, ← Hgl.out.2.1]; exact Hs.out, _, by rw [Hgl.out.1]; exact R'⟩
    · have hcmp : (((gl.length : Int) + 1) == (Q : Int)) = false := by simp; omega
      have Hs := Lib.hid hs
      clear hs
      gi_wp2_with fail
      exact ⟨K', KT, ⟨_, by rw [Hgl.out.1]; exact R'⟩, by rw [List.length_append, ← Hgl.out.2.1]; have := Hs.out; have := hpQ; have := Hgl.out.2.1; simp; omega⟩
  case done =>
    rintro D ys W1 hD hys ⟨_, hl⟩ hK
    rw [hys, upto_len (Nat.le_refl _)] at hl
    omega
  case stop =>
    rintro D cc pre W1 hD ⟨k, hk, rfl⟩ ⟨rfl, hl, gv, h⟩ hK
    rw [upto_len hk] at hl
    subst hl
    have hR : R2 w B0 g m N BG v0 (l.take k) gv W1 := by rw [← came_upto l k hk]; exact h
    gi_wp2
    exact ⟨D, hD, hK, rfl, gv, hR⟩
end Go.Proofs.YtakhcfemakapbaaGreatDoor.RjY
