/-
  The range over All in DictOver. Conditions: as stated.
-/
import Derived.Test.YthgdkmbcibfehaaDoorDcS
set_option maxRecDepth 100000
set_option linter.unusedSimpArgs false
set_option linter.unusedVariables false
namespace Go.Proofs.YthgdkmbcibfehaaDoor.DcU
open Go Go.RowKit Go.Shelf Go.Proofs.YthgdkmbcibfehaaDoor.Mem Go.Proofs.YthgdkmbcibfehaaDoor.NumA Go.Proofs.YthgdkmbcibfehaaDoor.NumB Go.Proofs.YthgdkmbcibfehaaDoor.NumE Go.Proofs.YthgdkmbcibfehaaDoor.DcA Go.Proofs.YthgdkmbcibfehaaDoor.DcB Go.Proofs.YthgdkmbcibfehaaDoor.DcC Go.Proofs.YthgdkmbcibfehaaDoor.DcD Go.Proofs.YthgdkmbcibfehaaDoor.DcE Go.Proofs.YthgdkmbcibfehaaDoor.DcF Go.Proofs.YthgdkmbcibfehaaDoor.DcG Go.Proofs.YthgdkmbcibfehaaDoor.DcI Go.Proofs.YthgdkmbcibfehaaDoor.DcJ Go.Proofs.YthgdkmbcibfehaaDoor.DcK Go.Proofs.YthgdkmbcibfehaaDoor.DcL Go.Proofs.YthgdkmbcibfehaaDoor.DcM Go.Proofs.YthgdkmbcibfehaaDoor.DcN Go.Proofs.YthgdkmbcibfehaaDoor.DcP Go.Proofs.YthgdkmbcibfehaaDoor.DcQ Go.Proofs.YthgdkmbcibfehaaDoor.DcS
attribute [local go_sem] Oper.semAt_some

/-- The row that is spoilt. -/
def Spo (w : World) (A : Option Addr) (n c : Nat) : Prop := n = 0 ∨ ∃ b cur, A = some ⟨b, 0, none⟩ ∧ w.heap[b]? = some (.cells cur 52 (0, 0)) ∧ cur.size = c * 2
theorem spo_of {w : World} {B n c : Nat} {A : Option Addr} {l : List Fld} (h : OwnF w B (.slice A n c) l) : Spo w A n c := by
  rcases h.2 with ⟨e, h0⟩ | ⟨g, cap, cur, e, _, hb, _, _, hs, _⟩
  · injection e with _ e2 _; exact .inl e2
  · injection e with e1 e2 e3
    subst e1 e3
    exact .inr ⟨g, cur, rfl, hb, hs⟩
/-- What stays while the fields are gone over. -/
structure Fx (b3 b5 Bs : Nat) (lv : Int) (g : Nat) (A9 : Option Addr) (c9 : Nat) (l : List Fld) (B9 : Nat) (X : World) : Prop where
  b3 : Boxed X b3 3 (.int .i64 lv)
  b5 : Boxed X b5 24 (.pointer (some ⟨g, 0, none⟩))
  bs : Boxed X Bs 22 (.slice A9 l.length c9)
  rs : OwnF X B9 (.slice A9 l.length c9) l
def FB (b3 b5 Bs : Nat) (A9 : Option Addr) (n c9 : Nat) (k : Nat) : Prop := k = b3 ∨ k = b5 ∨ k = Bs ∨ (Value.slice A9 n c9).ownBlock = some k
theorem Fx.only {b3 b5 Bs : Nat} {lv : Int} {g : Nat} {A9 : Option Addr} {c9 : Nat} {l : List Fld} {B9 : Nat} {X Y : World} (h : Fx b3 b5 Bs lv g A9 c9 l B9 X) {S : Nat → Prop} (ho : Only S X Y) (hs : ∀ k, FB b3 b5 Bs A9 l.length c9 k → ¬ S k) : Fx b3 b5 Bs lv g A9 c9 l B9 Y :=
  ⟨boxed_only h.b3 ho (hs _ (.inl rfl)), boxed_only h.b5 ho (hs _ (.inr (.inl rfl))), boxed_only h.bs ho (hs _ (.inr (.inr (.inl rfl)))), own_only h.rs ho (fun k hk => hs k (.inr (.inr (.inr hk))))⟩
theorem Fx.below {b3 b5 Bs : Nat} {lv : Int} {g : Nat} {A9 : Option Addr} {c9 : Nat} {l : List Fld} {B9 : Nat} {X Y : World} (h : Fx b3 b5 Bs lv g A9 c9 l B9 X) (hb : Below X.heap.size X Y) : Fx b3 b5 Bs lv g A9 c9 l B9 Y :=
  h.only (S := fun _ => False) (only_b hb) (fun _ _ => id)
def moreB : ByteArray := ⟨#[255, 255, 109, 111, 114, 101]⟩
def oneB : ByteArray := ⟨#[49]⟩
theorem keepsFrom_only' {B : Nat} {S : Nat → Prop} {A C : World} (h : Only S A C) (hs : ∀ k, B ≤ k → S k → ∀ o, A.heap[k]? = some o → o.isCells = true) : KeepsFrom B A C :=
  ⟨h.size, fun k o hB hk ho => h.heap hk (fun hS => by rw [hs k hB hS o hk] at ho; cases ho)⟩
/-- Between two rounds of the range. -/
structure R2 (w : World) (B0 g m N BG : Nat) (l got : List Fld) (gv : Value) (X : World) : Prop where
  dc : ∃ cur, Dc X B0 g m cur N
  bg : Boxed X BG 22 gv
  got : OwnF X w.heap.size gv got
  on : Only (fun k => k = m ∨ k = BG) w X
structure Pr (w : World) (g m BG : Nat) : Prop where
  pg : g < w.heap.size
  pm : m < w.heap.size
  pb : BG < w.heap.size
  ng : BG ≠ g
  nm : BG ≠ m
section
variable {w X Y : World} {B0 g m N BG : Nat} {l got : List Fld} {gv : Value}
theorem R2.kept (s : R2 w B0 g m N BG l got gv X) (p : Pr w g m BG) {row : Option Nat} (hg : X.grownBy Y row) (hr : ∀ r, row = some r → w.heap.size ≤ r ∧ ∃ o : Obj, X.heap[r]? = some o ∧ o.isCells = false) : R2 w B0 g m N BG l got gv Y := by
  have hO := Only.of_grown hg
  have hn : ∀ b, (∀ o, X.heap[b]? = some o → o.isCells = true) → ¬ (row = some b) := fun b hb e => by
    obtain ⟨_, o, ho, hc⟩ := hr b e
    rw [hb o ho] at hc; cases hc
  obtain ⟨cur, hd⟩ := s.dc
  refine ⟨⟨cur, hd.only hO (fun e => ?_) (fun e => ?_)⟩, boxed_only s.bg hO (hn _ (boxed_cells s.bg)), own_only s.got hO (fun k hk => hn k (own_cells s.got k hk)), s.on.trans hO (fun b e => .inr (hr b e).1)⟩
  · have := (hr _ e).1; have := p.pg; omega
  · have := (hr _ e).1; have := p.pm; omega
/-- One more has come, and its name is dropped. -/
theorem R2.next (s : R2 w B0 g m N BG l got gv X) (p : Pr w g m BG) {w3 w4 : World} {A3 : Option Addr} {q3 : Nat} {f : Fld} {cur : List Fld}
    (o3 : w3.ownsRow w.heap.size 52 2 (.slice A3 (got.length + 1) q3) (got.length + 1) (flds got ++ [.string f.1, .string f.2])) (O3 : Only (fun k => gv.ownBlock = some k) X w3)
    (d4 : Dc w4 B0 g m cur N) (O4 : Only (fun b => b = m) (w3.setCell ⟨BG, 0, none⟩ (.slice A3 (got.length + 1) q3)) w4) :
    R2 w B0 g m N BG l (got ++ [f]) (.slice A3 (got.length + 1) q3) w4 ∧ Only (fun k => gv.ownBlock = some k ∨ k = BG ∨ k = m) X w4 ∧ KeepsFrom w.heap.size X w4 := by
  have lt := s.got.lt
  have hO : Only (fun k => k = BG) w3 (w3.setCell ⟨BG, 0, none⟩ (.slice A3 (got.length + 1) q3)) := (Only.refl (fun k => k = BG) w3).put (p := ⟨BG, 0, none⟩) (.inl rfl) _
  have b3 : Boxed w3 BG 22 gv := boxed_only s.bg O3 (fun e => by have := (lt _ e).1; have := p.pb; omega)
  have XZ : Only (fun k => gv.ownBlock = some k ∨ k = BG ∨ k = m) X w4 := ((O3.mono (fun b e => .inl e)).trans hO (fun b e => .inl (.inr (.inl e)))).trans O4 (fun b e => .inl (.inr (.inr e)))
  have hs := s.on.size
  refine ⟨⟨⟨cur, d4⟩, boxed_only (Boxed.set _ b3) O4 p.nm, ?_, s.on.trans XZ (fun b e => ?_)⟩, XZ, keepsFrom_only' XZ (fun k hB e o ho => ?_)⟩
  · have e1 : w3.ownsRow w.heap.size 52 2 (.slice A3 (got.length + 1) q3) (got ++ [f]).length (flds (got ++ [f])) := by
      rw [List.length_append, flds_app]; exact o3
    exact own_only (own_only e1 hO (fun k hk e => by have := (e1.lt k hk).1; have := p.pb; omega)) O4 (fun k hk e => by have := (e1.lt k hk).1; have := p.pm; omega)
  · rcases e with e | e | e
    · exact .inr (lt b e).1
    · exact .inl (.inr e)
    · exact .inl (.inl e)
  · rcases e with e | e | e
    · exact own_cells s.got k e o ho
    · rw [e] at ho; exact boxed_cells s.bg o ho
    · have := p.pm; omega
end
theorem came_upto (l : List Fld) (k : Nat) (hk : k ≤ l.length) : came l (upto l.length k) = l.take k := by
  refine List.ext_getElem (by rw [came_len, upto_len hk, List.length_take]; omega) (fun i h1 h2 => ?_)
  simp [came, upto]
set_option maxHeartbeats 4000000 in
theorem range_one (w : World) (B3 b5 Bs BT BG B0 B9 g m N : Nat) (lv : Int) (A9 : Option Addr) (c9 : Nat) (l : List Fld) (hlen : l.length ≤ 1048576) (hgd : Gd l) (FX : Fx B3 b5 Bs lv g A9 c9 l B9 w) (xT : Boxed w BT 3 (.int .i64 1)) (gv0 : Value) (H0 : R2 w B0 g m N BG l [] gv0 w) (PR : Pr w g m BG)
    (hFB : ∀ k, FB B3 b5 Bs A9 l.length c9 k → ¬ (k = m ∨ k = BG) ∧ k < w.heap.size) (hBT : BT ≠ m ∧ BT ≠ BG) {ds : List Deferred} {x0 x1 x2 x4 x6 x7 x8 x9 x12 x13 x14 x15 x16 x17 x18 x19 x20 x21 x22 x23 x24 x25 x26 x27 x28 x29 x30 x31 x32 x33 x34 x35 x36 x37 x38 x39 x40 x41 x42 x43 x44 x45 x46 x47 x48 x49 x50 x51 x52 x54 x55 x56 x57 x58 x59 x60 x61 x62 x63 x64 x65 x66 x67 x68 x69 x70 x71 x72 x73 x74 x75 x76 x77 x78 x79 x80 x81 x82 x83 x84 x85 x86 x87 x88 x89 x90 x91 x92 x93 x94 x95 x96 : Value} :
    ((Code.rangeFunc (Operand.tmp 53) #[54, 55] ((Code.region 18 #[{ dst := some 12, op := Op.assign (Operand.tmp 54), type := 9, pos := "law.go:184", after := #[], guard := none }] false).seq (Code.region 19 #[{ dst := some 13, op := Op.assign (Operand.tmp 55), type := 9, pos := "law.go:184", after := #[], guard := none }] false)) (Code.block 5 ((Code.region 20 #[{ dst := some 56, op := Op.load 22 (Operand.tmp 11), type := 22, pos := "law.go:185", after := #[], guard := none }, { dst := some 57, op := Op.move (Operand.tmp 12), type := 9, pos := "law.go:185", after := #[], guard := none }, { dst := some 58, op := Op.move (Operand.tmp 13), type := 9, pos := "law.go:185", after := #[], guard := none }, { dst := some 59, op := Op.build 52 #[(0, Operand.tmp 57), (1, Operand.tmp 58)], type := 52, pos := "law.go:185", after := #[{ on := 1, ground := Ground.data }, { on := 2, ground := Ground.data }], guard := none }, { dst := some 60, op := Op.buildSlice 22 1 #[(0, Operand.tmp 59)], type := 22, pos := "law.go:185", after := #[{ on := 3, ground := Ground.data }], guard := none }, { dst := some 61, op := Op.call { callee := Callee.builtin Builtin.append, args := #[Operand.tmp 56, Operand.tmp 60], argTypes := #[22, 22] }, type := 22, pos := "law.go:185", after := #[{ on := 0, ground := Ground.data }, { on := 4, ground := Ground.data }], guard := none }, { dst := none, op := Op.store 22 (Operand.tmp 11) (Operand.tmp 61), type := 0, pos := "law.go:185", after := #[{ on := 5, ground := Ground.data }, { on := 5, ground := Ground.chain }, { on := 0, ground := Ground.phase }, { on := 1, ground := Ground.phase }, { on := 2, ground := Ground.phase }, { on := 3, ground := Ground.phase }, { on := 4, ground := Ground.phase }, { on := 5, ground := Ground.phase }], guard := none }] false).seq ((Code.region 21 #[{ dst := some 62, op := Op.load 24 (Operand.tmp 5), type := 24, pos := "law.go:186", after := #[], guard := none }, { dst := some 63, op := Op.move (Operand.tmp 12), type := 9, pos := "law.go:186", after := #[], guard := none }, { dst := some 64, op := Op.call { callee := Callee.value (Operand.func 14), args := #[Operand.tmp 62, Operand.tmp 63], argTypes := #[24, 9] }, type := 4, pos := "law.go:186", after := #[{ on := 0, ground := Ground.data }, { on := 1, ground := Ground.data }], guard := none }] false).seq ((Code.region 22 #[{ dst := some 65, op := Op.load 3 (Operand.tmp 10), type := 3, pos := "law.go:187", after := #[], guard := none }, { dst := some 66, op := Op.binOp BinOp.eql 3 (Operand.tmp 65) (Operand.const (Value.int IntKind.i64 0)) 3, type := 4, pos := "law.go:187", after := #[{ on := 0, ground := Ground.data }], guard := none }, { dst := some 67, op := Op.move (Operand.tmp 66), type := 4, pos := "law.go:187", after := #[{ on := 1, ground := Ground.data }], guard := none }, { dst := some 68, op := Op.load 22 (Operand.tmp 11), type := 22, pos := "law.go:187", after := #[{ on := 2, ground := Ground.guard }], guard := some (2, true) }, { dst := some 69, op := Op.call { callee := Callee.builtin Builtin.len, args := #[Operand.tmp 68], argTypes := #[22] }, type := 3, pos := "law.go:187", after := #[{ on := 3, ground := Ground.data }, { on := 2, ground := Ground.guard }], guard := some (2, true) }, { dst := some 70, op := Op.load 3 (Operand.tmp 3), type := 3, pos := "law.go:187", after := #[{ on := 2, ground := Ground.guard }], guard := some (2, true) }, { dst := some 71, op := Op.binOp BinOp.eql 3 (Operand.tmp 69) (Operand.tmp 70) 3, type := 4, pos := "law.go:187", after := #[{ on := 4, ground := Ground.data }, { on := 5, ground := Ground.data }, { on := 2, ground := Ground.guard }], guard := some (2, true) }, { dst := some 72, op := Op.pick (Operand.tmp 67) (Operand.tmp 71) (Operand.const (Value.bool false)), type := 4, pos := "law.go:187", after := #[{ on := 2, ground := Ground.data }, { on := 6, ground := Ground.data }], guard := none }] false).seq (Code.cond (Operand.tmp 72) (Code.exit 4) Code.skip))))))).wpIn Fence.wide 8 Tryd.prog
      (fun e a' W' => (e = .normal ∨ e = .exit 4) ∧ ∃ D gv, w.heap.size ≤ D ∧ W'.heap[D]? = some (.deferred (some [])) ∧ a' = { tmps := #[x0, x1, x2, .pointer (some ⟨B3, 0, none⟩), x4, .pointer (some ⟨b5, 0, none⟩), x6, x7, x8, x9, .pointer (some ⟨BT, 0, none⟩), .pointer (some ⟨BG, 0, none⟩), x12, x13, x14, x15, x16, x17, x18, x19, x20, x21, x22, x23, x24, x25, x26, x27, x28, x29, x30, x31, x32, x33, x34, x35, x36, x37, x38, x39, x40, x41, x42, x43, x44, x45, x46, x47, x48, x49, x50, x51, x52, .func (.func 36) #[] #[.pointer (some ⟨Bs, 0, none⟩)], x54, x55, x56, x57, x58, x59, x60, x61, x62, x63, x64, x65, x66, x67, x68, x69, x70, x71, x72, x73, x74, x75, x76, x77, x78, x79, x80, x81, x82, x83, x84, x85, x86, x87, x88, x89, x90, x91, x92, x93, x94, x95, x96], defers := { target := .collected D, args := #[] } :: ds } ∧ R2 w B0 g m N BG l (l.take l.length) gv W')
      { tmps := #[x0, x1, x2, .pointer (some ⟨B3, 0, none⟩), x4, .pointer (some ⟨b5, 0, none⟩), x6, x7, x8, x9, .pointer (some ⟨BT, 0, none⟩), .pointer (some ⟨BG, 0, none⟩), x12, x13, x14, x15, x16, x17, x18, x19, x20, x21, x22, x23, x24, x25, x26, x27, x28, x29, x30, x31, x32, x33, x34, x35, x36, x37, x38, x39, x40, x41, x42, x43, x44, x45, x46, x47, x48, x49, x50, x51, x52, .func (.func 36) #[] #[.pointer (some ⟨Bs, 0, none⟩)], x54, x55, x56, x57, x58, x59, x60, x61, x62, x63, x64, x65, x66, x67, x68, x69, x70, x71, x72, x73, x74, x75, x76, x77, x78, x79, x80, x81, x82, x83, x84, x85, x86, x87, x88, x89, x90, x91, x92, x93, x94, x95, x96], defers := ds } w := by
  obtain ⟨T, hT⟩ : ∃ T : Nat → Prop, T = fun k => k = Bs ∨ (Value.slice A9 l.length c9).ownBlock = some k := ⟨_, rfl⟩
  have hTA : ∀ ad, A9 = some ad → T ad.block := fun ad e => by rw [hT, e]; exact .inr rfl
  have hTF : ∀ k, T k → FB B3 b5 Bs A9 l.length c9 k := fun k hk => by
    rw [hT] at hk
    rcases hk with hk | hk
    · exact .inr (.inr (.inl hk))
    · exact .inr (.inr (.inr hk))
  clear hT
  refine ownL (α := Fin l.length) rfl (by decide) (gf := 36) (lb := #[.pointer (some ⟨Bs, 0, none⟩)]) rfl trivial (enters_of Tryd.func36 (by kernel_rfl) rfl)
    (all_stops Fence.wide 7 trivial rfl (by decide) Bs A9 c9 l (by omega) T w FX.bs.lt FX.bs.cell (Rd.of_own FX.rs) hTA) (fun h k => Keeps.t h k) Keeps.b (Below.refl _ _) (fun _ => rfl)
    (fun pre W' => (∃ gv, R2 w B0 g m N BG l (came l pre) gv W')) (fun _ _ _ => False)
    (fun pre X Y row hs hg hr => by obtain ⟨gv, h⟩ := hs; exact ⟨gv, h.kept PR hg hr⟩) (fun _ _ _ _ _ hs _ _ => hs) ⟨gv0, by simpa [came] using H0⟩
    54 55 12 13 (fun x => .string (l[x.1]'x.2).1) (fun x => .string (l[x.1]'x.2).2) (fun _ _ _ h _ => h) ?assign ?body ?done (fun D c pre W1 _ _ h _ => h.elim)
  case assign =>
    intro l2 x W' K hK
    unfold encP
    gi_wp2
    exact hK
  case body =>
    rintro l1 pre x X hl1 - ⟨gv, S⟩ hlt
    obtain ⟨y, hy⟩ : ∃ y, l[x.1]'x.2 = y := ⟨_, rfl⟩
    have hym : y ∈ l := by rw [← hy]; exact List.getElem_mem _
    have fx := FX.only S.on (fun k hk => (hFB k hk).1)
    have hpl : (came l pre).length + 1 ≤ l.length := by rw [came_len]; exact hlt
    have hX := S.on.size
    have cG := S.bg.cell
    have lt2 := S.got.lt
    have pb := PR.pb
    have xTX := boxed_only xT S.on (fun e => e.elim hBT.1 hBT.2)
    obtain ⟨gl, hgl⟩ : ∃ gl, came l pre = gl := ⟨_, rfl⟩
    have hgl2 : came l (pre ++ [x]) = gl ++ [y] := by rw [came_app, hgl, hy]
    have hgll : gl.length = pre.length := by rw [← hgl, came_len]
    rw [hgl] at S hpl
    unfold G
    dsimp only
    rw [hy]
    have Hgl := Lib.hid (And.intro hgl2 (And.intro hgll hlt))
    clear hgl hgl2 hlt hgll
    have c5 : ∀ u (w3 : World), Only (fun k => gv.ownBlock = some k) X w3 → (w3.setCell ⟨BG, 0, none⟩ u).cell? ⟨b5, 0, none⟩ = some (.pointer (some ⟨g, 0, none⟩)) := fun u w3 O3 => by
      have h1 := boxed_only fx.b5 O3 (fun e => by have := (lt2 _ e).1; have := (hFB b5 (.inr (.inl rfl))).2; omega)
      exact (boxed_only h1 ((Only.refl (fun k => k = BG) w3).put (p := ⟨BG, 0, none⟩) (.inl rfl) u) (fun e => (hFB b5 (.inr (.inl rfl))).1 (.inr e))).cell
    gi_wp2_with (gi_at_builtin; refine wpListIn_app2b rfl _ _ elF rfl w.heap.size gv _ _ rfl S.got (.string y.1) (.string y.2) rfl rfl _ rfl rfl (by unfold maxLen; omega) (by omega) hX ?_; intro v3 w3 o3 O3 g3; obtain ⟨A3, q3, rfl⟩ := own_form o3; have b3' := boxed_only S.bg O3 (fun e => by have := (lt2 _ e).1; omega); have c3' := b3'.cell; have f3 := b3'.frozen; have c5' := c5 (.slice A3 (gl.length + 1) q3) w3 O3)
    obtain ⟨cur, hd⟩ := S.dc
    have O3' := Lib.hid O3
    have oXZ : Only (fun k => gv.ownBlock = some k ∨ k = BG) X (w3.setCell ⟨BG, 0, none⟩ (.slice A3 (gl.length + 1) q3)) := (O3.mono (fun b e => .inl e)).trans ((Only.refl (fun k => k = BG) w3).put (p := ⟨BG, 0, none⟩) (.inl rfl) _) (fun b e => .inl (.inr e))
    have d3 : Dc (w3.setCell ⟨BG, 0, none⟩ (.slice A3 (gl.length + 1) q3)) B0 g m cur N := hd.only oXZ (fun e => by
      rcases e with e | e
      · have := (lt2 _ e).1; have := PR.pg; omega
      · exact PR.ng e.symm) (fun e => by
      rcases e with e | e
      · have := (lt2 _ e).1; have := PR.pm; omega
      · exact PR.nm e.symm)
    have hdr := drop_calls B0 g m cur N y.1 _ d3 (hgd.ok _ hym).1
    refine ⟨trivial, (CallsIn.inRound l1 (callsIn_wide.2 hdr)).mono ?_⟩
    rintro e w4 ⟨rfl, d4, o4⟩
    obtain ⟨R', X', K'⟩ := S.next PR o3 O3 d4 o4
    have fx4 := FX.only R'.on (fun k hk => (hFB k hk).1)
    have cT4 := (boxed_only xT R'.on (fun e => e.elim hBT.1 hBT.2)).cell
    have cG4 := R'.bg.cell
    have c34 := fx4.b3.cell
    have KT : Keeps T X w4 := Keeps.of_only X' (fun k hk e => by
      have h1 := hFB k (hTF k hk)
      rcases e with e | e | e
      · have := (lt2 _ e).1; omega
      · exact h1.1 (.inr e)
      · exact h1.1 (.inl e))
    clear hdr d3 oXZ d4 o4 fx4 fx cG c3' f3 b3' c5' hd
    gi_wp2_with fail
    exact ⟨K', KT, _, by rw [Hgl.out.1]; exact R'⟩
  case done =>
    rintro D ys W1 hD hys ⟨gv, h⟩ hK
    refine ⟨.inl rfl, D, gv, hD, hK, rfl, ?_⟩
    rw [hys, came_all] at h
    rw [List.take_length]
    exact h
set_option maxHeartbeats 4000000 in
theorem range_all (w : World) (B3 b5 Bs BT BG B0 B9 g m N : Nat) (lv : Int) (A9 : Option Addr) (c9 : Nat) (l : List Fld) (hlen : l.length ≤ 1048576) (hgd : Gd l) (FX : Fx B3 b5 Bs lv g A9 c9 l B9 w) (xT : Boxed w BT 3 (.int .i64 0)) (gv0 : Value) (H0 : R2 w B0 g m N BG l [] gv0 w) (PR : Pr w g m BG)
    (hFB : ∀ k, FB B3 b5 Bs A9 l.length c9 k → ¬ (k = m ∨ k = BG) ∧ k < w.heap.size) (hBT : BT ≠ m ∧ BT ≠ BG) (hns : ∀ k : Nat, 1 ≤ k → k ≤ l.length → ((k : Int) == lv) = false) {ds : List Deferred} {x0 x1 x2 x4 x6 x7 x8 x9 x12 x13 x14 x15 x16 x17 x18 x19 x20 x21 x22 x23 x24 x25 x26 x27 x28 x29 x30 x31 x32 x33 x34 x35 x36 x37 x38 x39 x40 x41 x42 x43 x44 x45 x46 x47 x48 x49 x50 x51 x52 x54 x55 x56 x57 x58 x59 x60 x61 x62 x63 x64 x65 x66 x67 x68 x69 x70 x71 x72 x73 x74 x75 x76 x77 x78 x79 x80 x81 x82 x83 x84 x85 x86 x87 x88 x89 x90 x91 x92 x93 x94 x95 x96 : Value} :
    ((Code.rangeFunc (Operand.tmp 53) #[54, 55] ((Code.region 18 #[{ dst := some 12, op := Op.assign (Operand.tmp 54), type := 9, pos := "law.go:184", after := #[], guard := none }] false).seq (Code.region 19 #[{ dst := some 13, op := Op.assign (Operand.tmp 55), type := 9, pos := "law.go:184", after := #[], guard := none }] false)) (Code.block 5 ((Code.region 20 #[{ dst := some 56, op := Op.load 22 (Operand.tmp 11), type := 22, pos := "law.go:185", after := #[], guard := none }, { dst := some 57, op := Op.move (Operand.tmp 12), type := 9, pos := "law.go:185", after := #[], guard := none }, { dst := some 58, op := Op.move (Operand.tmp 13), type := 9, pos := "law.go:185", after := #[], guard := none }, { dst := some 59, op := Op.build 52 #[(0, Operand.tmp 57), (1, Operand.tmp 58)], type := 52, pos := "law.go:185", after := #[{ on := 1, ground := Ground.data }, { on := 2, ground := Ground.data }], guard := none }, { dst := some 60, op := Op.buildSlice 22 1 #[(0, Operand.tmp 59)], type := 22, pos := "law.go:185", after := #[{ on := 3, ground := Ground.data }], guard := none }, { dst := some 61, op := Op.call { callee := Callee.builtin Builtin.append, args := #[Operand.tmp 56, Operand.tmp 60], argTypes := #[22, 22] }, type := 22, pos := "law.go:185", after := #[{ on := 0, ground := Ground.data }, { on := 4, ground := Ground.data }], guard := none }, { dst := none, op := Op.store 22 (Operand.tmp 11) (Operand.tmp 61), type := 0, pos := "law.go:185", after := #[{ on := 5, ground := Ground.data }, { on := 5, ground := Ground.chain }, { on := 0, ground := Ground.phase }, { on := 1, ground := Ground.phase }, { on := 2, ground := Ground.phase }, { on := 3, ground := Ground.phase }, { on := 4, ground := Ground.phase }, { on := 5, ground := Ground.phase }], guard := none }] false).seq ((Code.region 21 #[{ dst := some 62, op := Op.load 24 (Operand.tmp 5), type := 24, pos := "law.go:186", after := #[], guard := none }, { dst := some 63, op := Op.move (Operand.tmp 12), type := 9, pos := "law.go:186", after := #[], guard := none }, { dst := some 64, op := Op.call { callee := Callee.value (Operand.func 14), args := #[Operand.tmp 62, Operand.tmp 63], argTypes := #[24, 9] }, type := 4, pos := "law.go:186", after := #[{ on := 0, ground := Ground.data }, { on := 1, ground := Ground.data }], guard := none }] false).seq ((Code.region 22 #[{ dst := some 65, op := Op.load 3 (Operand.tmp 10), type := 3, pos := "law.go:187", after := #[], guard := none }, { dst := some 66, op := Op.binOp BinOp.eql 3 (Operand.tmp 65) (Operand.const (Value.int IntKind.i64 0)) 3, type := 4, pos := "law.go:187", after := #[{ on := 0, ground := Ground.data }], guard := none }, { dst := some 67, op := Op.move (Operand.tmp 66), type := 4, pos := "law.go:187", after := #[{ on := 1, ground := Ground.data }], guard := none }, { dst := some 68, op := Op.load 22 (Operand.tmp 11), type := 22, pos := "law.go:187", after := #[{ on := 2, ground := Ground.guard }], guard := some (2, true) }, { dst := some 69, op := Op.call { callee := Callee.builtin Builtin.len, args := #[Operand.tmp 68], argTypes := #[22] }, type := 3, pos := "law.go:187", after := #[{ on := 3, ground := Ground.data }, { on := 2, ground := Ground.guard }], guard := some (2, true) }, { dst := some 70, op := Op.load 3 (Operand.tmp 3), type := 3, pos := "law.go:187", after := #[{ on := 2, ground := Ground.guard }], guard := some (2, true) }, { dst := some 71, op := Op.binOp BinOp.eql 3 (Operand.tmp 69) (Operand.tmp 70) 3, type := 4, pos := "law.go:187", after := #[{ on := 4, ground := Ground.data }, { on := 5, ground := Ground.data }, { on := 2, ground := Ground.guard }], guard := some (2, true) }, { dst := some 72, op := Op.pick (Operand.tmp 67) (Operand.tmp 71) (Operand.const (Value.bool false)), type := 4, pos := "law.go:187", after := #[{ on := 2, ground := Ground.data }, { on := 6, ground := Ground.data }], guard := none }] false).seq (Code.cond (Operand.tmp 72) (Code.exit 4) Code.skip))))))).wpIn Fence.wide 8 Tryd.prog
      (fun e a' W' => (e = .normal ∨ e = .exit 4) ∧ ∃ D gv, w.heap.size ≤ D ∧ W'.heap[D]? = some (.deferred (some [])) ∧ a' = { tmps := #[x0, x1, x2, .pointer (some ⟨B3, 0, none⟩), x4, .pointer (some ⟨b5, 0, none⟩), x6, x7, x8, x9, .pointer (some ⟨BT, 0, none⟩), .pointer (some ⟨BG, 0, none⟩), x12, x13, x14, x15, x16, x17, x18, x19, x20, x21, x22, x23, x24, x25, x26, x27, x28, x29, x30, x31, x32, x33, x34, x35, x36, x37, x38, x39, x40, x41, x42, x43, x44, x45, x46, x47, x48, x49, x50, x51, x52, .func (.func 36) #[] #[.pointer (some ⟨Bs, 0, none⟩)], x54, x55, x56, x57, x58, x59, x60, x61, x62, x63, x64, x65, x66, x67, x68, x69, x70, x71, x72, x73, x74, x75, x76, x77, x78, x79, x80, x81, x82, x83, x84, x85, x86, x87, x88, x89, x90, x91, x92, x93, x94, x95, x96], defers := { target := .collected D, args := #[] } :: ds } ∧ R2 w B0 g m N BG l (l.take l.length) gv W')
      { tmps := #[x0, x1, x2, .pointer (some ⟨B3, 0, none⟩), x4, .pointer (some ⟨b5, 0, none⟩), x6, x7, x8, x9, .pointer (some ⟨BT, 0, none⟩), .pointer (some ⟨BG, 0, none⟩), x12, x13, x14, x15, x16, x17, x18, x19, x20, x21, x22, x23, x24, x25, x26, x27, x28, x29, x30, x31, x32, x33, x34, x35, x36, x37, x38, x39, x40, x41, x42, x43, x44, x45, x46, x47, x48, x49, x50, x51, x52, .func (.func 36) #[] #[.pointer (some ⟨Bs, 0, none⟩)], x54, x55, x56, x57, x58, x59, x60, x61, x62, x63, x64, x65, x66, x67, x68, x69, x70, x71, x72, x73, x74, x75, x76, x77, x78, x79, x80, x81, x82, x83, x84, x85, x86, x87, x88, x89, x90, x91, x92, x93, x94, x95, x96], defers := ds } w := by
  obtain ⟨T, hT⟩ : ∃ T : Nat → Prop, T = fun k => k = Bs ∨ (Value.slice A9 l.length c9).ownBlock = some k := ⟨_, rfl⟩
  have hTA : ∀ ad, A9 = some ad → T ad.block := fun ad e => by rw [hT, e]; exact .inr rfl
  have hTF : ∀ k, T k → FB B3 b5 Bs A9 l.length c9 k := fun k hk => by
    rw [hT] at hk
    rcases hk with hk | hk
    · exact .inr (.inr (.inl hk))
    · exact .inr (.inr (.inr hk))
  clear hT
  refine ownL (α := Fin l.length) rfl (by decide) (gf := 36) (lb := #[.pointer (some ⟨Bs, 0, none⟩)]) rfl trivial (enters_of Tryd.func36 (by kernel_rfl) rfl)
    (all_stops Fence.wide 7 trivial rfl (by decide) Bs A9 c9 l (by omega) T w FX.bs.lt FX.bs.cell (Rd.of_own FX.rs) hTA) (fun h k => Keeps.t h k) Keeps.b (Below.refl _ _) (fun _ => rfl)
    (fun pre W' => (∃ gv, R2 w B0 g m N BG l (came l pre) gv W')) (fun _ _ _ => False)
    (fun pre X Y row hs hg hr => by obtain ⟨gv, h⟩ := hs; exact ⟨gv, h.kept PR hg hr⟩) (fun _ _ _ _ _ hs _ _ => hs) ⟨gv0, by simpa [came] using H0⟩
    54 55 12 13 (fun x => .string (l[x.1]'x.2).1) (fun x => .string (l[x.1]'x.2).2) (fun _ _ _ h _ => h) ?assign ?body ?done (fun D c pre W1 _ _ h _ => h.elim)
  case assign =>
    intro l2 x W' K hK
    unfold encP
    gi_wp2
    exact hK
  case body =>
    rintro l1 pre x X hl1 - ⟨gv, S⟩ hlt
    obtain ⟨y, hy⟩ : ∃ y, l[x.1]'x.2 = y := ⟨_, rfl⟩
    have hym : y ∈ l := by rw [← hy]; exact List.getElem_mem _
    have fx := FX.only S.on (fun k hk => (hFB k hk).1)
    have hpl : (came l pre).length + 1 ≤ l.length := by rw [came_len]; exact hlt
    have hX := S.on.size
    have cG := S.bg.cell
    have lt2 := S.got.lt
    have pb := PR.pb
    have xTX := boxed_only xT S.on (fun e => e.elim hBT.1 hBT.2)
    obtain ⟨gl, hgl⟩ : ∃ gl, came l pre = gl := ⟨_, rfl⟩
    have hgl2 : came l (pre ++ [x]) = gl ++ [y] := by rw [came_app, hgl, hy]
    have hgll : gl.length = pre.length := by rw [← hgl, came_len]
    rw [hgl] at S hpl
    unfold G
    dsimp only
    rw [hy]
    have Hgl := Lib.hid (And.intro hgl2 (And.intro hgll hlt))
    clear hgl hgl2 hlt hgll
    have c5 : ∀ u (w3 : World), Only (fun k => gv.ownBlock = some k) X w3 → (w3.setCell ⟨BG, 0, none⟩ u).cell? ⟨b5, 0, none⟩ = some (.pointer (some ⟨g, 0, none⟩)) := fun u w3 O3 => by
      have h1 := boxed_only fx.b5 O3 (fun e => by have := (lt2 _ e).1; have := (hFB b5 (.inr (.inl rfl))).2; omega)
      exact (boxed_only h1 ((Only.refl (fun k => k = BG) w3).put (p := ⟨BG, 0, none⟩) (.inl rfl) u) (fun e => (hFB b5 (.inr (.inl rfl))).1 (.inr e))).cell
    gi_wp2_with (gi_at_builtin; refine wpListIn_app2b rfl _ _ elF rfl w.heap.size gv _ _ rfl S.got (.string y.1) (.string y.2) rfl rfl _ rfl rfl (by unfold maxLen; omega) (by omega) hX ?_; intro v3 w3 o3 O3 g3; obtain ⟨A3, q3, rfl⟩ := own_form o3; have b3' := boxed_only S.bg O3 (fun e => by have := (lt2 _ e).1; omega); have c3' := b3'.cell; have f3 := b3'.frozen; have c5' := c5 (.slice A3 (gl.length + 1) q3) w3 O3)
    obtain ⟨cur, hd⟩ := S.dc
    have O3' := Lib.hid O3
    have oXZ : Only (fun k => gv.ownBlock = some k ∨ k = BG) X (w3.setCell ⟨BG, 0, none⟩ (.slice A3 (gl.length + 1) q3)) := (O3.mono (fun b e => .inl e)).trans ((Only.refl (fun k => k = BG) w3).put (p := ⟨BG, 0, none⟩) (.inl rfl) _) (fun b e => .inl (.inr e))
    have d3 : Dc (w3.setCell ⟨BG, 0, none⟩ (.slice A3 (gl.length + 1) q3)) B0 g m cur N := hd.only oXZ (fun e => by
      rcases e with e | e
      · have := (lt2 _ e).1; have := PR.pg; omega
      · exact PR.ng e.symm) (fun e => by
      rcases e with e | e
      · have := (lt2 _ e).1; have := PR.pm; omega
      · exact PR.nm e.symm)
    have hdr := drop_calls B0 g m cur N y.1 _ d3 (hgd.ok _ hym).1
    refine ⟨trivial, (CallsIn.inRound l1 (callsIn_wide.2 hdr)).mono ?_⟩
    rintro e w4 ⟨rfl, d4, o4⟩
    obtain ⟨R', X', K'⟩ := S.next PR o3 O3 d4 o4
    have fx4 := FX.only R'.on (fun k hk => (hFB k hk).1)
    have cT4 := (boxed_only xT R'.on (fun e => e.elim hBT.1 hBT.2)).cell
    have cG4 := R'.bg.cell
    have c34 := fx4.b3.cell
    have KT : Keeps T X w4 := Keeps.of_only X' (fun k hk e => by
      have h1 := hFB k (hTF k hk)
      rcases e with e | e | e
      · have := (lt2 _ e).1; omega
      · exact h1.1 (.inr e)
      · exact h1.1 (.inl e))
    clear hdr d3 oXZ d4 o4 fx4 fx cG c3' f3 b3' c5' hd
    have hcmp : (((gl.length : Int) + 1) == lv) = false := by have := hns (gl.length + 1) (by omega) (by omega); simpa using this
    gi_wp2_with fail
    exact ⟨K', KT, _, by rw [Hgl.out.1]; exact R'⟩
  case done =>
    rintro D ys W1 hD hys ⟨gv, h⟩ hK
    refine ⟨.inl rfl, D, gv, hD, hK, rfl, ?_⟩
    rw [hys, came_all] at h
    rw [List.take_length]
    exact h
set_option maxHeartbeats 4000000 in
theorem range_stop (w : World) (B3 b5 Bs BT BG B0 B9 g m N : Nat) (lv : Int) (A9 : Option Addr) (c9 : Nat) (l : List Fld) (hlen : l.length ≤ 1048576) (hgd : Gd l) (FX : Fx B3 b5 Bs lv g A9 c9 l B9 w) (xT : Boxed w BT 3 (.int .i64 0)) (gv0 : Value) (H0 : R2 w B0 g m N BG l [] gv0 w) (PR : Pr w g m BG)
    (hFB : ∀ k, FB B3 b5 Bs A9 l.length c9 k → ¬ (k = m ∨ k = BG) ∧ k < w.heap.size) (hBT : BT ≠ m ∧ BT ≠ BG) (Q : Nat) (hQ : lv = Q) (hQ1 : 1 ≤ Q) (hQ2 : Q ≤ l.length) {ds : List Deferred} {x0 x1 x2 x4 x6 x7 x8 x9 x12 x13 x14 x15 x16 x17 x18 x19 x20 x21 x22 x23 x24 x25 x26 x27 x28 x29 x30 x31 x32 x33 x34 x35 x36 x37 x38 x39 x40 x41 x42 x43 x44 x45 x46 x47 x48 x49 x50 x51 x52 x54 x55 x56 x57 x58 x59 x60 x61 x62 x63 x64 x65 x66 x67 x68 x69 x70 x71 x72 x73 x74 x75 x76 x77 x78 x79 x80 x81 x82 x83 x84 x85 x86 x87 x88 x89 x90 x91 x92 x93 x94 x95 x96 : Value} :
    ((Code.rangeFunc (Operand.tmp 53) #[54, 55] ((Code.region 18 #[{ dst := some 12, op := Op.assign (Operand.tmp 54), type := 9, pos := "law.go:184", after := #[], guard := none }] false).seq (Code.region 19 #[{ dst := some 13, op := Op.assign (Operand.tmp 55), type := 9, pos := "law.go:184", after := #[], guard := none }] false)) (Code.block 5 ((Code.region 20 #[{ dst := some 56, op := Op.load 22 (Operand.tmp 11), type := 22, pos := "law.go:185", after := #[], guard := none }, { dst := some 57, op := Op.move (Operand.tmp 12), type := 9, pos := "law.go:185", after := #[], guard := none }, { dst := some 58, op := Op.move (Operand.tmp 13), type := 9, pos := "law.go:185", after := #[], guard := none }, { dst := some 59, op := Op.build 52 #[(0, Operand.tmp 57), (1, Operand.tmp 58)], type := 52, pos := "law.go:185", after := #[{ on := 1, ground := Ground.data }, { on := 2, ground := Ground.data }], guard := none }, { dst := some 60, op := Op.buildSlice 22 1 #[(0, Operand.tmp 59)], type := 22, pos := "law.go:185", after := #[{ on := 3, ground := Ground.data }], guard := none }, { dst := some 61, op := Op.call { callee := Callee.builtin Builtin.append, args := #[Operand.tmp 56, Operand.tmp 60], argTypes := #[22, 22] }, type := 22, pos := "law.go:185", after := #[{ on := 0, ground := Ground.data }, { on := 4, ground := Ground.data }], guard := none }, { dst := none, op := Op.store 22 (Operand.tmp 11) (Operand.tmp 61), type := 0, pos := "law.go:185", after := #[{ on := 5, ground := Ground.data }, { on := 5, ground := Ground.chain }, { on := 0, ground := Ground.phase }, { on := 1, ground := Ground.phase }, { on := 2, ground := Ground.phase }, { on := 3, ground := Ground.phase }, { on := 4, ground := Ground.phase }, { on := 5, ground := Ground.phase }], guard := none }] false).seq ((Code.region 21 #[{ dst := some 62, op := Op.load 24 (Operand.tmp 5), type := 24, pos := "law.go:186", after := #[], guard := none }, { dst := some 63, op := Op.move (Operand.tmp 12), type := 9, pos := "law.go:186", after := #[], guard := none }, { dst := some 64, op := Op.call { callee := Callee.value (Operand.func 14), args := #[Operand.tmp 62, Operand.tmp 63], argTypes := #[24, 9] }, type := 4, pos := "law.go:186", after := #[{ on := 0, ground := Ground.data }, { on := 1, ground := Ground.data }], guard := none }] false).seq ((Code.region 22 #[{ dst := some 65, op := Op.load 3 (Operand.tmp 10), type := 3, pos := "law.go:187", after := #[], guard := none }, { dst := some 66, op := Op.binOp BinOp.eql 3 (Operand.tmp 65) (Operand.const (Value.int IntKind.i64 0)) 3, type := 4, pos := "law.go:187", after := #[{ on := 0, ground := Ground.data }], guard := none }, { dst := some 67, op := Op.move (Operand.tmp 66), type := 4, pos := "law.go:187", after := #[{ on := 1, ground := Ground.data }], guard := none }, { dst := some 68, op := Op.load 22 (Operand.tmp 11), type := 22, pos := "law.go:187", after := #[{ on := 2, ground := Ground.guard }], guard := some (2, true) }, { dst := some 69, op := Op.call { callee := Callee.builtin Builtin.len, args := #[Operand.tmp 68], argTypes := #[22] }, type := 3, pos := "law.go:187", after := #[{ on := 3, ground := Ground.data }, { on := 2, ground := Ground.guard }], guard := some (2, true) }, { dst := some 70, op := Op.load 3 (Operand.tmp 3), type := 3, pos := "law.go:187", after := #[{ on := 2, ground := Ground.guard }], guard := some (2, true) }, { dst := some 71, op := Op.binOp BinOp.eql 3 (Operand.tmp 69) (Operand.tmp 70) 3, type := 4, pos := "law.go:187", after := #[{ on := 4, ground := Ground.data }, { on := 5, ground := Ground.data }, { on := 2, ground := Ground.guard }], guard := some (2, true) }, { dst := some 72, op := Op.pick (Operand.tmp 67) (Operand.tmp 71) (Operand.const (Value.bool false)), type := 4, pos := "law.go:187", after := #[{ on := 2, ground := Ground.data }, { on := 6, ground := Ground.data }], guard := none }] false).seq (Code.cond (Operand.tmp 72) (Code.exit 4) Code.skip))))))).wpIn Fence.wide 8 Tryd.prog
      (fun e a' W' => (e = .normal ∨ e = .exit 4) ∧ ∃ D gv, w.heap.size ≤ D ∧ W'.heap[D]? = some (.deferred (some [])) ∧ a' = { tmps := #[x0, x1, x2, .pointer (some ⟨B3, 0, none⟩), x4, .pointer (some ⟨b5, 0, none⟩), x6, x7, x8, x9, .pointer (some ⟨BT, 0, none⟩), .pointer (some ⟨BG, 0, none⟩), x12, x13, x14, x15, x16, x17, x18, x19, x20, x21, x22, x23, x24, x25, x26, x27, x28, x29, x30, x31, x32, x33, x34, x35, x36, x37, x38, x39, x40, x41, x42, x43, x44, x45, x46, x47, x48, x49, x50, x51, x52, .func (.func 36) #[] #[.pointer (some ⟨Bs, 0, none⟩)], x54, x55, x56, x57, x58, x59, x60, x61, x62, x63, x64, x65, x66, x67, x68, x69, x70, x71, x72, x73, x74, x75, x76, x77, x78, x79, x80, x81, x82, x83, x84, x85, x86, x87, x88, x89, x90, x91, x92, x93, x94, x95, x96], defers := { target := .collected D, args := #[] } :: ds } ∧ R2 w B0 g m N BG l (l.take Q) gv W')
      { tmps := #[x0, x1, x2, .pointer (some ⟨B3, 0, none⟩), x4, .pointer (some ⟨b5, 0, none⟩), x6, x7, x8, x9, .pointer (some ⟨BT, 0, none⟩), .pointer (some ⟨BG, 0, none⟩), x12, x13, x14, x15, x16, x17, x18, x19, x20, x21, x22, x23, x24, x25, x26, x27, x28, x29, x30, x31, x32, x33, x34, x35, x36, x37, x38, x39, x40, x41, x42, x43, x44, x45, x46, x47, x48, x49, x50, x51, x52, .func (.func 36) #[] #[.pointer (some ⟨Bs, 0, none⟩)], x54, x55, x56, x57, x58, x59, x60, x61, x62, x63, x64, x65, x66, x67, x68, x69, x70, x71, x72, x73, x74, x75, x76, x77, x78, x79, x80, x81, x82, x83, x84, x85, x86, x87, x88, x89, x90, x91, x92, x93, x94, x95, x96], defers := ds } w := by
  obtain ⟨T, hT⟩ : ∃ T : Nat → Prop, T = fun k => k = Bs ∨ (Value.slice A9 l.length c9).ownBlock = some k := ⟨_, rfl⟩
  have hTA : ∀ ad, A9 = some ad → T ad.block := fun ad e => by rw [hT, e]; exact .inr rfl
  have hTF : ∀ k, T k → FB B3 b5 Bs A9 l.length c9 k := fun k hk => by
    rw [hT] at hk
    rcases hk with hk | hk
    · exact .inr (.inr (.inl hk))
    · exact .inr (.inr (.inr hk))
  clear hT
  refine ownL (α := Fin l.length) rfl (by decide) (gf := 36) (lb := #[.pointer (some ⟨Bs, 0, none⟩)]) rfl trivial (enters_of Tryd.func36 (by kernel_rfl) rfl)
    (all_stops Fence.wide 7 trivial rfl (by decide) Bs A9 c9 l (by omega) T w FX.bs.lt FX.bs.cell (Rd.of_own FX.rs) hTA) (fun h k => Keeps.t h k) Keeps.b (Below.refl _ _) (fun _ => rfl)
    (fun pre W' => (∃ gv, R2 w B0 g m N BG l (came l pre) gv W') ∧ pre.length < Q) (fun c pre W' => c = .exit 4 ∧ pre.length = Q ∧ ∃ gv, R2 w B0 g m N BG l (came l pre) gv W')
    (fun pre X Y row hs hg hr => ⟨(by obtain ⟨⟨gv, h⟩, _⟩ := hs; exact ⟨gv, h.kept PR hg hr⟩), hs.2⟩) (fun c pre X Y row hs hg hr => ⟨hs.1, hs.2.1, by obtain ⟨_, _, gv, h⟩ := hs; exact ⟨gv, h.kept PR hg hr⟩⟩) ⟨⟨gv0, by simpa [came] using H0⟩, by simp; omega⟩
    54 55 12 13 (fun x => .string (l[x.1]'x.2).1) (fun x => .string (l[x.1]'x.2).2) (fun _ _ _ h _ => h) ?assign ?body ?done ?stop
  case assign =>
    intro l2 x W' K hK
    unfold encP
    gi_wp2
    exact hK
  case body =>
    rintro l1 pre x X hl1 - ⟨⟨gv, S⟩, hpQ⟩ hlt
    obtain ⟨y, hy⟩ : ∃ y, l[x.1]'x.2 = y := ⟨_, rfl⟩
    have hym : y ∈ l := by rw [← hy]; exact List.getElem_mem _
    have fx := FX.only S.on (fun k hk => (hFB k hk).1)
    have hpl : (came l pre).length + 1 ≤ l.length := by rw [came_len]; exact hlt
    have hX := S.on.size
    have cG := S.bg.cell
    have lt2 := S.got.lt
    have pb := PR.pb
    have xTX := boxed_only xT S.on (fun e => e.elim hBT.1 hBT.2)
    obtain ⟨gl, hgl⟩ : ∃ gl, came l pre = gl := ⟨_, rfl⟩
    have hgl2 : came l (pre ++ [x]) = gl ++ [y] := by rw [came_app, hgl, hy]
    have hgll : gl.length = pre.length := by rw [← hgl, came_len]
    rw [hgl] at S hpl
    unfold G
    dsimp only
    rw [hy]
    have Hgl := Lib.hid (And.intro hgl2 (And.intro hgll hlt))
    clear hgl hgl2 hlt hgll
    have c5 : ∀ u (w3 : World), Only (fun k => gv.ownBlock = some k) X w3 → (w3.setCell ⟨BG, 0, none⟩ u).cell? ⟨b5, 0, none⟩ = some (.pointer (some ⟨g, 0, none⟩)) := fun u w3 O3 => by
      have h1 := boxed_only fx.b5 O3 (fun e => by have := (lt2 _ e).1; have := (hFB b5 (.inr (.inl rfl))).2; omega)
      exact (boxed_only h1 ((Only.refl (fun k => k = BG) w3).put (p := ⟨BG, 0, none⟩) (.inl rfl) u) (fun e => (hFB b5 (.inr (.inl rfl))).1 (.inr e))).cell
    gi_wp2_with (gi_at_builtin; refine wpListIn_app2b rfl _ _ elF rfl w.heap.size gv _ _ rfl S.got (.string y.1) (.string y.2) rfl rfl _ rfl rfl (by unfold maxLen; omega) (by omega) hX ?_; intro v3 w3 o3 O3 g3; obtain ⟨A3, q3, rfl⟩ := own_form o3; have b3' := boxed_only S.bg O3 (fun e => by have := (lt2 _ e).1; omega); have c3' := b3'.cell; have f3 := b3'.frozen; have c5' := c5 (.slice A3 (gl.length + 1) q3) w3 O3)
    obtain ⟨cur, hd⟩ := S.dc
    have O3' := Lib.hid O3
    have oXZ : Only (fun k => gv.ownBlock = some k ∨ k = BG) X (w3.setCell ⟨BG, 0, none⟩ (.slice A3 (gl.length + 1) q3)) := (O3.mono (fun b e => .inl e)).trans ((Only.refl (fun k => k = BG) w3).put (p := ⟨BG, 0, none⟩) (.inl rfl) _) (fun b e => .inl (.inr e))
    have d3 : Dc (w3.setCell ⟨BG, 0, none⟩ (.slice A3 (gl.length + 1) q3)) B0 g m cur N := hd.only oXZ (fun e => by
      rcases e with e | e
      · have := (lt2 _ e).1; have := PR.pg; omega
      · exact PR.ng e.symm) (fun e => by
      rcases e with e | e
      · have := (lt2 _ e).1; have := PR.pm; omega
      · exact PR.nm e.symm)
    have hdr := drop_calls B0 g m cur N y.1 _ d3 (hgd.ok _ hym).1
    refine ⟨trivial, (CallsIn.inRound l1 (callsIn_wide.2 hdr)).mono ?_⟩
    rintro e w4 ⟨rfl, d4, o4⟩
    obtain ⟨R', X', K'⟩ := S.next PR o3 O3 d4 o4
    have fx4 := FX.only R'.on (fun k hk => (hFB k hk).1)
    have cT4 := (boxed_only xT R'.on (fun e => e.elim hBT.1 hBT.2)).cell
    have cG4 := R'.bg.cell
    have c34 := fx4.b3.cell
    have KT : Keeps T X w4 := Keeps.of_only X' (fun k hk e => by
      have h1 := hFB k (hTF k hk)
      rcases e with e | e | e
      · have := (lt2 _ e).1; omega
      · exact h1.1 (.inr e)
      · exact h1.1 (.inl e))
    clear hdr d3 oXZ d4 o4 fx4 fx cG c3' f3 b3' c5' hd
    subst hQ
    by_cases hs : gl.length + 1 = Q
    · have hcmp : (((gl.length : Int) + 1) == (Q : Int)) = true := by simp; omega
      have Hs := Lib.hid hs
      clear hs
      gi_wp2_with fail
      exact ⟨K', rfl, by rw [List.length_append, ← Hgl.out.2.1]; exact Hs.out, _, by rw [Hgl.out.1]; exact R'⟩
    · have hcmp : (((gl.length : Int) + 1) == (Q : Int)) = false := by simp; omega
      have Hs := Lib.hid hs
      clear hs
      gi_wp2_with fail
      exact ⟨K', KT, ⟨_, by rw [Hgl.out.1]; exact R'⟩, by rw [List.length_append, ← Hgl.out.2.1]; have := Hs.out; have := hpQ; have := Hgl.out.2.1; simp; omega⟩
  case done =>
    rintro D ys W1 hD hys ⟨_, hl⟩ hK
    rw [hys, upto_len (Nat.le_refl _)] at hl
    omega
  case stop =>
    rintro D cc pre W1 hD ⟨k, hk, rfl⟩ ⟨rfl, hl, gv, h⟩ hK
    rw [upto_len hk] at hl
    subst hl
    have hR : R2 w B0 g m N BG l (l.take k) gv W1 := by rw [← came_upto l k hk]; exact h
    gi_wp2
    exact ⟨D, hD, hK, rfl, gv, hR⟩
end Go.Proofs.YthgdkmbcibfehaaDoor.DcU
