/-
  What holds throughout DueWalks. Conditions: as stated.
-/
import Derived.Test.YtabgngdimbflkaaDvB
import Derived.Test.YtabgngdimbflkaaDwX
set_option maxRecDepth 100000
set_option linter.unusedSimpArgs false
set_option linter.unusedVariables false
namespace Go.Proofs.Ytabgngdimbflkaa.DwA
open Go.RowKit Go.Shelf Go.Proofs.Ytabgngdimbflkaa.Mem Go.Proofs.Ytabgngdimbflkaa.DuA Go.Proofs.Ytabgngdimbflkaa.DuM Go.Proofs.Ytabgngdimbflkaa.DuN Go.Proofs.Ytabgngdimbflkaa.DuB Go.Proofs.Ytabgngdimbflkaa.DuO Go.Proofs.Ytabgngdimbflkaa.DsC Go.Proofs.Ytabgngdimbflkaa.DsE Go.Proofs.Ytabgngdimbflkaa.DsH Go.Proofs.Ytabgngdimbflkaa.DsI Go.Proofs.Ytabgngdimbflkaa.DsJ Go.Proofs.Ytabgngdimbflkaa.DsK Go.Proofs.Ytabgngdimbflkaa.DsL Go.Proofs.Ytabgngdimbflkaa.DsM Go.Proofs.Ytabgngdimbflkaa.DuR Go.Proofs.Ytabgngdimbflkaa.DuS Go.Proofs.Ytabgngdimbflkaa.DuT Go.Proofs.Ytabgngdimbflkaa.DuU Go.Proofs.Ytabgngdimbflkaa.DuV Go.Proofs.Ytabgngdimbflkaa.DuW Go.Proofs.Ytabgngdimbflkaa.DuY Go.Proofs.Ytabgngdimbflkaa.DuP Go.Proofs.Ytabgngdimbflkaa.DvA

/-- The boxes that stay as they are. -/
structure Fx (W : World) (B3 B4 B5 B6 B8 B9 Bs D1 g h : Nat) (AM : Option Addr) (nM cM : Nat) (Aw : Option Addr) (cw : Nat) (As : Option Addr) (cs : Nat) (L : List (Int × ByteArray)) (w : World) : Prop where
  b3 : Boxed w B3 22 (.slice AM nM cM)
  b4 : Boxed w B4 4 (.bool false)
  b5 : Boxed w B5 23 (.pointer (some ⟨g, 0, none⟩))
  b6 : Boxed w B6 25 (.pointer (some ⟨h, 0, none⟩))
  b8 : Boxed w B8 26 (.slice Aw L.length cw)
  rw : w.ownsRow W.heap.size 43 2 (.slice Aw L.length cw) L.length (entsR L)
  b9 : Boxed w B9 40 (.func (.func 34) #[] #[.pointer (some ⟨Bs, 0, none⟩)])
  bs : Boxed w Bs 69 (.slice As L.length cs)
  rs : OwnE w W.heap.size (.slice As L.length cs) L
  d1 : w.heap[D1]? = some (.deferred (some []))
/-- Their blocks. -/
def FB (B3 B4 B5 B6 B8 B9 Bs D1 : Nat) (Aw : Option Addr) (cw : Nat) (As : Option Addr) (cs n : Nat) (k : Nat) : Prop :=
  k = B3 ∨ k = B4 ∨ k = B5 ∨ k = B6 ∨ k = B8 ∨ (Value.slice Aw n cw).ownBlock = some k ∨ k = B9 ∨ k = Bs ∨ (Value.slice As n cs).ownBlock = some k ∨ k = D1
theorem Fx.only {W : World} {B3 B4 B5 B6 B8 B9 Bs D1 g h : Nat} {AM : Option Addr} {nM cM : Nat} {Aw : Option Addr} {cw : Nat} {As : Option Addr} {cs : Nat} {L : List (Int × ByteArray)} {w w' : World} {S : Nat → Prop}
    (f : Fx W B3 B4 B5 B6 B8 B9 Bs D1 g h AM nM cM Aw cw As cs L w) (ho : Only S w w') (hs : ∀ k, FB B3 B4 B5 B6 B8 B9 Bs D1 Aw cw As cs L.length k → ¬ S k) : Fx W B3 B4 B5 B6 B8 B9 Bs D1 g h AM nM cM Aw cw As cs L w' := by
  unfold FB at hs
  exact ⟨ho.heap f.b3 (hs _ (by simp)), ho.heap f.b4 (hs _ (by simp)), ho.heap f.b5 (hs _ (by simp)), ho.heap f.b6 (hs _ (by simp)), ho.heap f.b8 (hs _ (by simp)), own_only f.rw ho (fun k hk => hs _ (by simp [hk])), ho.heap f.b9 (hs _ (by simp)), ho.heap f.bs (hs _ (by simp)),
    own_only f.rs ho (fun k hk => hs _ (by simp [hk])), ho.heap f.d1 (hs _ (by simp))⟩

section
variable (W W2 : World) (g m h BG BA N0 : Nat) (v1 : Value) (L : List (Int × ByteArray))
/-- The blocks that the rounds turn. -/
def S1 (g m h BG BA : Nat) (v1 : Value) (k : Nat) : Prop := IxS g m v1 k ∨ k = h ∨ k = BG ∨ k = BA
/-- Between two rounds of the second loop. -/
structure L2 (n : Nat) (pre : List (Fin L.length)) (t : Nat) (v : Value) (l : List (Int × ByteArray)) (A : Option Addr) (c : Nat) (gv : Value) (X : World) : Prop where
  bo : Bo X W.heap.size g m v l h A c l (N0 + n)
  bg : Boxed X BG 26 gv
  got : X.ownsRow W2.heap.size 43 2 gv (came L pre).length (entsR (came L pre))
  ba : Boxed X BA 3 (.int .i64 t)
  vo : ∀ k, v.ownBlock = some k → v1.ownBlock = some k ∨ W2.heap.size ≤ k
  go : ∀ k, gv.ownBlock = some k → v.ownBlock ≠ some k
  far : ∀ ad, A = some ad → ad.block ≠ BG ∧ ad.block ≠ BA ∧ gv.ownBlock ≠ some ad.block
  on : Only (S1 g m h BG BA v1) W2 X
end
/-- What lies where the second loop begins. -/
structure Pr (W W2 : World) (g m h BG BA : Nat) (v1 : Value) : Prop where
  pg : W.heap.size ≤ g ∧ g < W2.heap.size
  pm : W.heap.size ≤ m ∧ m < W2.heap.size
  ph : W.heap.size ≤ h ∧ h < W2.heap.size
  pv : ∀ k, v1.ownBlock = some k → W.heap.size ≤ k ∧ k < W2.heap.size
  pbg : W.heap.size ≤ BG ∧ BG < W2.heap.size
  pba : W.heap.size ≤ BA ∧ BA < W2.heap.size
  ga : BG ≠ BA
  nx : ¬ IxS g m v1 BG ∧ ¬ IxS g m v1 BA
  nh : h ≠ BG ∧ h ≠ BA
  bel : Below W.heap.size W W2
section
variable {W W2 : World} {g m h BG BA N0 n t : Nat} {v1 : Value} {L : List (Int × ByteArray)} {pre : List (Fin L.length)} {v : Value} {l : List (Int × ByteArray)} {A : Option Addr} {c : Nat} {gv : Value} {X Y : World}
theorem L2.bel (s : L2 W W2 g m h BG BA N0 v1 L n pre t v l A c gv X) (p : Pr W W2 g m h BG BA v1) : Below W.heap.size W X :=
  s.on.after p.bel (Nat.le_refl _) (by
    intro k hk
    rcases hk with hk | hk | hk | hk
    · rcases hk with hk | hk | hk
      · rw [hk]; exact p.pg.1
      · rw [hk]; exact p.pm.1
      · exact (p.pv k hk).1
    · rw [hk]; exact p.ph.1
    · rw [hk]; exact p.pbg.1
    · rw [hk]; exact p.pba.1)
theorem ixs_of (s : L2 W W2 g m h BG BA N0 v1 L n pre t v l A c gv X) {k : Nat} (hk : IxS g m v k) : IxS g m v1 k ∨ W2.heap.size ≤ k := by
  rcases hk with hk | hk | hk
  · exact .inl (.inl hk)
  · exact .inl (.inr (.inl hk))
  · rcases s.vo k hk with hk | hk
    · exact .inl (.inr (.inr hk))
    · exact .inr hk
theorem nx_of (s : L2 W W2 g m h BG BA N0 v1 L n pre t v l A c gv X) (p : Pr W W2 g m h BG BA v1) : ¬ IxS g m v BG ∧ ¬ IxS g m v BA := by
  have h1 := p.pbg
  have h2 := p.pba
  exact ⟨fun hk => Or.elim (ixs_of s hk) p.nx.1 (by omega), fun hk => Or.elim (ixs_of s hk) p.nx.2 (by omega)⟩
theorem gx_of (s : L2 W W2 g m h BG BA N0 v1 L n pre t v l A c gv X) (p : Pr W W2 g m h BG BA v1) : ∀ k, gv.ownBlock = some k → ¬ IxS g m v k ∧ k ≠ h ∧ k ≠ BG ∧ k ≠ BA := fun k hk => by
  have h0 := (s.got.lt k hk).1
  have h1 := p.pg
  have h2 := p.pm
  have h3 := p.ph
  have h4 := p.pbg
  have h5 := p.pba
  refine ⟨fun hx => ?_, by omega, by omega, by omega⟩
  rcases hx with hx | hx | hx
  · omega
  · omega
  · exact s.go k hk hx
theorem yx_kept {w w' : World} {B h c : Nat} {A : Option Addr} {l : List (Int × ByteArray)} (y : Yx w B h A c l) {row : Option Nat} (hg : w.grownBy w' row) (hr : ∀ r, row = some r → ∃ o : Obj, w.heap[r]? = some o ∧ o.isCells = false) : Yx w' B h A c l := by
  have hO := Only.of_grown hg
  refine ⟨hO.heap y.hp (fun e => ?_), ⟨y.rd.len, y.rd.cap, y.rd.big, fun j x hx => ?_⟩, y.hB, fun ad e => ⟨(y.nh ad e).1, Nat.lt_of_lt_of_le (y.nh ad e).2 hO.size⟩⟩
  · obtain ⟨o, ho, hc⟩ := hr _ e
    rw [y.hp] at ho; cases ho; cases hc
  · obtain ⟨ad, e, hc⟩ := y.rd.get j x hx
    exact ⟨ad, e, cell_kept hc hg hr⟩
theorem L2.kept (s : L2 W W2 g m h BG BA N0 v1 L n pre t v l A c gv X) (p : Pr W W2 g m h BG BA v1) {row : Option Nat} (hg : X.grownBy Y row) (hr : ∀ r, row = some r → W2.heap.size ≤ r ∧ ∃ o : Obj, X.heap[r]? = some o ∧ o.isCells = false) : L2 W W2 g m h BG BA N0 v1 L n pre t v l A c gv Y := by
  have hO := Only.of_grown hg
  have hn : ∀ b, (∀ o, X.heap[b]? = some o → o.isCells = true) → ¬ (row = some b) := fun b hb e => by
    obtain ⟨_, o, ho, hc⟩ := hr b e
    rw [hb o ho] at hc; cases hc
  have hx : ∀ k, IxS g m v k → ¬ (row = some k) := fun k hk e => by
    have h1 := (hr k e).1
    have h2 := p.pg
    have h3 := p.pm
    rcases hk with hk | hk | hk
    · omega
    · omega
    · exact hn k (own_cells s.bo.x.own k hk) e
  refine ⟨⟨s.bo.x.only hO hx, yx_kept s.bo.y hg (fun r e => (hr r e).2), s.bo.ap, s.bo.ar⟩, boxed_only s.bg hO (hn _ (boxed_cells s.bg)), own_only s.got hO (fun k hk => hn k (own_cells s.got k hk)), boxed_only s.ba hO (hn _ (boxed_cells s.ba)), s.vo, s.go, s.far, s.on.trans hO (fun b e => .inr (hr b e).1)⟩
theorem L2.below (s : L2 W W2 g m h BG BA N0 v1 L n pre t v l A c gv X) (hb : Below X.heap.size X Y) : L2 W W2 g m h BG BA N0 v1 L n pre t v l A c gv Y :=
  ⟨s.bo.below hb, (hb.block _ s.bg.lt).trans s.bg, own_only s.got (only_b (S := fun _ => False) hb) (fun _ _ => id), (hb.block _ s.ba.lt).trans s.ba, s.vo, s.go, s.far, s.on.trans (only_b (S := fun _ => False) hb) (fun b e => e.elim)⟩
/-- The blocks that one round turns. -/
def SB (g m h BG BA : Nat) (v gv : Value) (k : Nat) : Prop := IxS g m v k ∨ k = h ∨ k = BG ∨ k = BA ∨ gv.ownBlock = some k
theorem s1_of (s : L2 W W2 g m h BG BA N0 v1 L n pre t v l A c gv X) {k : Nat} (hk : SB g m h BG BA v gv k) : S1 g m h BG BA v1 k ∨ W2.heap.size ≤ k := by
  rcases hk with hk | hk | hk | hk | hk
  · exact Or.elim (ixs_of s hk) (fun q => .inl (.inl q)) .inr
  · exact .inl (.inr (.inl hk))
  · exact .inl (.inr (.inr (.inl hk)))
  · exact .inl (.inr (.inr (.inr hk)))
  · exact .inr (s.got.lt k hk).1
theorem L2.app (s : L2 W W2 g m h BG BA N0 v1 L n pre t v l A c gv X) (p : Pr W W2 g m h BG BA v1) (x : Fin L.length) {w3 : World} {A3 : Option Addr} {n3 q3 : Nat}
    (o3 : w3.ownsRow W2.heap.size 43 2 (.slice A3 n3 q3) ((came L pre).length + 1) (entsR (came L pre) ++ [.string (L[x.1]'x.2).2, .int .i64 (L[x.1]'x.2).1])) (O3 : Only (fun k => gv.ownBlock = some k) X w3)
    (g3 : (Value.slice A3 n3 q3).ownBlock = gv.ownBlock ∨ ∃ k, (Value.slice A3 n3 q3).ownBlock = some k ∧ X.heap.size ≤ k) :
    L2 W W2 g m h BG BA N0 v1 L n (pre ++ [x]) t v l A c (.slice A3 n3 q3) (w3.setCell ⟨BG, 0, none⟩ (.slice A3 n3 q3)) ∧ Only (SB g m h BG BA v gv) X (w3.setCell ⟨BG, 0, none⟩ (.slice A3 n3 q3)) := by
  have hO : Only (fun k => k = BG) w3 (w3.setCell ⟨BG, 0, none⟩ (.slice A3 n3 q3)) := (Only.refl (fun k => k = BG) w3).put (p := ⟨BG, 0, none⟩) (.inl rfl) _
  have XZ : Only (fun k => gv.ownBlock = some k ∨ k = BG) X (w3.setCell ⟨BG, 0, none⟩ (.slice A3 n3 q3)) := (O3.mono (fun b e => .inl e)).trans hO (fun b e => .inl (.inr e))
  have gx := gx_of s p
  have nx := nx_of s p
  have hs := s.on.size
  have lb := p.pbg
  have la := p.pba
  have gl := s.got.lt
  have hga := p.ga
  have hnh := p.nh
  have hlt := fun k hk => (s.bo.x.lt k hk).2
  have nh := s.bo.y.nh
  have hl := s.bo.y.lt
  have nn : ∀ k, IxS g m v k → ¬ (gv.ownBlock = some k ∨ k = BG) := fun k hk e => Or.elim e (fun e => (gx k e).1 hk) (fun e => nx.1 (by rw [← e]; exact hk))
  have b3 := boxed_only s.bg O3 (fun e => by have := (gl _ e).1; omega)
  refine ⟨⟨⟨s.bo.x.only XZ nn, s.bo.y.only XZ (fun e => Or.elim e (fun e => (gx _ e).2.1 rfl) (fun e => by omega)) (fun ad e e' => Or.elim e' (fun e' => (s.far ad e).2.2 e') (fun e' => (s.far ad e).1 e')), s.bo.ap, s.bo.ar⟩, Boxed.set _ b3, ?_, boxed_only s.ba XZ (fun e => Or.elim e (fun e => (gx _ e).2.2.2 rfl) (fun e => by omega)), s.vo, fun k hk e => ?_, fun ad e => ⟨(s.far ad e).1, (s.far ad e).2.1, fun e' => ?_⟩, s.on.trans XZ (fun b e => ?_)⟩, XZ.mono (fun k e => Or.elim e (fun e => .inr (.inr (.inr (.inr e)))) (fun e => .inr (.inr (.inl e))))⟩
  · rw [came_app, entsR_app, List.length_append]
    exact own_only o3 hO (fun k hk e => by have := (o3.lt k hk).1; omega)
  · rcases g3 with f | ⟨k', f, h'⟩
    · rw [f] at hk; exact s.go k hk e
    · rw [f] at hk; injection hk with hk; have := hlt k (.inr (.inr e)); omega
  · rcases g3 with f | ⟨k', f, h'⟩
    · rw [f] at e'; exact (s.far ad e).2.2 e'
    · rw [f] at e'; injection e' with e'; have := (nh ad e).2; omega
  · rcases e with e | e
    · exact .inr (gl b e).1
    · exact .inl (.inr (.inr (.inl e)))
theorem L2.did (s : L2 W W2 g m h BG BA N0 v1 L n pre t v l A c gv X) (p : Pr W W2 g m h BG BA v1) {e : Ending} (d : DwX.Did W.heap.size g m v h (N0 + n) A X e Y) :
    e = .returned (.bool true) ∧ ∃ v' l' A' c', L2 W W2 g m h BG BA N0 v1 L (n + 1) pre t v' l' A' c' gv Y ∧ Only (fun k => IxS g m v k ∨ k = h) X Y := by
  obtain ⟨he, l', v', A', c', b, o, hv, ha⟩ := d
  have gx := gx_of s p
  have nx := nx_of s p
  have hnh := p.nh
  have nh := s.bo.y.nh
  have gl := s.got.lt
  have hs := s.on.size
  have lb := p.pbg
  have la := p.pba
  refine ⟨he, v', l', A', c', ⟨b, boxed_only s.bg o (fun e => Or.elim e nx.1 (fun e => by omega)), own_only s.got o (fun k hk e => Or.elim e (gx k hk).1 (gx k hk).2.1), boxed_only s.ba o (fun e => Or.elim e nx.2 (fun e => by omega)), fun k hk => ?_, fun k hk e => ?_, fun ad e => ?_, s.on.trans o (fun k hk => ?_)⟩, o⟩
  · rcases hv with f | ⟨k', f, h'⟩
    · exact s.vo k (by rw [← f]; exact hk)
    · rw [f] at hk; injection hk with hk; exact .inr (by omega)
  · rcases hv with f | ⟨k', f, h'⟩
    · exact s.go k hk (by rw [← f]; exact e)
    · rw [f] at e; injection e with e; have := (gl k hk).2; omega
  · rcases ha ad e with ⟨a0, e0, hb⟩ | hb
    · rw [hb]; exact s.far a0 e0
    · exact ⟨by omega, by omega, fun e' => by have := (gl _ e').2; omega⟩
  · rcases hk with hk | hk
    · exact Or.elim (ixs_of s hk) (fun q => .inl (.inl q)) .inr
    · exact .inl (.inr (.inl hk))
theorem L2.up (s : L2 W W2 g m h BG BA N0 v1 L n pre t v l A c gv X) (p : Pr W W2 g m h BG BA v1) (t' : Nat) :
    L2 W W2 g m h BG BA N0 v1 L n pre t' v l A c gv (X.setCell ⟨BA, 0, none⟩ (.int .i64 t')) ∧ Only (fun k => k = BA) X (X.setCell ⟨BA, 0, none⟩ (.int .i64 t')) := by
  have hO : Only (fun k => k = BA) X (X.setCell ⟨BA, 0, none⟩ (.int .i64 t')) := (Only.refl (fun k => k = BA) X).put (p := ⟨BA, 0, none⟩) (.inl rfl) _
  have gx := gx_of s p
  have nx := nx_of s p
  have hnh := p.nh
  have hga := p.ga
  exact ⟨⟨⟨s.bo.x.only hO (fun k hk e => nx.2 (by rw [← e]; exact hk)), s.bo.y.only hO (by omega) (fun ad e e' => (s.far ad e).2.1 e'), s.bo.ap, s.bo.ar⟩, boxed_only s.bg hO (by omega), own_only s.got hO (fun k hk e => (gx k hk).2.2.2 e), Boxed.set _ s.ba, s.vo, s.go, s.far, s.on.trans hO (fun b e => .inl (.inr (.inr (.inr e))))⟩, hO⟩
/-- What is no cells stays. -/
theorem not_sb (s : L2 W W2 g m h BG BA N0 v1 L n pre t v l A c gv X) (p : Pr W W2 g m h BG BA v1) {k : Nat} (hk : W2.heap.size ≤ k) {o : Obj} (ho : X.heap[k]? = some o) (hc : o.isCells = false) : ¬ SB g m h BG BA v gv k := fun hs => by
  have h1 := p.pg
  have h2 := p.pm
  have h3 := p.ph
  have h4 := p.pbg
  have h5 := p.pba
  rcases hs with (hs | hs | hs) | hs | hs | hs | hs
  · omega
  · omega
  · rw [own_cells s.bo.x.own k hs o ho] at hc; cases hc
  · omega
  · omega
  · omega
  · rw [own_cells s.got k hs o ho] at hc; cases hc
theorem round_done (s : L2 W W2 g m h BG BA N0 v1 L n pre t v l A c gv X) (p : Pr W W2 g m h BG BA v1) {T : Nat → Prop} (hT : ∀ k, T k → ¬ S1 g m h BG BA v1 k ∧ k < W2.heap.size) (o : Only (SB g m h BG BA v gv) X Y) : KeepsFrom W2.heap.size X Y ∧ Keeps T X Y := by
  refine ⟨⟨o.size, fun k ob hB hk ho => o.heap hk (not_sb s p hB hk (by simpa using ho))⟩, Keeps.of_only o (fun k hk e => ?_)⟩
  rcases s1_of s e with e | e
  · exact (hT k hk).1 e
  · have := (hT k hk).2; omega
theorem L2.more (s : L2 W W2 g m h BG BA N0 v1 L n pre t v l A c gv X) {n' : Nat} (hn : n ≤ n') : L2 W W2 g m h BG BA N0 v1 L n' pre t v l A c gv X := { s with bo := DwX.bo_more s.bo (by omega) }
/-- But for the list that was got, what lies beside stays. -/
theorem L2.rest (s : L2 W W2 g m h BG BA N0 v1 L n pre t v l A c gv X) (p : Pr W W2 g m h BG BA v1) (o : Only (fun k => k = BG) X Y) : Bo Y W.heap.size g m v l h A c l (N0 + n) ∧ Only (S1 g m h BG BA v1) W2 Y := by
  have nx := nx_of s p
  have hnh := p.nh
  exact ⟨⟨s.bo.x.only o (fun k hk e => nx.1 (by rw [← e]; exact hk)), s.bo.y.only o (by omega) (fun ad e e' => (s.far ad e).1 e'), s.bo.ap, s.bo.ar⟩, s.on.trans o (fun b e => .inl (.inr (.inr (.inl e))))⟩
end
end Go.Proofs.Ytabgngdimbflkaa.DwA
