/-
  The walk of DueWalks, for scripts of bulk at most 1048576. Conditions: as stated.
-/
import Derived.Test.YtabgngdimbflkaaDwA
import Derived.Test.YtabgngdimbflkaaDwC
import Derived.Test.YtabgngdimbflkaaDwD
set_option maxRecDepth 100000
set_option linter.unusedSimpArgs false
set_option linter.unusedVariables false
namespace Go.Proofs.Ytabgngdimbflkaa.DwB
open Go.RowKit Go.Shelf Go.Proofs.Ytabgngdimbflkaa.Mem Go.Proofs.Ytabgngdimbflkaa.DuA Go.Proofs.Ytabgngdimbflkaa.DuM Go.Proofs.Ytabgngdimbflkaa.DuN Go.Proofs.Ytabgngdimbflkaa.DuB Go.Proofs.Ytabgngdimbflkaa.DuO Go.Proofs.Ytabgngdimbflkaa.DsC Go.Proofs.Ytabgngdimbflkaa.DsE Go.Proofs.Ytabgngdimbflkaa.DsH Go.Proofs.Ytabgngdimbflkaa.DsI Go.Proofs.Ytabgngdimbflkaa.DsJ Go.Proofs.Ytabgngdimbflkaa.DsK Go.Proofs.Ytabgngdimbflkaa.DsL Go.Proofs.Ytabgngdimbflkaa.DsM Go.Proofs.Ytabgngdimbflkaa.DuR Go.Proofs.Ytabgngdimbflkaa.DuS Go.Proofs.Ytabgngdimbflkaa.DuT Go.Proofs.Ytabgngdimbflkaa.DuU Go.Proofs.Ytabgngdimbflkaa.DuV Go.Proofs.Ytabgngdimbflkaa.DuW Go.Proofs.Ytabgngdimbflkaa.DuY Go.Proofs.Ytabgngdimbflkaa.DuP Go.Proofs.Ytabgngdimbflkaa.DvA Go.Proofs.Ytabgngdimbflkaa.DwA
theorem run_store_func {P : Program} {w : World} (a : Addr) (m : Mode) (fn : Fn) (fi ca : Array Value) : (store a (.func fn fi ca) m).run P w = stored P w a (.func fn fi ca) m := run_store P w a _ m rfl
attribute [local go_sem] Oper.semAt_some run_store_func

theorem bb {w w' : World} {b : Nat} {t : TypeId} {v : Value} (h : Boxed w b t v) (hb : Below w.heap.size w w') : Boxed w' b t v := (hb.block _ (Boxed.lt h)).trans h
theorem app_below {w w' : World} {n c : Nat} {o : Obj} (O : Only (fun k => (Value.slice (some ⟨w.heap.size, 0, none⟩) n c).ownBlock = some k) (w.alloc o) w') : Below w.heap.size w w' :=
  (((Only.refl (fun k => w.heap.size ≤ k) w).alloc o).trans O (fun b hb => .inl (by injection hb with hb; exact Nat.le_of_eq hb))).below (Nat.le_refl _) (fun _ h => h)
/-- A range that is left at once. -/
theorem loop_once {g : Operand} {a : Act} {w : World} (Bs : Nat) (A6 : Option Addr) (c6 : Nat) (l : List (Int × ByteArray)) (hlen : l.length ≤ 1048576) (T : Nat → Prop) (hg : a.eval g = .func (.func 34) #[] #[.pointer (some ⟨Bs, 0, none⟩)])
    (hBs : Bs < w.heap.size) (hc : w.cell? ⟨Bs, 0, none⟩ = some (.slice A6 l.length c6)) (hr : RdE w A6 l.length c6 l) (hTA : ∀ ad, A6 = some ad → T ad.block) {q1 q2 : Tmp} {i j : Nat} (hij : j ≠ i) :
    (Code.rangeFunc g #[q1, q2] Code.skip (Code.block i (Code.exit j))).wpIn Fence.wide 8 Try.prog
      (fun e a' W' => (e = .normal ∨ e = .exit j) ∧ ∃ D, w.heap.size ≤ D ∧ Only (fun _ => False) w W' ∧ W'.heap[D]? = some (.deferred (some [])) ∧ a' = { a with defers := { target := .collected D, args := #[] } :: a.defers }) a w := by
  refine wpIn_rangeFunc_ownH (α := Fin l.length) rfl (by decide) (gf := 34) (lb := #[.pointer (some ⟨Bs, 0, none⟩)]) hg trivial (enters_of Try.func34 (by kernel_rfl) rfl)
    (all_stops Fence.wide 7 trivial rfl (by decide) Bs A6 c6 l (by omega) T w hBs hc hr hTA) (fun h k => Keeps.t h k) Keeps.b (Below.refl _ _) (fun _ => rfl)
    (fun _ W' => Only (fun _ => False) w W') (fun c _ W' => c = .exit j ∧ Only (fun _ => False) w W') (ownFrom_only (Nat.le_refl _))
    (fun c s X Y row hs hg hr => ⟨hs.1, ownFrom_only (Nat.le_refl _) s X Y row hs.2 hg hr⟩) (Only.refl _ _) (fun _ _ _ => True) (fun _ _ _ _ _ _ hs _ _ => hs) ?assign ?body ?done ?stop
  case assign =>
    intro l1 pre x W' K hi hK
    gi_wp2
    exact hK _ _ (KeepsFrom.refl _ _) (fun _ _ h _ => h) hi trivial
  case body =>
    rintro l1 pre x a' W' hl1 hr1 hi - hlt
    gi_wp2
    exact ⟨KeepsFrom.refl _ _, rfl, hi⟩
  case done =>
    rintro D ys W1 hD hys hi hK
    exact ⟨.inl rfl, D, hD, hi, hK, rfl⟩
  case stop =>
    rintro D cc pre W1 hD hpre ⟨rfl, hi⟩ hK
    gi_wp2
    all_goals exact ⟨.inr rfl, D, hD, hi, hK, rfl⟩
theorem two_ways {Q : Exit → Act → World → Prop} {e : Exit} {i : Nat} {a : Act} {w : World} (he : e = .normal ∨ e = .exit i) (h1 : Q (.exit i) a w = Q .normal a w) (h : Q .normal a w) : Q e a w := by
  rcases he with rfl | rfl
  · exact h
  · rw [h1]; exact h
/-- A region behind which the activation is of one form. -/
theorem via {F : Fence} {n : Nat} {P : Program} {c : Code} {a : Act} {w : World} {Q : Exit → Act → World → Prop} {a1 : Act} {D : World → Prop}
    (h1 : c.wpIn F n P (fun e a w => e = .normal ∧ a = a1 ∧ D w) a w) (h2 : ∀ w, D w → Q .normal a1 w) : c.wpIn F n P Q a w :=
  wpIn_mono h1 (fun e a w h => by obtain ⟨rfl, rfl, hd⟩ := h; exact h2 w hd)
/-- The first loop. -/
structure L1 (W w5 : World) (g m h k : Nat) (v : Value) (l : List (Int × ByteArray)) (A : Option Addr) (c : Nat) (wr : World) : Prop where
  bo : Bo wr W.heap.size g m v l h A c l k
  on : Only (fun k => k = g ∨ k = m ∨ k = h) w5 wr
  vo : ∀ k, v.ownBlock = some k → w5.heap.size ≤ k
theorem L1.did {W w5 wr w' : World} {g m h k c : Nat} {v : Value} {l : List (Int × ByteArray)} {A : Option Addr} (s : L1 W w5 g m h k v l A c wr) {e : Ending} (d : DwX.Did W.heap.size g m v h k A wr e w') :
    e = .returned (.bool true) ∧ ∃ v' l' A' c', L1 W w5 g m h (k + 1) v' l' A' c' w' := by
  obtain ⟨he, l', v', A', c', b, o, hv, -⟩ := d
  refine ⟨he, v', l', A', c', b, s.on.trans o (fun k hk => ?_), fun k hk => ?_⟩
  · rcases hk with (hk | hk | hk) | hk
    · exact .inl (.inl hk)
    · exact .inl (.inr (.inl hk))
    · exact .inr (s.vo k hk)
    · exact .inl (.inr (.inr hk))
  · rcases hv with f | ⟨k', f, h'⟩
    · exact s.vo k (by rw [← f]; exact hk)
    · rw [f] at hk; injection hk with hk; have := s.on.size; omega
theorem L1.below {W w5 wr w' : World} {g m h k c : Nat} {v : Value} {l : List (Int × ByteArray)} {A : Option Addr} (s : L1 W w5 g m h k v l A c wr) (hb : Below wr.heap.size wr w') : L1 W w5 g m h k v l A c w' :=
  ⟨s.bo.below hb, s.on.trans (only_b (S := fun _ => False) hb) (fun b e => e.elim), s.vo⟩
/-- What the region of a deed reads. -/
abbrev Hd (B5 B6 g h : Nat) (p : Addr) (k : Nat) (x : De) (w : World) : Prop := w.cell? ⟨B5, 0, none⟩ = some (.pointer (some ⟨g, 0, none⟩)) ∧ w.cell? ⟨B6, 0, none⟩ = some (.pointer (some ⟨h, 0, none⟩)) ∧ w.cell? (p.add (k * 4)) = some (.int .i64 x.kind) ∧
  w.cell? ⟨(p.add (k * 4)).block, (p.add (k * 4)).off + 1, none⟩ = some (.string x.key) ∧ w.cell? ⟨(p.add (k * 4)).block, (p.add (k * 4)).off + 2, none⟩ = some (.int .i64 x.n) ∧ w.cell? ⟨(p.add (k * 4)).block, (p.add (k * 4)).off + 3, none⟩ = some (.int .i64 x.m)
theorem ix_less {w : World} {B B' g m N : Nat} {v : Value} {l : List (Int × ByteArray)} (h : Ix w B g m v l N) (hB : B' ≤ B) : Ix w B' g m v l N :=
  { h with own := own_less h.own hB, gB := Nat.le_trans hB h.gB, mB := Nat.le_trans hB h.mB }

/-- What the last region asks. -/
abbrev Hw (BG B8 B5 B6 B4 g h : Nat) (A5 A7 A' : Option Addr) (n c5 c7 n' c' : Nat) (w : World) : Prop :=
  w.cell? ⟨BG, 0, none⟩ = some (.slice A5 n c5) ∧ w.cell? ⟨B8, 0, none⟩ = some (.slice A7 n c7) ∧ w.cell? ⟨B5, 0, none⟩ = some (.pointer (some ⟨g, 0, none⟩)) ∧ w.cell? ⟨B6, 0, none⟩ = some (.pointer (some ⟨h, 0, none⟩)) ∧ w.cell? ⟨h, 0, none⟩ = some (.slice A' n' c') ∧ ∃ u, Boxed w B4 4 u
theorem hw_set {BG B8 B5 B6 B4 g h : Nat} {A5 A7 A' : Option Addr} {n c5 c7 n' c' : Nat} {w : World} (hs : Hw BG B8 B5 B6 B4 g h A5 A7 A' n c5 c7 n' c' w) (hne : BG ≠ B4 ∧ B8 ≠ B4 ∧ B5 ≠ B4 ∧ B6 ≠ B4 ∧ h ≠ B4) (u : Value) : Hw BG B8 B5 B6 B4 g h A5 A7 A' n c5 c7 n' c' (w.setCell ⟨B4, 0, none⟩ u) := by
  obtain ⟨h1, h2, h3, h4, h5, v, h6⟩ := hs
  obtain ⟨n1, n2, n3, n4, n5⟩ := hne
  have o := (Only.refl (fun k => k = B4) w).put (p := ⟨B4, 0, none⟩) (.inl rfl) u
  exact ⟨o.cell h1 n1, o.cell h2 n2, o.cell h3 n3, o.cell h4 n4, o.cell h5 n5, u, Boxed.set u h6⟩
theorem hw_below {BG B8 B5 B6 B4 g h : Nat} {A5 A7 A' : Option Addr} {n c5 c7 n' c' : Nat} {w w' : World} (hs : Hw BG B8 B5 B6 B4 g h A5 A7 A' n c5 c7 n' c' w) (hb : Below w.heap.size w w') : Hw BG B8 B5 B6 B4 g h A5 A7 A' n c5 c7 n' c' w' := by
  obtain ⟨h1, h2, h3, h4, h5, v, h6⟩ := hs
  exact ⟨cell_b h1 hb, cell_b h2 hb, cell_b h3 hb, cell_b h4 hb, cell_b h5 hb, v, bb h6 hb⟩
theorem below_put {w w' w5 : World} {B b : Nat} {u : Value} (h : Below B w w') (hb : B ≤ b) : Below B w (w'.setCell ⟨b, 0, none⟩ u) := h.setCell (p := ⟨b, 0, none⟩) hb u
set_option maxHeartbeats 4000000 in
theorem walks_calls (AD : Option Addr) (nD cD : Nat) (ds : List De) (AM : Option Addr) (nM cM : Nat) (ms : List De) (W : World) (hD : RdD W AD nD cD ds) (hM : RdD W AM nM cM ms) (hb : ds.length ≤ 1048576) (hbm : ms.length ≤ 1048576) :
    Calls Try.prog 4 #[.slice AD nD cD, .slice AM nM cM] W fun e w' => e = .returned (.bool true) ∧ Below W.heap.size W w' := by
  obtain rfl := hD.len
  obtain rfl := hM.len
  refine (callsIn_wide (n := 8)).1 ?_
  refine callsIn_of_wp_marks Try.func4 rfl trivial ?_ rfl
  simp only [Try.ntmps4, List.size_toArray, List.length_cons, List.length_nil, Nat.reduceAdd, Nat.reduceSub, Array.replicate_succ, Array.replicate_zero, List.push_toArray, List.append_toArray, List.nil_append, List.cons_append]
  refine wpIn_wide.2 ?_
  have heq : ∀ (bs : Array Value) (w : World), Sem.run Try.prog (binOp BinOp.eql 40 (Value.func (.func 34) #[] bs) Value.nilFunc) w = .ok (.bool false) w := fun _ _ => by kernel_rfl
  have b3 := (Boxed.new W 22 (.slice AM ms.length cM)).alloc (.cells #[.bool false] 4)
  have b4 := Boxed.new (W.alloc (.cells #[.slice AM ms.length cM] 22)) 4 (.bool false)
  have hBa : Below W.heap.size W ((W.alloc (.cells #[.slice AM ms.length cM] 22)).alloc (.cells #[.bool false] 4)) := (((Below.refl _ W).alloc (Nat.le_refl _) _).alloc (by simp) _)
  simp only [World.size_alloc] at b4
  have hsz : ((W.alloc (.cells #[.slice AM ms.length cM] 22)).alloc (.cells #[.bool false] 4)).heap.size = W.heap.size + 2 := by simp
  go_wp2_with fail
  obtain ⟨Wa, hWa⟩ : ∃ Wa, (W.alloc (.cells #[.slice AM ms.length cM] 22)).alloc (.cells #[.bool false] 4) = Wa := ⟨_, rfl⟩
  rw [hWa] at b3 b4 hBa hsz ⊢
  clear hWa
  refine (new_calls Wa).mono ?_
  rintro e w1 ⟨g, m, rfl, hx1, hb1⟩
  have b31 := bb b3 hb1
  have b41 := bb b4 hb1
  have bB1 := hBa.trans (hb1.mono hBa.size)
  have hl1 := hx1.lt
  have h1sz := hb1.size
  have hx1' := (ix_less hx1 (show W.heap.size ≤ Wa.heap.size by omega)).below (al w1 (.cells #[.pointer (some ⟨g, 0, none⟩)] 23))
  have bo2 := bo_new hx1' (show W.heap.size ≤ (w1.alloc (.cells #[.pointer (some ⟨g, 0, none⟩)] 23)).heap.size by simp; omega)
  have b5 := ((Boxed.new w1 23 (.pointer (some ⟨g, 0, none⟩))).alloc (.cells #[.slice none 0 0] 28)).alloc (.cells #[.pointer (some ⟨w1.heap.size + 1, 0, none⟩)] 25)
  have b6 := Boxed.new ((w1.alloc (.cells #[.pointer (some ⟨g, 0, none⟩)] 23)).alloc (.cells #[.slice none 0 0] 28)) 25 (.pointer (some ⟨w1.heap.size + 1, 0, none⟩))
  have bo3 := bo2.below (al _ (.cells #[.pointer (some ⟨w1.heap.size + 1, 0, none⟩)] 25))
  have b3n := ((b31.alloc (.cells #[.pointer (some ⟨g, 0, none⟩)] 23)).alloc (.cells #[.slice none 0 0] 28)).alloc (.cells #[.pointer (some ⟨w1.heap.size + 1, 0, none⟩)] 25)
  have b4n := ((b41.alloc (.cells #[.pointer (some ⟨g, 0, none⟩)] 23)).alloc (.cells #[.slice none 0 0] 28)).alloc (.cells #[.pointer (some ⟨w1.heap.size + 1, 0, none⟩)] 25)
  have bBn := ((bB1.alloc (by have := bB1.size; omega) (.cells #[.pointer (some ⟨g, 0, none⟩)] 23)).alloc (by have := bB1.size; simp; omega) (.cells #[.slice none 0 0] 28)).alloc (by have := bB1.size; simp; omega) (.cells #[.pointer (some ⟨w1.heap.size + 1, 0, none⟩)] 25)
  simp only [World.size_alloc] at bo3 b6
  clear hx1' bo2 b31 b41 bB1 hx1 hb1 b3 b4
  go_wp2_with fail
  obtain ⟨h, hh⟩ : ∃ h, w1.heap.size + 1 = h := ⟨_, rfl⟩
  obtain ⟨B5, hB5⟩ : ∃ B5, w1.heap.size = B5 := ⟨_, rfl⟩
  obtain ⟨B6, hB6⟩ : ∃ B6, w1.heap.size + 1 + 1 = B6 := ⟨_, rfl⟩
  have hszn : (((w1.alloc (.cells #[.pointer (some ⟨g, 0, none⟩)] 23)).alloc (.cells #[.slice none 0 0] 28)).alloc (.cells #[.pointer (some ⟨h, 0, none⟩)] 25)).heap.size = w1.heap.size + 3 := by simp
  rw [hB6] at b6 ⊢
  rw [hh] at bo3 b5 b6 b3n b4n bBn ⊢
  rw [hB5] at b5 ⊢
  obtain ⟨w4, hw4⟩ : ∃ w4, ((w1.alloc (.cells #[.pointer (some ⟨g, 0, none⟩)] 23)).alloc (.cells #[.slice none 0 0] 28)).alloc (.cells #[.pointer (some ⟨h, 0, none⟩)] 25) = w4 := ⟨_, rfl⟩
  rw [hw4] at bo3 b5 b6 b3n b4n bBn hszn ⊢
  clear hw4
  refine (awake_calls w4).mono ?_
  rintro e w5 ⟨rfl, hb5⟩
  have P0 : L1 W w5 g m h 0 (.slice none 0 0) [] none 0 w5 := ⟨bo3.below hb5, Only.refl _ _, fun k hk => by cases hk⟩
  have x3 := bb b3n hb5
  have x4 := bb b4n hb5
  have x5 := bb b5 hb5
  have x6 := bb b6 hb5
  have B5' := bBn.trans (hb5.mono bBn.size)
  have sz5 := hb5.size
  have hgl := hl1 g (.inl rfl)
  have hml := hl1 m (.inr (.inl rfl))
  clear bo3 b5 b6 b3n b4n bBn hb5
  have hBB : W.heap.size + 2 ≤ B5 ∧ B5 < h ∧ h < B6 ∧ B6 < w5.heap.size ∧ g < B5 ∧ m < B5 ∧ W.heap.size + 2 ≤ g ∧ W.heap.size + 2 ≤ m := by omega
  clear hh hB5 hB6 hszn hl1 h1sz hgl hml hBa sz5
  go_wp2_with fail
  go_loopw [7] (fun i wr => ∃ (k : Nat) (v : Value) (l : List (Int × ByteArray)) (A : Option Addr) (c : Nat), k ≤ ds.length ∧ i = .int .i64 k ∧ L1 W w5 g m h k v l A c wr) (fun i _ => ds.length - (intOf i).toNat)
  case atStart => exact ⟨0, _, _, _, _, Nat.zero_le _, rfl, P0⟩
  case round =>
    clear P0
    obtain ⟨k, v, l, A, c, hk, rfl, S⟩ := hrel
    by_cases hlt : k < ds.length
    · obtain ⟨x, hx⟩ : ∃ x, ds[k]? = some x := ⟨_, List.getElem?_eq_getElem hlt⟩
      obtain ⟨p, hp, -⟩ := hD.get k x hx
      subst hp
      have hok := hD.ok x (List.mem_of_getElem? hx)
      have HD : ∀ w', Only (fun k => k = g ∨ k = m ∨ k = h) w5 w' → Hd B5 B6 g h p k x w' := fun w' on => by
        obtain ⟨p', e', q0, q1, q2, q3⟩ := hD.at_ (on.after B5' (Nat.le_refl _) (fun b e => by omega)) hx
        injection e' with e'
        subst e'
        exact ⟨(boxed_only x5 on (by omega)).cell, (boxed_only x6 on (by omega)).cell, q0, q1, q2, q3⟩
      have hd0 := HD _ (S.below ((Below.refl _ _).drew)).on
      have HD' := Lib.hid HD
      have hdo := DwX.do_calls W.heap.size g m v l h A c k x.key x.n x.m wr.drew x.kind (S.below ((Below.refl _ _).drew)).bo (by have := B5'.size; have := S.on.size; show W.heap.size ≤ wr.heap.size; omega) hok (by omega)
      have Sd := S.below ((Below.refl wr.heap.size wr).drew)
      clear HD hx S
      obtain ⟨y1, y2, y3, y4, y5, y6⟩ := hd0
      go_wp2_with fail
      go_region_held3 (fun w' => Hd B5 B6 g h p k x w')
        (first | exact ⟨y1, y2, y3, y4, y5, y6⟩ | assumption)
        (first
          | (go_at_call 10; refine hdo.mono ?_; intro e w6 d6; obtain ⟨rfl, v6, l6, A6, c6, S6⟩ := Sd.did d6; have hd6 := HD'.out _ S6.on))
      go_wp2_with fail
      exact ⟨⟨k + 1, v6, l6, A6, c6, by omega, by go_num, S6⟩, by simp [intOf]; omega⟩
    · obtain rfl : k = ds.length := by omega
      generalize wr = w6 at S ⊢
      have xx3 := boxed_only x3 S.on (by omega)
      have xx4 := boxed_only x4 S.on (by omega)
      have xx5 := boxed_only x5 S.on (by omega)
      have xx6 := boxed_only x6 S.on (by omega)
      have B6' := S.on.after B5' (Nat.le_refl _) (fun b e => by omega)
      have hs6 := S.on.size
      have hll := S.bo.x.len
      have bq := al w6 (.cells #[] 43)
      have c6' := (bb xx6 bq).cell
      obtain ⟨ch, -⟩ := (S.bo.y.below bq).cell
      have rq := (S.bo.y.below bq).rd
      have ho : (w6.alloc (.cells #[] 43)).ownsRow w6.heap.size 43 2 (.slice (some ⟨w6.heap.size, 0, none⟩) 0 0) 0 [] := World.ownsRow_made w6 #[] 0 (Nat.le_refl _) (Nat.zero_le _) rfl
      go_wp2_with (at_builtin; refine wpList_app rfl _ _ elR rfl w6.heap.size _ 0 [] rfl ho A l.length c (entsR l) rfl rq (entsR_one l) (by unfold maxLen; omega) (by omega) (by simp) ?_; intro v7 w7 o7 O7 f7; rw [Nat.zero_add, List.nil_append] at o7; obtain ⟨A7, c7, rfl⟩ := own_form o7; have B67 : Below w6.heap.size w6 w7 := app_below O7; have c5' := (bb (bb xx5 B67) (al w7 (.cells #[.slice A7 l.length c7] 26))).cell)
      have b8 := Boxed.new w7 26 (.slice A7 l.length c7)
      have B68 : Below w6.heap.size w6 (w7.alloc (.cells #[.slice A7 l.length c7] 26)) := B67.alloc B67.size _
      have o8 := o7.alloc (.cells #[.slice A7 l.length c7] 26)
      have l7 := o7.lt
      have s7 := B67.size
      obtain ⟨w8, hw8⟩ : ∃ w8, w7.alloc (.cells #[.slice A7 l.length c7] 26) = w8 := ⟨_, rfl⟩
      have s8 : w8.heap.size = w7.heap.size + 1 := by rw [← hw8]; simp
      rw [hw8] at b8 B68 o8 c5' ⊢
      obtain ⟨B8, hB8⟩ : ∃ B8, w7.heap.size = B8 := ⟨_, rfl⟩
      rw [hB8] at b8 s8 l7 s7 ⊢
      clear hw8 hB8 o7 O7 f7 c6' ch rq ho bq
      have S8 := S.below B68
      refine (allIter_calls W.heap.size g m v l ds.length w8 S8.bo.x (by omega)).mono ?_
      rintro e w9 ⟨A9, c9, Bs, rfl, hBs, bs9, o9, hne9, b9⟩
      have s9 := b9.size
      have l9 := o9.lt
      have hBsl := bs9.lt
      have B69 := B68.trans (b9.mono B68.size)
      have b89 := bb b8 b9
      have o89 := own_only o8 (only_b (S := fun _ => False) b9) (fun _ _ => id)
      have bF := Boxed.new w9 40 (.func (.func 34) #[] #[.pointer (some ⟨Bs, 0, none⟩)])
      have cF := bF.cell
      have bal := al w9 (.cells #[.func (.func 34) #[] #[.pointer (some ⟨Bs, 0, none⟩)]] 40)
      clear c5' b8 o8
      go_wp2_with fail
      obtain ⟨w10, hw10⟩ : ∃ w10, w9.alloc (.cells #[.func (.func 34) #[] #[.pointer (some ⟨Bs, 0, none⟩)]] 40) = w10 := ⟨_, rfl⟩
      obtain ⟨B9, hB9⟩ : ∃ B9, w9.heap.size = B9 := ⟨_, rfl⟩
      have s10 : w10.heap.size = w9.heap.size + 1 := by rw [← hw10]; simp
      rw [hw10] at bF bal cF ⊢
      rw [hB9] at bF cF s10 ⊢
      clear hw10
      have B610 := B69.trans (bal.mono B69.size)
      have bsA := bb bs9 bal
      have oA := own_only o9 (only_b (S := fun _ => False) bal) (fun _ _ => id)
      have b8A := bb b89 bal
      have o8A := own_only o89 (only_b (S := fun _ => False) bal) (fun _ _ => id)
      obtain ⟨T, hT⟩ : ∃ T : Nat → Prop, T = fun k => k = Bs ∨ (Value.slice A9 l.length c9).ownBlock = some k := ⟨_, rfl⟩
      have hTA : ∀ ad, A9 = some ad → T ad.block := fun ad e => by rw [hT, e]; exact .inr rfl
      have hTl : ∀ k, T k → w8.heap.size ≤ k ∧ k < w9.heap.size := fun k h => by
        rw [hT] at h
        rcases h with rfl | h
        · exact ⟨hBs, hBsl⟩
        · exact l9 k h
      have HT := Lib.hid hT
      clear hT b89 o89 o9 bs9 bal B68 B69 b9
      refine (wpIn_wide (n := 8)).1 (wpIn_mono (loop_once Bs A9 c9 l (by omega) T rfl (by omega) bsA.cell (Rd.of_own oA) hTA (by decide)) ?_)
      rintro e a' W1 ⟨he, D1, hD1, hi1, hK1, rfl⟩
      refine two_ways he rfl ?_
      clear he
      have bi1 : Below w10.heap.size w10 W1 := hi1.below (Nat.le_refl _) (fun _ e => e.elim)
      have B61 := B610.trans (bi1.mono B610.size)
      have sz1 := hi1.size
      have hDl := (Array.getElem?_eq_some_iff.1 hK1).1
      have bG := (Boxed.new W1 26 (.slice none 0 0)).alloc (.cells #[.int .i64 0] 3)
      have bA := Boxed.new (W1.alloc (.cells #[.slice none 0 0] 26)) 3 (.int .i64 0)
      simp only [World.size_alloc] at bA
      have bal2 : Below W1.heap.size W1 ((W1.alloc (.cells #[.slice none 0 0] 26)).alloc (.cells #[.int .i64 0] 3)) := ((al W1 _).alloc (by simp) _)
      have sz2 : ((W1.alloc (.cells #[.slice none 0 0] 26)).alloc (.cells #[.int .i64 0] 3)).heap.size = W1.heap.size + 2 := by simp
      have c9' := (bb (bb bF bi1) bal2).cell
      go_wp2_with fail
      obtain ⟨W2, hW2⟩ : ∃ W2, (W1.alloc (.cells #[.slice none 0 0] 26)).alloc (.cells #[.int .i64 0] 3) = W2 := ⟨_, rfl⟩
      obtain ⟨BA, hBA⟩ : ∃ BA, W1.heap.size + 1 = BA := ⟨_, rfl⟩
      rw [hW2] at bG bA bal2 sz2 c9' ⊢
      rw [hBA] at bA ⊢
      obtain ⟨BG, hBG⟩ : ∃ BG, W1.heap.size = BG := ⟨_, rfl⟩
      rw [hBG] at bG ⊢
      clear hW2 c9' cF
      have B62 := B61.trans (bal2.mono B61.size)
      have B102 := bi1.trans (bal2.mono bi1.size)
      have FX : Fx W W.heap.size (W.heap.size + 1) B5 B6 B8 B9 Bs D1 g h AM ms.length cM A7 c7 A9 c9 l W2 :=
        ⟨bb xx3 B62, bb xx4 B62, bb xx5 B62, bb xx6 B62, bb b8A B102, own_less (own_only o8A (only_b (S := fun _ => False) B102) (fun _ _ => id)) (by have := B6'.size; omega), bb bF B102, bb bsA B102, own_less (own_only oA (only_b (S := fun _ => False) B102) (fun _ _ => id)) (by have := B6'.size; omega), (bal2.block _ hDl).trans hK1⟩
      have S2 := S.below B62
      have hszs : w5.heap.size ≤ w6.heap.size ∧ w6.heap.size ≤ B8 ∧ B8 < w8.heap.size ∧ w8.heap.size ≤ Bs ∧ Bs < B9 ∧ B9 < w10.heap.size ∧ w10.heap.size ≤ D1 ∧ D1 < BG ∧ BG < BA ∧ BA < W2.heap.size := by omega
      have hvlt : ∀ k, v.ownBlock = some k → w5.heap.size ≤ k ∧ k < w6.heap.size := fun k hk => ⟨S.vo k hk, (S.bo.x.lt k (.inr (.inr hk))).2⟩
      have hAlt : ∀ ad, A = some ad → ad.block < w6.heap.size := fun ad e => (S.bo.y.nh ad e).2
      have nIx : ∀ b, w6.heap.size ≤ b → ¬ IxS g m v b := fun b hb hx => by
        rcases hx with e | e | e
        · omega
        · omega
        · have := hvlt b e; omega
      have PR : Pr W W2 g m h BG BA v := ⟨by omega, by omega, by omega, fun k hk => by have := hvlt k hk; have := B5'.size; omega, by have := B6'.size; omega, by have := B6'.size; omega, by omega, ⟨nIx _ (by omega), nIx _ (by omega)⟩, by omega, B6'.trans (B62.mono B6'.size)⟩
      have LL : L2 W W2 g m h BG BA ds.length v l 0 [] 0 v l A c (.slice none 0 0) W2 := ⟨S2.bo, bG, World.ownsRow_nil _ _ _ _, bA, (fun k hk => .inl hk), (fun k hk => by cases hk), (fun ad e => ⟨by have := hAlt ad e; omega, by have := hAlt ad e; omega, (fun e => by cases e)⟩), Only.refl _ _⟩
      have hFS : ∀ k, FB W.heap.size (W.heap.size + 1) B5 B6 B8 B9 Bs D1 A7 c7 A9 c9 l.length k → ¬ S1 g m h BG BA v k := fun k hk hs => by
        have hk' : (k < w5.heap.size ∧ k ≠ g ∧ k ≠ m ∧ k ≠ h) ∨ (w6.heap.size ≤ k ∧ k < BG) := by
          rcases hk with e | e | e | e | e | e | e | e | e | e
          · exact .inl (by omega)
          · exact .inl (by omega)
          · exact .inl (by omega)
          · exact .inl (by omega)
          · exact .inr (by omega)
          · exact .inr (by have := l7 k e; omega)
          · exact .inr (by omega)
          · exact .inr (by omega)
          · exact .inr (by have := l9 k e; omega)
          · exact .inr (by omega)
        rcases hs with (e | e | e) | e | e | e
        · omega
        · omega
        · have := hvlt k e; omega
        · omega
        · omega
        · omega
      have hTn : ∀ k, T k → ¬ S1 g m h BG BA v k := fun k hk => by
        rw [HT.out] at hk
        refine hFS k ?_
        rcases hk with e | e
        · exact .inr (.inr (.inr (.inr (.inr (.inr (.inr (.inl e)))))))
        · exact .inr (.inr (.inr (.inr (.inr (.inr (.inr (.inr (.inl e))))))))
      have hTo : ∀ X, Only (S1 g m h BG BA v) W2 X → Fx W W.heap.size (W.heap.size + 1) B5 B6 B8 B9 Bs D1 g h AM ms.length cM A7 c7 A9 c9 l X := fun X hX => FX.only hX hFS
      have hBs2 : Bs < W2.heap.size := FX.bs.lt
      clear xx3 xx4 xx5 xx6 x3 x4 x5 x6 bG bA S S2 bF bsA oA b8A o8A bi1 hi1
      refine (wpIn_wide (n := 8)).1 ?_
      refine ownL (α := Fin l.length) rfl (by decide) (gf := 34) (lb := #[.pointer (some ⟨Bs, 0, none⟩)]) rfl trivial (enters_of Try.func34 (by kernel_rfl) rfl)
        (all_stops Fence.wide 7 trivial rfl (by decide) Bs A9 c9 l (by omega) T W2 hBs2 FX.bs.cell (Rd.of_own FX.rs) hTA) (fun h k => Keeps.t h k) Keeps.b (Below.refl _ _) (fun _ => rfl)
        (fun pre W' => ∃ v' l' A' c' gv, L2 W W2 g m h BG BA ds.length v l pre.length pre (min pre.length ms.length) v' l' A' c' gv W') (fun _ _ _ => False)
        (fun pre X Y row hs hg hr => by obtain ⟨v', l', A', c', gv, h⟩ := hs; exact ⟨v', l', A', c', gv, h.kept PR hg hr⟩) (fun _ _ _ _ _ hs _ _ => hs) ⟨v, l, A, c, _, by simpa using LL⟩
        53 54 12 13 (fun x => .string (l[x.1]'x.2).2) (fun x => .int .i64 (l[x.1]'x.2).1) (fun _ _ _ h _ => h) ?assign ?body ?done (fun D c pre W1 _ _ h _ => h.elim)
      case assign =>
        intro l2 x W' K hK
        unfold encP
        gi_wp2
        exact hK
      case body =>
        rintro l1 pre x X hl1 ⟨r1, hr1⟩ ⟨v', l', A', c', gv, S⟩ hlt
        obtain ⟨y, hy⟩ : ∃ y, l[x.1]'x.2 = y := ⟨_, rfl⟩
        obtain ⟨t, ht⟩ : ∃ t, min pre.length ms.length = t := ⟨_, rfl⟩
        rw [ht] at S
        have fx := hTo X S.on
        have hpl : (came l pre).length + 1 ≤ l.length := by rw [came_len]; exact hlt
        have hX := S.on.size
        have cG := S.bg.cell
        have lt2 := S.got.lt
        have hbg := PR.pbg
        have Ht := Lib.hid ht
        unfold G
        dsimp only
        rw [hy]
        have ALL := Lib.hid (And.intro HT (And.intro hFS (And.intro hTn (And.intro hTl (And.intro hK1 (And.intro B62 B102))))))
        clear HT hFS hTn hTl hK1 B62 B102 bal2 B61 B610 S8 nIx hvlt hAlt l7 l9 LL FX ht
        by_cases htl : t < ms.length
        · gi_wp2_with (gi_at_builtin; refine wpListIn_app2b rfl _ _ elR rfl W2.heap.size gv _ _ rfl S.got (.string y.2) (.int .i64 y.1) rfl rfl _ rfl rfl (by unfold maxLen; omega) (by omega) hX ?_; intro v3 w3 o3 O3 g3; obtain ⟨A3, q3, rfl⟩ := own_form o3; have b3' := boxed_only S.bg O3 (fun e => by have := (lt2 _ e).1; omega); have c3' := b3'.cell; have f3 := b3'.frozen; obtain ⟨S1', O1'⟩ := S.app PR x (by rw [hy]; exact o3) O3 g3; have fx1 := hTo _ S1'.on; have cA1 := S1'.ba.cell; have c31 := fx1.b3.cell; have c91 := (bb fx1.b9 (al _ (.cells #[.int .i64 0] 3))).cell)
          obtain ⟨xd, hxd⟩ : ∃ xd, ms[t]? = some xd := ⟨_, List.getElem?_eq_getElem htl⟩
          have hok := hM.ok xd (List.mem_of_getElem? hxd)
          have bel1 := S1'.bel PR
          obtain ⟨q, hq, k0, k1, k2, k3⟩ := hM.at_ bel1 hxd
          subst hq
          have hdo := DwX.do_calls W.heap.size g m v' l' h A' c' (ds.length + pre.length) xd.key xd.n xd.m _ xd.kind (S1'.below ((Below.refl _ _).drew)).bo bel1.size hok (by omega)
          refine via (DwC.deed_region l1 q W.heap.size B5 B6 BA g h ms.length cM t xd.kind xd.n xd.m xd.key _ (fun w' => ∃ v2 l2 A2 c2, L2 W W2 g m h BG BA ds.length v l (pre.length + 1) (pre ++ [x]) t v2 l2 A2 c2 (.slice A3 ((came l pre).length + 1) q3) w' ∧ Only (fun k => IxS g m v' k ∨ k = h) (w3.setCell ⟨BG, 0, none⟩ (.slice A3 ((came l pre).length + 1) q3)) w')
            fx1.b5.cell fx1.b6.cell c31 cA1 k0 k1 k2 k3 htl (hdo.mono (fun e w' d => by
              obtain ⟨he, v2, l2, A2, c2, s2, o2⟩ := (S1'.below ((Below.refl _ _).drew)).did PR d
              exact ⟨he, v2, l2, A2, c2, s2, (only_b (S := fun k => IxS g m v' k ∨ k = h) ((Below.refl _ _).drew)).trans o2 (fun b hb => .inl hb)⟩))) ?_
          rintro w4 ⟨v2, l2, A2, c2, S2', O2'⟩
          have cA2 := S2'.ba.cell
          have fA2 := S2'.ba.frozen
          obtain ⟨S3', O3'⟩ := S2'.up PR (t + 1)
          have hc1 : (((t + 1 : Nat) : Int)) = (t : Int) + 1 := by simp
          rw [hc1] at S3' O3'
          have fx3 := hTo _ S3'.on
          have c93 := (bb fx3.b9 (al _ (.cells #[.int .i64 0] 3))).cell
          have OX3 : Only (SB g m h BG BA v' gv) X (w4.setCell ⟨BA, 0, none⟩ (.int .i64 ((t : Int) + 1))) := (O1'.trans O2' (fun b hb => .inl (Or.elim hb .inl (fun e => .inr (.inl e))))).trans O3' (fun b hb => .inl (.inr (.inr (.inr (.inl hb)))))
          clear k0 k1 k2 k3 hdo hxd hok c31 cA1 c3' f3 b3' c91 cG hc1
          gi_wp2_with fail
          have hnl : ¬ SB g m h BG BA v' gv l1 := not_sb S PR hl1 hr1 rfl
          have bZ := al (w4.setCell ⟨BA, 0, none⟩ (.int .i64 ((t : Int) + 1))) (.cells #[.int .i64 0] 3)
          have hrZ := (bZ.block _ (Array.getElem?_eq_some_iff.1 ((OX3).heap hr1 hnl)).1).trans ((OX3).heap hr1 hnl)
          have fZ := hTo _ (S3').on
          have b14 := Boxed.new (w4.setCell ⟨BA, 0, none⟩ (.int .i64 ((t : Int) + 1))) 3 (.int .i64 0)
          have hZs := (OX3).size
          obtain ⟨hT1, hF1, hTn1, hTl1, -⟩ := ALL.out
          have hTT : ∀ k, T k → ¬ S1 g m h BG BA v k ∧ k < W2.heap.size := fun k hk => ⟨hTn1 k hk, by have := hTl1 k hk; omega⟩
          obtain ⟨Z, hZ⟩ : ∃ Z, (w4.setCell ⟨BA, 0, none⟩ (.int .i64 ((t : Int) + 1))) = Z := ⟨_, rfl⟩
          have SZ := S3'
          have OZ := OX3
          rw [hZ] at bZ hrZ fZ b14 hZs SZ OZ ⊢
          have hzz : Z.heap.size = w4.heap.size := by rw [← hZ]; simp [World.setCell]
          rw [← hzz]
          clear hZ hzz
          refine wpIn_mono (DwD.inner_loop l1 Bs Z.heap.size A9 c9 l (by omega) T _ r1 hrZ b14 (bb fZ.bs bZ).lt (bb fZ.bs bZ).cell ((Rd.of_own fZ.rs).below bZ) hTA (fun k hk => by have := (hTT k hk).2; omega)) ?_
          rintro e a' W3 ⟨he, rfl, b15, o15⟩
          refine two_ways he rfl ?_
          clear he
          have OZ3 := (OZ.trans (only_b (S := fun _ => False) bZ) (fun b e => e.elim)).trans o15 (fun b e => .inr (by omega))
          have bZ3 : Below Z.heap.size Z W3 := bZ.trans (o15.below (by simp) (fun b e => Nat.le_of_eq e.symm))
          have SZ3 := SZ.below bZ3
          have fx3' := hTo _ SZ3.on
          have c15 := b15.cell
          have c8' := fx3'.b8.cell
          have hmm : (((min 2 l.length : Nat) : Int)) = min 2 (l.length : Int) := by omega
          rw [hmm] at c15
          have hmq : ((min 2 (l.length : Int)) == (min 2 (l.length : Int))) = true := by simp
          have RD := round_done S PR hTT OZ3
          gi_wp2_with fail
          have e1 : (pre ++ [x]).length = pre.length + 1 := by simp
          have e2 : min (pre ++ [x]).length ms.length = t + 1 := by rw [e1]; have := Ht.out; omega
          have SZ4 := SZ3
          rw [← e1, ← e2] at SZ4
          exact ⟨RD.1, RD.2, _, _, _, _, _, SZ4⟩
        · gi_wp2_with (gi_at_builtin; refine wpListIn_app2b rfl _ _ elR rfl W2.heap.size gv _ _ rfl S.got (.string y.2) (.int .i64 y.1) rfl rfl _ rfl rfl (by unfold maxLen; omega) (by omega) hX ?_; intro v3 w3 o3 O3 g3; obtain ⟨A3, q3, rfl⟩ := own_form o3; have b3' := boxed_only S.bg O3 (fun e => by have := (lt2 _ e).1; omega); have c3' := b3'.cell; have f3 := b3'.frozen; obtain ⟨S1', O1'⟩ := S.app PR x (by rw [hy]; exact o3) O3 g3; have fx1 := hTo _ S1'.on; have cA1 := S1'.ba.cell; have c31 := fx1.b3.cell; have c91 := (bb fx1.b9 (al _ (.cells #[.int .i64 0] 3))).cell)
          clear c31 cA1 c3' f3 b3' c91 cG
          have hnl : ¬ SB g m h BG BA v' gv l1 := not_sb S PR hl1 hr1 rfl
          have bZ := al (w3.setCell ⟨BG, 0, none⟩ (.slice A3 ((came l pre).length + 1) q3)) (.cells #[.int .i64 0] 3)
          have hrZ := (bZ.block _ (Array.getElem?_eq_some_iff.1 ((O1').heap hr1 hnl)).1).trans ((O1').heap hr1 hnl)
          have fZ := hTo _ (S1').on
          have b14 := Boxed.new (w3.setCell ⟨BG, 0, none⟩ (.slice A3 ((came l pre).length + 1) q3)) 3 (.int .i64 0)
          have hZs := (O1').size
          obtain ⟨hT1, hF1, hTn1, hTl1, -⟩ := ALL.out
          have hTT : ∀ k, T k → ¬ S1 g m h BG BA v k ∧ k < W2.heap.size := fun k hk => ⟨hTn1 k hk, by have := hTl1 k hk; omega⟩
          obtain ⟨Z, hZ⟩ : ∃ Z, (w3.setCell ⟨BG, 0, none⟩ (.slice A3 ((came l pre).length + 1) q3)) = Z := ⟨_, rfl⟩
          have SZ := S1'
          have OZ := O1'
          rw [hZ] at bZ hrZ fZ b14 hZs SZ OZ ⊢
          have hzz : Z.heap.size = w3.heap.size := by rw [← hZ]; simp [World.setCell]
          rw [← hzz]
          clear hZ hzz
          refine wpIn_mono (DwD.inner_loop l1 Bs Z.heap.size A9 c9 l (by omega) T _ r1 hrZ b14 (bb fZ.bs bZ).lt (bb fZ.bs bZ).cell ((Rd.of_own fZ.rs).below bZ) hTA (fun k hk => by have := (hTT k hk).2; omega)) ?_
          rintro e a' W3 ⟨he, rfl, b15, o15⟩
          refine two_ways he rfl ?_
          clear he
          have OZ3 := (OZ.trans (only_b (S := fun _ => False) bZ) (fun b e => e.elim)).trans o15 (fun b e => .inr (by omega))
          have bZ3 : Below Z.heap.size Z W3 := bZ.trans (o15.below (by simp) (fun b e => Nat.le_of_eq e.symm))
          have SZ3 := SZ.below bZ3
          have fx3' := hTo _ SZ3.on
          have c15 := b15.cell
          have c8' := fx3'.b8.cell
          have hmm : (((min 2 l.length : Nat) : Int)) = min 2 (l.length : Int) := by omega
          rw [hmm] at c15
          have hmq : ((min 2 (l.length : Int)) == (min 2 (l.length : Int))) = true := by simp
          have RD := round_done S PR hTT OZ3
          gi_wp2_with fail
          have e1 : (pre ++ [x]).length = pre.length + 1 := by simp
          have e2 : min (pre ++ [x]).length ms.length = t := by rw [e1]; have := Ht.out; omega
          have SZ4 := SZ3.more (Nat.le_add_right pre.length 1)
          rw [← e1, ← e2] at SZ4
          exact ⟨RD.1, RD.2, _, _, _, _, _, SZ4⟩
      case done =>
        rintro D2 xs W3 hD2 hxs ⟨v', l', A', c', gv, S⟩ hK3
        have fx := hTo W3 S.on
        have cG := S.bg.cell
        have hgot := S.got
        rw [hxs, came_all] at hgot
        obtain ⟨Ag, cg, rfl⟩ := own_form hgot
        have c8' := fx.b8.cell
        have hDl2 := (Array.getElem?_eq_some_iff.1 hK3).1
        have s23 := S.on.size
        have lgot := hgot.lt
        have hxl : xs.length ≤ l.length := by rw [hxs, upto_len (Nat.le_refl _)]; exact Nat.le_refl _
        clear hxs LL HT B62 B102 bal2 B61 B610 S8 nIx hvlt hAlt l7 l9 heq
        go_wp2_with fail
        refine (entries_calls Ag _ cg l A7 c7 W3 (Rd.of_own hgot) (Rd.of_own fx.rw) (by omega)).mono ?_
        rintro e W4 ⟨rfl, nd4, rfl⟩
        have cGd : (W3.drewN nd4).cell? ⟨BG, 0, none⟩ = some (.slice Ag l.length cg) := cG
        have fGd : (W3.drewN nd4).frozen? ⟨BG, 0, none⟩ = false := S.bg.frozen
        have oD : Only (fun k => k = BG) W3 (W3.drewN nd4) := (Only.refl (fun k => k = BG) W3).drawn nd4
        have o4 : Only (fun k => k = BG) W3 ((W3.drewN nd4).setCell ⟨BG, 0, none⟩ (.slice none 0 0)) := oD.put (p := ⟨BG, 0, none⟩) (.inl rfl) _
        have bG4 : Boxed ((W3.drewN nd4).setCell ⟨BG, 0, none⟩ (.slice none 0 0)) BG 26 (.slice none 0 0) := Boxed.set _ (show Boxed (W3.drewN nd4) BG 26 (.slice Ag l.length cg) from S.bg)
        have fx4 := hTo _ (S.rest PR o4).2
        have c94 := fx4.b9.cell
        have s34 := o4.size
        clear c8' cG hgot lgot
        go_wp2_with fail
        obtain ⟨W4, hW4⟩ : ∃ W4, (W3.drewN nd4).setCell ⟨BG, 0, none⟩ (.slice none 0 0) = W4 := ⟨_, rfl⟩
        rw [hW4] at o4 bG4 fx4 c94 s34 ⊢
        clear hW4 cGd fGd oD
        have hBGw : BG < W4.heap.size := bG4.lt
        have hTG : ∀ k, T k → k ≠ BG ∧ k < W4.heap.size := fun k hk => ⟨fun e => hTn k hk (.inr (.inr (.inl e))), by have := hTl k hk; omega⟩
        refine (wpIn_wide (n := 8)).1 ?_
        refine ownL (α := Fin l.length) rfl (by decide) (gf := 34) (lb := #[.pointer (some ⟨Bs, 0, none⟩)]) rfl trivial (enters_of Try.func34 (by kernel_rfl) rfl)
          (all_stops Fence.wide 7 trivial rfl (by decide) Bs A9 c9 l (by omega) T W4 fx4.bs.lt fx4.bs.cell (Rd.of_own fx4.rs) hTA) (fun h k => Keeps.t h k) Keeps.b (Below.refl _ _) (fun _ => rfl)
          (fun pre W' => (∃ v', Boxed W' BG 26 v' ∧ W'.ownsRow W4.heap.size 43 2 v' (came l pre).length (entsR (came l pre)) ∧ True) ∧ Only (fun k => k = BG) W4 W') (fun _ _ _ => False)
          (OwnFrom.and (Own.from (holdsRow_own W4.heap.size BG 26 43 2 (fun pre => (came l pre).length) (fun pre => entsR (came l pre)) (fun _ _ => True)) _) (ownFrom_only (Nat.le_refl _)))
          (fun _ _ _ _ _ hs _ _ => hs) ⟨⟨_, bG4, World.ownsRow_nil _ _ _ _, trivial⟩, Only.refl _ _⟩
          91 92 15 16 (fun x => .string (l[x.1]'x.2).2) (fun x => .int .i64 (l[x.1]'x.2).1) (fun _ _ _ h _ => h) ?assign3 ?body3 ?done3 (fun D c pre W1 _ _ h _ => h.elim)
        case assign3 =>
          intro l2 x W' K hK
          unfold encP
          gi_wp2
          exact hK
        case body3 =>
          rintro l2 pre x X hl2 - ⟨⟨v2, b2, o2, -⟩, B2⟩ hlt
          obtain ⟨y, hy⟩ : ∃ y, l[x.1]'x.2 = y := ⟨_, rfl⟩
          have hpl : (came l pre).length + 1 ≤ l.length := by rw [came_len]; exact hlt
          have hX := B2.size
          have cL := b2.cell
          clear S fx4 bG4 fx o4
          unfold G
          dsimp only
          rw [hy]
          gi_wp2_with (gi_at_builtin; refine wpListIn_app2b rfl _ _ elR rfl W4.heap.size v2 _ _ rfl o2 (.string y.2) (.int .i64 y.1) rfl rfl _ rfl rfl (by unfold maxLen; omega) (by omega) hX ?_; intro v3 w3 o3 O3 g3; obtain ⟨A3, q3, rfl⟩ := own_form o3; have b3 := boxed_only b2 O3 (fun e => by have := (o2.lt _ e).1; omega); have c3 := b3.cell; have f3 := b3.frozen)
          have lt2 := o2.lt
          have hO : Only (fun k => k = BG) w3 (w3.setCell ⟨BG, 0, none⟩ (.slice A3 ((came l pre).length + 1) q3)) := (Only.refl (fun k => k = BG) w3).put (p := ⟨BG, 0, none⟩) (.inl rfl) _
          have XZ : Only (fun k => v2.ownBlock = some k ∨ k = BG) X (w3.setCell ⟨BG, 0, none⟩ (.slice A3 ((came l pre).length + 1) q3)) := (O3.mono (fun b e => .inl e)).trans hO (fun b e => .inl (.inr e))
          have k1 := keepsFrom_only (B := W4.heap.size) XZ (fun k e => Or.elim e (fun e => own_cells o2 k e) (fun e => by rw [e]; exact boxed_cells b2))
          have k2 := B2.trans XZ (fun b e => Or.elim e (fun e => .inr (lt2 b e).1) (fun e => .inl e))
          refine ⟨k1, Keeps.of_only XZ (fun k hk e => ?_), ⟨_, Boxed.set _ b3, ?_, trivial⟩, k2⟩
          · have := hTG k hk
            rcases e with e | e
            · have := lt2 k e; omega
            · omega
          · rw [came_app, hy, entsR_app, List.length_append]
            exact own_only o3 hO (fun k hk e => by have := (o3.lt k hk).1; omega)
        case done3 =>
          rintro D3 xs3 W5 hD3 hxs3 ⟨⟨v2, b2, o2, -⟩, B2⟩ hK5
          rw [hxs3, came_all] at o2
          obtain ⟨A5, c5, rfl⟩ := own_form o2
          have o35 := o4.trans B2 (fun b e => .inl e)
          obtain ⟨bo5, on5⟩ := S.rest PR o35
          have fx5 := hTo _ on5
          have hK35 := o35.heap hK3 (fun e => by have := PR.pbg; omega)
          have bel5 : Below W.heap.size W W5 := o35.after (S.bel PR) (Nat.le_refl _) (fun b e => by rw [e]; exact PR.pbg.1)
          have cy := bo5.y.cell.1
          have hll' := bo5.x.len
          have HS : Hw BG B8 B5 B6 (W.heap.size + 1) g h A5 A7 A' l.length c5 c7 l'.length c' W5.drew := ⟨b2.cell, fx5.b8.cell, fx5.b5.cell, fx5.b6.cell, cy, _, fx5.b4⟩
          have hne : BG ≠ W.heap.size + 1 ∧ B8 ≠ W.heap.size + 1 ∧ B5 ≠ W.heap.size + 1 ∧ B6 ≠ W.heap.size + 1 ∧ h ≠ W.heap.size + 1 := by omega
          have bdr : Below W5.heap.size W5 W5.drew := (Below.refl _ _).drew
          have rA := Rd.of_own o2
          have rB := Rd.of_own fx5.rw
          have d1 := fx5.d1
          have hDD : D1 < W5.heap.size ∧ D2 < W5.heap.size ∧ D3 < W5.heap.size := ⟨(Array.getElem?_eq_some_iff.1 d1).1, (Array.getElem?_eq_some_iff.1 hK35).1, (Array.getElem?_eq_some_iff.1 hK5).1⟩
          have hD12 : D1 < D2 ∧ D2 < D3 ∧ W.heap.size ≤ D1 := by omega
          have KK := Lib.hid (And.intro d1 (And.intro hK35 (And.intro hK5 (And.intro bel5 (And.intro hDD hD12)))))
          clear S o35 on5 fx5 fx4 bG4 o4 fx hK35 hK5 bel5 d1 B2 c94 hTn hFS hTo hK1 hDD
          go_wp2_with fail
          have HS0 := HS
          obtain ⟨z1, z2, z3, z4, z5, -⟩ := HS0
          go_region_held3 (fun w' => Hw BG B8 B5 B6 (W.heap.size + 1) g h A5 A7 A' l.length c5 c7 l'.length c' w')
            (first
              | exact HS
              | assumption
              | exact hw_set (by assumption) hne _)
            (first
              | (go_at_call_of 17 (Value.slice A5 l.length c5); refine (entries_calls A5 _ c5 l A7 c7 _ (rA.below bdr) (rB.below bdr) (by omega)).mono ?_; rintro e w6 ⟨rfl, nd6, hw6⟩; have b6 : Below W5.heap.size W5 w6 := (by rw [hw6]; exact below_drawn_ bdr nd6); have HS6 := hw_below HS (show Below W5.drew.heap.size W5.drew w6 by rw [hw6]; exact below_drawn_ (Below.refl _ _) nd6); clear hw6)
              | (go_at_call 18; refine (walked_calls W.heap.size g m v' l' _ w6 (bo5.x.below b6) (by omega)).mono ?_; rintro e w7 ⟨s7, rfl, o7, b67⟩; obtain ⟨A8, c8, rfl⟩ := own_form o7; have b7 := b6.trans (b67.mono b6.size); have HS7 := hw_below HS6 b67)
              | (go_at_call_of 17 (Value.slice A8 l'.length c8); refine (entries_calls A8 _ c8 l' A' c' w7 (Rd.of_own o7) (bo5.y.below b7).rd (by omega)).mono ?_; rintro e w8 ⟨rfl, nd8, hw8⟩; have b78 : Below w7.heap.size w7 w8 := (by rw [hw8]; exact below_drawn_ (Below.refl _ _) nd8); have b8 := b7.trans (b78.mono b7.size); have HS8 := hw_below HS7 b78; clear hw8; obtain ⟨-, -, -, -, -, u8, B48⟩ := HS8; have c48 := B48.cell; have f48 := B48.frozen; have HS8 := hw_below HS7 b78))
          go_wp2_with fail
          obtain ⟨d1, hK35, hK5, bel5, ⟨g1, g2, g3⟩, hq12, hq23, hqW⟩ := KK.out
          have bU : Boxed (w8.setCell ⟨W.heap.size + 1, 0, none⟩ (.bool true)) (W.heap.size + 1) 4 (.bool true) := Boxed.set (.bool true) B48
          have BU : Below W.heap.size W (w8.setCell ⟨W.heap.size + 1, 0, none⟩ (.bool true)) := below_put (w5 := W5) (bel5.trans (b8.mono bel5.size)) (by omega)
          have e1 := (KeepsOthers.setCell w8 ⟨W.heap.size + 1, 0, none⟩ (.bool true)).same D1 _ ((b8.block _ g1).trans d1) rfl
          have e2 := (KeepsOthers.setCell w8 ⟨W.heap.size + 1, 0, none⟩ (.bool true)).same D2 _ ((b8.block _ g2).trans hK35) rfl
          have e3 := (KeepsOthers.setCell w8 ⟨W.heap.size + 1, 0, none⟩ (.bool true)).same D3 _ ((b8.block _ g3).trans hK5) rfl
          generalize w8.setCell ⟨W.heap.size + 1, 0, none⟩ (.bool true) = U at bU BU e1 e2 e3 ⊢
          have n12 : D1 ≠ D2 := by omega
          have n13 : D1 ≠ D3 := by omega
          have n23 : D2 ≠ D3 := by omega
          refine ⟨by simp, .inl ⟨_, _, rfl, run_takeDeferred e3, ?_⟩⟩
          have e2' := (World.putObj_heap_other (w := U) (o := Obj.deferred none) n23).trans e2
          have e1' := (World.putObj_heap_other (w := U) (o := Obj.deferred none) n13).trans e1
          have q3 := cell_kept bU.cell (grownBy_putObj' _ D3 (.deferred none)) (fun r e => by cases e; exact ⟨_, e3, rfl⟩)
          have C3 := BU.trans (belowK_b (w := W) (Nat.le_refl _) _ D3 _ (.deferred none) (by omega) e3 rfl rfl)
          refine ⟨by simp, .inl ⟨_, _, rfl, run_takeDeferred e2', ?_⟩⟩
          have e1'' := (World.putObj_heap_other (w := U.putObj D3 (.deferred none)) (o := Obj.deferred none) n12).trans e1'
          have q2 := cell_kept q3 (grownBy_putObj' _ D2 (.deferred none)) (fun r e => by cases e; exact ⟨_, e2', rfl⟩)
          have C2 := C3.trans (belowK_b (w := W) (Nat.le_refl _) _ D2 _ (.deferred none) (by omega) e2' rfl rfl)
          refine ⟨by simp, .inl ⟨_, _, rfl, run_takeDeferred e1'', ?_⟩⟩
          have q1 := cell_kept q2 (grownBy_putObj' _ D1 (.deferred none)) (fun r e => by cases e; exact ⟨_, e1'', rfl⟩)
          have C1 := C2.trans (belowK_b (w := W) (Nat.le_refl _) _ D1 _ (.deferred none) (by omega) e1'' rfl rfl)
          refine ⟨.bool true, ?_, rfl, C1⟩
          simp [results, Try.f4, go_sem, q1]
theorem walks_law (AD : Option Addr) (nD cD : Nat) (ds : List De) (AM : Option Addr) (nM cM : Nat) (ms : List De) (W : World) (hr : Rd W 4 AD nD cD (ds.flatMap De.cells)) (hl : ds.length = nD) (hok : ∀ x ∈ ds, De.good x) (hb : (ds.map De.wt).sum ≤ 1048576)
    (hr2 : Rd W 4 AM nM cM (ms.flatMap De.cells)) (hl2 : ms.length = nM) (hok2 : ∀ x ∈ ms, De.good x) (hb2 : (ms.map De.wt).sum ≤ 1048576) :
    Calls Try.prog 4 #[.slice AD nD cD, .slice AM nM cM] W fun e w' => e = .returned (.bool true) ∧ Below W.heap.size W w' :=
  walks_calls AD nD cD ds AM nM cM ms W (rdd_of hr hl hok) (rdd_of hr2 hl2 hok2) (by have := wt_len ds; omega) (by have := wt_len ms; omega)
end Go.Proofs.Ytabgngdimbflkaa.DwB
