/-
  append of one element within a round; the walk of 'walked'. Conditions: as stated.
-/
import Derived.Test.YtabgngdimbflkaaDsM
import Derived.Test.YtabgngdimbflkaaDuY
import Derived.Maps.OwnIn
import Derived.RangeFuncFrom
set_option maxRecDepth 100000
set_option linter.unusedSimpArgs false
set_option linter.unusedVariables false
namespace Go.Proofs.Ytabgngdimbflkaa.DuP
open Go Go.RowKit Go.Shelf Go.Proofs.Ytabgngdimbflkaa.Mem Go.Proofs.Ytabgngdimbflkaa.DuA Go.Proofs.Ytabgngdimbflkaa.DuM Go.Proofs.Ytabgngdimbflkaa.DuN Go.Proofs.Ytabgngdimbflkaa.DuB Go.Proofs.Ytabgngdimbflkaa.DuO Go.Proofs.Ytabgngdimbflkaa.DsC Go.Proofs.Ytabgngdimbflkaa.DsH Go.Proofs.Ytabgngdimbflkaa.DsI Go.Proofs.Ytabgngdimbflkaa.DsJ Go.Proofs.Ytabgngdimbflkaa.DsK Go.Proofs.Ytabgngdimbflkaa.DsL Go.Proofs.Ytabgngdimbflkaa.DsM Go.Proofs.Ytabgngdimbflkaa.DuR Go.Proofs.Ytabgngdimbflkaa.DuS Go.Proofs.Ytabgngdimbflkaa.DuT Go.Proofs.Ytabgngdimbflkaa.DuU Go.Proofs.Ytabgngdimbflkaa.DuV Go.Proofs.Ytabgngdimbflkaa.DuY
attribute [local go_sem] Oper.semAt_some

theorem wpListIn_app2b {F : Fence} {nF : Nat} {P : Program} {t e : TypeId} {z : Value} {bytes : Nat} {ops : Array Oper} {rest : List Oper} {o : Oper} {a : Act} {Q : Exit → Act → World → Prop} {w : World} (hgd : o.guard = none) (s x : Operand)
    (E : El P t e z 2 bytes) (ho : o.op = .call { callee := .builtin .append, args := #[s, x], argTypes := #[t, t] })
    (B : Nat) (v : Value) (n : Nat) (xs : List Value) (hs : a.eval s = v) (hown : w.ownsRow B e 2 v n xs)
    (u1 u2 : Value) (hu1 : u1.oneCell' = true) (hu2 : u2.oneCell' = true) (b : Nat) (hb : b = w.heap.size) (hx : a.eval x = .slice (some ⟨b, 0, none⟩) 1 1)
    (h63 : n + 1 ≤ maxLen) (hbytes : (n + 1) * bytes ≤ 140737488355328) (hB : B ≤ w.heap.size)
    (h : ∀ v' w', w'.ownsRow B e 2 v' (n + 1) (xs ++ [u1, u2]) → Only (fun k => v.ownBlock = some k) w w' → (v'.ownBlock = v.ownBlock ∨ ∃ k, v'.ownBlock = some k ∧ w.heap.size ≤ k) → wpListIn F nF P ops Q rest (a.put o.dst v') w') :
    wpListIn F nF P ops Q (o :: rest) a (w.alloc (.cells #[u1, u2] e)) := by
  subst hb
  obtain ⟨i, hi, hz0, hz1, hz2⟩ := E.info
  have hr := two_rd w u1 u2 e
  refine wpListIn_append_own_at _ hgd s x t ho B e i z 2 bytes E.ht hi hz0 hz1 hz2 E.hz E.pos v n xs hs (hown.alloc _) ⟨w.heap.size, 0, none⟩ 1 1 [u1, u2] hx (by simp) (fun j u hu => by
    obtain ⟨ad', e', hc⟩ := hr.get j u hu
    injection e' with e'; subst e'; exact hc) (fun y hy => by simp at hy; rcases hy with rfl | rfl <;> assumption) h63 hbytes (by simp; omega) ?_
  intro v' w' h2 h3 _ h4
  refine h v' w' h2 (((Only.refl _ w).alloc _).trans (Only.of_grown h3) fun b hb => .inl hb) ?_
  rcases h4 with h4 | h4
  · exact .inl h4
  · exact .inr ⟨_, h4, by simp⟩

theorem keepsFrom_only {B : Nat} {S : Nat → Prop} {A C : World} (h : Only S A C) (hs : ∀ k, S k → ∀ o, A.heap[k]? = some o → o.isCells = true) : KeepsFrom B A C :=
  ⟨h.size, fun k o _ hk ho => h.heap hk (fun hS => by rw [hs k hS o hk] at ho; cases ho)⟩
theorem boxed_cells {w : World} {b : Nat} {t : TypeId} {v : Value} (h : Boxed w b t v) : ∀ o, w.heap[b]? = some o → o.isCells = true := fun o ho => by
  rw [show w.heap[b]? = _ from h] at ho; cases ho; rfl
theorem own_cells {w : World} {B sz n : Nat} {e : TypeId} {v : Value} {xs : List Value} (h : w.ownsRow B e sz v n xs) : ∀ k, v.ownBlock = some k → ∀ o, w.heap[k]? = some o → o.isCells = true := fun k hk o ho => by
  rcases h.2 with ⟨rfl, _⟩ | ⟨b', cap, cur, rfl, _, h2, _⟩
  · cases hk
  · injection hk with hk; subst hk
    rw [h2] at ho; cases ho; rfl
theorem boxed_only {S : Nat → Prop} {A C : World} {b : Nat} {t : TypeId} {v : Value} (h : Boxed A b t v) (ho : Only S A C) (hn : ¬ S b) : Boxed C b t v := ho.heap h hn
theorem ownFrom_only {β : Type} {B : Nat} {S : Nat → Prop} {w₀ : World} (hB : w₀.heap.size ≤ B) : OwnFrom B (fun (_ : β) W => Only S w₀ W) :=
  fun s X Y row hs hg hr => hs.trans (Only.of_grown hg) (fun b hb => .inr (Nat.le_trans hB (hr b hb).1))
/-- The activation with which a round begins: four variables are set. -/
def G (a : Act) (p q s t : Nat) (u v : Value) : Act := { tmps := (((a.tmps.setIfInBounds p u).setIfInBounds q v).setIfInBounds s u).setIfInBounds t v, defers := [] }
/-- The law of a range at a pair of variables; the body is told of its loop's record. -/
theorem ownL {F : Fence} {n : Nat} {P : Program} {α : Type} {g : Operand} {ps : Array Tmp} {assign body : Code} {Q : Exit → Act → World → Prop} {a : Act} {w : World}
    (hro : F.round = none) (h1 : 1 ≤ n) {gf : Nat} {lb : Array Value} (hg : a.eval g = .func (.func gf) #[] lb) (hFg : F.fn gf) (eg : ∀ args w, (callFunc gf args).run P w = .ok (.enter gf args) w)
    {encs : α → Array Value} {Kp : World → World → Prop} {S Sp : List α → Prop} {N : Nat} {w0 : World} (hseq : SeqStopsK F (n - 1) P gf lb encs Kp S Sp N w0)
    (hKt : ∀ {A B C : World}, Kp A B → Kp B C → Kp A C) (hKb : ∀ (W : World) (l : Nat) (o o' : Obj), w.heap.size ≤ l → W.heap[l]? = some o → o.isCells = false → o.isWalk = false → Kp W (W.putObj l o')) (hb0 : Below w0.heap.size w0 w) (hps : ∀ x, (encs x).size = ps.size)
    (I : List α → World → Prop) (Ix : Code → List α → World → Prop) (hI : OwnFrom w.heap.size I) (hIx : ∀ c, OwnFrom w.heap.size (Ix c)) (h0 : I [] w) (p q s t : Nat) (u v : α → Value) (hKr : ∀ W, Kp W W)
    (hassign : ∀ (l : Nat) (x : α) (W : World) (K : Act → World → Prop), K (G a p q s t (u x) (v x)) W →
      assign.wpIn (F.inRound l) (n - 1 - 1) P (Exit.then K (fun _ _ _ => False)) { tmps := (ps.zip (encs x)).foldl (fun t (p, v) => t.setIfInBounds p v) a.tmps, defers := [] } W)
    (hbody : ∀ (l : Nat) (pre : List α) (x : α) (W : World), w.heap.size ≤ l → (∃ r, W.heap[l]? = some (.loop r)) → I pre W → pre.length < N → body.wpIn (F.inRound l) (n - 1 - 1) P (ownPostG w.heap.size Kp I Ix (pre ++ [x]) W) (G a p q s t (u x) (v x)) W)
    (hdone : ∀ (D : Nat) (xs : List α) (W : World), w.heap.size ≤ D → S xs → I xs W → W.heap[D]? = some (.deferred (some [])) → Q .normal { a with defers := { target := .collected D, args := #[] } :: a.defers } W)
    (hstop : ∀ (D : Nat) (c : Code) (pre : List α) (W : World), w.heap.size ≤ D → Sp pre → Ix c pre W → W.heap[D]? = some (.deferred (some [])) → c.wpIn F n P Q { a with defers := { target := .collected D, args := #[] } :: a.defers } W) :
    (Code.rangeFunc g ps assign body).wpIn F n P Q a w :=
  wpIn_rangeFunc_ownH hro h1 hg hFg eg hseq (fun h k => hKt h k) hKb hb0 hps I Ix hI hIx h0 (fun x a' _ => a' = G a p q s t (u x) (v x)) (fun _ _ _ _ _ _ hs _ _ => hs)
    (fun l pre x W K hi hK => hassign l x W K (hK _ _ (KeepsFrom.refl _ _) (hKr W) hi rfl)) (fun l pre x a' W hl hr hi e hlt => by subst e; exact hbody l pre x W hl hr hi hlt) hdone hstop

/-- What has come. -/
def came (l : List (Int × ByteArray)) (pre : List (Fin l.length)) : List (Int × ByteArray) := pre.map (fun x => l[x.1]'x.2)
theorem came_app (l : List (Int × ByteArray)) (pre : List (Fin l.length)) (x : Fin l.length) : came l (pre ++ [x]) = came l pre ++ [l[x.1]'x.2] := by simp [came]
theorem came_len (l : List (Int × ByteArray)) (pre : List (Fin l.length)) : (came l pre).length = pre.length := by simp [came]
theorem came_all (l : List (Int × ByteArray)) : came l (upto l.length l.length) = l := by
  refine List.ext_getElem (by rw [came_len, upto_len (Nat.le_refl _)]) (fun i h1 h2 => ?_)
  simp [came, upto]

set_option maxHeartbeats 4000000 in
theorem walked_calls (B g m : Nat) (v : Value) (l : List (Int × ByteArray)) (N : Nat) (w : World) (h : Ix w B g m v l N) (hN : N ≤ 1099511627776) :
    Calls Try.prog 18 #[.pointer (some ⟨g, 0, none⟩)] w fun e w' => ∃ v', e = .returned v' ∧ OwnR w' w.heap.size v' l ∧ Below w.heap.size w w' := by
  have hlen := h.len
  refine (callsIn_wide (n := 4)).1 ?_
  refine callsIn_of_wp_marks Try.func18 rfl trivial ?_ rfl
  simp only [Try.ntmps18, List.size_toArray, List.length_cons, List.length_nil, Nat.reduceAdd, Nat.reduceSub, Array.replicate_succ, Array.replicate_zero, List.push_toArray, List.append_toArray, List.nil_append, List.cons_append]
  refine wpIn_wide.2 ?_
  have heq : ∀ (bs : Array Value) (w : World), Sem.run Try.prog (binOp BinOp.eql 40 (Value.func (.func 34) #[] bs) Value.nilFunc) w = .ok (.bool false) w := fun _ _ => by kernel_rfl
  have bL := Boxed.new w 26 (.slice none 0 0)
  have b0 := al w (.cells #[.slice none 0 0] 26)
  obtain ⟨W0, hW0⟩ : ∃ W0, w.alloc (.cells #[.slice none 0 0] 26) = W0 := ⟨_, rfl⟩
  have hs0 : W0.heap.size = w.heap.size + 1 := by rw [← hW0]; simp
  rw [hW0] at bL b0
  go_wp2_with fail
  refine (allIter_calls B g m v l N W0 (h.below b0) hN).mono ?_
  rintro e w1 ⟨A1, c1, Bs, rfl, hBs, bS, o1, hne, b1⟩
  have bL1 : Boxed w1 w.heap.size 26 (.slice none 0 0) := (b1.block _ bL.lt).trans bL
  have B1 := b0.trans (b1.mono b0.size)
  have hsz1 := b1.size
  have hcS := bS.cell
  clear hW0 bL b0 b1 h
  go_wp2_with fail
  have hT : ∀ ad, A1 = some ad → (Value.slice A1 l.length c1).ownBlock = some ad.block := fun ad e => by rw [e]; rfl
  have hBl : w.heap.size < w1.heap.size := bL1.lt
  have hTl : ∀ k, (Value.slice A1 l.length c1).ownBlock = some k → w.heap.size < k ∧ k < w1.heap.size := fun k hk => by have := o1.lt k hk; omega
  refine (wpIn_wide (n := 4)).1 (ownL (α := Fin l.length) rfl (by decide) (gf := 34) (lb := #[.pointer (some ⟨Bs, 0, none⟩)]) rfl trivial (enters_of Try.func34 (by kernel_rfl) rfl)
    (all_stops Fence.wide 3 trivial rfl (by decide) Bs A1 c1 l (by omega) (fun k => (Value.slice A1 l.length c1).ownBlock = some k) w1 bS.lt bS.cell (Rd.of_own o1) hT) (fun h k => Keeps.t h k) Keeps.b (Below.refl _ _) (fun _ => rfl)
    (fun pre W' => (∃ v', Boxed W' w.heap.size 26 v' ∧ W'.ownsRow w1.heap.size 43 2 v' (came l pre).length (entsR (came l pre)) ∧ True) ∧ Only (fun k => k = w.heap.size) w1 W') (fun _ _ _ => False)
    (OwnFrom.and (Own.from (holdsRow_own w1.heap.size w.heap.size 26 43 2 (fun pre => (came l pre).length) (fun pre => entsR (came l pre)) (fun _ _ => True)) _) (ownFrom_only (Nat.le_refl _)))
    (fun _ _ _ _ _ hs _ _ => hs) ⟨⟨_, bL1, World.ownsRow_nil _ _ _ _, trivial⟩, Only.refl _ _⟩
    12 13 5 6 (fun x => .string (l[x.1]'x.2).2) (fun x => .int .i64 (l[x.1]'x.2).1) (fun _ _ _ h _ => h) ?assign ?body ?done (fun D c pre W1 _ _ h _ => h.elim))
  case assign =>
    intro l2 x W' K hK
    unfold encP
    gi_wp2
    exact hK
  case body =>
    rintro l2 pre x X hl2 - ⟨⟨v2, b2, o2, -⟩, B2⟩ hlt
    obtain ⟨y, hy⟩ : ∃ y, l[x.1]'x.2 = y := ⟨_, rfl⟩
    have hpl : (came l pre).length + 1 ≤ l.length := by rw [came_len]; exact hlt
    have hX := B2.size
    have cL := b2.cell
    unfold G
    dsimp only
    rw [hy]
    gi_wp2_with (gi_at_builtin; refine wpListIn_app2b rfl (.tmp 14) (.tmp 18) elR rfl w1.heap.size v2 _ _ rfl o2 (.string y.2) (.int .i64 y.1) rfl rfl _ rfl rfl (by unfold maxLen; omega) (by omega) hX ?_; intro v3 w3 o3 O3 g3; obtain ⟨A3, q3, rfl⟩ := own_form o3; have b3 := boxed_only b2 O3 (fun e => by have := (o2.lt _ e).1; omega); have c3 := b3.cell; have f3 := b3.frozen)
    have lt2 := o2.lt
    have hO : Only (fun k => k = w.heap.size) w3 (w3.setCell ⟨w.heap.size, 0, none⟩ (.slice A3 ((came l pre).length + 1) q3)) := (Only.refl (fun k => k = w.heap.size) w3).put (p := ⟨w.heap.size, 0, none⟩) (.inl rfl) _
    have XZ : Only (fun k => v2.ownBlock = some k ∨ k = w.heap.size) X (w3.setCell ⟨w.heap.size, 0, none⟩ (.slice A3 ((came l pre).length + 1) q3)) := (O3.mono (fun b e => .inl e)).trans hO (fun b e => .inl (.inr e))
    have k1 := keepsFrom_only (B := w1.heap.size) XZ (fun k e => Or.elim e (fun e => own_cells o2 k e) (fun e => by rw [e]; exact boxed_cells b2))
    have k2 := B2.trans XZ (fun b e => Or.elim e (fun e => .inr (lt2 b e).1) (fun e => .inl e))
    refine ⟨k1, Keeps.of_only XZ (fun k hk e => ?_), ⟨_, Boxed.set _ b3, ?_, trivial⟩, k2⟩
    · have := hTl k hk
      rcases e with e | e
      · have := lt2 k e; omega
      · omega
    · rw [came_app, hy, entsR_app, List.length_append]
      exact own_only o3 hO (fun k hk e => by have := (o3.lt k hk).1; omega)
  case done =>
    rintro D xs W1 hD hxs ⟨⟨v2, b2, o2, -⟩, B2⟩ hK
    rw [hxs, came_all] at o2
    have cL := b2.cell
    obtain ⟨A3, q3, rfl⟩ := own_form o2
    go_wp2_with fail
    refine ⟨by simp, .inl ⟨_, _, rfl, run_takeDeferred hK, ?_⟩⟩
    refine ⟨.slice A3 l.length q3, ?_, ⟨_, rfl, own_less (ownsRow_putObj o2 _ hK rfl) (by omega), ((B2.after B1 (Nat.le_refl _) (fun b e => Nat.le_of_eq e.symm))).trans (belowK_b (w := w) (Nat.le_refl _) _ D _ _ (by omega) hK rfl rfl)⟩⟩
    simp [results, Try.f18, go_sem]
end Go.Proofs.Ytabgngdimbflkaa.DuP
