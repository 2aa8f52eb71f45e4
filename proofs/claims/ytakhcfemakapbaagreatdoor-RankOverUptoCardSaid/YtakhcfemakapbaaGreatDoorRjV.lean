/-
  The rank's iterator: what All hands back tells the list as it was, whatever the rounds do that keep its memory; a range's law, append within a round. Conditions: as stated.
-/
import Derived.RangeFuncNested
import Derived.RangeFuncBound
import Derived.RangeFuncCalls
import Derived.RangeFuncLeaves
import Derived.RangeFuncFrom
import Derived.Shelf.Abstract
import Derived.Shelf.RegionOpen
import Derived.OwnWalkIn
import Derived.TacticsInMore
import Derived.LoopNIn
import Derived.LoopN
import Derived.LoopIn
import Derived.Maps.OwnIn
import Derived.Test.YtakhcfemakapbaaGreatDoorRjS
set_option maxRecDepth 100000
set_option linter.unusedSimpArgs false
set_option linter.unusedVariables false
namespace Go.Proofs.YtakhcfemakapbaaGreatDoor.RjV
open Go Go.RowKit Go.Shelf Go.Sort Go.Proofs.YtakhcfemakapbaaGreatDoor.Mem Go.Proofs.YtakhcfemakapbaaGreatDoor.DuA Go.Proofs.YtakhcfemakapbaaGreatDoor.DuM Go.Proofs.YtakhcfemakapbaaGreatDoor.DuN Go.Proofs.YtakhcfemakapbaaGreatDoor.NumA Go.Proofs.YtakhcfemakapbaaGreatDoor.NumC Go.Proofs.YtakhcfemakapbaaGreatDoor.NumE Go.Proofs.YtakhcfemakapbaaGreatDoor.RkA Go.Proofs.YtakhcfemakapbaaGreatDoor.RkC Go.Proofs.YtakhcfemakapbaaGreatDoor.RkB Go.Proofs.YtakhcfemakapbaaGreatDoor.RkE Go.Proofs.YtakhcfemakapbaaGreatDoor.RkF Go.Proofs.YtakhcfemakapbaaGreatDoor.RkH Go.Proofs.YtakhcfemakapbaaGreatDoor.RkI Go.Proofs.YtakhcfemakapbaaGreatDoor.RkL Go.Proofs.YtakhcfemakapbaaGreatDoor.RkM Go.Proofs.YtakhcfemakapbaaGreatDoor.RkN Go.Proofs.YtakhcfemakapbaaGreatDoor.RkO Go.Proofs.YtakhcfemakapbaaGreatDoor.RkP Go.Proofs.YtakhcfemakapbaaGreatDoor.RkQ Go.Proofs.YtakhcfemakapbaaGreatDoor.RkR Go.Proofs.YtakhcfemakapbaaGreatDoor.RkS Go.Proofs.YtakhcfemakapbaaGreatDoor.RkU Go.Proofs.YtakhcfemakapbaaGreatDoor.RkW Go.Proofs.YtakhcfemakapbaaGreatDoor.RjJ Go.Proofs.YtakhcfemakapbaaGreatDoor.RjK Go.Proofs.YtakhcfemakapbaaGreatDoor.RjL Go.Proofs.YtakhcfemakapbaaGreatDoor.RjM Go.Proofs.YtakhcfemakapbaaGreatDoor.RjN Go.Proofs.YtakhcfemakapbaaGreatDoor.RjO Go.Proofs.YtakhcfemakapbaaGreatDoor.RjQ Go.Proofs.YtakhcfemakapbaaGreatDoor.RjS

theorem rd_pair (w : World) (a b : Value) (T : TypeId) : Rd (w.alloc (.cells #[a, b] T)) 2 (some ⟨w.heap.size, 0, none⟩) 1 1 [a, b] :=
  ⟨rfl, Nat.le_refl _, by unfold maxLen; omega, fun j x hx => ⟨_, rfl, by
    have h := heap_alloc_new w (.cells #[a, b] T)
    rw [add_mk, Nat.zero_add]
    match j, hx with
    | 0, hx => simp at hx; subst hx; simp only [World.cell?]; rw [h]; rfl
    | 1, hx => simp at hx; subst hx; simp only [World.cell?]; rw [h]; rfl⟩⟩
theorem bb {w w' : World} {b : Nat} {t : TypeId} {v : Value} (h : Boxed w b t v) (hb : Below w.heap.size w w') : Boxed w' b t v := (hb.block _ (Boxed.lt h)).trans h
section
attribute [local go_sem] Oper.semAt_some
/-- What a round leaves of the blocks T. -/
def Keeps (T : Nat → Prop) (A B : World) : Prop := ∀ p v, A.cell? p = some v → T p.block → B.cell? p = some v
theorem Keeps.t {T : Nat → Prop} {A B C : World} (h : Keeps T A B) (k : Keeps T B C) : Keeps T A C := fun p v hp ht => k p v (h p v hp ht) ht
theorem Keeps.b {T : Nat → Prop} {w : World} (W : World) (l : Nat) (o o' : Obj) (_ : w.heap.size ≤ l) (h : W.heap[l]? = some o) (ho : o.isCells = false) (_ : o.isWalk = false) : Keeps T W (W.putObj l o') := fun p v hp _ =>
  cell_kept hp (grownBy_putObj' W l o') (fun r e => by cases e; exact ⟨o, h, ho⟩)
theorem Keeps.of_only {T S : Nat → Prop} {A B : World} (h : Only S A B) (hs : ∀ k, T k → ¬ S k) : Keeps T A B := fun p v hp ht => h.cell hp (hs _ ht)
theorem Keeps.of_below {T : Nat → Prop} {A B : World} (h : Below A.heap.size A B) : Keeps T A B := fun p v hp _ => cell_b hp h
theorem Keeps.rd {T : Nat → Prop} {A B : World} (h : Keeps T A B) {sz n c : Nat} {p : Option Addr} {l : List Value} (hr : Rd A sz p n c l) (ht : ∀ ad, p = some ad → T ad.block) : Rd B sz p n c l :=
  ⟨hr.len, hr.cap, hr.big, fun j x hx => by
    obtain ⟨ad, e, hc⟩ := hr.get j x hx
    exact ⟨ad, e, h _ _ hc (by rw [add_block]; exact ht ad e)⟩⟩
theorem abides_below {β : Type} {B : Nat} {J : β → World → Prop} (h : AbidesFrom B J) {s : β} {W W' : World} (hs : J s W) (hb : Below W.heap.size W W') : J s W' :=
  h s W W' none hs (Only.grown ((only_b (S := fun b => (none : Option Nat) = some b) hb))) (fun r e => by cases e)

def upto (N k : Nat) : List (Fin N) := (List.finRange N).take k
theorem upto_len {N k : Nat} (h : k ≤ N) : (upto N k).length = k := by simp [upto, h]
theorem upto_succ {N k : Nat} (h : k < N) : upto N (k + 1) = upto N k ++ [⟨k, h⟩] := by
  unfold upto
  rw [List.take_succ_eq_append_getElem (by simpa using h)]
  simp

/-- What a round is handed. -/
def encP (zs : List En) (x : Fin zs.length) : Array Value := #[Value.string (zs[x.1]'x.2).2, .int .i64 (zs[x.1]'x.2).1]

set_option maxHeartbeats 2000000 in
theorem all1_in (F : Fence) (n : Nat) (hf : F.fn 55) (hro : F.round = none) (hn : 1 ≤ n) (l Bs : Nat) (p : Addr) (c : Nat) (zs : List En) (hb : zs.length ≤ 17592186044416) (T : Nat → Prop) (hT : T p.block) (B : Nat) (J Jx : List (Fin zs.length) → World → Prop) (hJ : AbidesFrom B J)
    (hY : ∀ pre x W, J pre W → pre.length < zs.length → YieldAt F (n - 1) Tryz.prog l (encP zs x) W fun e W' =>
      (e = .returned (.bool true) ∧ J (pre ++ [x]) W' ∧ Keeps T W W') ∨ (e = .returned (.bool false) ∧ Jx (pre ++ [x]) W'))
    (W : World) (hBs : W.cell? ⟨Bs, 0, none⟩ = some (.slice (some p) zs.length c)) (hr : RdE W (some p) zs.length c zs) (h0 : J [] W) :
    CallsIn F n Tryz.prog 55 #[.func (.yield l) #[] #[], .pointer (some ⟨Bs, 0, none⟩)] W fun e W' => (∃ v, e = .returned v) ∧
      ((∃ ys, ys = upto zs.length zs.length ∧ J ys W') ∨ (∃ pre, (∃ k, k ≤ zs.length ∧ pre = upto zs.length k) ∧ Jx pre W')) := by
  refine callsIn_of_wp Tryz.func55 rfl hf ?_ hro
  simp only [Tryz.ntmps55, List.size_toArray, List.length_cons, List.length_nil, Nat.reduceAdd, Nat.reduceSub, Array.replicate_succ, Array.replicate_zero, List.push_toArray, List.append_toArray, List.nil_append, List.cons_append]
  gi_wp2
  gi_loopw [7] (fun i wr => ∃ k : Nat, k ≤ zs.length ∧ i = .int .i64 k ∧ J (upto zs.length k) wr ∧ RdE wr (some p) zs.length c zs)
    (fun i _ => zs.length - (intOf i).toNat)
  case atStart => exact ⟨0, Nat.zero_le _, rfl, h0, hr⟩
  case round =>
    obtain ⟨k, hk, rfl, hJs, hrk⟩ := hrel
    by_cases hlt : k < zs.length
    · obtain ⟨e, he⟩ : ∃ e, zs[k]'hlt = e := ⟨_, rfl⟩
      obtain ⟨Wn, hWn⟩ : ∃ Wn, wr.alloc (.cells #[.string e.2, .int .i64 e.1] 51) = Wn := ⟨_, rfl⟩
      have bn : Below wr.heap.size wr Wn := by rw [← hWn]; exact al _ _
      have JN := abides_below hJ hJs bn
      have rN : RdE Wn (some p) zs.length c zs := hrk.below bn
      obtain ⟨fn, tmps, assign, body, hy, hR⟩ := hY _ ⟨k, hlt⟩ Wn JN (by rw [upto_len hk]; exact hlt)
      unfold encP at hy
      dsimp only at hy
      rw [he] at hy
      obtain ⟨q, hq, cx, cy⟩ := rde_get hrk (i := k) (e := e) (by rw [← he]; exact List.getElem?_eq_getElem hlt)
      injection hq with hq
      subst hq
      obtain ⟨x0, x1⟩ := eo_cells wr e
      rw [hWn] at x0 x1
      clear JN
      gi_wp2
      refine hR.mono ?_
      rintro e2 W3 (⟨rfl, hJ3, hk3⟩ | ⟨rfl, hJx3⟩)
      · gi_wp2
        go_roundw
        case rel => exact ⟨k + 1, by omega, by simp, by rw [upto_succ hlt]; exact hJ3, hk3.rd rN (fun ad e => by injection e with e; subst e; exact hT)⟩
        case measure => simp [intOf]; omega
      · gi_wp2
        refine bodyPost_ret (results_none rfl _ _ _) rfl ?_
        exact ⟨⟨_, rfl⟩, .inr ⟨_, ⟨k + 1, by omega, (upto_succ hlt).symm⟩, hJx3⟩⟩
    · obtain rfl : k = zs.length := by omega
      gi_wp2
      go_end0
      exact ⟨⟨_, rfl⟩, .inl ⟨_, rfl, hJs⟩⟩

set_option maxHeartbeats 1000000 in
theorem all1_nil_in (F : Fence) (n : Nat) (hf : F.fn 55) (hro : F.round = none) (l Bs c : Nat) (A : Option Addr) (W : World) (hBs : W.cell? ⟨Bs, 0, none⟩ = some (.slice A 0 c)) :
    CallsIn F n Tryz.prog 55 #[.func (.yield l) #[] #[], .pointer (some ⟨Bs, 0, none⟩)] W fun e W' => (∃ v, e = .returned v) ∧ W' = W := by
  refine callsIn_of_wp Tryz.func55 rfl hf ?_ hro
  simp only [Tryz.ntmps55, List.size_toArray, List.length_cons, List.length_nil, Nat.reduceAdd, Nat.reduceSub, Array.replicate_succ, Array.replicate_zero, List.push_toArray, List.append_toArray, List.nil_append, List.cons_append]
  gi_wp2
  gi_loopw [7] (fun i wr => i = .int .i64 0 ∧ wr = W) (fun _ _ => 0)
  case atStart => exact ⟨rfl, rfl⟩
  case round =>
    obtain ⟨rfl, hJs⟩ := hrel
    gi_wp2
    go_end0
    exact ⟨⟨_, rfl⟩, by first | rfl | exact hJs | exact hJs.symm⟩

theorem all_stops (F : Fence) (n : Nat) (hf : F.fn 55) (hro : F.round = none) (hn : 1 ≤ n) (Bs : Nat) (A : Option Addr) (c : Nat) (zs : List En) (hb : zs.length ≤ 17592186044416) (T : Nat → Prop) (w : World) (hBs : Bs < w.heap.size)
    (hc : w.cell? ⟨Bs, 0, none⟩ = some (.slice A zs.length c)) (hr : RdE w A zs.length c zs) (hT : ∀ ad, A = some ad → T ad.block) :
    SeqStopsK F n Tryz.prog 55 #[.pointer (some ⟨Bs, 0, none⟩)] (encP zs) (Keeps T) (fun ys => ys = upto zs.length zs.length) (fun pre => ∃ k, k ≤ zs.length ∧ pre = upto zs.length k) zs.length w := fun l J Jx W hW hJ _ hY h0 => by
  have hc' := (hW.cell (p := ⟨Bs, 0, none⟩) hBs).trans hc
  by_cases hz : zs = []
  · subst hz
    refine (all1_nil_in F n hf hro l Bs c A W hc').mono ?_
    rintro e W' ⟨he, rfl⟩
    exact ⟨he, .inl ⟨[], rfl, h0⟩⟩
  · obtain ⟨p, rfl, _⟩ := hr.some_ (by intro e; apply hz; have := hr.len; rw [e] at this; exact List.eq_nil_of_length_eq_zero (by rw [List.length_nil] at this; omega))
    exact all1_in F n hf hro hn l Bs p c zs hb T (hT p rfl) _ J Jx hJ hY W hc' (hr.below hW) h0

end
set_option maxHeartbeats 1000000 in
/-- What All hands back. -/
theorem allIter_calls {W w : World} {g m N : Nat} {l : List En} (h : Ps W w g m l N) (hN : N ≤ 100000000) :
    Calls Tryz.prog 28 #[.pointer (some ⟨g, 0, none⟩)] w fun e w' => ∃ A c Bs, e = .returned (.func (.func 55) #[] #[.pointer (some ⟨Bs, 0, none⟩)]) ∧
      w.heap.size ≤ Bs ∧ Boxed w' Bs 22 (.slice A l.length c) ∧ OwnE w' w.heap.size (.slice A l.length c) l ∧ (Value.slice A l.length c).ownBlock ≠ some Bs ∧ Below w.heap.size w w' := by
  obtain ⟨v0, hr0⟩ := h.rk
  have hf := order_calls _ g m v0 l N false w hr0 (by omega)
  rw [show wayL l false = l from rfl] at hf
  clear h hr0
  go_enter Tryz.func28, Tryz.ntmps28
  go_wp2_with fail
  refine hf.mono ?_
  clear hf
  rintro e w1 ⟨v, rfl, o, b⟩
  obtain ⟨A, c, rfl⟩ := own_form o
  go_wp2_with fail
  go_ret
  exact ⟨A, c, _, rfl, b.size, Boxed.new w1 _ _, o.alloc _, fun e => by have := (o.lt _ e).2; omega, b.alloc b.size _⟩
theorem wpListIn_app2b {F : Fence} {nF : Nat} {P : Program} {t e : TypeId} {z : Value} {bytes : Nat} {ops : Array Oper} {rest : List Oper} {o : Oper} {a : Act} {Q : Exit → Act → World → Prop} {w : World} (hgd : o.guard = none) (s x : Operand)
    (E : El P t e z 2 bytes) (ho : o.op = .call { callee := .builtin .append, args := #[s, x], argTypes := #[t, t] })
    (B : Nat) (v : Value) (n : Nat) (xs : List Value) (hs : a.eval s = v) (hown : w.ownsRow B e 2 v n xs)
    (u1 u2 : Value) (hu1 : u1.oneCell' = true) (hu2 : u2.oneCell' = true) (b : Nat) (hb : b = w.heap.size) (hx : a.eval x = .slice (some ⟨b, 0, none⟩) 1 1)
    (h63 : n + 1 ≤ maxLen) (hbytes : (n + 1) * bytes ≤ 140737488355328) (hB : B ≤ w.heap.size)
    (h : ∀ v' w', w'.ownsRow B e 2 v' (n + 1) (xs ++ [u1, u2]) → Only (fun k => v.ownBlock = some k) w w' → (v'.ownBlock = v.ownBlock ∨ ∃ k, v'.ownBlock = some k ∧ w.heap.size ≤ k) → wpListIn F nF P ops Q rest (a.put o.dst v') w') :
    wpListIn F nF P ops Q (o :: rest) a (w.alloc (.cells #[u1, u2] e)) := by
  subst hb
  obtain ⟨i, hi, hz0, hz1, hz2⟩ := E.info
  have hr := rd_pair w u1 u2 e
  refine wpListIn_append_own_at _ hgd s x t ho B e i z 2 bytes E.ht hi hz0 hz1 hz2 E.hz E.pos v n xs hs (hown.alloc _) ⟨w.heap.size, 0, none⟩ 1 1 [u1, u2] hx (by simp) (fun j u hu => by
    obtain ⟨ad', e', hc⟩ := hr.get j u hu
    injection e' with e'; subst e'; exact hc) (fun y hy => by simp at hy; rcases hy with rfl | rfl <;> assumption) h63 hbytes (by simp; omega) ?_
  intro v' w' h2 h3 _ h4
  refine h v' w' h2 (((Only.refl _ w).alloc _).trans (Only.of_grown h3) fun b hb => .inl hb) ?_
  rcases h4 with h4 | h4
  · exact .inl h4
  · exact .inr ⟨_, h4, by simp⟩

theorem keepsFrom_only {B : Nat} {S : Nat → Prop} {A C : World} (h : Only S A C) (hs : ∀ k, S k → ∀ o, A.heap[k]? = some o → o.isCells = true) : KeepsFrom B A C :=
  ⟨h.size, fun k o _ hk ho => h.heap hk (fun hS => by rw [hs k hS o hk] at ho; cases ho)⟩
theorem boxed_cells {w : World} {b : Nat} {t : TypeId} {v : Value} (h : Boxed w b t v) : ∀ o, w.heap[b]? = some o → o.isCells = true := fun o ho => by
  rw [show w.heap[b]? = _ from h] at ho; cases ho; rfl
theorem own_cells {w : World} {B sz n : Nat} {e : TypeId} {v : Value} {xs : List Value} (h : w.ownsRow B e sz v n xs) : ∀ k, v.ownBlock = some k → ∀ o, w.heap[k]? = some o → o.isCells = true := fun k hk o ho => by
  rcases h.2 with ⟨rfl, _⟩ | ⟨b', cap, cur, rfl, _, h2, _⟩
  · cases hk
  · injection hk with hk; subst hk
    rw [h2] at ho; cases ho; rfl
theorem boxed_only {S : Nat → Prop} {A C : World} {b : Nat} {t : TypeId} {v : Value} (h : Boxed A b t v) (ho : Only S A C) (hn : ¬ S b) : Boxed C b t v := ho.heap h hn
theorem ownFrom_only {β : Type} {B : Nat} {S : Nat → Prop} {w₀ : World} (hB : w₀.heap.size ≤ B) : OwnFrom B (fun (_ : β) W => Only S w₀ W) :=
  fun s X Y row hs hg hr => hs.trans (Only.of_grown hg) (fun b hb => .inr (Nat.le_trans hB (hr b hb).1))
/-- The activation with which a round begins: four variables are set. -/
def G (a : Act) (p q s t : Nat) (u v : Value) : Act := { tmps := (((a.tmps.setIfInBounds p u).setIfInBounds q v).setIfInBounds s u).setIfInBounds t v, defers := [] }
/-- The law of a range at a pair of variables; the body is told of its loop's record. -/
theorem ownL {F : Fence} {n : Nat} {P : Program} {α : Type} {g : Operand} {ps : Array Tmp} {assign body : Code} {Q : Exit → Act → World → Prop} {a : Act} {w : World}
    (hro : F.round = none) (h1 : 1 ≤ n) {gf : Nat} {lb : Array Value} (hg : a.eval g = .func (.func gf) #[] lb) (hFg : F.fn gf) (eg : ∀ args w, (callFunc gf args).run P w = .ok (.enter gf args) w)
    {encs : α → Array Value} {Kp : World → World → Prop} {S Sp : List α → Prop} {N : Nat} {w0 : World} (hseq : SeqStopsK F (n - 1) P gf lb encs Kp S Sp N w0)
    (hKt : ∀ {A B C : World}, Kp A B → Kp B C → Kp A C) (hKb : ∀ (W : World) (l : Nat) (o o' : Obj), w.heap.size ≤ l → W.heap[l]? = some o → o.isCells = false → o.isWalk = false → Kp W (W.putObj l o')) (hb0 : Below w0.heap.size w0 w) (hps : ∀ x, (encs x).size = ps.size)
    (I : List α → World → Prop) (Ix : Code → List α → World → Prop) (hI : OwnFrom w.heap.size I) (hIx : ∀ c, OwnFrom w.heap.size (Ix c)) (h0 : I [] w) (p q s t : Nat) (u v : α → Value) (hKr : ∀ W, Kp W W)
    (hassign : ∀ (l : Nat) (x : α) (W : World) (K : Act → World → Prop), K (G a p q s t (u x) (v x)) W →
      assign.wpIn (F.inRound l) (n - 1 - 1) P (Exit.then K (fun _ _ _ => False)) { tmps := (ps.zip (encs x)).foldl (fun t (p, v) => t.setIfInBounds p v) a.tmps, defers := [] } W)
    (hbody : ∀ (l : Nat) (pre : List α) (x : α) (W : World), w.heap.size ≤ l → (∃ r, W.heap[l]? = some (.loop r)) → I pre W → pre.length < N → body.wpIn (F.inRound l) (n - 1 - 1) P (ownPostG w.heap.size Kp I Ix (pre ++ [x]) W) (G a p q s t (u x) (v x)) W)
    (hdone : ∀ (D : Nat) (xs : List α) (W : World), w.heap.size ≤ D → S xs → I xs W → W.heap[D]? = some (.deferred (some [])) → Q .normal { a with defers := { target := .collected D, args := #[] } :: a.defers } W)
    (hstop : ∀ (D : Nat) (c : Code) (pre : List α) (W : World), w.heap.size ≤ D → Sp pre → Ix c pre W → W.heap[D]? = some (.deferred (some [])) → c.wpIn F n P Q { a with defers := { target := .collected D, args := #[] } :: a.defers } W) :
    (Code.rangeFunc g ps assign body).wpIn F n P Q a w :=
  wpIn_rangeFunc_ownH hro h1 hg hFg eg hseq (fun h k => hKt h k) hKb hb0 hps I Ix hI hIx h0 (fun x a' _ => a' = G a p q s t (u x) (v x)) (fun _ _ _ _ _ _ hs _ _ => hs)
    (fun l pre x W K hi hK => hassign l x W K (hK _ _ (KeepsFrom.refl _ _) (hKr W) hi rfl)) (fun l pre x a' W hl hr hi e hlt => by subst e; exact hbody l pre x W hl hr hi hlt) hdone hstop

/-- What has come. -/
def came (l : List En) (pre : List (Fin l.length)) : List En := pre.map (fun x => l[x.1]'x.2)
theorem came_app (l : List En) (pre : List (Fin l.length)) (x : Fin l.length) : came l (pre ++ [x]) = came l pre ++ [l[x.1]'x.2] := by simp [came]
theorem came_len (l : List En) (pre : List (Fin l.length)) : (came l pre).length = pre.length := by simp [came]
theorem came_all (l : List En) : came l (upto l.length l.length) = l := by
  refine List.ext_getElem (by rw [came_len, upto_len (Nat.le_refl _)]) (fun i h1 h2 => ?_)
  simp [came, upto]

end Go.Proofs.YtakhcfemakapbaaGreatDoor.RjV
