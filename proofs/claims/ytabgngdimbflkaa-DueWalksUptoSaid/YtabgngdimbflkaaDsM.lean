/-
  slices.Clone of a row; what All hands back tells the list as it was, whatever the rounds do that keep its memory. Conditions: as stated.
-/
import Derived.RangeFuncNested
import Derived.RangeFuncBound
import Derived.RangeFuncCalls
import Derived.RangeFuncLeaves
import Derived.Shelf.Abstract
import Derived.Shelf.RegionOpen
import Derived.OwnWalkIn
import Derived.TacticsInMore
import Derived.LoopNIn
import Derived.LoopIn
import Derived.Test.YtabgngdimbflkaaDsL
set_option maxRecDepth 100000
set_option linter.unusedSimpArgs false
set_option linter.unusedVariables false
namespace Go.Proofs.Ytabgngdimbflkaa.DsM
open Go.RowKit Go.Shelf Go.Proofs.Ytabgngdimbflkaa.Mem Go.Proofs.Ytabgngdimbflkaa.DuA Go.Proofs.Ytabgngdimbflkaa.DuM Go.Proofs.Ytabgngdimbflkaa.DuN Go.Proofs.Ytabgngdimbflkaa.DuB Go.Proofs.Ytabgngdimbflkaa.DsC Go.Proofs.Ytabgngdimbflkaa.DsD Go.Proofs.Ytabgngdimbflkaa.DsE Go.Proofs.Ytabgngdimbflkaa.DsF Go.Proofs.Ytabgngdimbflkaa.DsG Go.Proofs.Ytabgngdimbflkaa.DsH Go.Proofs.Ytabgngdimbflkaa.DsI Go.Proofs.Ytabgngdimbflkaa.DsJ Go.Proofs.Ytabgngdimbflkaa.DsK Go.Proofs.Ytabgngdimbflkaa.DsL

set_option maxHeartbeats 1000000 in
theorem clone_calls (A : Option Addr) (n c : Nat) (l : List (Int × ByteArray)) (w : World) (hr : RdE w A n c l) (hn : n * 24 ≤ 140737488355328) :
    Calls Try.prog 33 #[.slice A n c] w fun e w' => ∃ v, e = .returned v ∧ OwnE w' w.heap.size v l ∧ Below w.heap.size w w' := by
  have hl : Hid (l.length = n) := rde_len hr
  have hnl := fun w n' c' => Lib.run_eql_slice_nil (P := Try.prog) w 69 74 A n c n' c' Try.underlying69
  rcases A with _ | ad
  · go_enter Try.func33, Try.ntmps33
    go_wp2_with fail
    go_ret
    have h0 : l = [] := by
      rcases l with _ | ⟨x, r⟩
      · rfl
      · obtain ⟨ad, h, _⟩ := hr.get 0 (.int .i64 x.1) rfl
        cases h
    subst h0
    exact ⟨_, rfl, World.ownsRow_nil _ _ _ _, Below.refl _ _⟩
  · go_enter Try.func33, Try.ntmps33
    have hr2 : RdE (w.alloc (.cells #[] 74)) (some ad) n c l := hr.below ((Below.refl _ _).alloc (Nat.le_refl _) _)
    have ho : (w.alloc (.cells #[] 74)).ownsRow w.heap.size 74 2 (.slice (some ⟨w.heap.size, 0, none⟩) 0 0) 0 [] := World.ownsRow_made w #[] 0 (Nat.le_refl _) (Nat.zero_le _) rfl
    go_wp2_with (at_builtin; refine wpList_app rfl (.tmp 5) (.tmp 6) elE rfl w.heap.size _ 0 [] rfl ho (some ad) n c (ents l) rfl hr2 (ents_one l) (by unfold maxLen; omega) (by omega) (by simp) ?_; intro v w1 o1 b1 f1)
    go_ret
    refine ⟨_, rfl, ?_, ?_⟩
    · simpa [OwnE, hl.out] using o1
    · exact (((Only.refl (fun k => w.heap.size ≤ k) w).alloc _).trans b1 (fun b hb => .inl (by injection hb with hb; exact Nat.le_of_eq hb))).below (Nat.le_refl _) (fun _ h => h)

/-- What a round leaves of the blocks T. -/
def Keeps (T : Nat → Prop) (A B : World) : Prop := ∀ p v, A.cell? p = some v → T p.block → B.cell? p = some v
theorem Keeps.t {T : Nat → Prop} {A B C : World} (h : Keeps T A B) (k : Keeps T B C) : Keeps T A C := fun p v hp ht => k p v (h p v hp ht) ht
theorem Keeps.b {T : Nat → Prop} {w : World} (W : World) (l : Nat) (o o' : Obj) (_ : w.heap.size ≤ l) (h : W.heap[l]? = some o) (ho : o.isCells = false) (_ : o.isWalk = false) : Keeps T W (W.putObj l o') := fun p v hp _ =>
  cell_kept hp (grownBy_putObj' W l o') (fun r e => by cases e; exact ⟨o, h, ho⟩)
theorem Keeps.of_only {T S : Nat → Prop} {A B : World} (h : Only S A B) (hs : ∀ k, T k → ¬ S k) : Keeps T A B := fun p v hp ht => h.cell hp (hs _ ht)
theorem Keeps.of_below {T : Nat → Prop} {A B : World} (h : Below A.heap.size A B) : Keeps T A B := fun p v hp _ => cell_b hp h
theorem Keeps.rd {T : Nat → Prop} {A B : World} (h : Keeps T A B) {sz n c : Nat} {p : Option Addr} {l : List Value} (hr : Rd A sz p n c l) (ht : ∀ ad, p = some ad → T ad.block) : Rd B sz p n c l :=
  ⟨hr.len, hr.cap, hr.big, fun j x hx => by
    obtain ⟨ad, e, hc⟩ := hr.get j x hx
    exact ⟨ad, e, h _ _ hc (by rw [add_block]; exact ht ad e)⟩⟩
theorem abides_below {β : Type} {B : Nat} {J : β → World → Prop} (h : AbidesFrom B J) {s : β} {W W' : World} (hs : J s W) (hb : Below W.heap.size W W') : J s W' :=
  h s W W' none hs (Only.grown ((only_b (S := fun b => (none : Option Nat) = some b) hb))) (fun r e => by cases e)

def upto (N k : Nat) : List (Fin N) := (List.finRange N).take k
theorem upto_len {N k : Nat} (h : k ≤ N) : (upto N k).length = k := by simp [upto, h]
theorem upto_succ {N k : Nat} (h : k < N) : upto N (k + 1) = upto N k ++ [⟨k, h⟩] := by
  unfold upto
  rw [List.take_succ_eq_append_getElem (by simpa using h)]
  simp

/-- What a round is handed. -/
def encP (zs : List (Int × ByteArray)) (x : Fin zs.length) : Array Value := #[Value.string (zs[x.1]'x.2).2, .int .i64 (zs[x.1]'x.2).1]

set_option maxHeartbeats 2000000 in
theorem all1_in (F : Fence) (n : Nat) (hf : F.fn 34) (hro : F.round = none) (hn : 1 ≤ n) (l Bs : Nat) (p : Addr) (c : Nat) (zs : List (Int × ByteArray)) (hb : zs.length ≤ 17592186044416) (T : Nat → Prop) (hT : T p.block) (B : Nat) (J Jx : List (Fin zs.length) → World → Prop) (hJ : AbidesFrom B J)
    (hY : ∀ pre x W, J pre W → pre.length < zs.length → YieldAt F (n - 1) Try.prog l (encP zs x) W fun e W' =>
      (e = .returned (.bool true) ∧ J (pre ++ [x]) W' ∧ Keeps T W W') ∨ (e = .returned (.bool false) ∧ Jx (pre ++ [x]) W'))
    (W : World) (hBs : W.cell? ⟨Bs, 0, none⟩ = some (.slice (some p) zs.length c)) (hr : RdE W (some p) zs.length c zs) (h0 : J [] W) :
    CallsIn F n Try.prog 34 #[.func (.yield l) #[] #[], .pointer (some ⟨Bs, 0, none⟩)] W fun e W' => (∃ v, e = .returned v) ∧
      ((∃ ys, ys = upto zs.length zs.length ∧ J ys W') ∨ (∃ pre, (∃ k, k ≤ zs.length ∧ pre = upto zs.length k) ∧ Jx pre W')) := by
  refine callsIn_of_wp Try.func34 rfl hf ?_ hro
  simp only [Try.ntmps34, List.size_toArray, List.length_cons, List.length_nil, Nat.reduceAdd, Nat.reduceSub, Array.replicate_succ, Array.replicate_zero, List.push_toArray, List.append_toArray, List.nil_append, List.cons_append]
  gi_wp2
  gi_loopw [7] (fun i wr => ∃ k : Nat, k ≤ zs.length ∧ i = .int .i64 k ∧ J (upto zs.length k) wr ∧ RdE wr (some p) zs.length c zs)
    (fun i _ => zs.length - (intOf i).toNat)
  case atStart => exact ⟨0, Nat.zero_le _, rfl, h0, hr⟩
  case round =>
    obtain ⟨k, hk, rfl, hJs, hrk⟩ := hrel
    by_cases hlt : k < zs.length
    · obtain ⟨e, he⟩ : ∃ e, zs[k]'hlt = e := ⟨_, rfl⟩
      obtain ⟨Wn, hWn⟩ : ∃ Wn, wr.alloc (eo e) = Wn := ⟨_, rfl⟩
      have bn : Below wr.heap.size wr Wn := by rw [← hWn]; exact al _ _
      have JN := abides_below hJ hJs bn
      have rN : RdE Wn (some p) zs.length c zs := hrk.below bn
      obtain ⟨fn, tmps, assign, body, hy, hR⟩ := hY _ ⟨k, hlt⟩ Wn JN (by rw [upto_len hk]; exact hlt)
      unfold encP at hy
      dsimp only at hy
      rw [he] at hy
      obtain ⟨q, hq, cx, cy⟩ := rde_get hrk (i := k) (e := e) (by rw [← he]; exact List.getElem?_eq_getElem hlt)
      injection hq with hq
      subst hq
      obtain ⟨x0, x1⟩ := eo_cells wr e
      rw [hWn] at x0 x1
      clear JN
      gi_wp2
      refine hR.mono ?_
      rintro e2 W3 (⟨rfl, hJ3, hk3⟩ | ⟨rfl, hJx3⟩)
      · gi_wp2
        go_roundw
        case rel => exact ⟨k + 1, by omega, by simp, by rw [upto_succ hlt]; exact hJ3, hk3.rd rN (fun ad e => by injection e with e; subst e; exact hT)⟩
        case measure => simp [intOf]; omega
      · gi_wp2
        refine bodyPost_ret (results_none rfl _ _ _) rfl ?_
        exact ⟨⟨_, rfl⟩, .inr ⟨_, ⟨k + 1, by omega, (upto_succ hlt).symm⟩, hJx3⟩⟩
    · obtain rfl : k = zs.length := by omega
      gi_wp2
      go_end0
      exact ⟨⟨_, rfl⟩, .inl ⟨_, rfl, hJs⟩⟩

set_option maxHeartbeats 1000000 in
theorem all1_nil_in (F : Fence) (n : Nat) (hf : F.fn 34) (hro : F.round = none) (l Bs c : Nat) (A : Option Addr) (W : World) (hBs : W.cell? ⟨Bs, 0, none⟩ = some (.slice A 0 c)) :
    CallsIn F n Try.prog 34 #[.func (.yield l) #[] #[], .pointer (some ⟨Bs, 0, none⟩)] W fun e W' => (∃ v, e = .returned v) ∧ W' = W := by
  refine callsIn_of_wp Try.func34 rfl hf ?_ hro
  simp only [Try.ntmps34, List.size_toArray, List.length_cons, List.length_nil, Nat.reduceAdd, Nat.reduceSub, Array.replicate_succ, Array.replicate_zero, List.push_toArray, List.append_toArray, List.nil_append, List.cons_append]
  gi_wp2
  gi_loopw [7] (fun i wr => i = .int .i64 0 ∧ wr = W) (fun _ _ => 0)
  case atStart => exact ⟨rfl, rfl⟩
  case round =>
    obtain ⟨rfl, hJs⟩ := hrel
    gi_wp2
    go_end0
    exact ⟨⟨_, rfl⟩, by first | rfl | exact hJs | exact hJs.symm⟩

theorem all_stops (F : Fence) (n : Nat) (hf : F.fn 34) (hro : F.round = none) (hn : 1 ≤ n) (Bs : Nat) (A : Option Addr) (c : Nat) (zs : List (Int × ByteArray)) (hb : zs.length ≤ 17592186044416) (T : Nat → Prop) (w : World) (hBs : Bs < w.heap.size)
    (hc : w.cell? ⟨Bs, 0, none⟩ = some (.slice A zs.length c)) (hr : RdE w A zs.length c zs) (hT : ∀ ad, A = some ad → T ad.block) :
    SeqStopsK F n Try.prog 34 #[.pointer (some ⟨Bs, 0, none⟩)] (encP zs) (Keeps T) (fun ys => ys = upto zs.length zs.length) (fun pre => ∃ k, k ≤ zs.length ∧ pre = upto zs.length k) zs.length w := fun l J Jx W hW hJ _ hY h0 => by
  have hc' := (hW.cell (p := ⟨Bs, 0, none⟩) hBs).trans hc
  by_cases hz : zs = []
  · subst hz
    refine (all1_nil_in F n hf hro l Bs c A W hc').mono ?_
    rintro e W' ⟨he, rfl⟩
    exact ⟨he, .inl ⟨[], rfl, h0⟩⟩
  · obtain ⟨p, rfl, _⟩ := hr.some_ (by intro e; apply hz; have := hr.len; rw [e] at this; exact List.eq_nil_of_length_eq_zero (by rw [List.length_nil] at this; omega))
    exact all1_in F n hf hro hn l Bs p c zs hb T (hT p rfl) _ J Jx hJ hY W hc' (hr.below hW) h0

set_option maxHeartbeats 1000000 in
/-- What All hands back. -/
theorem allIter_calls (B g m : Nat) (v : Value) (l : List (Int × ByteArray)) (N : Nat) (w : World) (h : Ix w B g m v l N) (hN : N ≤ 1099511627776) :
    Calls Try.prog 16 #[.pointer (some ⟨g, 0, none⟩)] w fun e w' => ∃ A c Bs, e = .returned (.func (.func 34) #[] #[.pointer (some ⟨Bs, 0, none⟩)]) ∧
      w.heap.size ≤ Bs ∧ Boxed w' Bs 69 (.slice A l.length c) ∧ OwnE w' w.heap.size (.slice A l.length c) l ∧ (Value.slice A l.length c).ownBlock ≠ some Bs ∧ Below w.heap.size w w' := by
  obtain ⟨-, c1, -⟩ := h.cells
  obtain ⟨A, c, rfl⟩ := own_form h.own
  have hr : RdE w A l.length c l := Rd.of_own h.own
  have hlen := h.len
  have hb := Boxed.new w 69 (.slice none 0 0)
  have b0 := al w (.cells #[.slice none 0 0] 69)
  have hgl := (h.lt g (.inl rfl)).2
  obtain ⟨W0, hW0⟩ : ∃ W0, w.alloc (.cells #[.slice none 0 0] 69) = W0 := ⟨_, rfl⟩
  have hs0 : W0.heap.size = w.heap.size + 1 := by rw [← hW0]; simp
  rw [hW0] at hb b0
  have c10 := cell_b c1 b0
  have cB := hb.cell
  go_enter Try.func16, Try.ntmps16
  go_wp2_with fail
  refine (clone_calls A _ c l W0 (hr.below b0) (by omega)).mono ?_
  rintro e w1 ⟨s, rfl, o, b⟩
  obtain ⟨A1, c1', rfl⟩ := own_form o
  have hb1 : Boxed w1 w.heap.size 69 (.slice none 0 0) := (b.block _ hb.lt).trans hb
  have f1 := hb1.frozen
  have g1 := hb1.cell
  have hlt := o.lt
  have hO : Only (fun k => k = w.heap.size) w1 (w1.setCell ⟨w.heap.size, 0, none⟩ (.slice A1 l.length c1')) := (Only.refl (fun k => k = w.heap.size) w1).put (p := ⟨w.heap.size, 0, none⟩) (.inl rfl) _
  have hne : ∀ k, (Value.slice A1 l.length c1').ownBlock = some k → k ≠ w.heap.size := fun k hk e => by have := (hlt k hk).1; omega
  clear cB c10
  go_wp2_with fail
  go_ret
  exact ⟨A1, c1', _, rfl, Nat.le_refl _, Boxed.set _ hb1, own_less (own_only o hO hne) (by omega), fun e => hne _ e rfl, hO.after (b0.trans (b.mono b0.size)) (Nat.le_refl _) (fun b e => Nat.le_of_eq e.symm)⟩
end Go.Proofs.Ytabgngdimbflkaa.DsM
