/-
  The deque's iterator over numbers: what All hands back tells the list as it was, whatever the rounds do that keep its memory. Conditions: as stated.
-/
import Derived.RangeFuncNested
import Derived.RangeFuncBound
import Derived.RangeFuncCalls
import Derived.RangeFuncLeaves
import Derived.Shelf.Abstract
import Derived.Shelf.RegionOpen
import Derived.OwnWalkIn
import Derived.TacticsInMore
import Derived.LoopNIn
import Derived.LoopIn
import Derived.Test.YtgbgdgncdanblaaDqR
set_option maxRecDepth 100000
set_option linter.unusedSimpArgs false
set_option linter.unusedVariables false
namespace Go.Proofs.Ytgbgdgncdanblaa.DrH
open Go.RowKit Go.Shelf Go.Proofs.Ytgbgdgncdanblaa.Mem Go.Proofs.Ytgbgdgncdanblaa.DqA Go.Proofs.Ytgbgdgncdanblaa.DqB Go.Proofs.Ytgbgdgncdanblaa.DqI Go.Proofs.Ytgbgdgncdanblaa.DqO Go.Proofs.Ytgbgdgncdanblaa.DqR
attribute [local go_sem] Oper.semAt_some

/-- What a round leaves of the blocks T. -/
def Keeps (T : Nat → Prop) (A B : World) : Prop := ∀ p v, A.cell? p = some v → T p.block → B.cell? p = some v
theorem Keeps.t {T : Nat → Prop} {A B C : World} (h : Keeps T A B) (k : Keeps T B C) : Keeps T A C := fun p v hp ht => k p v (h p v hp ht) ht
theorem Keeps.b {T : Nat → Prop} {w : World} (W : World) (l : Nat) (o o' : Obj) (_ : w.heap.size ≤ l) (h : W.heap[l]? = some o) (ho : o.isCells = false) (_ : o.isWalk = false) : Keeps T W (W.putObj l o') := fun p v hp _ =>
  cell_kept hp (grownBy_putObj' W l o') (fun r e => by cases e; exact ⟨o, h, ho⟩)
theorem Keeps.of_only {T S : Nat → Prop} {A B : World} (h : Only S A B) (hs : ∀ k, T k → ¬ S k) : Keeps T A B := fun p v hp ht => h.cell hp (hs _ ht)
theorem Keeps.rd {T : Nat → Prop} {A B : World} (h : Keeps T A B) {sz n c : Nat} {p : Option Addr} {l : List Value} (hr : Rd A sz p n c l) (ht : ∀ ad, p = some ad → T ad.block) : Rd B sz p n c l :=
  ⟨hr.len, hr.cap, hr.big, fun j x hx => by
    obtain ⟨ad, e, hc⟩ := hr.get j x hx
    exact ⟨ad, e, h _ _ hc (by rw [add_block]; exact ht ad e)⟩⟩

def upto (N k : Nat) : List (Fin N) := (List.finRange N).take k
theorem upto_len {N k : Nat} (h : k ≤ N) : (upto N k).length = k := by simp [upto, h]
theorem upto_succ {N k : Nat} (h : k < N) : upto N (k + 1) = upto N k ++ [⟨k, h⟩] := by
  unfold upto
  rw [List.take_succ_eq_append_getElem (by simpa using h)]
  simp

/-- What a round is handed. -/
def encP (zs : List Int) (x : Fin zs.length) : Array Value := #[.int .i64 (x.1 : Int), .int .i64 (zs[x.1]'x.2)]

set_option maxHeartbeats 2000000 in
theorem all1_in (F : Fence) (n : Nat) (hf : F.fn 68) (hro : F.round = none) (hn : 1 ≤ n) (l Bs : Nat) (p : Addr) (c : Nat) (zs : List Int) (hb : zs.length ≤ 17592186044416) (T : Nat → Prop) (hT : T p.block) (J Jx : List (Fin zs.length) → World → Prop)
    (hY : ∀ pre x W, J pre W → pre.length < zs.length → YieldAt F (n - 1) Try.prog l (encP zs x) W fun e W' =>
      (e = .returned (.bool true) ∧ J (pre ++ [x]) W' ∧ Keeps T W W') ∨ (e = .returned (.bool false) ∧ Jx (pre ++ [x]) W'))
    (W : World) (hBs : W.cell? ⟨Bs, 0, none⟩ = some (.slice (some p) zs.length c)) (hr : RdI W (some p) zs.length c zs) (h0 : J [] W) :
    CallsIn F n Try.prog 68 #[.func (.yield l) #[] #[], .pointer (some ⟨Bs, 0, none⟩)] W fun e W' => (∃ v, e = .returned v) ∧
      ((∃ ys, ys = upto zs.length zs.length ∧ J ys W') ∨ (∃ pre, (∃ k, k ≤ zs.length ∧ pre = upto zs.length k) ∧ Jx pre W')) := by
  refine callsIn_of_wp Try.func68 rfl hf ?_ hro
  simp only [Try.ntmps68, List.size_toArray, List.length_cons, List.length_nil, Nat.reduceAdd, Nat.reduceSub, Array.replicate_succ, Array.replicate_zero, List.push_toArray, List.append_toArray, List.nil_append, List.cons_append]
  gi_wp2
  gi_loopw [7] (fun i wr => ∃ k : Nat, k ≤ zs.length ∧ i = .int .i64 k ∧ J (upto zs.length k) wr ∧ RdI wr (some p) zs.length c zs)
    (fun i _ => zs.length - (intOf i).toNat)
  case atStart => exact ⟨0, Nat.zero_le _, rfl, h0, hr⟩
  case round =>
    obtain ⟨k, hk, rfl, hJs, hrk⟩ := hrel
    by_cases hlt : k < zs.length
    · obtain ⟨fn, tmps, assign, body, hy, hR⟩ := hY _ ⟨k, hlt⟩ wr hJs (by rw [upto_len hk]; exact hlt)
      unfold encP at hy
      dsimp only at hy
      obtain ⟨q, hq, hcx⟩ := hrk.get k (.int .i64 (zs[k]'hlt)) (by simp [ints, hlt])
      injection hq with hq
      subst hq
      gi_wp2
      refine hR.mono ?_
      rintro e W3 (⟨rfl, hJ3, hk3⟩ | ⟨rfl, hJx3⟩)
      · gi_wp2
        go_roundw
        case rel => exact ⟨k + 1, by omega, by simp, by rw [upto_succ hlt]; exact hJ3, hk3.rd hrk (fun ad e => by injection e with e; subst e; exact hT)⟩
        case measure => simp [intOf]; omega
      · gi_wp2
        refine bodyPost_ret (results_none rfl _ _ _) rfl ?_
        exact ⟨⟨_, rfl⟩, .inr ⟨_, ⟨k + 1, by omega, (upto_succ hlt).symm⟩, hJx3⟩⟩
    · obtain rfl : k = zs.length := by omega
      gi_wp2
      go_end0
      exact ⟨⟨_, rfl⟩, .inl ⟨_, rfl, hJs⟩⟩

set_option maxHeartbeats 1000000 in
theorem all1_nil_in (F : Fence) (n : Nat) (hf : F.fn 68) (hro : F.round = none) (l Bs c : Nat) (A : Option Addr) (W : World) (hBs : W.cell? ⟨Bs, 0, none⟩ = some (.slice A 0 c)) :
    CallsIn F n Try.prog 68 #[.func (.yield l) #[] #[], .pointer (some ⟨Bs, 0, none⟩)] W fun e W' => (∃ v, e = .returned v) ∧ W' = W := by
  refine callsIn_of_wp Try.func68 rfl hf ?_ hro
  simp only [Try.ntmps68, List.size_toArray, List.length_cons, List.length_nil, Nat.reduceAdd, Nat.reduceSub, Array.replicate_succ, Array.replicate_zero, List.push_toArray, List.append_toArray, List.nil_append, List.cons_append]
  gi_wp2
  gi_loopw [7] (fun i wr => i = .int .i64 0 ∧ wr = W) (fun _ _ => 0)
  case atStart => exact ⟨rfl, rfl⟩
  case round =>
    obtain ⟨rfl, hJs⟩ := hrel
    gi_wp2
    go_end0
    exact ⟨⟨_, rfl⟩, by first | rfl | exact hJs | exact hJs.symm⟩

theorem all_stops (F : Fence) (n : Nat) (hf : F.fn 68) (hro : F.round = none) (hn : 1 ≤ n) (Bs : Nat) (A : Option Addr) (c : Nat) (zs : List Int) (hb : zs.length ≤ 17592186044416) (T : Nat → Prop) (w : World) (hBs : Bs < w.heap.size)
    (hc : w.cell? ⟨Bs, 0, none⟩ = some (.slice A zs.length c)) (hr : RdI w A zs.length c zs) (hT : ∀ ad, A = some ad → T ad.block) :
    SeqStopsK F n Try.prog 68 #[.pointer (some ⟨Bs, 0, none⟩)] (encP zs) (Keeps T) (fun ys => ys = upto zs.length zs.length) (fun pre => ∃ k, k ≤ zs.length ∧ pre = upto zs.length k) zs.length w := fun l J Jx W hW _ _ hY h0 => by
  have hc' := (hW.cell (p := ⟨Bs, 0, none⟩) hBs).trans hc
  by_cases hz : zs = []
  · subst hz
    refine (all1_nil_in F n hf hro l Bs c A W hc').mono ?_
    rintro e W' ⟨he, rfl⟩
    exact ⟨he, .inl ⟨[], rfl, h0⟩⟩
  · obtain ⟨p, rfl, _⟩ := hr.some_ (by intro e; apply hz; have := hr.len; rw [e] at this; exact List.eq_nil_of_length_eq_zero (by simpa using this.symm))
    exact all1_in F n hf hro hn l Bs p c zs hb T (hT p rfl) J Jx hY W hc' (hr.below hW) h0

set_option maxHeartbeats 1000000 in
/-- What All hands back. -/
theorem allIter_calls (B g : Nat) (v : Value) (l : List Int) (w : World) (hd : Dq w B g v l) :
    Calls Try.prog 47 #[.pointer (some ⟨g, 0, none⟩)] w fun e w' => ∃ A c Bs, e = .returned (.func (.func 68) #[] #[.pointer (some ⟨Bs, 0, none⟩)]) ∧
      w.heap.size ≤ Bs ∧ Boxed w' Bs 22 (.slice A l.length c) ∧ OwnI w' w.heap.size (.slice A l.length c) l ∧ Below w.heap.size w w' := by
  go_enter Try.func47, Try.ntmps47
  go_wp2_with fail
  refine (list_calls B g v l w hd).mono ?_
  rintro e w1 ⟨s, rfl, o, b⟩
  obtain ⟨A, c, rfl⟩ := own_form o
  go_wp2_with fail
  go_ret
  exact ⟨A, c, _, rfl, b.size, Boxed.new w1 _ _, o.alloc _, b.alloc b.size _⟩
end Go.Proofs.Ytgbgdgncdanblaa.DrH
