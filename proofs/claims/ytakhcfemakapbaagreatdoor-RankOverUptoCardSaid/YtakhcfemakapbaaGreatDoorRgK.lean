/-
  Between two calls on a rank; what must come whatever the input is. Conditions: as stated.
  What must come whatever the input is. Conditions: as stated.
  The laws RankOf, RankTexts. Conditions: as stated.
  The laws' arguments: entries, bounds, calls, as they lie; RankOf, RankTexts in the frame's form. Conditions: as stated.
-/
import Derived.Test.YtakhcfemakapbaaGreatDoorRgH
import Derived.Test.YtakhcfemakapbaaGreatDoorRgI
import Derived.Test.YtakhcfemakapbaaGreatDoorRjE
import Derived.Test.YtakhcfemakapbaaGreatDoorRgJ
import Derived.Test.YtakhcfemakapbaaGreatDoorRgG
import Derived.Test.YtakhcfemakapbaaGreatDoorLawR
set_option maxRecDepth 100000
set_option linter.unusedSimpArgs false
set_option linter.unusedVariables false
namespace Go.Proofs.YtakhcfemakapbaaGreatDoor.RjJ
open Go Go.RowKit Go.Shelf Go.Sort Go.Proofs.YtakhcfemakapbaaGreatDoor.Mem Go.Proofs.YtakhcfemakapbaaGreatDoor.DuA Go.Proofs.YtakhcfemakapbaaGreatDoor.DuM Go.Proofs.YtakhcfemakapbaaGreatDoor.DuN Go.Proofs.YtakhcfemakapbaaGreatDoor.NumA Go.Proofs.YtakhcfemakapbaaGreatDoor.NumC Go.Proofs.YtakhcfemakapbaaGreatDoor.NumE Go.Proofs.YtakhcfemakapbaaGreatDoor.RkA Go.Proofs.YtakhcfemakapbaaGreatDoor.RkC Go.Proofs.YtakhcfemakapbaaGreatDoor.RkB Go.Proofs.YtakhcfemakapbaaGreatDoor.RkE Go.Proofs.YtakhcfemakapbaaGreatDoor.RkF Go.Proofs.YtakhcfemakapbaaGreatDoor.RkH Go.Proofs.YtakhcfemakapbaaGreatDoor.RkI Go.Proofs.YtakhcfemakapbaaGreatDoor.RkL Go.Proofs.YtakhcfemakapbaaGreatDoor.RkM Go.Proofs.YtakhcfemakapbaaGreatDoor.RkN Go.Proofs.YtakhcfemakapbaaGreatDoor.RkO Go.Proofs.YtakhcfemakapbaaGreatDoor.RkP Go.Proofs.YtakhcfemakapbaaGreatDoor.RkQ Go.Proofs.YtakhcfemakapbaaGreatDoor.RkR Go.Proofs.YtakhcfemakapbaaGreatDoor.RkS Go.Proofs.YtakhcfemakapbaaGreatDoor.RkU Go.Proofs.YtakhcfemakapbaaGreatDoor.RkW Go.Proofs.YtakhcfemakapbaaGreatDoor.RjF Go.Proofs.YtakhcfemakapbaaGreatDoor.RjG

theorem below_seq {w0 w1 w2 : World} (h1 : Below w0.heap.size w0 w1) (h2 : Below w1.heap.size w1 w2) : Below w0.heap.size w0 w2 := h1.trans (h2.mono h1.size)
/-- A rank made since W. -/
structure Ps (W w : World) (g m : Nat) (l : List En) (N : Nat) : Prop where
  rk : ∃ v, Rk w W.heap.size g m v l N
  bel : Below W.heap.size W w
section
variable {W w w' : World} {g m N : Nat} {l : List En}
theorem Ps.below (h : Ps W w g m l N) (hb : Below w.heap.size w w') : Ps W w' g m l N := by
  obtain ⟨v, hr⟩ := h.rk
  exact ⟨⟨v, hr.below hb⟩, below_seq h.bel hb⟩
theorem Ps.turn {v : Value} {l' : List En} {N' : Nat} (hr : Rk w W.heap.size g m v l N) (hb : Below W.heap.size W w) (ht : Turn W.heap.size g m v l' N' w w') : Ps W w' g m l' N' := by
  obtain ⟨v', hr', ho, _⟩ := ht
  exact ⟨⟨v', hr'⟩, ho.after hb (Nat.le_refl _) (fun b hb => (hr.lt b hb).1)⟩
theorem Ps.set (h : Ps W w g m l N) (k : ByteArray) (t : Int) (hk : okk k) (hN : N ≤ 999999999) :
    Calls Tryz.prog 27 #[.pointer (some ⟨g, 0, none⟩), .string k, .int .i64 t] w fun e w' => e = .returned (setV l k t) ∧ Ps W w' g m (setL l k t) (N + 1) := by
  obtain ⟨v, hr⟩ := h.rk
  exact (set_calls _ g m v l N k t w hr hk h.bel.size hN).mono fun e w' ⟨he, ht⟩ => ⟨he, Ps.turn hr h.bel ht⟩
theorem Ps.drop (h : Ps W w g m l N) (k : ByteArray) (hk : okk k) (hN : N ≤ 1000000000) :
    Calls Tryz.prog 29 #[.pointer (some ⟨g, 0, none⟩), .string k] w fun e w' => e = .returned (.bool (dueL l k).isSome) ∧ Ps W w' g m (dropL l k) N := by
  obtain ⟨v, hr⟩ := h.rk
  exact (drop_calls _ g m v l N k w hr hk h.bel.size hN).mono fun e w' ⟨he, ht⟩ => ⟨he, Ps.turn hr h.bel ht⟩
theorem Ps.pop (h : Ps W w g m l N) (n : Int) (gr : Bool) (hn : inI n) (hN : N ≤ 1000000000) :
    Calls Tryz.prog 26 #[.pointer (some ⟨g, 0, none⟩), .int .i64 n, .bool gr] w fun e w' => ∃ v', e = .returned v' ∧ Ps W w' g m (leftL l n gr) N ∧ OwnE w' W.heap.size v' (popL l n gr) := by
  obtain ⟨v, hr⟩ := h.rk
  refine (pop_calls _ g m v l N n gr w hr h.bel.size hN hn).mono ?_
  rintro e w' ⟨v', w1, rfl, ht, o, b⟩
  have h1 := Ps.turn hr h.bel ht
  exact ⟨v', rfl, h1.below b, own_less o h1.bel.size⟩
theorem Ps.len (h : Ps W w g m l N) : Calls Tryz.prog 15 #[.pointer (some ⟨g, 0, none⟩)] w fun e w' => e = .returned (.int .i64 l.length) ∧ w' = w := by
  obtain ⟨v, hr⟩ := h.rk
  exact len_calls _ g m v l N w hr
theorem Ps.score (h : Ps W w g m l N) (k : ByteArray) (hk : okk k) : Calls Tryz.prog 22 #[.pointer (some ⟨g, 0, none⟩), .string k] w fun e w' => e = .returned (opt l k) ∧ w' = w := by
  obtain ⟨v, hr⟩ := h.rk
  exact score_calls _ g m v l N k w hr hk
theorem Ps.place (h : Ps W w g m l N) (k : ByteArray) (rev : Bool) (hk : okk k) (hN : N ≤ 1000000000) :
    Calls Tryz.prog 23 #[.pointer (some ⟨g, 0, none⟩), .string k, .bool rev] w fun e w' => e = .returned (placeV l k rev) ∧ Below w.heap.size w w' := by
  obtain ⟨v, hr⟩ := h.rk
  exact place_calls _ g m v l N k rev w hr hk hN
theorem Ps.slice (h : Ps W w g m l N) (a b : Int) (rev : Bool) (hN : N ≤ 1000000000) (ha : inI a) (hb : inI b) :
    Calls Tryz.prog 24 #[.pointer (some ⟨g, 0, none⟩), .int .i64 a, .int .i64 b, .bool rev] w fun e w' => ∃ v', e = .returned v' ∧ OwnE w' w.heap.size v' (sliceL l a b rev) ∧ Below w.heap.size w w' := by
  obtain ⟨v, hr⟩ := h.rk
  exact slice_calls _ g m v l N a b rev w hr hN ha hb
theorem Ps.list (h : Ps W w g m l N) (hN : N ≤ 1000000000) :
    Calls Tryz.prog 16 #[.pointer (some ⟨g, 0, none⟩)] w fun e w' => ∃ v', e = .returned v' ∧ OwnE w' w.heap.size v' l ∧ Below w.heap.size w w' := by
  obtain ⟨v, hr⟩ := h.rk
  exact list_calls _ g m v l N w hr hN
theorem Ps.scores (h : Ps W w g m l N) (lo hi : Bd) (rev : Bool) (skip most : Int) (hN : N ≤ 1000000000) (hs : inI skip) (hm : inI most) :
    Calls Tryz.prog 25 #[.pointer (some ⟨g, 0, none⟩), bV lo, bV hi, .bool rev, .int .i64 skip, .int .i64 most] w fun e w' => ∃ v', e = .returned v' ∧ OwnE w' w.heap.size v' (partL l (inS lo hi) rev skip most) ∧ Below w.heap.size w w' := by
  obtain ⟨v, hr⟩ := h.rk
  exact scores_calls _ g m v l N lo hi rev skip most w hr hN hs hm
theorem Ps.names (h : Ps W w g m l N) (lo hi : Bd) (rev : Bool) (skip most : Int) (hN : N ≤ 1000000000) (hs : inI skip) (hm : inI most) :
    Calls Tryz.prog 37 #[.pointer (some ⟨g, 0, none⟩), bV lo, bV hi, .bool rev, .int .i64 skip, .int .i64 most] w fun e w' => ∃ v', e = .returned v' ∧ OwnE w' w.heap.size v' (partL l (inN lo hi) rev skip most) ∧ Below w.heap.size w w' := by
  obtain ⟨v, hr⟩ := h.rk
  exact names_calls _ g m v l N lo hi rev skip most w hr hN hs hm
end
theorem own_rd {w : World} {B : Nat} {v : Value} {l : List En} (h : OwnE w B v l) : ∃ A c, v = .slice A l.length c ∧ RdE w A l.length c l := by
  obtain ⟨A, c, rfl⟩ := own_form h
  exact ⟨A, c, rfl, Rd.of_own h⟩
theorem ok_small {s : ByteArray} (h : s.size ≤ 100) : okk s := by unfold okk maxLen; omega
theorem ok_small' {s : ByteArray} (h : s.size ≤ 1048600) : okk s := by unfold okk maxLen; omega
theorem same_true (A A' : Option Addr) (n c n' c' : Nat) (l k : List En) (w : World) (ha : RdE w A n c l) (hb : RdE w A' n' c' k) (hn : n ≤ 1000000000) (he : l = k) :
    Calls Tryz.prog 13 #[.slice A n c, .slice A' n' c'] w fun e w' => e = .returned (.bool true) ∧ Below w.heap.size w w' :=
  (same_calls A A' n c n' c' l k w ha hb hn).mono fun e w' h => by
    obtain ⟨h1, nd, rfl⟩ := h
    rw [decide_eq_true he] at h1
    exact ⟨h1, below_drawn_ (Below.refl _ _) nd⟩
theorem eq_B (a : Bd) (w : World) : (binOp .eql 39 (bV a) (bV a)).run Tryz.prog w = .ok (.bool true) w := by
  have u3 := Tryz.underlying9
  have a3 := Tryz.isAgg9
  have z3 := Tryz.sizeOf9
  have u4 := Tryz.underlying3
  have a4 := Tryz.isAgg3
  have z4 := Tryz.sizeOf3
  have u5 := Tryz.underlying4
  have a5 := Tryz.isAgg4
  have z5 := Tryz.sizeOf4
  have hS : Tryz.prog.underlying 39 = some (.struct (Tryz.prog.fieldsOf 39)) := by kernel_rfl
  have hp : Tryz.prog.stoodInHeld 39 = false := by kernel_rfl
  rw [run_eql_struct, show (10000 : Nat) = 9999 + 1 from rfl, run_equalIn_agg w 9999 39 _ _ hS hp]
  simp only [Program.fieldsOf, Tryz.underlying39]
  go_simp
end Go.Proofs.YtakhcfemakapbaaGreatDoor.RjJ
set_option maxRecDepth 100000
set_option linter.unusedSimpArgs false
set_option linter.unusedVariables false
namespace Go.Proofs.YtakhcfemakapbaaGreatDoor.RjK
open Go Go.RowKit Go.Shelf Go.Sort Go.Proofs.YtakhcfemakapbaaGreatDoor.Mem Go.Proofs.YtakhcfemakapbaaGreatDoor.DuA Go.Proofs.YtakhcfemakapbaaGreatDoor.DuM Go.Proofs.YtakhcfemakapbaaGreatDoor.DuN Go.Proofs.YtakhcfemakapbaaGreatDoor.NumA Go.Proofs.YtakhcfemakapbaaGreatDoor.NumC Go.Proofs.YtakhcfemakapbaaGreatDoor.NumE Go.Proofs.YtakhcfemakapbaaGreatDoor.RkA Go.Proofs.YtakhcfemakapbaaGreatDoor.RkC Go.Proofs.YtakhcfemakapbaaGreatDoor.RkB Go.Proofs.YtakhcfemakapbaaGreatDoor.RkE Go.Proofs.YtakhcfemakapbaaGreatDoor.RkF Go.Proofs.YtakhcfemakapbaaGreatDoor.RkH Go.Proofs.YtakhcfemakapbaaGreatDoor.RkI Go.Proofs.YtakhcfemakapbaaGreatDoor.RkL Go.Proofs.YtakhcfemakapbaaGreatDoor.RkM Go.Proofs.YtakhcfemakapbaaGreatDoor.RkN Go.Proofs.YtakhcfemakapbaaGreatDoor.RkO Go.Proofs.YtakhcfemakapbaaGreatDoor.RkP Go.Proofs.YtakhcfemakapbaaGreatDoor.RkQ Go.Proofs.YtakhcfemakapbaaGreatDoor.RkR Go.Proofs.YtakhcfemakapbaaGreatDoor.RkS Go.Proofs.YtakhcfemakapbaaGreatDoor.RkU Go.Proofs.YtakhcfemakapbaaGreatDoor.RkW Go.Proofs.YtakhcfemakapbaaGreatDoor.RjF Go.Proofs.YtakhcfemakapbaaGreatDoor.RjG Go.Proofs.YtakhcfemakapbaaGreatDoor.RjJ

def ch (n : UInt8) : ByteArray := ⟨#[n]⟩
def l0 : List En := [(2, ch 98), (1, ch 97)]
def lx : List En := [(9007199254740993, ch 97)]
def l1 : List En := [(1, ch 97), (2, ch 98)]
def l2 : List En := [(1, ch 97), (2, ch 98), (2, ch 99)]
def l3 : List En := [(1, ch 97)]
def l4 : List En := [(2, ch 99)]
theorem e1 : ofL l0 = l1 := by kernel_rfl
theorem e2 : setL l1 (ch 99) 2 = l2 := by kernel_rfl
theorem v2 : setV l1 (ch 99) 2 = .tuple #[.bool true, .int .i64 0] := by kernel_rfl
theorem v3 : placeV l2 (ch 99) true = .tuple #[.int .i64 0, .bool true] := by kernel_rfl
theorem v4 : opt l2 (ch 98) = .tuple #[.int .i64 2, .bool true] := by kernel_rfl
theorem v5 : bdV (scoreB ⟨#[40, 53]⟩) = .tuple #[bV ⟨0, true, 5, ⟨#[]⟩⟩, .int .i64 0] := by kernel_rfl
theorem v6 : bdV (nameB ⟨#[91, 120]⟩) = .tuple #[bV ⟨0, false, 0, ch 120⟩, .int .i64 0] := by kernel_rfl
theorem v7 : sliceL l2 0 0 false = l3 := by kernel_rfl
theorem v8 : (partL l2 (inS ⟨0, false, 2, ⟨#[]⟩⟩ ⟨0, false, 2, ⟨#[]⟩⟩) false 0 (-1)).length = 2 := by kernel_rfl
theorem v9 : (partL l2 (inN ⟨-1, false, 0, ⟨#[]⟩⟩ ⟨0, false, 0, ch 97⟩) false 0 9).length = 1 := by kernel_rfl
theorem va : popL l2 1 true = l4 := by kernel_rfl
theorem vb : leftL l2 1 true = l1 := by kernel_rfl
theorem vc : dropL l1 (ch 98) = l3 := by kernel_rfl
theorem vd : (dueL l1 (ch 98)).isSome = true := by kernel_rfl
theorem rd_two (w : World) (a b : ByteArray) (s t : Int) (T : TypeId) : RdE (w.alloc (.cells #[.string a, .int .i64 s, .string b, .int .i64 t] T)) (some ⟨w.heap.size, 0, none⟩) 2 2 [(s, a), (t, b)] :=
  ⟨rfl, Nat.le_refl _, by unfold maxLen; omega, fun j x hx => ⟨_, rfl, by
    have h := heap_alloc_new w (.cells #[.string a, .int .i64 s, .string b, .int .i64 t] T)
    rw [add_mk, Nat.zero_add]
    match j, hx with
    | 0, hx => simp [ents] at hx; subst hx; simp only [World.cell?]; rw [h]; rfl
    | 1, hx => simp [ents] at hx; subst hx; simp only [World.cell?]; rw [h]; rfl
    | 2, hx => simp [ents] at hx; subst hx; simp only [World.cell?]; rw [h]; rfl
    | 3, hx => simp [ents] at hx; subst hx; simp only [World.cell?]; rw [h]; rfl⟩⟩
theorem rd_one (w : World) (e : En) : RdE (w.alloc (eo e)) (some ⟨w.heap.size, 0, none⟩) 1 1 [e] := One.rd ⟨heap_alloc_new w (eo e)⟩
theorem of_ok (A : Option Addr) (n c : Nat) (l : List En) (w : World) (hr : RdE w A n c l) (hok : ∀ e ∈ l, okk e.2) (hn : n ≤ 1000000000) (h1 : ∀ e ∈ l, okS e.1) (h2 : (l.map (·.2)).Nodup) :
    Calls Tryz.prog 11 #[.slice A n c] w fun e w' => ∃ g m, e = .returned (.tuple #[.pointer (some ⟨g, 0, none⟩), .int .i64 0]) ∧ Ps w w' g m (ofL l) l.length :=
  (of_calls A n c l w hr hok hn).mono fun e w' h => by
    rcases h with ⟨b, ⟨h, _⟩ | ⟨_, h, _⟩ | ⟨_, _, g, m, v, rfl, h⟩⟩
    · exact absurd h1 h
    · exact absurd h2 h
    · exact ⟨g, m, rfl, ⟨v, h⟩, b⟩
theorem of_bad (A : Option Addr) (n c : Nat) (l : List En) (w : World) (hr : RdE w A n c l) (hok : ∀ e ∈ l, okk e.2) (hn : n ≤ 1000000000) (h1 : ¬ ∀ e ∈ l, okS e.1) :
    Calls Tryz.prog 11 #[.slice A n c] w fun e w' => e = .returned (.tuple #[.pointer none, .int .i64 120]) ∧ Below w.heap.size w w' :=
  (of_calls A n c l w hr hok hn).mono fun e w' h => by
    rcases h with ⟨b, ⟨_, rfl⟩ | ⟨h, _⟩ | ⟨h, _⟩⟩
    · exact ⟨rfl, b⟩
    · exact absurd h h1
    · exact absurd h h1
theorem Ps.base {W0 W w : World} {g m N : Nat} {l : List En} (h : Ps W w g m l N) (hb : Below W0.heap.size W0 W) : Ps W0 w g m l N := by
  obtain ⟨v, hr⟩ := h.rk
  exact ⟨⟨v, { hr with gB := Nat.le_trans hb.size hr.gB, mB := Nat.le_trans hb.size hr.mB, own := own_less hr.own hb.size }⟩, below_seq hb h.bel⟩
set_option maxHeartbeats 1000000 in
theorem sure_calls (w : World) (hL : Laid w) :
    Calls Tryz.prog 14 #[] w fun e w' => e = .returned (.bool true) ∧ Below w.heap.size w w' := by
  have b0 : Below w.heap.size w (w.alloc (.cells #[.string (ch 98), .int .i64 2, .string (ch 97), .int .i64 1] 51)) := al w _
  have hof := of_ok _ 2 2 l0 _ (rd_two w (ch 98) (ch 97) 2 1 51) (fun f hf => by
    simp [l0] at hf; rcases hf with rfl | rfl <;> exact ok_small (by decide)) (by decide) (fun f hf => by
    simp [l0] at hf; rcases hf with rfl | rfl <;> (unfold okS; omega)) (by unfold l0 ch; decide)
  rw [e1] at hof
  have hofx := Lib.hid (fun w1 : World => of_bad _ 1 1 lx _ (rd_one w1 (9007199254740993, ch 97)) (fun f hf => by
    simp [lx] at hf; subst hf; exact ok_small (by decide)) (by decide) (fun h => by
    have := h (9007199254740993, ch 97) (by simp [lx])
    unfold okS at this; omega))
  obtain ⟨W0, hW0⟩ : ∃ W0, W0 = w.alloc (.cells #[.string (ch 98), .int .i64 2, .string (ch 97), .int .i64 1] 51) := ⟨_, rfl⟩
  have HW0 := Lib.hid hW0
  rw [← hW0] at hof b0
  have H0 := Lib.hid b0
  have HL := Lib.hid hL
  clear hL hW0 b0
  go_enter Tryz.func14, Tryz.ntmps14
  go_wp2_with (go_at_call 11; refine Calls.mono (by have h := hof; rw [HW0.out] at h; exact h) ?_; rw [← HW0.out]; rintro e w1 ⟨g, m, rfl, P1⟩; clear hof)
  have HP1 := Lib.hid (Ps.base P1 H0.out)
  clear P1
  refine Calls.mono (hofx.out w1) ?_
  rintro e w2 ⟨rfl, b2⟩
  have HP2 := Lib.hid (HP1.out.below (below_seq (al w1 (eo (9007199254740993, ch 97))) b2))
  clear b2
  go_wp2_with fail
  have h := HP2.out.set (ch 99) 2 (ok_small (by decide)) (by decide)
  rw [v2, e2] at h
  refine h.mono ?_
  clear h
  rintro e w3 ⟨rfl, P3⟩
  have HP3 := Lib.hid P3
  clear P3
  go_wp2_with fail
  have h := HP3.out.place (ch 99) true (ok_small (by decide)) (by decide)
  rw [v3] at h
  refine h.mono ?_
  clear h
  rintro e w4 ⟨rfl, b4⟩
  have HP4 := Lib.hid (HP3.out.below b4)
  clear b4
  go_wp2_with fail
  have h := HP4.out.score (ch 98) (ok_small (by decide))
  rw [v4] at h
  refine h.mono ?_
  clear h
  rintro e w4 ⟨rfl, rfl⟩
  go_wp2_with fail
  have h := scoreP_calls ⟨#[40, 53]⟩ w4 (HL.out.below HP4.out.bel) (by decide)
  rw [v5] at h
  refine h.mono ?_
  clear h
  rintro e w5 ⟨rfl, b5⟩
  have HP5 := Lib.hid (HP4.out.below (below_seq b5 (al w5 (bo ⟨0, true, 5, ⟨#[]⟩⟩))))
  have HX5 := Lib.hid (bx_new w5 ⟨0, true, 5, ⟨#[]⟩⟩)
  clear b5
  go_wp2_with fail
  have h := nameP_calls ⟨#[91, 120]⟩ (w5.alloc (bo ⟨0, true, 5, ⟨#[]⟩⟩)) (by decide)
  rw [v6] at h
  refine Calls.mono h ?_
  clear h
  rintro e w6 ⟨rfl, b6⟩
  have HX6 := Lib.hid (HX5.out.below b6)
  have HP6 := Lib.hid (HP5.out.below b6)
  clear b6 HX5 HP5
  obtain ⟨W7, hW7⟩ : ∃ W7, W7 = (w6.alloc (.cells #[.int .i64 0, .bool false, .int .i64 0, .string (ch 120)] 39)).alloc (.cells #[.int .i64 0, .bool false, .int .i64 2, .string ⟨#[]⟩] 39) := ⟨_, rfl⟩
  have b7 : Below w6.heap.size w6 W7 := by rw [hW7]; exact (al w6 _).trans ((al _ _).mono (al w6 _).size)
  have y1 : Bxd W7 w6.heap.size ⟨0, false, 0, ch 120⟩ := by rw [hW7]; exact (bx_new w6 ⟨0, false, 0, ch 120⟩).below (al _ _)
  have y2 : Bxd W7 (w6.heap.size + 1) ⟨0, false, 2, ⟨#[]⟩⟩ := by rw [hW7]; have q := bx_new (w6.alloc (bo ⟨0, false, 0, ch 120⟩)) ⟨0, false, 2, ⟨#[]⟩⟩; rw [World.size_alloc] at q; exact q
  have x1 := HX6.out.below b7
  have HP7 := Lib.hid (HP6.out.below b7)
  have HY2 := Lib.hid y2
  have HW7 := Lib.hid hW7
  clear b7 HX6
  have c1 : ∀ W, (binOp .eql 39 (.agg #[.int .i64 0, .bool true, .int .i64 5, .string ⟨#[]⟩]) (.agg #[.int .i64 0, .bool true, .int .i64 5, .string ⟨#[]⟩])).run Tryz.prog W = .ok (.bool true) W := fun W => eq_B ⟨0, true, 5, ⟨#[]⟩⟩ W
  have c2 : ∀ W, (binOp .eql 39 (.agg #[.int .i64 0, .bool false, .int .i64 0, .string (ch 120)]) (.agg #[.int .i64 0, .bool false, .int .i64 0, .string (ch 120)])).run Tryz.prog W = .ok (.bool true) W := fun W => eq_B ⟨0, false, 0, ch 120⟩ W
  obtain ⟨x10, x11, x12, x13⟩ := x1
  obtain ⟨y10, y11, y12, y13⟩ := y1
  obtain ⟨y20, y21, y22, y23⟩ := y2
  simp only at x10 x11 x12 x13 y10 y11 y12 y13 y20 y21 y22 y23
  rw [hW7] at x10 x11 x12 x13 y10 y11 y12 y13 y20 y21 y22 y23
  have t120 : (ch 120).toList = [120] := by rw [ByteArray.toList_eq]; rfl
  have hln := HP7.out.len
  rw [show l2.length = 3 from rfl] at hln
  have HLN := Lib.hid hln
  clear hln hW7
  go_wp2_with fail
  rw [← HW7.out]
  refine HLN.out.mono ?_
  rintro e w8 ⟨rfl, rfl⟩
  clear x10 x11 x12 x13 y10 y11 y12 y13 y20 y21 y22 y23 c1 c2 t120 HW7 HLN
  go_wp2_with fail
  refine (HP7.out.slice 0 0 false (by decide) (by unfold inI; omega) (by unfold inI; omega)).mono ?_
  rintro e w9 ⟨v9, rfl, o9, b9⟩
  rw [v7] at o9
  obtain ⟨A9, c9, rfl, r9⟩ := own_rd o9
  have HP9 := Lib.hid (HP7.out.below (below_seq b9 (al w9 (eo (1, ch 97)))))
  have HY9 := Lib.hid ((HY2.out.below b9).below (al w9 (eo (1, ch 97))))
  have hsm := same_true A9 _ _ c9 _ _ l3 l3 _ (r9.below (al w9 (eo (1, ch 97)))) (rd_one w9 (1, ch 97)) (by decide) rfl
  clear o9 b9 r9
  go_wp2_with fail
  refine Calls.mono hsm ?_
  clear hsm
  rintro e w10 ⟨rfl, b10⟩
  have HP10 := Lib.hid (HP9.out.below b10)
  have y2 := HY9.out.below b10
  have HY10 := Lib.hid y2
  obtain ⟨y20, y21, y22, y23⟩ := y2
  simp only at y20 y21 y22 y23
  clear b10 HP9 HY9
  go_wp2_with fail
  have h := HP10.out.scores ⟨0, false, 2, ⟨#[]⟩⟩ ⟨0, false, 2, ⟨#[]⟩⟩ false 0 (-1) (by decide) (by unfold inI; omega) (by unfold inI; omega)
  refine Calls.mono h ?_
  clear h
  rintro e w11 ⟨v11, rfl, o11, b11⟩
  obtain ⟨A11, c11, rfl, r11⟩ := own_rd o11
  rw [v8]
  have HP11 := Lib.hid (HP10.out.below b11)
  clear o11 b11 r11 y20 y21 y22 y23
  go_wp2_with fail
  have h := HP11.out.names ⟨-1, false, 0, ⟨#[]⟩⟩ ⟨0, false, 0, ch 97⟩ false 0 9 (by decide) (by unfold inI; omega) (by unfold inI; omega)
  refine Calls.mono h ?_
  clear h
  rintro e w12 ⟨v12, rfl, o12, b12⟩
  obtain ⟨A12, c12, rfl, r12⟩ := own_rd o12
  rw [v9]
  have HP12 := Lib.hid (HP11.out.below b12)
  clear o12 b12 r12
  go_wp2_with fail
  refine (HP12.out.pop 1 true (by unfold inI; omega) (by decide)).mono ?_
  rintro e w13 ⟨v13, rfl, P13, o13⟩
  rw [va] at o13
  rw [vb] at P13
  obtain ⟨A13, c13, rfl, r13⟩ := own_rd o13
  have HP13 := Lib.hid (P13.below (al w13 (eo (2, ch 99))))
  have hsm := same_true A13 _ _ c13 _ _ l4 l4 _ (r13.below (al w13 (eo (2, ch 99)))) (rd_one w13 (2, ch 99)) (by decide) rfl
  clear o13 r13 P13
  go_wp2_with fail
  refine Calls.mono hsm ?_
  clear hsm
  rintro e w14 ⟨rfl, b14⟩
  have HP14 := Lib.hid (HP13.out.below b14)
  clear b14
  go_wp2_with fail
  have h := HP14.out.drop (ch 98) (ok_small (by decide)) (by decide)
  rw [vd, vc] at h
  refine Calls.mono h ?_
  clear h
  rintro e w15 ⟨rfl, P15⟩
  have HP15 := Lib.hid P15
  clear P15
  go_wp2_with fail
  refine (HP15.out.list (by decide)).mono ?_
  rintro e w16 ⟨v16, rfl, o16, b16⟩
  obtain ⟨A16, c16, rfl, r16⟩ := own_rd o16
  have HP16 := Lib.hid (HP15.out.below (below_seq b16 (al w16 (eo (1, ch 97)))))
  have hsm := same_true A16 _ _ c16 _ _ l3 l3 _ (r16.below (al w16 (eo (1, ch 97)))) (rd_one w16 (1, ch 97)) (by decide) rfl
  clear o16 b16 r16
  go_wp2_with fail
  refine Calls.mono hsm ?_
  clear hsm
  rintro e w17 ⟨rfl, b17⟩
  go_wp2_with fail
  go_ret
  exact ⟨rfl, below_seq HP16.out.bel b17⟩
end Go.Proofs.YtakhcfemakapbaaGreatDoor.RjK
set_option maxRecDepth 100000
set_option linter.unusedSimpArgs false
set_option linter.unusedVariables false
namespace Go.Proofs.YtakhcfemakapbaaGreatDoor.RjL
open Go Go.RowKit Go.Shelf Go.Sort Go.Proofs.YtakhcfemakapbaaGreatDoor.Mem Go.Proofs.YtakhcfemakapbaaGreatDoor.DuA Go.Proofs.YtakhcfemakapbaaGreatDoor.DuM Go.Proofs.YtakhcfemakapbaaGreatDoor.DuN Go.Proofs.YtakhcfemakapbaaGreatDoor.NumA Go.Proofs.YtakhcfemakapbaaGreatDoor.NumC Go.Proofs.YtakhcfemakapbaaGreatDoor.NumE Go.Proofs.YtakhcfemakapbaaGreatDoor.RkA Go.Proofs.YtakhcfemakapbaaGreatDoor.RkC Go.Proofs.YtakhcfemakapbaaGreatDoor.RkB Go.Proofs.YtakhcfemakapbaaGreatDoor.RkE Go.Proofs.YtakhcfemakapbaaGreatDoor.RkF Go.Proofs.YtakhcfemakapbaaGreatDoor.RkH Go.Proofs.YtakhcfemakapbaaGreatDoor.RkI Go.Proofs.YtakhcfemakapbaaGreatDoor.RkL Go.Proofs.YtakhcfemakapbaaGreatDoor.RkM Go.Proofs.YtakhcfemakapbaaGreatDoor.RkN Go.Proofs.YtakhcfemakapbaaGreatDoor.RkO Go.Proofs.YtakhcfemakapbaaGreatDoor.RkP Go.Proofs.YtakhcfemakapbaaGreatDoor.RkQ Go.Proofs.YtakhcfemakapbaaGreatDoor.RkR Go.Proofs.YtakhcfemakapbaaGreatDoor.RkS Go.Proofs.YtakhcfemakapbaaGreatDoor.RkU Go.Proofs.YtakhcfemakapbaaGreatDoor.RkW Go.Proofs.YtakhcfemakapbaaGreatDoor.RjF Go.Proofs.YtakhcfemakapbaaGreatDoor.RjG Go.Proofs.YtakhcfemakapbaaGreatDoor.RjI Go.Proofs.YtakhcfemakapbaaGreatDoor.RjJ Go.Proofs.YtakhcfemakapbaaGreatDoor.RjK

def allS (l : List En) : Prop := ∀ e ∈ l, okS e.1
section
variable (A : Option Addr) (n c : Nat) (l : List En) (w : World) (hr : RdE w A n c l)
theorem of_twice (hok : ∀ e ∈ l, okk e.2) (hn : n ≤ 1000000000) (h1 : allS l) (h2 : ¬ (l.map (·.2)).Nodup) (hr : RdE w A n c l) :
    Calls Tryz.prog 11 #[.slice A n c] w fun e w' => e = .returned (.tuple #[.pointer none, .int .i64 100]) ∧ Below w.heap.size w w' :=
  (of_calls A n c l w hr hok hn).mono fun e w' h => by
    rcases h with ⟨b, ⟨h, _⟩ | ⟨_, _, rfl⟩ | ⟨_, h, _⟩⟩
    · exact absurd h1 h
    · exact ⟨rfl, b⟩
    · exact absurd h h2
theorem ofR_ok (hn : n ≤ 1000000000) (h1 : allS l) (h2 : (l.map (·.2)).Nodup) (hr : RdE w A n c l) :
    Calls Tryz.prog 12 #[.slice A n c] w fun e w' => ∃ v, e = .returned (.tuple #[v, .int .i64 0]) ∧ OwnE w' w.heap.size v (ofL l) ∧ Below w.heap.size w w' :=
  (ofR_calls A n c l w hr hn).mono fun e w' h => by
    rcases h with ⟨b, ⟨h, _⟩ | ⟨_, h, _⟩ | ⟨_, _, v, rfl, h⟩⟩
    · exact absurd h1 h
    · exact absurd h2 h
    · exact ⟨v, rfl, h, b⟩
theorem ofR_bad (hn : n ≤ 1000000000) (h1 : ¬ allS l) (hr : RdE w A n c l) :
    Calls Tryz.prog 12 #[.slice A n c] w fun e w' => e = .returned (.tuple #[.slice none 0 0, .int .i64 120]) ∧ Below w.heap.size w w' :=
  (ofR_calls A n c l w hr hn).mono fun e w' h => by
    rcases h with ⟨b, ⟨_, rfl⟩ | ⟨h, _⟩ | ⟨h, _⟩⟩
    · exact ⟨rfl, b⟩
    · exact absurd h h1
    · exact absurd h h1
theorem ofR_twice (hn : n ≤ 1000000000) (h1 : allS l) (h2 : ¬ (l.map (·.2)).Nodup) (hr : RdE w A n c l) :
    Calls Tryz.prog 12 #[.slice A n c] w fun e w' => e = .returned (.tuple #[.slice none 0 0, .int .i64 100]) ∧ Below w.heap.size w w' :=
  (ofR_calls A n c l w hr hn).mono fun e w' h => by
    rcases h with ⟨b, ⟨h, _⟩ | ⟨_, _, rfl⟩ | ⟨_, h, _⟩⟩
    · exact absurd h1 h
    · exact ⟨rfl, b⟩
    · exact absurd h h2
end
theorem sm {n : Nat} (h : n ≤ 1048576) : n ≤ 1000000000 := by omega
theorem len_ofL {l : List En} (h : (l.map (·.2)).Nodup) : (ofL l).length = l.length := (of_facts h).2.length_eq
set_option maxHeartbeats 1000000 in
theorem rankOf_calls (A : Option Addr) (n c : Nat) (l : List En) (W : World) (hr : RdE W A n c l) (hok : ∀ e ∈ l, okk e.2) (hn : n ≤ 1048576) (hL : Laid W) :
    Calls Tryz.prog 3 #[.slice A n c] W fun e w' => e = .returned (.bool true) ∧ Below W.heap.size W w' := by
  obtain rfl := rde_len hr
  have htw := twin_calls A l.length c l W hr (sm hn)
  have HR := Lib.hid (And.intro hr (And.intro hok hL))
  have HN := Lib.hid (sm hn)
  clear hr hok hL
  by_cases hS : allS l
  · by_cases hD : (l.map (·.2)).Nodup
    · have HSD := Lib.hid (And.intro hS hD)
      have HLL : Hid ((ofL l).length = l.length) := len_ofL hD
      clear hS hD
      go_enter Tryz.func3, Tryz.ntmps3
      go_wp2_with fail
      refine htw.mono ?_
      clear htw
      rintro e w1 ⟨v1, rfl, o1, b1⟩
      obtain ⟨A1, c1, rfl, r1⟩ := own_rd o1
      have h := of_ok A1 l.length c1 l w1 r1 HR.out.2.1 HN.out HSD.out.1 HSD.out.2
      have HB1 := Lib.hid (And.intro b1 r1)
      clear o1 r1 b1
      go_wp2_with fail
      refine Calls.mono h ?_
      clear h
      rintro e w2 ⟨g, m, rfl, P2⟩
      have HP2 := Lib.hid (And.intro (Ps.base P2 HB1.out.1) P2.bel)
      clear P2
      have h := ofR_ok A l.length c l w2 HN.out HSD.out.1 HSD.out.2 (HR.out.1.below HP2.out.1.bel)
      go_wp2_with fail
      refine Calls.mono h ?_
      clear h
      rintro e w3 ⟨v3, rfl, o3, b3⟩
      obtain ⟨A3, c3, rfl, r3⟩ := own_rd o3
      have HP3 := Lib.hid (HP2.out.1.below b3)
      have h := same_true A1 A l.length c1 l.length c l l w3 ((HB1.out.2.below HP2.out.2).below b3) (HR.out.1.below HP3.out.bel) HN.out rfl
      have HB3 := Lib.hid r3
      clear o3 b3 r3
      rw [HLL.out] at HB3
      simp only [HLL.out]
      go_wp2_with fail
      refine Calls.mono h ?_
      clear h
      rintro e w4 ⟨rfl, b4⟩
      have HP4 := Lib.hid (HP3.out.below b4)
      have HB4 := Lib.hid (HB3.out.below b4)
      have h := HP4.out.len
      rw [HLL.out] at h
      clear b4
      go_wp2_with fail
      refine Calls.mono h ?_
      clear h
      rintro e w5 ⟨rfl, rfl⟩
      have h := HP4.out.list HN.out
      go_wp2_with fail
      refine Calls.mono h ?_
      clear h
      rintro e w6 ⟨v6, rfl, o6, b6⟩
      obtain ⟨A6, c6, rfl, r6⟩ := own_rd o6
      have HP6 := Lib.hid (HP4.out.below b6)
      have hll := HN.out
      rw [← HLL.out] at hll
      have h := same_true A6 A3 _ c6 _ c3 (ofL l) (ofL l) w6 r6 (HB4.out.below b6) hll rfl
      clear o6 r6 b6 hll
      go_wp2_with fail
      refine Calls.mono h ?_
      clear h
      rintro e w7 ⟨rfl, b7⟩
      have HP7 := Lib.hid (HP6.out.below b7)
      have h := sure_calls w7 (HR.out.2.2.below HP7.out.bel)
      clear b7
      go_wp2_with fail
      refine Calls.mono h ?_
      clear h
      rintro e w8 ⟨rfl, b8⟩
      go_wp2_with fail
      go_ret
      exact ⟨rfl, below_seq HP7.out.bel b8⟩
    · have HSD := Lib.hid (And.intro hS hD)
      clear hS hD
      go_enter Tryz.func3, Tryz.ntmps3
      go_wp2_with fail
      refine htw.mono ?_
      clear htw
      rintro e w1 ⟨v1, rfl, o1, b1⟩
      obtain ⟨A1, c1, rfl, r1⟩ := own_rd o1
      have h := of_twice A1 l.length c1 l w1 HR.out.2.1 HN.out HSD.out.1 HSD.out.2 r1
      have HB1 := Lib.hid (And.intro b1 r1)
      clear o1 r1 b1
      go_wp2_with fail
      refine Calls.mono h ?_
      clear h
      rintro e w2 ⟨rfl, b2⟩
      have HB2 := Lib.hid (And.intro (below_seq HB1.out.1 b2) (HB1.out.2.below b2))
      clear b2
      have h := ofR_twice A l.length c l w2 HN.out HSD.out.1 HSD.out.2 (HR.out.1.below HB2.out.1)
      go_wp2_with fail
      refine Calls.mono h ?_
      clear h
      rintro e w3 ⟨rfl, b3⟩
      have HB3 := Lib.hid (And.intro (below_seq HB2.out.1 b3) (HB2.out.2.below b3))
      clear b3
      have h := same_true A1 A l.length c1 l.length c l l w3 HB3.out.2 (HR.out.1.below HB3.out.1) HN.out rfl
      go_wp2_with fail
      refine Calls.mono h ?_
      clear h
      rintro e w4 ⟨rfl, b4⟩
      have HB4 := Lib.hid (below_seq HB3.out.1 b4)
      have h := sure_calls w4 (HR.out.2.2.below HB4.out)
      clear b4
      go_wp2_with fail
      refine Calls.mono h ?_
      clear h
      rintro e w8 ⟨rfl, b8⟩
      go_wp2_with fail
      go_ret
      exact ⟨rfl, below_seq HB4.out b8⟩
  · have HSD := Lib.hid hS
    clear hS
    go_enter Tryz.func3, Tryz.ntmps3
    go_wp2_with fail
    refine htw.mono ?_
    clear htw
    rintro e w1 ⟨v1, rfl, o1, b1⟩
    obtain ⟨A1, c1, rfl, r1⟩ := own_rd o1
    have h := of_bad A1 l.length c1 l w1 r1 HR.out.2.1 HN.out HSD.out
    have HB1 := Lib.hid (And.intro b1 r1)
    clear o1 r1 b1
    go_wp2_with fail
    refine Calls.mono h ?_
    clear h
    rintro e w2 ⟨rfl, b2⟩
    have HB2 := Lib.hid (And.intro (below_seq HB1.out.1 b2) (HB1.out.2.below b2))
    clear b2
    have h := ofR_bad A l.length c l w2 HN.out HSD.out (HR.out.1.below HB2.out.1)
    go_wp2_with fail
    refine Calls.mono h ?_
    clear h
    rintro e w3 ⟨rfl, b3⟩
    have HB3 := Lib.hid (And.intro (below_seq HB2.out.1 b3) (HB2.out.2.below b3))
    clear b3
    have h := same_true A1 A l.length c1 l.length c l l w3 HB3.out.2 (HR.out.1.below HB3.out.1) HN.out rfl
    go_wp2_with fail
    refine Calls.mono h ?_
    clear h
    rintro e w4 ⟨rfl, b4⟩
    have HB4 := Lib.hid (below_seq HB3.out.1 b4)
    have h := sure_calls w4 (HR.out.2.2.below HB4.out)
    clear b4
    go_wp2_with fail
    refine Calls.mono h ?_
    clear h
    rintro e w8 ⟨rfl, b8⟩
    go_wp2_with fail
    go_ret
    exact ⟨rfl, below_seq HB4.out b8⟩
theorem bdV_is (o : Option Bd) : ∃ b f, bdV o = .tuple #[bV b, .int .i64 f] := by
  rcases o with _ | b
  · exact ⟨bz, 121, rfl⟩
  · exact ⟨b, 0, rfl⟩
set_option maxHeartbeats 1000000 in
theorem rankTexts_calls (s : ByteArray) (W : World) (hs : s.size ≤ 1048576) (hL : Laid W) :
    Calls Tryz.prog 5 #[.string s] W fun e w' => e = .returned (.bool true) ∧ Below W.heap.size W w' := by
  have k1 : Hid (∀ w, Laid w → Calls Tryz.prog 18 #[.string s] w fun e w' => e = .returned (bdV (scoreB s)) ∧ Below w.heap.size w w') := Lib.hid (fun w h => scoreP_calls s w h (by omega))
  have k2 : Hid (∀ w, Calls Tryz.prog 19 #[.string s] w fun e w' => e = .returned (bdV (scoreB s)) ∧ Below w.heap.size w w') := Lib.hid (fun w => scoreR_calls s w (by omega))
  have k3 : Hid (∀ w, Calls Tryz.prog 20 #[.string s] w fun e w' => e = .returned (bdV (nameB s)) ∧ Below w.heap.size w w') := Lib.hid (fun w => nameP_calls s w (by omega))
  have k4 : Hid (∀ w, Calls Tryz.prog 21 #[.string s] w fun e w' => e = .returned (bdV (nameB s)) ∧ Below w.heap.size w w') := Lib.hid (fun w => nameR_calls s w (by omega))
  obtain ⟨⟨i1, o1, s1, n1⟩, f1, h1⟩ := bdV_is (scoreB s)
  obtain ⟨⟨i2, o2, s2, n2⟩, f2, h2⟩ := bdV_is (nameB s)
  simp only [h1] at k1 k2
  simp only [h2] at k3 k4
  have HL := Lib.hid hL
  clear h1 h2 hL hs
  go_enter Tryz.func5, Tryz.ntmps5
  go_wp2_with fail
  refine (k1.out W HL.out).mono ?_
  rintro e w1 ⟨rfl, b1⟩
  have X1 := Lib.hid (bx_new w1 ⟨i1, o1, s1, n1⟩)
  have B1 := Lib.hid (below_seq b1 (al w1 (bo ⟨i1, o1, s1, n1⟩)))
  clear b1
  go_wp2_with fail
  refine Calls.mono (k2.out (w1.alloc (bo ⟨i1, o1, s1, n1⟩))) ?_
  rintro e w2 ⟨rfl, b2⟩
  have X2 := Lib.hid (And.intro ((X1.out.below b2).below (al w2 (bo ⟨i1, o1, s1, n1⟩))) (bx_new w2 ⟨i1, o1, s1, n1⟩))
  have B2 := Lib.hid (below_seq (below_seq B1.out b2) (al w2 (bo ⟨i1, o1, s1, n1⟩)))
  clear b2 X1 B1
  go_wp2_with fail
  refine Calls.mono (k3.out (w2.alloc (bo ⟨i1, o1, s1, n1⟩))) ?_
  rintro e w3 ⟨rfl, b3⟩
  have X3 := Lib.hid (And.intro ((X2.out.1.below b3).below (al w3 (bo ⟨i2, o2, s2, n2⟩))) (And.intro ((X2.out.2.below b3).below (al w3 (bo ⟨i2, o2, s2, n2⟩))) (bx_new w3 ⟨i2, o2, s2, n2⟩)))
  have B3 := Lib.hid (below_seq (below_seq B2.out b3) (al w3 (bo ⟨i2, o2, s2, n2⟩)))
  clear b3 X2 B2
  go_wp2_with fail
  refine Calls.mono (k4.out (w3.alloc (bo ⟨i2, o2, s2, n2⟩))) ?_
  rintro e w4 ⟨rfl, b4⟩
  have B4 := Lib.hid (below_seq (below_seq B3.out b4) (al w4 (bo ⟨i2, o2, s2, n2⟩)))
  obtain ⟨W5, hW5⟩ : ∃ W5, W5 = w4.alloc (.cells #[.int .i64 i2, .bool o2, .int .i64 s2, .string n2] 39) := ⟨_, rfl⟩
  obtain ⟨x0, x1, x2, x3⟩ := (X3.out.1.below b4).below (al w4 (bo ⟨i2, o2, s2, n2⟩))
  obtain ⟨y0, y1, y2, y3⟩ := (X3.out.2.1.below b4).below (al w4 (bo ⟨i2, o2, s2, n2⟩))
  obtain ⟨z0, z1, z2, z3⟩ := (X3.out.2.2.below b4).below (al w4 (bo ⟨i2, o2, s2, n2⟩))
  simp only at x0 x1 x2 x3 y0 y1 y2 y3 z0 z1 z2 z3
  have e1 : ∀ W, (binOp .eql 39 (.agg #[.int .i64 i1, .bool o1, .int .i64 s1, .string n1]) (.agg #[.int .i64 i1, .bool o1, .int .i64 s1, .string n1])).run Tryz.prog W = .ok (.bool true) W := fun W => eq_B ⟨i1, o1, s1, n1⟩ W
  have e2 : ∀ W, (binOp .eql 39 (.agg #[.int .i64 i2, .bool o2, .int .i64 s2, .string n2]) (.agg #[.int .i64 i2, .bool o2, .int .i64 s2, .string n2])).run Tryz.prog W = .ok (.bool true) W := fun W => eq_B ⟨i2, o2, s2, n2⟩ W
  have hsr := sure_calls _ (HL.out.below B4.out)
  have HSR := Lib.hid hsr
  clear b4 X3 B3 hsr hW5
  go_wp2_with fail
  refine Calls.mono HSR.out ?_
  rintro e w8 ⟨rfl, b8⟩
  go_wp2_with fail
  go_ret
  exact ⟨rfl, below_seq B4.out b8⟩
end Go.Proofs.YtakhcfemakapbaaGreatDoor.RjL
set_option maxRecDepth 100000
set_option linter.unusedSimpArgs false
set_option linter.unusedVariables false
namespace Go.Proofs.YtakhcfemakapbaaGreatDoor.RjM
open Go Go.RowKit Go.Proofs.YtakhcfemakapbaaGreatDoor.Mem Go.Proofs.YtakhcfemakapbaaGreatDoor.NumE Go.Proofs.YtakhcfemakapbaaGreatDoor.RkC Go.Proofs.YtakhcfemakapbaaGreatDoor.RkB Go.Proofs.YtakhcfemakapbaaGreatDoor.RkH Go.Proofs.YtakhcfemakapbaaGreatDoor.RkP Go.Proofs.YtakhcfemakapbaaGreatDoor.RkS Go.Proofs.YtakhcfemakapbaaGreatDoor.RjJ Go.Proofs.YtakhcfemakapbaaGreatDoor.RjL

def scF (p : ByteArray × Int) : List Value := [.string p.1, .int .i64 p.2]
def scM (p : ByteArray × Int) : Nat := p.1.size + 3
def scOK (p : ByteArray × Int) : Prop := p.1.size ≤ maxLen ∧ inI p.2
def bdF (b : Bd) : List Value := [.int .i64 b.inf, .bool b.opn, .int .i64 b.score, .string b.name]
def bdM (b : Bd) : Nat := b.name.size + 5
def bdOK (b : Bd) : Prop := inI b.inf ∧ inI b.score ∧ b.name.size ≤ maxLen
structure Op where
  kind : Int
  name : ByteArray
  a : Int
  b : Int
  lo : Bd
  hi : Bd
  turned : Bool
def opF (o : Op) : List Value := [.int .i64 o.kind, .string o.name, .int .i64 o.a, .int .i64 o.b, .int .i64 o.lo.inf, .bool o.lo.opn, .int .i64 o.lo.score, .string o.lo.name, .int .i64 o.hi.inf, .bool o.hi.opn, .int .i64 o.hi.score, .string o.hi.name, .bool o.turned]
def opM (o : Op) : Nat := o.name.size + o.lo.name.size + o.hi.name.size + 16
def opOK (o : Op) : Prop := inI o.a ∧ inI o.b ∧ bdOK o.lo ∧ bdOK o.hi
def toEn (z : List (ByteArray × Int)) : List En := z.map (fun p => (p.2, p.1))
theorem to_len (z : List (ByteArray × Int)) : (toEn z).length = z.length := by simp [toEn]
theorem ents_to (z : List (ByteArray × Int)) : ents (toEn z) = z.flatMap scF := by
  induction z with
  | nil => rfl
  | cons p z ih => simp only [toEn, ents, List.map_cons, List.flatMap_cons, scF] at ih ⊢; rw [ih]
/-- Names within bounds. -/
def Gd (l : List En) : Prop := ∀ e ∈ l, e.2.size ≤ 1048600
theorem Gd.ok {l : List En} (h : Gd l) : ∀ e ∈ l, okk e.2 := fun e he => ok_small' (h e he)
theorem gd_of {z : List (ByteArray × Int)} (h : (z.map scM).sum ≤ 1048576) : Gd (toEn z) := fun e he => by
  obtain ⟨p, hp, rfl⟩ := List.mem_map.1 he
  have := LawR.mem_sum scM z p hp
  have e : scM p = p.1.size + 3 := rfl
  show p.1.size ≤ _
  omega
theorem len_of {z : List (ByteArray × Int)} (h : (z.map scM).sum ≤ 1048576) : z.length ≤ 1048576 := Nat.le_trans (LawR.len_sum scM (fun p => by unfold scM; omega) z) h
theorem rd_of {W : World} {A : Option Addr} {n c : Nat} {z : List (ByteArray × Int)} (hr : Rd W 2 A n c (z.flatMap scF)) : RdE W A n c (toEn z) := by
  rw [← ents_to] at hr; exact hr
theorem of_law (A : Option Addr) (n c : Nat) (z : List (ByteArray × Int)) (W : World) (hr : Rd W 2 A n c (z.flatMap scF)) (hl : z.length = n) (h1 : ∀ x ∈ z, scOK x) (h2 : (z.map scM).sum ≤ 1048576) (hL : Laid W) :
    Calls Tryz.prog 3 #[.slice A n c] W fun e w' => e = .returned (.bool true) ∧ Below W.heap.size W w' :=
  rankOf_calls A n c (toEn z) W (rd_of hr) (gd_of h2).ok (by rw [← hl]; exact len_of h2) hL
end Go.Proofs.YtakhcfemakapbaaGreatDoor.RjM
