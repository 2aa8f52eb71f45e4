/-
  One call on a rank and on the document's list; RankPlays. Conditions: as stated.
-/
import Derived.Test.YtakhcfemakapbaaGreatDoorRgK
set_option maxRecDepth 100000
set_option linter.unusedSimpArgs false
set_option linter.unusedVariables false
namespace Go.Proofs.YtakhcfemakapbaaGreatDoor.RjN
open Go Go.RowKit Go.Shelf Go.Sort Go.Proofs.YtakhcfemakapbaaGreatDoor.Mem Go.Proofs.YtakhcfemakapbaaGreatDoor.DuA Go.Proofs.YtakhcfemakapbaaGreatDoor.DuM Go.Proofs.YtakhcfemakapbaaGreatDoor.DuN Go.Proofs.YtakhcfemakapbaaGreatDoor.NumA Go.Proofs.YtakhcfemakapbaaGreatDoor.NumC Go.Proofs.YtakhcfemakapbaaGreatDoor.NumE Go.Proofs.YtakhcfemakapbaaGreatDoor.RkA Go.Proofs.YtakhcfemakapbaaGreatDoor.RkC Go.Proofs.YtakhcfemakapbaaGreatDoor.RkB Go.Proofs.YtakhcfemakapbaaGreatDoor.RkE Go.Proofs.YtakhcfemakapbaaGreatDoor.RkF Go.Proofs.YtakhcfemakapbaaGreatDoor.RkH Go.Proofs.YtakhcfemakapbaaGreatDoor.RkI Go.Proofs.YtakhcfemakapbaaGreatDoor.RkL Go.Proofs.YtakhcfemakapbaaGreatDoor.RkM Go.Proofs.YtakhcfemakapbaaGreatDoor.RkN Go.Proofs.YtakhcfemakapbaaGreatDoor.RkO Go.Proofs.YtakhcfemakapbaaGreatDoor.RkP Go.Proofs.YtakhcfemakapbaaGreatDoor.RkQ Go.Proofs.YtakhcfemakapbaaGreatDoor.RkR Go.Proofs.YtakhcfemakapbaaGreatDoor.RkS Go.Proofs.YtakhcfemakapbaaGreatDoor.RkU Go.Proofs.YtakhcfemakapbaaGreatDoor.RkV Go.Proofs.YtakhcfemakapbaaGreatDoor.RkW Go.Proofs.YtakhcfemakapbaaGreatDoor.RkY Go.Proofs.YtakhcfemakapbaaGreatDoor.RjA Go.Proofs.YtakhcfemakapbaaGreatDoor.RjB Go.Proofs.YtakhcfemakapbaaGreatDoor.RjH Go.Proofs.YtakhcfemakapbaaGreatDoor.RjE Go.Proofs.YtakhcfemakapbaaGreatDoor.RjF Go.Proofs.YtakhcfemakapbaaGreatDoor.RjG Go.Proofs.YtakhcfemakapbaaGreatDoor.RjI Go.Proofs.YtakhcfemakapbaaGreatDoor.RjJ Go.Proofs.YtakhcfemakapbaaGreatDoor.RjK Go.Proofs.YtakhcfemakapbaaGreatDoor.RjL Go.Proofs.YtakhcfemakapbaaGreatDoor.RjM

/-- Between two calls: the rank and the document's list. -/
structure Pl (W w : World) (g m N : Nat) (A : Option Addr) (c : Nat) (cur : List En) : Prop where
  rk : ∃ v, Rk w W.heap.size g m v cur N ∧ ∀ k, (Value.slice A 0 0).ownBlock = some k → ¬ RkS g m v k
  lt : ∀ k, (Value.slice A 0 0).ownBlock = some k → k < w.heap.size
  rd : RdE w A cur.length c cur
  gd : Gd cur
  bel : Below W.heap.size W w
section
variable {W w w' : World} {g m N : Nat} {A A' : Option Addr} {c c' n' : Nat} {cur l' : List En}
theorem Pl.below (h : Pl W w g m N A c cur) (hb : Below w.heap.size w w') : Pl W w' g m N A c cur := by
  obtain ⟨v, hr, hd⟩ := h.rk
  exact ⟨⟨v, hr.below hb, hd⟩, fun k hk => Nat.lt_of_lt_of_le (h.lt k hk) hb.size, h.rd.below hb, h.gd, below_seq h.bel hb⟩
theorem Pl.ps (h : Pl W w g m N A c cur) : Ps W w g m cur N := by
  obtain ⟨v, hr, _⟩ := h.rk
  exact ⟨⟨v, hr⟩, h.bel⟩
theorem Pl.len (h : Pl W w g m N A c cur) : cur.length ≤ N := by
  obtain ⟨v, hr, _⟩ := h.rk
  exact hr.len
theorem Pl.srt (h : Pl W w g m N A c cur) : Srt ltS cur := by
  obtain ⟨v, hr, _⟩ := h.rk
  exact hr.srt
theorem Pl.more (h : Pl W w g m N A c cur) {N' : Nat} (hN : N ≤ N') : Pl W w g m N' A c cur := by
  obtain ⟨v, hr, hd⟩ := h.rk
  obtain ⟨D, hM, hT⟩ := hr.mp
  exact ⟨⟨v, { hr with len := Nat.le_trans hr.len hN, mp := ⟨D, hM.mono hN, hT⟩ }, hd⟩, h.lt, h.rd, h.gd, h.bel⟩
/-- A slice off the rank's blocks, in a later world. -/
def Off (w1 : World) (g m : Nat) (v : Value) (A' : Option Addr) : Prop := ∀ k, (Value.slice A' 0 0).ownBlock = some k → ¬ RkS g m v k ∧ k < w1.heap.size
theorem Pl.next (h : Pl W w g m N A c cur) {w1 : World} (hb : Below w.heap.size w w1) : ∃ v, Rk w1 W.heap.size g m v cur N ∧ ∀ A', Near A A' w.heap.size w1.heap.size → Off w1 g m v A' := by
  obtain ⟨v, hr, hd⟩ := h.rk
  refine ⟨v, hr.below hb, fun A' hn k hk => ?_⟩
  rcases hn k hk with h1 | ⟨h1, h2⟩
  · exact ⟨hd k h1, Nat.lt_of_lt_of_le (h.lt k h1) hb.size⟩
  · exact ⟨fun hs => by have := (hr.lt k hs).2; omega, h2⟩
theorem Off.rd {w1 : World} {v : Value} (ho : Off w1 g m v A') (r : RdE w1 A' n' c' l') (hO : Only (RkS g m v) w1 w') : RdE w' A' n' c' l' :=
  r.only hO (fun ad e2 => by subst e2; exact (ho ad.block rfl).1)
/-- The document's list is another one, then the rank is turned. -/
theorem Pl.turn {v : Value} {w1 : World} (hr : Rk w1 W.heap.size g m v cur N) (hoff : Off w1 g m v A') (bel : Below W.heap.size W w1) (r' : RdE w1 A' n' c' l') (hg : Gd l') {N' : Nat} (ht : Turn W.heap.size g m v l' N' w1 w') : Pl W w' g m N' A' c' l' := by
  obtain ⟨v', hr', ho, hv⟩ := ht
  have e := rde_len r'
  refine ⟨⟨v', hr', fun k hk hs => ?_⟩, fun k hk => Nat.lt_of_lt_of_le (hoff k hk).2 ho.size, ?_, hg, ho.after bel (Nat.le_refl _) (fun b hb => (hr.lt b hb).1)⟩
  · obtain ⟨h1, h2⟩ := hoff k hk
    rcases hs with rfl | rfl | hs
    · exact h1 (.inl rfl)
    · exact h1 (.inr (.inl rfl))
    · rcases hv with hv | ⟨q, hv, hq⟩
      · exact h1 (.inr (.inr (by rw [← hv]; exact hs)))
      · rw [hs] at hv
        injection hv with hv
        omega
  · rw [e]
    exact hoff.rd r' ho
end

theorem gd_ins {l : List En} (h : Gd l) {k : ByteArray} (hk : k.size ≤ 1048600) (t : Int) : Gd (insL ltS (t, k) l) := fun e he => by
  rcases ins_mem.1 he with rfl | he
  · exact hk
  · exact h e he
theorem gd_drop {l : List En} (h : Gd l) (k : ByteArray) : Gd (dropL l k) := fun e he => h e (mem_drop he)
theorem gd_set {l : List En} (h : Gd l) {k : ByteArray} (hk : k.size ≤ 1048600) (t : Int) : Gd (setL l k t) := by
  unfold setL
  split
  · exact gd_ins (gd_drop h k) hk t
  · exact h
theorem gd_left {l : List En} (h : Gd l) (n : Int) (g : Bool) : Gd (leftL l n g) := fun e he => by
  unfold leftL at he
  split at he
  · exact h e (List.mem_of_mem_take he)
  · exact h e (List.mem_of_mem_drop he)
abbrev opV (o : RjM.Op) : Value := .agg #[.int .i64 o.kind, .string o.name, .int .i64 o.a, .int .i64 o.b, .int .i64 o.lo.inf, .bool o.lo.opn, .int .i64 o.lo.score, .string o.lo.name, .int .i64 o.hi.inf, .bool o.hi.opn, .int .i64 o.hi.score, .string o.hi.name, .bool o.turned]
abbrev opO (o : RjM.Op) : Obj := .cells #[.int .i64 o.kind, .string o.name, .int .i64 o.a, .int .i64 o.b, .int .i64 o.lo.inf, .bool o.lo.opn, .int .i64 o.lo.score, .string o.lo.name, .int .i64 o.hi.inf, .bool o.hi.opn, .int .i64 o.hi.score, .string o.hi.name, .bool o.turned] 41
/-- A call's row in its box. -/
structure Ob (w : World) (b : Nat) (o : RjM.Op) : Prop where
  k0 : w.cell? ⟨b, 0, none⟩ = some (.int .i64 o.kind)
  k1 : w.cell? ⟨b, 1, none⟩ = some (.string o.name)
  k2 : w.cell? ⟨b, 2, none⟩ = some (.int .i64 o.a)
  k3 : w.cell? ⟨b, 3, none⟩ = some (.int .i64 o.b)
  k4 : w.cell? ⟨b, 4, none⟩ = some (.int .i64 o.lo.inf)
  k5 : w.cell? ⟨b, 5, none⟩ = some (.bool o.lo.opn)
  k6 : w.cell? ⟨b, 6, none⟩ = some (.int .i64 o.lo.score)
  k7 : w.cell? ⟨b, 7, none⟩ = some (.string o.lo.name)
  k8 : w.cell? ⟨b, 8, none⟩ = some (.int .i64 o.hi.inf)
  k9 : w.cell? ⟨b, 9, none⟩ = some (.bool o.hi.opn)
  k10 : w.cell? ⟨b, 10, none⟩ = some (.int .i64 o.hi.score)
  k11 : w.cell? ⟨b, 11, none⟩ = some (.string o.hi.name)
  k12 : w.cell? ⟨b, 12, none⟩ = some (.bool o.turned)
theorem Ob.below {w w' : World} {b : Nat} {o : RjM.Op} (h : Ob w b o) (hb : Below w.heap.size w w') : Ob w' b o :=
  ⟨cell_b h.k0 hb, cell_b h.k1 hb, cell_b h.k2 hb, cell_b h.k3 hb, cell_b h.k4 hb, cell_b h.k5 hb, cell_b h.k6 hb, cell_b h.k7 hb, cell_b h.k8 hb, cell_b h.k9 hb, cell_b h.k10 hb, cell_b h.k11 hb, cell_b h.k12 hb⟩
theorem Ob.new (w : World) (o : RjM.Op) : Ob (w.alloc (opO o)) w.heap.size o := by
  have h := heap_alloc_new w (opO o)
  refine ⟨?_, ?_, ?_, ?_, ?_, ?_, ?_, ?_, ?_, ?_, ?_, ?_, ?_⟩ <;> (unfold World.cell?; simp only [h]; rfl)
def stepP (W : World) (g m N : Nat) (e : Ending) (w' : World) : Prop := ∃ A' c' cur', e = .returned (.tuple #[.slice A' (cur' : List En).length c', .bool true]) ∧ Pl W w' g m (N + 1) A' c' cur'
set_option maxHeartbeats 1000000 in
theorem step_set {W w : World} {g m N : Nat} {A : Option Addr} {c : Nat} {cur : List En} (h : Pl W w g m N A c cur) (o : RjM.Op) (ho : opOK o) (hsz : o.name.size ≤ 1048576) (hN : N ≤ 900000000) (hK : o.kind = 0) :
    Calls Tryz.prog 17 #[.pointer (some ⟨g, 0, none⟩), .slice A cur.length c, opV o] w (stepP W g m N) := by
  have hob := Ob.new w o
  have b1 := al w (opO o)
  obtain ⟨W1, hW1⟩ : ∃ W1, W1 = w.alloc (.cells #[.int .i64 o.kind, .string o.name, .int .i64 o.a, .int .i64 o.b, .int .i64 o.lo.inf, .bool o.lo.opn, .int .i64 o.lo.score, .string o.lo.name, .int .i64 o.hi.inf, .bool o.hi.opn, .int .i64 o.hi.score, .string o.hi.name, .bool o.turned] 41) := ⟨_, rfl⟩
  change Ob (w.alloc (.cells #[.int .i64 o.kind, .string o.name, .int .i64 o.a, .int .i64 o.b, .int .i64 o.lo.inf, .bool o.lo.opn, .int .i64 o.lo.score, .string o.lo.name, .int .i64 o.hi.inf, .bool o.hi.opn, .int .i64 o.hi.score, .string o.hi.name, .bool o.turned] 41)) w.heap.size o at hob
  change Below w.heap.size w (w.alloc (.cells #[.int .i64 o.kind, .string o.name, .int .i64 o.a, .int .i64 o.b, .int .i64 o.lo.inf, .bool o.lo.opn, .int .i64 o.lo.score, .string o.lo.name, .int .i64 o.hi.inf, .bool o.hi.opn, .int .i64 o.hi.score, .string o.hi.name, .bool o.turned] 41)) at b1
  rw [← hW1] at hob b1
  have HP := Lib.hid (h.below b1)
  have HO := Lib.hid hob
  have HH := Lib.hid ho
  have hlen : cur.length ≤ 1000000000 := by have := h.len; omega
  have HN := Lib.hid (And.intro hlen hN)
  obtain ⟨K, nm, a, b, lo, hi, tn⟩ := o
  obtain ⟨c0, c1, c2, c3, c4, c5, c6, c7, c8, c9, c10, c11, c12⟩ := hob
  simp only at c0 c1 c2 c3 c4 c5 c6 c7 c8 c9 c10 c11 c12 hK hsz HO HH hW1
  have HZ := Lib.hid (And.intro (ok_small' (s := nm) (by omega)) (show nm.size ≤ 1048600 by omega))
  clear b1 h ho hlen hN hsz
  subst hK
  have hdoc := setR_calls A cur.length c cur nm a W1 HP.out.rd HP.out.srt HN.out.1
  obtain ⟨bb, hbb⟩ : ∃ bb, (dueL cur nm).isSome = bb := ⟨_, rfl⟩
  rw [hbb] at hdoc
  by_cases hok : okS a
  · have hsv : setV cur nm a = .tuple #[.bool (!bb), .int .i64 0] := by unfold setV; rw [if_pos hok, hbb]
    rw [if_pos hok, if_pos hok] at hdoc
    clear hok hbb
    go_enter Tryz.func17, Tryz.ntmps17
    go_upto_region 1 with fail
    rw [← hW1]
    clear hW1
    go_wp2_with fail
    refine hdoc.mono ?_
    clear hdoc
    clear c0 c1 c2 c3 c4 c5 c6 c7 c8 c9 c10 c11 c12
    rintro e w4 ⟨A4, n4, c4, rfl, r4, b4, nr4⟩
    have HO4 := Lib.hid (HO.out.below b4)
    obtain ⟨c0, c1, c2, c3, c4, c5, c6, c7, c8, c9, c10, c11, c12⟩ := HO4.out
    simp only at c0 c1 c2 c3 c4 c5 c6 c7 c8 c9 c10 c11 c12
    have HB4 := Lib.hid (And.intro r4 (And.intro b4 nr4))
    clear r4 b4 nr4
    obtain ⟨v, hr, hoff⟩ := HP.out.next HB4.out.2.1
    have hpr := set_calls W.heap.size g m v cur N nm a w4 hr HZ.out.1 (below_seq HP.out.bel HB4.out.2.1).size (by have := HN.out.2; omega)
    rw [hsv] at hpr
    have HR := Lib.hid (And.intro hr hoff)
    clear hr hoff hsv
    go_wp2_with fail
    refine hpr.mono ?_
    clear hpr
    clear c0 c1 c2 c3 c4 c5 c6 c7 c8 c9 c10 c11 c12
    rintro e w5 ⟨rfl, ht⟩
    have P5 := Pl.turn HR.out.1 (HR.out.2 A4 HB4.out.2.2) (below_seq HP.out.bel HB4.out.2.1) HB4.out.1 (gd_set HP.out.gd HZ.out.2 a) ht
    have HP5 := Lib.hid P5
    have hn5 := rde_len HB4.out.1
    have HN5 := Lib.hid hn5
    clear P5 ht hn5
    go_wp2_with fail
    go_ret2
    exact ⟨A4, c4, setL cur nm a, (by rw [HN5.out]; rfl), HP5.out⟩
  · have hsv : setV cur nm a = .tuple #[.bool false, .int .i64 120] := by unfold setV; rw [if_neg hok]
    rw [if_neg hok, if_neg hok] at hdoc
    clear hok hbb
    go_enter Tryz.func17, Tryz.ntmps17
    go_upto_region 1 with fail
    rw [← hW1]
    clear hW1
    go_wp2_with fail
    refine hdoc.mono ?_
    clear hdoc
    clear c0 c1 c2 c3 c4 c5 c6 c7 c8 c9 c10 c11 c12
    rintro e w4 ⟨A4, n4, c4, rfl, r4, b4, nr4⟩
    have HO4 := Lib.hid (HO.out.below b4)
    obtain ⟨c0, c1, c2, c3, c4, c5, c6, c7, c8, c9, c10, c11, c12⟩ := HO4.out
    simp only at c0 c1 c2 c3 c4 c5 c6 c7 c8 c9 c10 c11 c12
    have HB4 := Lib.hid (And.intro r4 (And.intro b4 nr4))
    clear r4 b4 nr4
    obtain ⟨v, hr, hoff⟩ := HP.out.next HB4.out.2.1
    have hpr := set_calls W.heap.size g m v cur N nm a w4 hr HZ.out.1 (below_seq HP.out.bel HB4.out.2.1).size (by have := HN.out.2; omega)
    rw [hsv] at hpr
    have HR := Lib.hid (And.intro hr hoff)
    clear hr hoff hsv
    go_wp2_with fail
    refine hpr.mono ?_
    clear hpr
    clear c0 c1 c2 c3 c4 c5 c6 c7 c8 c9 c10 c11 c12
    rintro e w5 ⟨rfl, ht⟩
    have P5 := Pl.turn HR.out.1 (HR.out.2 A4 HB4.out.2.2) (below_seq HP.out.bel HB4.out.2.1) HB4.out.1 (gd_set HP.out.gd HZ.out.2 a) ht
    have HP5 := Lib.hid P5
    have hn5 := rde_len HB4.out.1
    have HN5 := Lib.hid hn5
    clear P5 ht hn5
    go_wp2_with fail
    go_ret2
    exact ⟨A4, c4, setL cur nm a, (by rw [HN5.out]; rfl), HP5.out⟩
set_option maxHeartbeats 1000000 in
theorem step_drop {W w : World} {g m N : Nat} {A : Option Addr} {c : Nat} {cur : List En} (h : Pl W w g m N A c cur) (o : RjM.Op) (ho : opOK o) (hsz : o.name.size ≤ 1048576) (hN : N ≤ 900000000) (hK : o.kind = 2) :
    Calls Tryz.prog 17 #[.pointer (some ⟨g, 0, none⟩), .slice A cur.length c, opV o] w (stepP W g m N) := by
  have hob := Ob.new w o
  have b1 := al w (opO o)
  obtain ⟨W1, hW1⟩ : ∃ W1, W1 = w.alloc (.cells #[.int .i64 o.kind, .string o.name, .int .i64 o.a, .int .i64 o.b, .int .i64 o.lo.inf, .bool o.lo.opn, .int .i64 o.lo.score, .string o.lo.name, .int .i64 o.hi.inf, .bool o.hi.opn, .int .i64 o.hi.score, .string o.hi.name, .bool o.turned] 41) := ⟨_, rfl⟩
  change Ob (w.alloc (.cells #[.int .i64 o.kind, .string o.name, .int .i64 o.a, .int .i64 o.b, .int .i64 o.lo.inf, .bool o.lo.opn, .int .i64 o.lo.score, .string o.lo.name, .int .i64 o.hi.inf, .bool o.hi.opn, .int .i64 o.hi.score, .string o.hi.name, .bool o.turned] 41)) w.heap.size o at hob
  change Below w.heap.size w (w.alloc (.cells #[.int .i64 o.kind, .string o.name, .int .i64 o.a, .int .i64 o.b, .int .i64 o.lo.inf, .bool o.lo.opn, .int .i64 o.lo.score, .string o.lo.name, .int .i64 o.hi.inf, .bool o.hi.opn, .int .i64 o.hi.score, .string o.hi.name, .bool o.turned] 41)) at b1
  rw [← hW1] at hob b1
  have HP := Lib.hid (h.below b1)
  have HO := Lib.hid hob
  have HH := Lib.hid ho
  have hlen : cur.length ≤ 1000000000 := by have := h.len; omega
  have HN := Lib.hid (And.intro hlen hN)
  obtain ⟨K, nm, a, b, lo, hi, tn⟩ := o
  obtain ⟨c0, c1, c2, c3, c4, c5, c6, c7, c8, c9, c10, c11, c12⟩ := hob
  simp only at c0 c1 c2 c3 c4 c5 c6 c7 c8 c9 c10 c11 c12 hK hsz HO HH hW1
  have HZ := Lib.hid (And.intro (ok_small' (s := nm) (by omega)) (show nm.size ≤ 1048600 by omega))
  clear b1 h ho hlen hN hsz
  subst hK
  have hdoc := dropR_calls A cur.length c cur nm W1 HP.out.rd HP.out.srt.one HN.out.1
  obtain ⟨bb, hbb⟩ : ∃ bb, (dueL cur nm).isSome = bb := ⟨_, rfl⟩
  rw [hbb] at hdoc
  have HBB := Lib.hid hbb
  clear hbb
  go_enter Tryz.func17, Tryz.ntmps17
  go_upto_region 1 with fail
  rw [← hW1]
  clear hW1
  go_wp2_with fail
  refine hdoc.mono ?_
  clear hdoc
  clear c0 c1 c2 c3 c4 c5 c6 c7 c8 c9 c10 c11 c12
  rintro e w4 ⟨A4, n4, c4, rfl, r4, b4, nr4⟩
  have HO4 := Lib.hid (HO.out.below b4)
  obtain ⟨c0, c1, c2, c3, c4, c5, c6, c7, c8, c9, c10, c11, c12⟩ := HO4.out
  simp only at c0 c1 c2 c3 c4 c5 c6 c7 c8 c9 c10 c11 c12
  have HB4 := Lib.hid (And.intro r4 (And.intro b4 nr4))
  clear r4 b4 nr4
  obtain ⟨v, hr, hoff⟩ := HP.out.next HB4.out.2.1
  have hpr := drop_calls W.heap.size g m v cur N nm w4 hr HZ.out.1 (below_seq HP.out.bel HB4.out.2.1).size (by have := HN.out.2; omega)
  rw [HBB.out] at hpr
  have HR := Lib.hid (And.intro hr hoff)
  clear hr hoff
  go_wp2_with fail
  refine hpr.mono ?_
  clear hpr
  clear c0 c1 c2 c3 c4 c5 c6 c7 c8 c9 c10 c11 c12
  rintro e w5 ⟨rfl, ht⟩
  have P5 := Pl.turn HR.out.1 (HR.out.2 A4 HB4.out.2.2) (below_seq HP.out.bel HB4.out.2.1) HB4.out.1 (gd_drop HP.out.gd nm) ht
  have HP5 := Lib.hid (P5.more (Nat.le_succ N))
  have hn5 := rde_len HB4.out.1
  have HN5 := Lib.hid hn5
  clear P5 ht hn5
  go_wp2_with fail
  go_ret2
  exact ⟨A4, c4, dropL cur nm, (by rw [HN5.out]; rfl), HP5.out⟩
set_option maxHeartbeats 1000000 in
theorem step_place {W w : World} {g m N : Nat} {A : Option Addr} {c : Nat} {cur : List En} (h : Pl W w g m N A c cur) (o : RjM.Op) (ho : opOK o) (hsz : o.name.size ≤ 1048576) (hN : N ≤ 900000000) (hK : o.kind = 3) :
    Calls Tryz.prog 17 #[.pointer (some ⟨g, 0, none⟩), .slice A cur.length c, opV o] w (stepP W g m N) := by
  have hob := Ob.new w o
  have b1 := al w (opO o)
  obtain ⟨W1, hW1⟩ : ∃ W1, W1 = w.alloc (.cells #[.int .i64 o.kind, .string o.name, .int .i64 o.a, .int .i64 o.b, .int .i64 o.lo.inf, .bool o.lo.opn, .int .i64 o.lo.score, .string o.lo.name, .int .i64 o.hi.inf, .bool o.hi.opn, .int .i64 o.hi.score, .string o.hi.name, .bool o.turned] 41) := ⟨_, rfl⟩
  change Ob (w.alloc (.cells #[.int .i64 o.kind, .string o.name, .int .i64 o.a, .int .i64 o.b, .int .i64 o.lo.inf, .bool o.lo.opn, .int .i64 o.lo.score, .string o.lo.name, .int .i64 o.hi.inf, .bool o.hi.opn, .int .i64 o.hi.score, .string o.hi.name, .bool o.turned] 41)) w.heap.size o at hob
  change Below w.heap.size w (w.alloc (.cells #[.int .i64 o.kind, .string o.name, .int .i64 o.a, .int .i64 o.b, .int .i64 o.lo.inf, .bool o.lo.opn, .int .i64 o.lo.score, .string o.lo.name, .int .i64 o.hi.inf, .bool o.hi.opn, .int .i64 o.hi.score, .string o.hi.name, .bool o.turned] 41)) at b1
  rw [← hW1] at hob b1
  have HP := Lib.hid (h.below b1)
  have HO := Lib.hid hob
  have HH := Lib.hid ho
  have hlen : cur.length ≤ 1000000000 := by have := h.len; omega
  have HN := Lib.hid (And.intro hlen hN)
  obtain ⟨K, nm, a, b, lo, hi, tn⟩ := o
  obtain ⟨c0, c1, c2, c3, c4, c5, c6, c7, c8, c9, c10, c11, c12⟩ := hob
  simp only at c0 c1 c2 c3 c4 c5 c6 c7 c8 c9 c10 c11 c12 hK hsz HO HH hW1
  have HZ := Lib.hid (And.intro (ok_small' (s := nm) (by omega)) (show nm.size ≤ 1048600 by omega))
  clear b1 h ho hlen hN hsz
  subst hK
  have hpv : ∃ (i : Int) (bb : Bool), placeV cur nm tn = .tuple #[.int .i64 i, .bool bb] := by
    unfold placeV
    split
    · exact ⟨_, _, rfl⟩
    · exact ⟨_, _, rfl⟩
  obtain ⟨i, bb, hpv⟩ := hpv
  have hpr := HP.out.ps.place nm tn HZ.out.1 (by have := HN.out.2; omega)
  rw [hpv] at hpr
  have HV := Lib.hid hpv
  clear hpv
  go_enter Tryz.func17, Tryz.ntmps17
  go_upto_region 1 with fail
  rw [← hW1]
  clear hW1
  go_wp2_with fail
  refine hpr.mono ?_
  clear hpr
  clear c0 c1 c2 c3 c4 c5 c6 c7 c8 c9 c10 c11 c12
  rintro e w4 ⟨rfl, b4⟩
  have HO4 := Lib.hid (HO.out.below b4)
  obtain ⟨c0, c1, c2, c3, c4, c5, c6, c7, c8, c9, c10, c11, c12⟩ := HO4.out
  simp only at c0 c1 c2 c3 c4 c5 c6 c7 c8 c9 c10 c11 c12
  have HP4 := Lib.hid (HP.out.below b4)
  have h := placeR_calls A cur.length c cur nm tn w4 HP4.out.rd HN.out.1
  rw [HV.out] at h
  clear b4
  go_wp2_with fail
  refine Calls.mono h ?_
  clear h
  clear c0 c1 c2 c3 c4 c5 c6 c7 c8 c9 c10 c11 c12
  rintro e w5 ⟨rfl, b5⟩
  have HP5 := Lib.hid ((HP4.out.below b5).more (Nat.le_succ N))
  clear b5
  go_wp2_with fail
  go_ret2
  exact ⟨A, c, cur, rfl, HP5.out⟩
theorem slice_len (l : List En) (a b : Int) (rev : Bool) : (sliceL l a b rev).length ≤ l.length := by
  unfold sliceL
  split
  · simp
  · have := way_len l rev
    rw [List.length_take, List.length_drop]; omega
theorem part_len (l : List En) (p : En → Bool) (rev : Bool) (skip most : Int) : (partL l p rev skip most).length ≤ l.length := by
  unfold partL cutL
  have h1 := List.length_filter_le p (wayL l rev)
  rw [way_len] at h1
  split
  · rw [List.length_drop]; omega
  · rw [List.length_take, List.length_drop]; omega
set_option maxHeartbeats 1000000 in
theorem step_slice {W w : World} {g m N : Nat} {A : Option Addr} {c : Nat} {cur : List En} (h : Pl W w g m N A c cur) (o : RjM.Op) (ho : opOK o) (hsz : o.name.size ≤ 1048576) (hN : N ≤ 900000000) (hK : o.kind = 4) :
    Calls Tryz.prog 17 #[.pointer (some ⟨g, 0, none⟩), .slice A cur.length c, opV o] w (stepP W g m N) := by
  have hob := Ob.new w o
  have b1 := al w (opO o)
  obtain ⟨W1, hW1⟩ : ∃ W1, W1 = w.alloc (.cells #[.int .i64 o.kind, .string o.name, .int .i64 o.a, .int .i64 o.b, .int .i64 o.lo.inf, .bool o.lo.opn, .int .i64 o.lo.score, .string o.lo.name, .int .i64 o.hi.inf, .bool o.hi.opn, .int .i64 o.hi.score, .string o.hi.name, .bool o.turned] 41) := ⟨_, rfl⟩
  change Ob (w.alloc (.cells #[.int .i64 o.kind, .string o.name, .int .i64 o.a, .int .i64 o.b, .int .i64 o.lo.inf, .bool o.lo.opn, .int .i64 o.lo.score, .string o.lo.name, .int .i64 o.hi.inf, .bool o.hi.opn, .int .i64 o.hi.score, .string o.hi.name, .bool o.turned] 41)) w.heap.size o at hob
  change Below w.heap.size w (w.alloc (.cells #[.int .i64 o.kind, .string o.name, .int .i64 o.a, .int .i64 o.b, .int .i64 o.lo.inf, .bool o.lo.opn, .int .i64 o.lo.score, .string o.lo.name, .int .i64 o.hi.inf, .bool o.hi.opn, .int .i64 o.hi.score, .string o.hi.name, .bool o.turned] 41)) at b1
  rw [← hW1] at hob b1
  have HP := Lib.hid (h.below b1)
  have HO := Lib.hid hob
  have HH := Lib.hid ho
  have hlen : cur.length ≤ 1000000000 := by have := h.len; omega
  have HN := Lib.hid (And.intro hlen hN)
  obtain ⟨K, nm, a, b, lo, hi, tn⟩ := o
  obtain ⟨c0, c1, c2, c3, c4, c5, c6, c7, c8, c9, c10, c11, c12⟩ := hob
  simp only at c0 c1 c2 c3 c4 c5 c6 c7 c8 c9 c10 c11 c12 hK hsz HO HH hW1
  have HZ := Lib.hid (And.intro (ok_small' (s := nm) (by omega)) (show nm.size ≤ 1048600 by omega))
  clear b1 h ho hlen hN hsz
  subst hK
  go_enter Tryz.func17, Tryz.ntmps17
  go_upto_region 1 with fail
  rw [← hW1]
  clear hW1
  go_upto_region 14 with fail
  go_region_held3 (fun w' => w'.cell? ⟨w.heap.size, 2, none⟩ = some (.int .i64 a) ∧ w'.cell? ⟨w.heap.size, 3, none⟩ = some (.int .i64 b) ∧ w'.cell? ⟨w.heap.size, 12, none⟩ = some (.bool tn))
    (first | exact ⟨c2, c3, c12⟩ | assumption)
    (first
      | (go_at_call 24; refine ((HP.out.below (below_drawn_ (Below.refl _ _) 1)).ps.slice a b tn (by have := HN.out.2; omega) HH.out.1 HH.out.2.1).mono ?_; rintro e w4 ⟨v4, rfl, o4, b4⟩; obtain ⟨A4, c4, rfl, r4⟩ := own_rd o4; have P4 := (HP.out.below (below_drawn_ (Below.refl _ _) 1)).below b4; have hO4 := (HO.out.below (below_drawn_ (Below.refl _ _) 1)).below b4; have q4 : w4.cell? ⟨w.heap.size, 2, none⟩ = some (.int .i64 a) ∧ w4.cell? ⟨w.heap.size, 3, none⟩ = some (.int .i64 b) ∧ w4.cell? ⟨w.heap.size, 12, none⟩ = some (.bool tn) := ⟨hO4.k2, hO4.k3, hO4.k12⟩)
      | (go_at_call 42; refine (sliceR_calls A cur.length c cur a b tn _ P4.rd HN.out.1 HH.out.1 HH.out.2.1).mono ?_; rintro e w5 ⟨A5, n5, c5, rfl, r5, b5⟩; have P5 := P4.below b5; have hO5 := hO4.below b5; have q5 : w5.cell? ⟨w.heap.size, 2, none⟩ = some (.int .i64 a) ∧ w5.cell? ⟨w.heap.size, 3, none⟩ = some (.int .i64 b) ∧ w5.cell? ⟨w.heap.size, 12, none⟩ = some (.bool tn) := ⟨hO5.k2, hO5.k3, hO5.k12⟩)
      | (go_at_call 13; refine (same_true A4 A5 _ c4 _ c5 _ _ _ (r4.below b5) r5 (Nat.le_trans (slice_len cur a b tn) HN.out.1) rfl).mono ?_; rintro e w6 ⟨rfl, b6⟩; have P6 := P5.below b6; have q6 : w6.cell? ⟨w.heap.size, 2, none⟩ = some (.int .i64 a) ∧ w6.cell? ⟨w.heap.size, 3, none⟩ = some (.int .i64 b) ∧ w6.cell? ⟨w.heap.size, 12, none⟩ = some (.bool tn) := ⟨(hO5.below b6).k2, (hO5.below b6).k3, (hO5.below b6).k12⟩))
  all_goals (
    have HP6 := Lib.hid (P6.more (Nat.le_succ N))
    clear P4 P5 P6 hO4 hO5 q4 q5 q6 o4 b4 r4 r5 b5 b6
    go_wp2_with fail
    go_ret2
    exact ⟨A, c, cur, rfl, HP6.out⟩)
set_option maxHeartbeats 1000000 in
theorem step_scores {W w : World} {g m N : Nat} {A : Option Addr} {c : Nat} {cur : List En} (h : Pl W w g m N A c cur) (o : RjM.Op) (ho : opOK o) (hsz : o.name.size ≤ 1048576) (hN : N ≤ 900000000) (hK : o.kind = 5) :
    Calls Tryz.prog 17 #[.pointer (some ⟨g, 0, none⟩), .slice A cur.length c, opV o] w (stepP W g m N) := by
  have hob := Ob.new w o
  have b1 := al w (opO o)
  obtain ⟨W1, hW1⟩ : ∃ W1, W1 = w.alloc (.cells #[.int .i64 o.kind, .string o.name, .int .i64 o.a, .int .i64 o.b, .int .i64 o.lo.inf, .bool o.lo.opn, .int .i64 o.lo.score, .string o.lo.name, .int .i64 o.hi.inf, .bool o.hi.opn, .int .i64 o.hi.score, .string o.hi.name, .bool o.turned] 41) := ⟨_, rfl⟩
  change Ob (w.alloc (.cells #[.int .i64 o.kind, .string o.name, .int .i64 o.a, .int .i64 o.b, .int .i64 o.lo.inf, .bool o.lo.opn, .int .i64 o.lo.score, .string o.lo.name, .int .i64 o.hi.inf, .bool o.hi.opn, .int .i64 o.hi.score, .string o.hi.name, .bool o.turned] 41)) w.heap.size o at hob
  change Below w.heap.size w (w.alloc (.cells #[.int .i64 o.kind, .string o.name, .int .i64 o.a, .int .i64 o.b, .int .i64 o.lo.inf, .bool o.lo.opn, .int .i64 o.lo.score, .string o.lo.name, .int .i64 o.hi.inf, .bool o.hi.opn, .int .i64 o.hi.score, .string o.hi.name, .bool o.turned] 41)) at b1
  rw [← hW1] at hob b1
  have HP := Lib.hid (h.below b1)
  have HO := Lib.hid hob
  have HH := Lib.hid ho
  have hlen : cur.length ≤ 1000000000 := by have := h.len; omega
  have HN := Lib.hid (And.intro hlen hN)
  obtain ⟨K, nm, a, b, lo, hi, tn⟩ := o
  obtain ⟨c0, c1, c2, c3, c4, c5, c6, c7, c8, c9, c10, c11, c12⟩ := hob
  simp only at c0 c1 c2 c3 c4 c5 c6 c7 c8 c9 c10 c11 c12 hK hsz HO HH hW1
  have HZ := Lib.hid (And.intro (ok_small' (s := nm) (by omega)) (show nm.size ≤ 1048600 by omega))
  clear b1 h ho hlen hN hsz
  subst hK
  go_enter Tryz.func17, Tryz.ntmps17
  go_upto_region 1 with fail
  rw [← hW1]
  clear hW1
  go_upto_region 16 with fail
  go_region_held3 (fun w' => w'.cell? ⟨w.heap.size, 2, none⟩ = some (.int .i64 a) ∧ w'.cell? ⟨w.heap.size, 3, none⟩ = some (.int .i64 b) ∧ w'.cell? ⟨w.heap.size, 4, none⟩ = some (.int .i64 lo.inf) ∧ w'.cell? ⟨w.heap.size, 5, none⟩ = some (.bool lo.opn) ∧ w'.cell? ⟨w.heap.size, 6, none⟩ = some (.int .i64 lo.score) ∧ w'.cell? ⟨w.heap.size, 7, none⟩ = some (.string lo.name) ∧ w'.cell? ⟨w.heap.size, 8, none⟩ = some (.int .i64 hi.inf) ∧ w'.cell? ⟨w.heap.size, 9, none⟩ = some (.bool hi.opn) ∧ w'.cell? ⟨w.heap.size, 10, none⟩ = some (.int .i64 hi.score) ∧ w'.cell? ⟨w.heap.size, 11, none⟩ = some (.string hi.name) ∧ w'.cell? ⟨w.heap.size, 12, none⟩ = some (.bool tn))
    (first | exact ⟨c2, c3, c4, c5, c6, c7, c8, c9, c10, c11, c12⟩ | assumption)
    (first
      | (go_at_call 25; refine ((HP.out.below (below_drawn_ (Below.refl _ _) 1)).ps.scores lo hi tn a b (by have := HN.out.2; omega) HH.out.1 HH.out.2.1).mono ?_; rintro e w4 ⟨v4, rfl, o4, b4⟩; obtain ⟨A4, c4, rfl, r4⟩ := own_rd o4; have P4 := (HP.out.below (below_drawn_ (Below.refl _ _) 1)).below b4; have hO4 := (HO.out.below (below_drawn_ (Below.refl _ _) 1)).below b4; have q4 : w4.cell? ⟨w.heap.size, 2, none⟩ = some (.int .i64 a) ∧ w4.cell? ⟨w.heap.size, 3, none⟩ = some (.int .i64 b) ∧ w4.cell? ⟨w.heap.size, 4, none⟩ = some (.int .i64 lo.inf) ∧ w4.cell? ⟨w.heap.size, 5, none⟩ = some (.bool lo.opn) ∧ w4.cell? ⟨w.heap.size, 6, none⟩ = some (.int .i64 lo.score) ∧ w4.cell? ⟨w.heap.size, 7, none⟩ = some (.string lo.name) ∧ w4.cell? ⟨w.heap.size, 8, none⟩ = some (.int .i64 hi.inf) ∧ w4.cell? ⟨w.heap.size, 9, none⟩ = some (.bool hi.opn) ∧ w4.cell? ⟨w.heap.size, 10, none⟩ = some (.int .i64 hi.score) ∧ w4.cell? ⟨w.heap.size, 11, none⟩ = some (.string hi.name) ∧ w4.cell? ⟨w.heap.size, 12, none⟩ = some (.bool tn) := ⟨hO4.k2, hO4.k3, hO4.k4, hO4.k5, hO4.k6, hO4.k7, hO4.k8, hO4.k9, hO4.k10, hO4.k11, hO4.k12⟩)
      | (go_at_call 43; refine (scoresR_calls A cur.length c cur lo hi tn a b _ P4.rd HN.out.1 HH.out.1 HH.out.2.1 HH.out.2.2.1.1 HH.out.2.2.2.1).mono ?_; rintro e w5 ⟨A5, n5, c5, rfl, r5, b5⟩; have P5 := P4.below b5; have hO5 := hO4.below b5; have q5 : w5.cell? ⟨w.heap.size, 2, none⟩ = some (.int .i64 a) ∧ w5.cell? ⟨w.heap.size, 3, none⟩ = some (.int .i64 b) ∧ w5.cell? ⟨w.heap.size, 4, none⟩ = some (.int .i64 lo.inf) ∧ w5.cell? ⟨w.heap.size, 5, none⟩ = some (.bool lo.opn) ∧ w5.cell? ⟨w.heap.size, 6, none⟩ = some (.int .i64 lo.score) ∧ w5.cell? ⟨w.heap.size, 7, none⟩ = some (.string lo.name) ∧ w5.cell? ⟨w.heap.size, 8, none⟩ = some (.int .i64 hi.inf) ∧ w5.cell? ⟨w.heap.size, 9, none⟩ = some (.bool hi.opn) ∧ w5.cell? ⟨w.heap.size, 10, none⟩ = some (.int .i64 hi.score) ∧ w5.cell? ⟨w.heap.size, 11, none⟩ = some (.string hi.name) ∧ w5.cell? ⟨w.heap.size, 12, none⟩ = some (.bool tn) := ⟨hO5.k2, hO5.k3, hO5.k4, hO5.k5, hO5.k6, hO5.k7, hO5.k8, hO5.k9, hO5.k10, hO5.k11, hO5.k12⟩)
      | (go_at_call 13; refine (same_true A4 A5 _ c4 _ c5 _ _ _ (r4.below b5) r5 (Nat.le_trans (part_len cur _ tn a b) HN.out.1) rfl).mono ?_; rintro e w6 ⟨rfl, b6⟩; have P6 := P5.below b6; have q6 : w6.cell? ⟨w.heap.size, 2, none⟩ = some (.int .i64 a) ∧ w6.cell? ⟨w.heap.size, 3, none⟩ = some (.int .i64 b) ∧ w6.cell? ⟨w.heap.size, 4, none⟩ = some (.int .i64 lo.inf) ∧ w6.cell? ⟨w.heap.size, 5, none⟩ = some (.bool lo.opn) ∧ w6.cell? ⟨w.heap.size, 6, none⟩ = some (.int .i64 lo.score) ∧ w6.cell? ⟨w.heap.size, 7, none⟩ = some (.string lo.name) ∧ w6.cell? ⟨w.heap.size, 8, none⟩ = some (.int .i64 hi.inf) ∧ w6.cell? ⟨w.heap.size, 9, none⟩ = some (.bool hi.opn) ∧ w6.cell? ⟨w.heap.size, 10, none⟩ = some (.int .i64 hi.score) ∧ w6.cell? ⟨w.heap.size, 11, none⟩ = some (.string hi.name) ∧ w6.cell? ⟨w.heap.size, 12, none⟩ = some (.bool tn) := ⟨(hO5.below b6).k2, (hO5.below b6).k3, (hO5.below b6).k4, (hO5.below b6).k5, (hO5.below b6).k6, (hO5.below b6).k7, (hO5.below b6).k8, (hO5.below b6).k9, (hO5.below b6).k10, (hO5.below b6).k11, (hO5.below b6).k12⟩))
  all_goals (
    have HP6 := Lib.hid (P6.more (Nat.le_succ N))
    clear P4 P5 P6 hO4 hO5 q4 q5 q6 o4 b4 r4 r5 b5 b6
    go_wp2_with fail
    go_ret2
    exact ⟨A, c, cur, rfl, HP6.out⟩)
set_option maxHeartbeats 1000000 in
theorem step_names {W w : World} {g m N : Nat} {A : Option Addr} {c : Nat} {cur : List En} (h : Pl W w g m N A c cur) (o : RjM.Op) (ho : opOK o) (hsz : o.name.size ≤ 1048576) (hN : N ≤ 900000000) (hK : o.kind = 6) :
    Calls Tryz.prog 17 #[.pointer (some ⟨g, 0, none⟩), .slice A cur.length c, opV o] w (stepP W g m N) := by
  have hob := Ob.new w o
  have b1 := al w (opO o)
  obtain ⟨W1, hW1⟩ : ∃ W1, W1 = w.alloc (.cells #[.int .i64 o.kind, .string o.name, .int .i64 o.a, .int .i64 o.b, .int .i64 o.lo.inf, .bool o.lo.opn, .int .i64 o.lo.score, .string o.lo.name, .int .i64 o.hi.inf, .bool o.hi.opn, .int .i64 o.hi.score, .string o.hi.name, .bool o.turned] 41) := ⟨_, rfl⟩
  change Ob (w.alloc (.cells #[.int .i64 o.kind, .string o.name, .int .i64 o.a, .int .i64 o.b, .int .i64 o.lo.inf, .bool o.lo.opn, .int .i64 o.lo.score, .string o.lo.name, .int .i64 o.hi.inf, .bool o.hi.opn, .int .i64 o.hi.score, .string o.hi.name, .bool o.turned] 41)) w.heap.size o at hob
  change Below w.heap.size w (w.alloc (.cells #[.int .i64 o.kind, .string o.name, .int .i64 o.a, .int .i64 o.b, .int .i64 o.lo.inf, .bool o.lo.opn, .int .i64 o.lo.score, .string o.lo.name, .int .i64 o.hi.inf, .bool o.hi.opn, .int .i64 o.hi.score, .string o.hi.name, .bool o.turned] 41)) at b1
  rw [← hW1] at hob b1
  have HP := Lib.hid (h.below b1)
  have HO := Lib.hid hob
  have HH := Lib.hid ho
  have hlen : cur.length ≤ 1000000000 := by have := h.len; omega
  have HN := Lib.hid (And.intro hlen hN)
  obtain ⟨K, nm, a, b, lo, hi, tn⟩ := o
  obtain ⟨c0, c1, c2, c3, c4, c5, c6, c7, c8, c9, c10, c11, c12⟩ := hob
  simp only at c0 c1 c2 c3 c4 c5 c6 c7 c8 c9 c10 c11 c12 hK hsz HO HH hW1
  have HZ := Lib.hid (And.intro (ok_small' (s := nm) (by omega)) (show nm.size ≤ 1048600 by omega))
  clear b1 h ho hlen hN hsz
  subst hK
  go_enter Tryz.func17, Tryz.ntmps17
  go_upto_region 1 with fail
  rw [← hW1]
  clear hW1
  go_upto_region 18 with fail
  go_region_held3 (fun w' => w'.cell? ⟨w.heap.size, 2, none⟩ = some (.int .i64 a) ∧ w'.cell? ⟨w.heap.size, 3, none⟩ = some (.int .i64 b) ∧ w'.cell? ⟨w.heap.size, 4, none⟩ = some (.int .i64 lo.inf) ∧ w'.cell? ⟨w.heap.size, 5, none⟩ = some (.bool lo.opn) ∧ w'.cell? ⟨w.heap.size, 6, none⟩ = some (.int .i64 lo.score) ∧ w'.cell? ⟨w.heap.size, 7, none⟩ = some (.string lo.name) ∧ w'.cell? ⟨w.heap.size, 8, none⟩ = some (.int .i64 hi.inf) ∧ w'.cell? ⟨w.heap.size, 9, none⟩ = some (.bool hi.opn) ∧ w'.cell? ⟨w.heap.size, 10, none⟩ = some (.int .i64 hi.score) ∧ w'.cell? ⟨w.heap.size, 11, none⟩ = some (.string hi.name) ∧ w'.cell? ⟨w.heap.size, 12, none⟩ = some (.bool tn))
    (first | exact ⟨c2, c3, c4, c5, c6, c7, c8, c9, c10, c11, c12⟩ | assumption)
    (first
      | (go_at_call 37; refine ((HP.out.below (below_drawn_ (Below.refl _ _) 1)).ps.names lo hi tn a b (by have := HN.out.2; omega) HH.out.1 HH.out.2.1).mono ?_; rintro e w4 ⟨v4, rfl, o4, b4⟩; obtain ⟨A4, c4, rfl, r4⟩ := own_rd o4; have P4 := (HP.out.below (below_drawn_ (Below.refl _ _) 1)).below b4; have hO4 := (HO.out.below (below_drawn_ (Below.refl _ _) 1)).below b4; have q4 : w4.cell? ⟨w.heap.size, 2, none⟩ = some (.int .i64 a) ∧ w4.cell? ⟨w.heap.size, 3, none⟩ = some (.int .i64 b) ∧ w4.cell? ⟨w.heap.size, 4, none⟩ = some (.int .i64 lo.inf) ∧ w4.cell? ⟨w.heap.size, 5, none⟩ = some (.bool lo.opn) ∧ w4.cell? ⟨w.heap.size, 6, none⟩ = some (.int .i64 lo.score) ∧ w4.cell? ⟨w.heap.size, 7, none⟩ = some (.string lo.name) ∧ w4.cell? ⟨w.heap.size, 8, none⟩ = some (.int .i64 hi.inf) ∧ w4.cell? ⟨w.heap.size, 9, none⟩ = some (.bool hi.opn) ∧ w4.cell? ⟨w.heap.size, 10, none⟩ = some (.int .i64 hi.score) ∧ w4.cell? ⟨w.heap.size, 11, none⟩ = some (.string hi.name) ∧ w4.cell? ⟨w.heap.size, 12, none⟩ = some (.bool tn) := ⟨hO4.k2, hO4.k3, hO4.k4, hO4.k5, hO4.k6, hO4.k7, hO4.k8, hO4.k9, hO4.k10, hO4.k11, hO4.k12⟩)
      | (go_at_call 44; refine (namesR_calls A cur.length c cur lo hi tn a b _ P4.rd HN.out.1 HH.out.1 HH.out.2.1 HH.out.2.2.1.1 HH.out.2.2.2.1).mono ?_; rintro e w5 ⟨A5, n5, c5, rfl, r5, b5⟩; have P5 := P4.below b5; have hO5 := hO4.below b5; have q5 : w5.cell? ⟨w.heap.size, 2, none⟩ = some (.int .i64 a) ∧ w5.cell? ⟨w.heap.size, 3, none⟩ = some (.int .i64 b) ∧ w5.cell? ⟨w.heap.size, 4, none⟩ = some (.int .i64 lo.inf) ∧ w5.cell? ⟨w.heap.size, 5, none⟩ = some (.bool lo.opn) ∧ w5.cell? ⟨w.heap.size, 6, none⟩ = some (.int .i64 lo.score) ∧ w5.cell? ⟨w.heap.size, 7, none⟩ = some (.string lo.name) ∧ w5.cell? ⟨w.heap.size, 8, none⟩ = some (.int .i64 hi.inf) ∧ w5.cell? ⟨w.heap.size, 9, none⟩ = some (.bool hi.opn) ∧ w5.cell? ⟨w.heap.size, 10, none⟩ = some (.int .i64 hi.score) ∧ w5.cell? ⟨w.heap.size, 11, none⟩ = some (.string hi.name) ∧ w5.cell? ⟨w.heap.size, 12, none⟩ = some (.bool tn) := ⟨hO5.k2, hO5.k3, hO5.k4, hO5.k5, hO5.k6, hO5.k7, hO5.k8, hO5.k9, hO5.k10, hO5.k11, hO5.k12⟩)
      | (go_at_call 13; refine (same_true A4 A5 _ c4 _ c5 _ _ _ (r4.below b5) r5 (Nat.le_trans (part_len cur _ tn a b) HN.out.1) rfl).mono ?_; rintro e w6 ⟨rfl, b6⟩; have P6 := P5.below b6; have q6 : w6.cell? ⟨w.heap.size, 2, none⟩ = some (.int .i64 a) ∧ w6.cell? ⟨w.heap.size, 3, none⟩ = some (.int .i64 b) ∧ w6.cell? ⟨w.heap.size, 4, none⟩ = some (.int .i64 lo.inf) ∧ w6.cell? ⟨w.heap.size, 5, none⟩ = some (.bool lo.opn) ∧ w6.cell? ⟨w.heap.size, 6, none⟩ = some (.int .i64 lo.score) ∧ w6.cell? ⟨w.heap.size, 7, none⟩ = some (.string lo.name) ∧ w6.cell? ⟨w.heap.size, 8, none⟩ = some (.int .i64 hi.inf) ∧ w6.cell? ⟨w.heap.size, 9, none⟩ = some (.bool hi.opn) ∧ w6.cell? ⟨w.heap.size, 10, none⟩ = some (.int .i64 hi.score) ∧ w6.cell? ⟨w.heap.size, 11, none⟩ = some (.string hi.name) ∧ w6.cell? ⟨w.heap.size, 12, none⟩ = some (.bool tn) := ⟨(hO5.below b6).k2, (hO5.below b6).k3, (hO5.below b6).k4, (hO5.below b6).k5, (hO5.below b6).k6, (hO5.below b6).k7, (hO5.below b6).k8, (hO5.below b6).k9, (hO5.below b6).k10, (hO5.below b6).k11, (hO5.below b6).k12⟩))
  all_goals (
    have HP6 := Lib.hid (P6.more (Nat.le_succ N))
    clear P4 P5 P6 hO4 hO5 q4 q5 q6 o4 b4 r4 r5 b5 b6
    go_wp2_with fail
    go_ret2
    exact ⟨A, c, cur, rfl, HP6.out⟩)
theorem pop_len (l : List En) (n : Int) (g : Bool) {M : Nat} (h : l.length ≤ M) : (popL l n g).length ≤ M := by
  unfold popL
  have := way_len l g
  rw [List.length_take]; omega
theorem turn_only {B g m N : Nat} {v : Value} {l : List En} {w w' : World} (h : Turn B g m v l N w w') : Only (RkS g m v) w w' := by
  obtain ⟨_, _, h, _⟩ := h
  exact h
set_option maxHeartbeats 1000000 in
theorem step_pop {W w : World} {g m N : Nat} {A : Option Addr} {c : Nat} {cur : List En} (h : Pl W w g m N A c cur) (o : RjM.Op) (ho : opOK o) (hsz : o.name.size ≤ 1048576) (hN : N ≤ 900000000) (hK : o.kind = 7) :
    Calls Tryz.prog 17 #[.pointer (some ⟨g, 0, none⟩), .slice A cur.length c, opV o] w (stepP W g m N) := by
  have hob := Ob.new w o
  have b1 := al w (opO o)
  obtain ⟨W1, hW1⟩ : ∃ W1, W1 = w.alloc (.cells #[.int .i64 o.kind, .string o.name, .int .i64 o.a, .int .i64 o.b, .int .i64 o.lo.inf, .bool o.lo.opn, .int .i64 o.lo.score, .string o.lo.name, .int .i64 o.hi.inf, .bool o.hi.opn, .int .i64 o.hi.score, .string o.hi.name, .bool o.turned] 41) := ⟨_, rfl⟩
  change Ob (w.alloc (.cells #[.int .i64 o.kind, .string o.name, .int .i64 o.a, .int .i64 o.b, .int .i64 o.lo.inf, .bool o.lo.opn, .int .i64 o.lo.score, .string o.lo.name, .int .i64 o.hi.inf, .bool o.hi.opn, .int .i64 o.hi.score, .string o.hi.name, .bool o.turned] 41)) w.heap.size o at hob
  change Below w.heap.size w (w.alloc (.cells #[.int .i64 o.kind, .string o.name, .int .i64 o.a, .int .i64 o.b, .int .i64 o.lo.inf, .bool o.lo.opn, .int .i64 o.lo.score, .string o.lo.name, .int .i64 o.hi.inf, .bool o.hi.opn, .int .i64 o.hi.score, .string o.hi.name, .bool o.turned] 41)) at b1
  rw [← hW1] at hob b1
  have HP := Lib.hid (h.below b1)
  have HO := Lib.hid hob
  have HH := Lib.hid ho
  have hlen : cur.length ≤ 1000000000 := by have := h.len; omega
  have HN := Lib.hid (And.intro hlen hN)
  obtain ⟨K, nm, a, b, lo, hi, tn⟩ := o
  obtain ⟨c0, c1, c2, c3, c4, c5, c6, c7, c8, c9, c10, c11, c12⟩ := hob
  simp only at c0 c1 c2 c3 c4 c5 c6 c7 c8 c9 c10 c11 c12 hK hsz HO HH hW1
  have HZ := Lib.hid (And.intro (ok_small' (s := nm) (by omega)) (show nm.size ≤ 1048600 by omega))
  clear b1 h ho hlen hN hsz
  subst hK
  have hdoc := popR_calls A cur.length c cur a tn W1 HP.out.rd HN.out.1 HH.out.1
  go_enter Tryz.func17, Tryz.ntmps17
  go_upto_region 1 with fail
  rw [← hW1]
  clear hW1
  go_wp2_with fail
  refine hdoc.mono ?_
  clear hdoc
  clear c0 c1 c2 c3 c4 c5 c6 c7 c8 c9 c10 c11 c12
  rintro e w4 ⟨A3, n3, c3, A4, n4, c4', rfl, r3, r4, b4, nr4, nr3⟩
  have HO4 := Lib.hid (HO.out.below b4)
  obtain ⟨c0, c1, c2, c3, c4, c5, c6, c7, c8, c9, c10, c11, c12⟩ := HO4.out
  simp only at c0 c1 c2 c3 c4 c5 c6 c7 c8 c9 c10 c11 c12
  have HB4 := Lib.hid (And.intro r4 (And.intro b4 (And.intro nr4 (And.intro r3 nr3))))
  clear r3 r4 b4 nr4 nr3
  obtain ⟨v, hr, hoff⟩ := HP.out.next HB4.out.2.1
  have hpr := pop_calls W.heap.size g m v cur N a tn w4 hr (below_seq HP.out.bel HB4.out.2.1).size (by have := HN.out.2; omega) HH.out.1
  have HR := Lib.hid (And.intro hr hoff)
  clear hr hoff
  go_wp2_with fail
  refine hpr.mono ?_
  clear hpr
  clear c0 c1 c2 c3 c4 c5 c6 c7 c8 c9 c10 c11 c12
  rintro e w6 ⟨v6, w5, rfl, ht, o6, b6⟩
  have P5 := Pl.turn HR.out.1 (HR.out.2 A4 HB4.out.2.2.1) (below_seq HP.out.bel HB4.out.2.1) HB4.out.1 (gd_left HP.out.gd a tn) ht
  have r6 : RdE w6 A3 n3 c3 (popL cur a tn) := ((HR.out.2 A3 HB4.out.2.2.2.2).rd HB4.out.2.2.2.1 (turn_only ht)).below b6
  have HP6 := Lib.hid ((P5.below b6).more (Nat.le_succ N))
  have hn5 := rde_len HB4.out.1
  have HN5 := Lib.hid hn5
  obtain ⟨A6, c6, rfl, q6⟩ := own_rd o6
  have hsm := same_true A6 A3 _ c6 _ c3 _ _ w6 q6 r6 (pop_len cur a tn HN.out.1) rfl
  clear P5 ht hn5 r6 q6 o6 b6
  go_wp2_with fail
  refine Calls.mono hsm ?_
  clear hsm
  rintro e w7 ⟨rfl, b7⟩
  have HP7 := Lib.hid (HP6.out.below b7)
  clear b7
  go_wp2_with fail
  go_ret2
  exact ⟨A4, c4', leftL cur a tn, (by rw [HN5.out]; rfl), HP7.out⟩
set_option maxHeartbeats 1000000 in
theorem step_score {W w : World} {g m N : Nat} {A : Option Addr} {c : Nat} {cur : List En} (h : Pl W w g m N A c cur) (o : RjM.Op) (ho : opOK o) (hsz : o.name.size ≤ 1048576) (hN : N ≤ 900000000) (hK : o.kind ≠ 0 ∧ o.kind ≠ 2 ∧ o.kind ≠ 3 ∧ o.kind ≠ 4 ∧ o.kind ≠ 5 ∧ o.kind ≠ 6 ∧ o.kind ≠ 7) :
    Calls Tryz.prog 17 #[.pointer (some ⟨g, 0, none⟩), .slice A cur.length c, opV o] w (stepP W g m N) := by
  have hob := Ob.new w o
  have b1 := al w (opO o)
  obtain ⟨W1, hW1⟩ : ∃ W1, W1 = w.alloc (.cells #[.int .i64 o.kind, .string o.name, .int .i64 o.a, .int .i64 o.b, .int .i64 o.lo.inf, .bool o.lo.opn, .int .i64 o.lo.score, .string o.lo.name, .int .i64 o.hi.inf, .bool o.hi.opn, .int .i64 o.hi.score, .string o.hi.name, .bool o.turned] 41) := ⟨_, rfl⟩
  change Ob (w.alloc (.cells #[.int .i64 o.kind, .string o.name, .int .i64 o.a, .int .i64 o.b, .int .i64 o.lo.inf, .bool o.lo.opn, .int .i64 o.lo.score, .string o.lo.name, .int .i64 o.hi.inf, .bool o.hi.opn, .int .i64 o.hi.score, .string o.hi.name, .bool o.turned] 41)) w.heap.size o at hob
  change Below w.heap.size w (w.alloc (.cells #[.int .i64 o.kind, .string o.name, .int .i64 o.a, .int .i64 o.b, .int .i64 o.lo.inf, .bool o.lo.opn, .int .i64 o.lo.score, .string o.lo.name, .int .i64 o.hi.inf, .bool o.hi.opn, .int .i64 o.hi.score, .string o.hi.name, .bool o.turned] 41)) at b1
  rw [← hW1] at hob b1
  have HP := Lib.hid (h.below b1)
  have HO := Lib.hid hob
  have HH := Lib.hid ho
  have hlen : cur.length ≤ 1000000000 := by have := h.len; omega
  have HN := Lib.hid (And.intro hlen hN)
  obtain ⟨K, nm, a, b, lo, hi, tn⟩ := o
  obtain ⟨c0, c1, c2, c3, c4, c5, c6, c7, c8, c9, c10, c11, c12⟩ := hob
  simp only at c0 c1 c2 c3 c4 c5 c6 c7 c8 c9 c10 c11 c12 hK hsz HO HH hW1
  have HZ := Lib.hid (And.intro (ok_small' (s := nm) (by omega)) (show nm.size ≤ 1048600 by omega))
  clear b1 h ho hlen hN hsz
  obtain ⟨h0, h2, h3, h4, h5, h6, h7⟩ := hK
  have e0 : (K == 0) = false := by simp [h0]
  have e2 : (K == 2) = false := by simp [h2]
  have e3 : (K == 3) = false := by simp [h3]
  have e4 : (K == 4) = false := by simp [h4]
  have e5 : (K == 5) = false := by simp [h5]
  have e6 : (K == 6) = false := by simp [h6]
  have e7 : (K == 7) = false := by simp [h7]
  have hpr := HP.out.ps.score nm HZ.out.1
  have hdoc := find_calls A cur.length c cur nm W1 HP.out.rd HN.out.1
  have hpl := due_pl_lt (l := cur) (k := nm)
  have hdp := due_pl cur nm
  unfold opt at hpr
  unfold findI at hdoc
  have HP6 := Lib.hid (HP.out.more (Nat.le_succ N))
  have hlb := HN.out.1
  clear h0 h2 h3 h4 h5 h6 h7
  by_cases hp : plN cur nm < cur.length
  · rw [if_pos hp] at hdoc
    obtain ⟨y, hy⟩ : ∃ y, cur[plN cur nm]? = some y := ⟨_, List.getElem?_eq_getElem hp⟩
    rw [hy] at hdp
    rw [hdp] at hpr
    simp only [Option.map_some, Option.getD_some, Option.isSome_some] at hpr
    obtain ⟨q, rfl, x0, x1⟩ := rde_get HP.out.rd hy
    obtain ⟨P, hP⟩ : ∃ P, P = plN cur nm := ⟨_, rfl⟩
    rw [← hP] at hdoc x0 x1 hp
    clear hP hy hdp hpl
    go_enter Tryz.func17, Tryz.ntmps17
    go_upto_region 1 with fail
    rw [← hW1]
    clear hW1
    go_wp2_with fail
    refine hpr.mono ?_
    clear hpr
    rintro e w4 ⟨rfl, hw4⟩
    subst hw4
    go_wp2_with fail
    refine hdoc.mono ?_
    clear hdoc
    rintro e w5 ⟨rfl, hw5⟩
    subst hw5
    go_wp2_with fail
    go_ret2
    exact ⟨_, c, cur, rfl, HP6.out⟩
  · rw [if_neg hp] at hdoc
    have hs : dueL cur nm = none := by
      rcases hd : dueL cur nm with _ | t
      · rfl
      · rw [hd] at hpl; exact absurd (hpl.1 rfl) hp
    rw [hs] at hpr
    simp only [Option.getD_none, Option.isSome_none] at hpr
    clear hs hpl hdp hp
    go_enter Tryz.func17, Tryz.ntmps17
    go_upto_region 1 with fail
    rw [← hW1]
    clear hW1
    go_wp2_with fail
    refine hpr.mono ?_
    clear hpr
    rintro e w4 ⟨rfl, hw4⟩
    subst hw4
    go_wp2_with fail
    refine hdoc.mono ?_
    clear hdoc
    rintro e w5 ⟨rfl, hw5⟩
    subst hw5
    go_wp2_with fail
    go_ret2
    exact ⟨A, c, cur, rfl, HP6.out⟩
theorem step_calls {W w : World} {g m N : Nat} {A : Option Addr} {c : Nat} {cur : List En} (h : Pl W w g m N A c cur) (o : RjM.Op) (ho : opOK o) (hsz : o.name.size ≤ 1048576) (hN : N ≤ 900000000) :
    Calls Tryz.prog 17 #[.pointer (some ⟨g, 0, none⟩), .slice A cur.length c, opV o] w (stepP W g m N) := by
  by_cases h0 : o.kind = 0
  · exact step_set h o ho hsz hN h0
  by_cases h2 : o.kind = 2
  · exact step_drop h o ho hsz hN h2
  by_cases h3 : o.kind = 3
  · exact step_place h o ho hsz hN h3
  by_cases h4 : o.kind = 4
  · exact step_slice h o ho hsz hN h4
  by_cases h5 : o.kind = 5
  · exact step_scores h o ho hsz hN h5
  by_cases h6 : o.kind = 6
  · exact step_names h o ho hsz hN h6
  by_cases h7 : o.kind = 7
  · exact step_pop h o ho hsz hN h7
  exact step_score h o ho hsz hN ⟨h0, h2, h3, h4, h5, h6, h7⟩
end Go.Proofs.YtakhcfemakapbaaGreatDoor.RjN
