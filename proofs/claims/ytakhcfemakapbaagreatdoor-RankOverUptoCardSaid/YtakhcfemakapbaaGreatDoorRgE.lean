/-
  A Rank's Drop. Conditions: as stated.
  slices.Clone, slices.Reverse at entries; a Rank's order, List. Conditions: as stated.
  A Rank's Slice. Conditions: as stated.
  A Rank's Place. Conditions: as stated.
  A Rank's Pop. Conditions: as stated.
  The document's Turned, way. Conditions: as stated.
-/
import Derived.Test.YtakhcfemakapbaaGreatDoorRgC
import Derived.Test.YtakhcfemakapbaaGreatDoorRgD
import Derived.StillTailTactics
import Derived.Shelf.SlicesQ.Reverse
import Derived.Ground.SlgnProg
import Derived.Shelf.Lay
import Derived.Laws.Slices
import Derived.Deep.QuietTactic
set_option maxRecDepth 100000
set_option linter.unusedSimpArgs false
set_option linter.unusedVariables false
namespace Go.Proofs.YtakhcfemakapbaaGreatDoor.RkM
open Go Go.RowKit Go.Shelf Go.Proofs.YtakhcfemakapbaaGreatDoor.Mem Go.Proofs.YtakhcfemakapbaaGreatDoor.DuA Go.Proofs.YtakhcfemakapbaaGreatDoor.DuM Go.Proofs.YtakhcfemakapbaaGreatDoor.DuN Go.Proofs.YtakhcfemakapbaaGreatDoor.RkA Go.Proofs.YtakhcfemakapbaaGreatDoor.RkC Go.Proofs.YtakhcfemakapbaaGreatDoor.RkB Go.Proofs.YtakhcfemakapbaaGreatDoor.RkE Go.Proofs.YtakhcfemakapbaaGreatDoor.RkF Go.Proofs.YtakhcfemakapbaaGreatDoor.RkG Go.Proofs.YtakhcfemakapbaaGreatDoor.RkH Go.Proofs.YtakhcfemakapbaaGreatDoor.RkI Go.Proofs.YtakhcfemakapbaaGreatDoor.RkK Go.Proofs.YtakhcfemakapbaaGreatDoor.RkL

/-- What a call that turns a Rank leaves. -/
def Turn (B g m : Nat) (v : Value) (l' : List En) (N : Nat) (w w' : World) : Prop :=
  ∃ v', Rk w' B g m v' l' N ∧ Only (RkS g m v) w w' ∧ (v'.ownBlock = v.ownBlock ∨ ∃ k, v'.ownBlock = some k ∧ w.heap.size ≤ k)
theorem Turn.refl {w : World} {B g m N : Nat} {v : Value} {l : List En} (h : Rk w B g m v l N) : Turn B g m v l N w w := ⟨v, h, Only.refl _ _, .inl rfl⟩
theorem srt_drop {l : List En} {k : ByteArray} (h : Srt ltS l) : Srt ltS (dropL l k) := h.drop k
theorem mem_drop {l : List En} {k : ByteArray} {e : En} (h : e ∈ dropL l k) : e ∈ l := (List.mem_filter.1 h).1
theorem ob (A : Option Addr) (n c n' c' : Nat) : (.slice A n c : Value).ownBlock = (.slice A n' c' : Value).ownBlock := by cases A <;> rfl
theorem only_b {S : Nat → Prop} {w w' : World} (h : Below w.heap.size w w') : Only S w w' := ⟨h.os, h.tape, h.output, h.size, fun k hk _ => h.block k hk⟩

set_option maxHeartbeats 4000000 in
theorem drop_calls (B g m : Nat) (v : Value) (l : List En) (N : Nat) (k : ByteArray) (w : World) (h : Rk w B g m v l N) (hk : okk k) (hB : B ≤ w.heap.size) (hN : N ≤ 1000000000) :
    Calls Tryz.prog 29 #[.pointer (some ⟨g, 0, none⟩), .string k] w fun e w' => e = .returned (.bool (dueL l k).isSome) ∧ Turn B g m v (dropL l k) N w w' := by
  have hsc := score_calls B g m v l N k w h hk
  unfold opt at hsc
  rcases hd : dueL l k with _ | t
  · rw [hd] at hsc
    have hid : dropL l k = l := drop_id (due_none.1 hd)
    rw [hid]
    go_enter Tryz.func29, Tryz.ntmps29
    go_wp2_with (go_at_call 22; refine hsc.mono ?_; rintro e w1 ⟨rfl, hw1⟩; subst w1)
    go_ret
    exact ⟨rfl, Turn.refl h⟩
  · rw [hd] at hsc
    have hm := (due_some h.srt.one).1 hd
    obtain ⟨p1, p2⟩ := pos_at linS h.srt hm
    obtain ⟨A, c, rfl⟩ := own_form h.own
    have hr : RdE w A l.length c l := Rd.of_own h.own
    obtain ⟨i, hi⟩ : ∃ i, posL ltS l (t, k) = i := ⟨_, rfl⟩
    rw [hi] at p1 p2
    have hil : i < l.length := (List.getElem?_eq_some_iff.1 p1).1
    have hlN := h.len
    have hsr := at_calls g l.length c A l (t, k) w h.cells.1 hr h.srt (by omega)
    rw [hi] at hsr
    have P2 : Hid (dropL l k = l.take i ++ l.drop (i + 1)) := p2
    clear p1 p2 hi hd hm
    obtain ⟨n, hn⟩ : ∃ n, l.length = n := ⟨_, rfl⟩
    rw [hn] at hil hlN
    have HN := Lib.hid hn
    clear hr
    simp only [Option.getD_some, Option.isSome_some] at hsc
    go_enter Tryz.func29, Tryz.ntmps29
    go_wp2_with (go_at_call 22; refine hsc.mono ?_; rintro e w1 ⟨rfl, hw1⟩; subst w1)
    refine hsr.mono ?_
    rintro e w1 ⟨rfl, b1⟩
    have h1 := h.below b1
    have O1 : Only (RkS g m (.slice A n c)) w w1 := only_b b1
    have c1' : w1.cell? ⟨g, 0, none⟩ = some (.slice A n c) := by rw [← HN.out]; exact h1.cells.1
    have c1m := h1.cells.2.1
    have f1 := h1.cells.2.2
    clear hsc hsr
    go_wp2_with fail
    have ho1 : OwnE w1 B (.slice A n c) l := by rw [← HN.out]; exact h1.own
    refine (delete_calls B n c i A l w1 ho1 hil).mono ?_
    rintro e w2 ⟨rfl, o2, O2⟩
    have gv := h.vg
    have mv := h.vm
    have gm := h.gm
    rw [HN.out] at gv mv
    have hp2 := O2.heap h1.hp (fun e => gv e)
    rw [HN.out] at hp2
    have c21 : w2.cell? ⟨g, 0, none⟩ = some (.slice A n c) := by unfold World.cell?; simp only [hp2]; rfl
    have f21 : w2.frozen? ⟨g, 0, none⟩ = false := by unfold World.frozen?; simp only [hp2]; rfl
    have hp3 := put0 (v := .slice A (n - 1) c) hp2
    have c30 : (w2.setCell ⟨g, 0, none⟩ (.slice A (n - 1) c)).cell? ⟨g, 1, none⟩ = some (.map (some m)) := by unfold World.cell?; simp only [hp3]; rfl
    obtain ⟨D, hM1, hT⟩ := h1.mp
    have O3 : Only (fun k => k = g) w2 (w2.setCell ⟨g, 0, none⟩ (.slice A (n - 1) c)) := (Only.refl (fun k => k = g) w2).put (p := ⟨g, 0, none⟩) (.inl rfl) _
    have hM3 : Mp (w2.setCell ⟨g, 0, none⟩ (.slice A (n - 1) c)) m N D := mp_only (mp_only hM1 O2 (fun e => mv e)) O3 (fun e => gm e.symm)
    have o3 : OwnE (w2.setCell ⟨g, 0, none⟩ (.slice A (n - 1) c)) B (.slice A (n - 1) c) (l.take i ++ l.drop (i + 1)) := own_only o2 O3 (fun k hk e => gv (by rw [← e, ← hk]; exact ob _ _ _ _ _))
    have O13 : Only (RkS g m (.slice A n c)) w (w2.setCell ⟨g, 0, none⟩ (.slice A (n - 1) c)) :=
      (O1.trans O2 (fun b hb => .inl (.inr (.inr hb)))).trans O3 (fun b hb => .inl (.inl hb))
    clear c1' c1m f1 O1 O2 O3 hM1 hp2 b1
    go_wp2_with (at_delete; refine wpList_delete_own _ rfl _ _ 64 9 rfl 3 keyed Tryz.underlying64 _ m N D rfl hM3 _ _ rfl (key_of hk) ?_; intro w3 hown3 hturn3)
    go_ret
    have O4 := Only.of_grown hturn3.grown
    have hp4 := O4.heap hp3 (fun e => by injection e with e; exact gm e.symm)
    have o4 := own_only o3 O4 (fun k hk e => by injection e with e; exact mv (by rw [e, ← hk]; exact ob _ _ _ _ _))
    rw [← P2.out] at o4
    refine ⟨rfl, .slice A (n - 1) c, ⟨hp4, ⟨_, hown3, hT.del keyS h.srt.one k⟩, ?_, h.gB, h.mB, gm, (by rw [ob A (n - 1) c n c]; exact gv), (by rw [ob A (n - 1) c n c]; exact mv), srt_drop h.srt, ?_, fun e he => h.rng e (mem_drop he), fun e he => h.kok e (mem_drop he)⟩, ?_, .inl (ob _ _ _ _ _)⟩
    · exact o4
    · have := drop_len l k; have := h.len; omega
    · rw [HN.out]
      exact O13.trans O4 (fun b hb => .inl (.inr (.inl (by injection hb with hb; exact hb.symm))))
end Go.Proofs.YtakhcfemakapbaaGreatDoor.RkM
set_option maxRecDepth 100000
set_option linter.unusedSimpArgs false
set_option linter.unusedVariables false
namespace Go.Proofs
open Go.Shelf Go.RowKit Go.Lib Go.Sort
shelf_lay_g SlLaysE0.n35 Slgn 35 at Tryz 65 as YtakhcfemakapbaaGreatDoor.reverseE
end Go.Proofs
namespace Go.Proofs.YtakhcfemakapbaaGreatDoor.RkO
open Go Go.RowKit Go.Shelf Go.Sort Go.Proofs.YtakhcfemakapbaaGreatDoor.Mem Go.Proofs.YtakhcfemakapbaaGreatDoor.DuA Go.Proofs.YtakhcfemakapbaaGreatDoor.DuM Go.Proofs.YtakhcfemakapbaaGreatDoor.DuN Go.Proofs.YtakhcfemakapbaaGreatDoor.RkA Go.Proofs.YtakhcfemakapbaaGreatDoor.RkC Go.Proofs.YtakhcfemakapbaaGreatDoor.RkB Go.Proofs.YtakhcfemakapbaaGreatDoor.RkE Go.Proofs.YtakhcfemakapbaaGreatDoor.RkH Go.Proofs.YtakhcfemakapbaaGreatDoor.RkI Go.Proofs.YtakhcfemakapbaaGreatDoor.RkJ Go.Proofs.YtakhcfemakapbaaGreatDoor.RkL Go.Proofs.YtakhcfemakapbaaGreatDoor.RkM

theorem cloneE_calls (A : Option Addr) (n c : Nat) (l : List En) (w : World) (hr : RdE w A n c l) (hn : n * 24 ≤ 140737488355328) :
    Calls Tryz.prog 49 #[.slice A n c] w fun e w' => ∃ v, e = .returned v ∧ OwnE w' w.heap.size v l ∧ Below w.heap.size w w' := by
  have hl : Hid (l.length = n) := rde_len hr
  have hnl := fun w n' c' => Lib.run_eql_slice_nil (P := Tryz.prog) w 22 51 A n c n' c' Tryz.underlying22
  rcases A with _ | ad
  · go_enter Tryz.func49, Tryz.ntmps49
    go_wp2_with fail
    go_ret
    have h0 : l = [] := by
      rcases l with _ | ⟨x, r⟩
      · rfl
      · obtain ⟨ad, h, _⟩ := hr.get 0 (.string x.2) rfl
        cases h
    subst h0
    exact ⟨_, rfl, World.ownsRow_nil _ _ _ _, Below.refl _ _⟩
  · go_enter Tryz.func49, Tryz.ntmps49
    have hr2 : RdE (w.alloc (.cells #[] 51)) (some ad) n c l := hr.below ((Below.refl _ _).alloc (Nat.le_refl _) _)
    have ho : (w.alloc (.cells #[] 51)).ownsRow w.heap.size 51 2 (.slice (some ⟨w.heap.size, 0, none⟩) 0 0) 0 [] := World.ownsRow_made w #[] 0 (Nat.le_refl _) (Nat.zero_le _) rfl
    go_wp2_with (at_builtin; refine wpList_app rfl (.tmp 5) (.tmp 6) elE rfl w.heap.size _ 0 [] rfl ho (some ad) n c (ents l) rfl hr2 (ents_one l) (by unfold maxLen; omega) (by omega) (by simp) ?_; intro v w1 o1 b1 f1)
    go_ret
    refine ⟨_, rfl, ?_, ?_⟩
    · simpa [OwnE, hl.out] using o1
    · exact (((Only.refl (fun k => w.heap.size ≤ k) w).alloc _).trans b1 (fun b hb => .inl (by injection hb with hb; exact Nat.le_of_eq hb))).below (Nat.le_refl _) (fun _ h => h)
/-- slices.Reverse at a row of the call's own. -/
theorem reverseE_calls (B n c : Nat) (A : Option Addr) (l : List En) (w : World) (ho : OwnE w B (.slice A n c) l) (hn : n ≤ 1000000000) :
    Calls Tryz.prog 65 #[.slice A n c] w fun e w' => e = .returned (.tuple #[]) ∧ OwnE w' B (.slice A n c) l.reverse ∧ Only (fun k => (Value.slice A n c).ownBlock = some k) w w' := by
  have hln := own_n ho
  by_cases h0 : n = 0
  · subst h0
    have hl0 : l = [] := List.eq_nil_of_length_eq_zero hln
    subst hl0
    have hc := AnyQ.slices_Reverse_empty YtakhcfemakapbaaGreatDoor.reverseE A c w
    refine Calls.mono hc ?_
    rintro e w' ⟨rfl, hw⟩
    subst w'
    exact ⟨rfl, ho, Only.refl _ _⟩
  · rcases ho.2 with ⟨e1, h0'⟩ | ⟨g, cap, cur, e1, hg, hb, h1, h3, h4, h5⟩
    · exact absurd (by omega) h0
    · injection e1 with e1 e2 e3
      subst e1 e2 e3
      have hgw : g < w.heap.size := (Array.getElem?_eq_some_iff.1 hb).1
      have hfl : (flatK fV 2 l.toArray).toList = ents l := flat_get _
      have hfs : (flatK fV 2 l.toArray).size = l.length * 2 := by simp
      have hH : HoldsK fV 2 w g 0 l.toArray := holds_of_block hb (by rw [hfs, hfl]; exact h5)
      have hc := AnyQ.slices_Reverse YtakhcfemakapbaaGreatDoor.reverseE 2 Tryz.isAgg51 Tryz.sizeOf51 fV (fun _ => rfl) (fun x v hv => by simp [fV] at hv; rcases hv with rfl | rfl <;> rfl) g 0 c l.toArray w hH (by simp; omega)
      rw [show l.toArray.size = l.length by simp] at hc
      refine Calls.mono hc ?_
      rintro e w' ⟨rfl, m, rfl⟩
      have hrv : (l.toArray.reverse).toList = l.reverse := by simp
      have hsz : (flatK fV 2 l.toArray.reverse).size = l.length * 2 := by simp
      have hw : putRowK fV 2 (Sort.ahead w m) g 0 l.toArray.reverse = sortWorldK fV 2 w g 0 m l.toArray.reverse #[] := by unfold sortWorldK; rw [grow_empty]
      have hon := SwJ.only_swk (enc := fV) (k := 2) (w := w) (blk := g) (off := 0) (n := m) (os := #[]) l.toArray.reverse
      rw [← hw] at hon
      have hbl : (putRowK fV 2 (Sort.ahead w m) g 0 l.toArray.reverse).heap[g]? = some (.cells (putCells id 0 (flatK fV 2 l.toArray.reverse) cur) 51 (0, 0)) := by
        rw [hw]
        exact sw_block ⟨m, #[], rfl⟩ hb
      refine ⟨rfl, ?_, hon.mono (S' := fun k => (Value.slice (some ⟨g, 0, none⟩) l.length c).ownBlock = some k) (fun k hk => by rw [hk]; rfl)⟩
      have hq := take_putCells cur (flatK fV 2 l.toArray.reverse) (by rw [hsz, h4]; exact Nat.mul_le_mul_right _ h1)
      rw [hsz, flat_get, hrv] at hq
      refine ⟨by rw [ents_len], .inr ⟨g, c, _, by simp, hg, hbl, by simp; exact h1, h3, by simp [putCells, h4], ?_⟩⟩
      rw [List.length_reverse]
      exact hq
theorem order_calls (B g m : Nat) (v : Value) (l : List En) (N : Nat) (rev : Bool) (w : World) (h : Rk w B g m v l N) (hN : N ≤ 1000000000) :
    Calls Tryz.prog 38 #[.pointer (some ⟨g, 0, none⟩), .bool rev] w fun e w' => ∃ v', e = .returned v' ∧ OwnE w' w.heap.size v' (wayL l rev) ∧ Below w.heap.size w w' := by
  obtain ⟨A, c, rfl⟩ := own_form h.own
  have hr : RdE w A l.length c l := Rd.of_own h.own
  have hlN := h.len
  have hcl := cloneE_calls A l.length c l w hr (by omega)
  obtain ⟨c0, -, -⟩ := h.cells
  unfold wayL
  clear hr h
  go_enter Tryz.func38, Tryz.ntmps38
  go_wp2_with fail
  refine hcl.mono ?_
  clear hcl
  rintro e w1 ⟨v1, rfl, o1, b1⟩
  obtain ⟨A1, c1, rfl⟩ := own_form o1
  have HO := Lib.hid o1
  have HB := Lib.hid b1
  clear o1 b1 c0
  cases rev
  · go_wp2_with fail
    go_ret
    exact ⟨_, rfl, HO.out, HB.out⟩
  · have hrv := reverseE_calls w.heap.size l.length c1 A1 l w1 HO.out (by omega)
    go_wp2_with fail
    refine hrv.mono ?_
    clear hrv
    rintro e w2 ⟨rfl, o2, O2⟩
    have HO2 := Lib.hid (And.intro o2 O2)
    clear o2 O2
    go_wp2_with fail
    go_ret
    refine ⟨_, rfl, by simpa using HO2.out.1, HO2.out.2.after HB.out (Nat.le_refl _) (fun k hk => (HO.out.lt k hk).1)⟩
theorem list_calls (B g m : Nat) (v : Value) (l : List En) (N : Nat) (w : World) (h : Rk w B g m v l N) (hN : N ≤ 1000000000) :
    Calls Tryz.prog 16 #[.pointer (some ⟨g, 0, none⟩)] w fun e w' => ∃ v', e = .returned v' ∧ OwnE w' w.heap.size v' l ∧ Below w.heap.size w w' := by
  have hor := order_calls B g m v l N false w h hN
  unfold wayL at hor
  simp only [Bool.false_eq_true, if_false] at hor
  go_enter Tryz.func16, Tryz.ntmps16
  go_wp2_with fail
  refine hor.mono ?_
  rintro e w1 ⟨v1, rfl, o1, b1⟩
  go_wp2_with fail
  go_ret
  exact ⟨_, rfl, o1, b1⟩
end Go.Proofs.YtakhcfemakapbaaGreatDoor.RkO
set_option maxRecDepth 100000
set_option linter.unusedSimpArgs false
set_option linter.unusedVariables false
namespace Go.Proofs.YtakhcfemakapbaaGreatDoor.RkP
open Go Go.RowKit Go.Shelf Go.Proofs.YtakhcfemakapbaaGreatDoor.Mem Go.Proofs.YtakhcfemakapbaaGreatDoor.DuA Go.Proofs.YtakhcfemakapbaaGreatDoor.DuM Go.Proofs.YtakhcfemakapbaaGreatDoor.DuN Go.Proofs.YtakhcfemakapbaaGreatDoor.RkA Go.Proofs.YtakhcfemakapbaaGreatDoor.RkC Go.Proofs.YtakhcfemakapbaaGreatDoor.RkB Go.Proofs.YtakhcfemakapbaaGreatDoor.RkE Go.Proofs.YtakhcfemakapbaaGreatDoor.RkH Go.Proofs.YtakhcfemakapbaaGreatDoor.RkI Go.Proofs.YtakhcfemakapbaaGreatDoor.RkJ Go.Proofs.YtakhcfemakapbaaGreatDoor.RkL Go.Proofs.YtakhcfemakapbaaGreatDoor.RkM Go.Proofs.YtakhcfemakapbaaGreatDoor.RkO

theorem cut_mid (A : Option Addr) (n c lo T : Nat) (h : lo + T ≤ c) (w : World) :
    (Instr.slice 22 (.slice A n c) (some (.int .i64 lo)) (some (.int .i64 ((lo : Int) + T))) none).run Tryz.prog w = .ok (.slice (if c = lo then A else A.map (·.add (lo * 2))) T (c - lo)) w := by
  rw [run_slice_lh w 22 A n c (by kernel_rfl) .i64 .i64 lo ((lo : Int) + T) (by omega) (by omega) (by omega)]
  have e : ((lo : Int) + T).toNat = lo + T := by omega
  have e2 : lo + T - lo = T := by omega
  go_simp
theorem rde_take {w : World} {A : Option Addr} {n c : Nat} {l : List En} (h : RdE w A n c l) {k : Nat} (hk : k ≤ n) : RdE w A k c (l.take k) := by
  have := Rd.take h hk
  rwa [ents_take] at this
theorem rde_drop {w : World} {A : Option Addr} {n c : Nat} {l : List En} (h : RdE w A n c l) {k : Nat} (hk : k ≤ n) : RdE w (if c = k then A else A.map (·.add (k * 2))) (n - k) (c - k) (l.drop k) := by
  have := Rd.drop h hk
  rwa [ents_drop] at this
abbrev inI (n : Int) : Prop := -9223372036854775808 ≤ n ∧ n ≤ 9223372036854775807
set_option maxHeartbeats 4000000 in
theorem slice_calls (B g m : Nat) (v : Value) (l : List En) (N : Nat) (a b : Int) (rev : Bool) (w : World) (h : Rk w B g m v l N) (hN : N ≤ 1000000000) (ha : inI a) (hb : inI b) :
    Calls Tryz.prog 24 #[.pointer (some ⟨g, 0, none⟩), .int .i64 a, .int .i64 b, .bool rev] w fun e w' => ∃ v', e = .returned v' ∧ OwnE w' w.heap.size v' (sliceL l a b rev) ∧ Below w.heap.size w w' := by
  have hor := order_calls B g m v l N rev w h hN
  have hlN := h.len
  obtain ⟨ha1, ha2⟩ := ha
  obtain ⟨hb1, hb2⟩ := hb
  have hwl := way_len l rev
  unfold sliceL
  obtain ⟨L, hL⟩ : ∃ L, L = wayL l rev := ⟨_, rfl⟩
  rw [← hL] at hor hwl ⊢
  obtain ⟨n, hn⟩ : ∃ n, l.length = n := ⟨_, rfl⟩
  rw [hn] at hwl hlN ⊢
  have HL := Lib.hid (And.intro hL (And.intro hn hwl))
  have hnn : n ≤ 1000000000 := by omega
  clear hL hn h hlN
  have HW := Lib.hid hwl
  clear hwl
  obtain ⟨lo, hlo⟩ : ∃ lo : Nat, fromI n a = lo := ⟨(fromI n a).toNat, by unfold fromI; split <;> omega⟩
  obtain ⟨T, hT⟩ : ∃ T, toI n b = T := ⟨_, rfl⟩
  rw [hlo, hT]
  have hTn : T ≤ (n : Int) - 1 := by rw [← hT]; unfold toI; omega
  unfold fromI at hlo
  unfold toI at hT
  have FIN : ∀ (w1 : World) (A1 : Option Addr) (c1 : Nat), OwnE w1 w.heap.size (.slice A1 n c1) L → Below w.heap.size w w1 → ¬ T < (lo : Int) →
      ∃ cnt A4 c4, T + 1 = ((lo : Int) + (cnt : Nat)) ∧ (∀ W, (Instr.slice 22 (.slice A1 n c1) (some (.int .i64 lo)) (some (.int .i64 ((lo : Int) + cnt))) none).run Tryz.prog W = .ok (.slice A4 cnt c4) W) ∧
        Calls Tryz.prog 49 #[.slice A4 cnt c4] w1 fun e w' => ∃ v', e = .returned v' ∧ OwnE w' w.heap.size v' ((L.drop lo).take (T.toNat + 1 - lo)) ∧ Below w.heap.size w w' := by
    intro w1 A1 c1 o1 b1 hge
    have hr : RdE w1 A1 n c1 L := by have := o1; unfold OwnE at this; rw [HW.out] at this; exact Rd.of_own this
    have hcap := hr.cap
    obtain ⟨cnt, hcnt⟩ : ∃ cnt : Nat, T + 1 = ((lo : Int) + (cnt : Nat)) := ⟨(T + 1 - lo).toNat, by omega⟩
    refine ⟨cnt, _, _, hcnt, fun W => cut_mid A1 n c1 lo cnt (by omega) W, ?_⟩
    have hr2 := rde_take (rde_drop hr (k := lo) (by omega)) (k := cnt) (by omega)
    refine (cloneE_calls _ _ _ _ w1 hr2 (by omega)).mono ?_
    rintro e w2 ⟨v2, rfl, o2, b2⟩
    have hs := b1.size
    rw [show T.toNat + 1 - lo = cnt by omega]
    exact ⟨v2, rfl, ⟨o2.1, o2.2.imp id (fun ⟨g, c, cur, x1, x2, x3⟩ => ⟨g, c, cur, x1, by omega, x3⟩)⟩, b1.trans (b2.mono hs)⟩
  have HF := Lib.hid FIN
  clear FIN
  by_cases hge : T < (lo : Int)
  · rw [if_pos hge]
    by_cases ha0 : a < 0
    · rw [if_pos ha0] at hlo
      by_cases hb0 : b < 0
      · rw [if_pos hb0] at hT
        go_enter Tryz.func24, Tryz.ntmps24
        go_wp2_with fail
        refine hor.mono ?_
        clear hor
        rintro e w1 ⟨v1, rfl, o1, b1⟩
        obtain ⟨A1, c1, rfl⟩ := own_form o1
        rw [HW.out] at o1
        have HO := Lib.hid (And.intro o1 b1)
        clear o1 b1
        simp only [HW.out]
        go_wp2_with fail
        go_ret
        exact ⟨_, rfl, World.ownsRow_nil _ _ _ _, HO.out.2⟩
      · rw [if_neg hb0] at hT
        go_enter Tryz.func24, Tryz.ntmps24
        go_wp2_with fail
        refine hor.mono ?_
        clear hor
        rintro e w1 ⟨v1, rfl, o1, b1⟩
        obtain ⟨A1, c1, rfl⟩ := own_form o1
        rw [HW.out] at o1
        have HO := Lib.hid (And.intro o1 b1)
        clear o1 b1
        simp only [HW.out]
        go_wp2_with fail
        go_ret
        exact ⟨_, rfl, World.ownsRow_nil _ _ _ _, HO.out.2⟩
    · rw [if_neg ha0] at hlo
      subst hlo
      by_cases hb0 : b < 0
      · rw [if_pos hb0] at hT
        go_enter Tryz.func24, Tryz.ntmps24
        go_wp2_with fail
        refine hor.mono ?_
        clear hor
        rintro e w1 ⟨v1, rfl, o1, b1⟩
        obtain ⟨A1, c1, rfl⟩ := own_form o1
        rw [HW.out] at o1
        have HO := Lib.hid (And.intro o1 b1)
        clear o1 b1
        simp only [HW.out]
        go_wp2_with fail
        go_ret
        exact ⟨_, rfl, World.ownsRow_nil _ _ _ _, HO.out.2⟩
      · rw [if_neg hb0] at hT
        go_enter Tryz.func24, Tryz.ntmps24
        go_wp2_with fail
        refine hor.mono ?_
        clear hor
        rintro e w1 ⟨v1, rfl, o1, b1⟩
        obtain ⟨A1, c1, rfl⟩ := own_form o1
        rw [HW.out] at o1
        have HO := Lib.hid (And.intro o1 b1)
        clear o1 b1
        simp only [HW.out]
        go_wp2_with fail
        go_ret
        exact ⟨_, rfl, World.ownsRow_nil _ _ _ _, HO.out.2⟩
  · rw [if_neg hge]
    by_cases ha0 : a < 0
    · rw [if_pos ha0] at hlo
      by_cases hb0 : b < 0
      · rw [if_pos hb0] at hT
        go_enter Tryz.func24, Tryz.ntmps24
        go_wp2_with fail
        refine hor.mono ?_
        clear hor
        rintro e w1 ⟨v1, rfl, o1, b1⟩
        obtain ⟨A1, c1, rfl⟩ := own_form o1
        rw [HW.out] at o1
        have HO := Lib.hid (And.intro o1 b1)
        clear o1 b1
        simp only [HW.out]
        obtain ⟨cnt, A4, c4, hcnt, hsl, hcl⟩ := HF.out w1 A1 c1 HO.out.1 HO.out.2 hge
        go_wp2_with (go_at_call 49; refine hcl.mono ?_; rintro e w2 ⟨v2, rfl, o2, b2⟩)
        go_ret
        exact ⟨_, rfl, o2, b2⟩
      · rw [if_neg hb0] at hT
        go_enter Tryz.func24, Tryz.ntmps24
        go_wp2_with fail
        refine hor.mono ?_
        clear hor
        rintro e w1 ⟨v1, rfl, o1, b1⟩
        obtain ⟨A1, c1, rfl⟩ := own_form o1
        rw [HW.out] at o1
        have HO := Lib.hid (And.intro o1 b1)
        clear o1 b1
        simp only [HW.out]
        obtain ⟨cnt, A4, c4, hcnt, hsl, hcl⟩ := HF.out w1 A1 c1 HO.out.1 HO.out.2 hge
        go_wp2_with (go_at_call 49; refine hcl.mono ?_; rintro e w2 ⟨v2, rfl, o2, b2⟩)
        go_ret
        exact ⟨_, rfl, o2, b2⟩
    · rw [if_neg ha0] at hlo
      subst hlo
      by_cases hb0 : b < 0
      · rw [if_pos hb0] at hT
        go_enter Tryz.func24, Tryz.ntmps24
        go_wp2_with fail
        refine hor.mono ?_
        clear hor
        rintro e w1 ⟨v1, rfl, o1, b1⟩
        obtain ⟨A1, c1, rfl⟩ := own_form o1
        rw [HW.out] at o1
        have HO := Lib.hid (And.intro o1 b1)
        clear o1 b1
        simp only [HW.out]
        obtain ⟨cnt, A4, c4, hcnt, hsl, hcl⟩ := HF.out w1 A1 c1 HO.out.1 HO.out.2 hge
        go_wp2_with (go_at_call 49; refine hcl.mono ?_; rintro e w2 ⟨v2, rfl, o2, b2⟩)
        go_ret
        exact ⟨_, rfl, o2, b2⟩
      · rw [if_neg hb0] at hT
        go_enter Tryz.func24, Tryz.ntmps24
        go_wp2_with fail
        refine hor.mono ?_
        clear hor
        rintro e w1 ⟨v1, rfl, o1, b1⟩
        obtain ⟨A1, c1, rfl⟩ := own_form o1
        rw [HW.out] at o1
        have HO := Lib.hid (And.intro o1 b1)
        clear o1 b1
        simp only [HW.out]
        obtain ⟨cnt, A4, c4, hcnt, hsl, hcl⟩ := HF.out w1 A1 c1 HO.out.1 HO.out.2 hge
        go_wp2_with (go_at_call 49; refine hcl.mono ?_; rintro e w2 ⟨v2, rfl, o2, b2⟩)
        go_ret
        exact ⟨_, rfl, o2, b2⟩
end Go.Proofs.YtakhcfemakapbaaGreatDoor.RkP
set_option maxRecDepth 100000
set_option linter.unusedSimpArgs false
set_option linter.unusedVariables false
namespace Go.Proofs.YtakhcfemakapbaaGreatDoor.RkQ
open Go Go.RowKit Go.Shelf Go.Proofs.YtakhcfemakapbaaGreatDoor.Mem Go.Proofs.YtakhcfemakapbaaGreatDoor.DuA Go.Proofs.YtakhcfemakapbaaGreatDoor.DuM Go.Proofs.YtakhcfemakapbaaGreatDoor.DuN Go.Proofs.YtakhcfemakapbaaGreatDoor.RkA Go.Proofs.YtakhcfemakapbaaGreatDoor.RkC Go.Proofs.YtakhcfemakapbaaGreatDoor.RkB Go.Proofs.YtakhcfemakapbaaGreatDoor.RkE Go.Proofs.YtakhcfemakapbaaGreatDoor.RkH Go.Proofs.YtakhcfemakapbaaGreatDoor.RkI Go.Proofs.YtakhcfemakapbaaGreatDoor.RkJ Go.Proofs.YtakhcfemakapbaaGreatDoor.RkK Go.Proofs.YtakhcfemakapbaaGreatDoor.RkL Go.Proofs.YtakhcfemakapbaaGreatDoor.RkM Go.Proofs.YtakhcfemakapbaaGreatDoor.RkO

def placeV (l : List En) (k : ByteArray) (rev : Bool) : Value := match placeL l k rev with
  | some i => .tuple #[.int .i64 (i : Nat), .bool true]
  | none => .tuple #[.int .i64 0, .bool false]
set_option maxHeartbeats 4000000 in
theorem place_calls (B g m : Nat) (v : Value) (l : List En) (N : Nat) (k : ByteArray) (rev : Bool) (w : World) (h : Rk w B g m v l N) (hk : okk k) (hN : N ≤ 1000000000) :
    Calls Tryz.prog 23 #[.pointer (some ⟨g, 0, none⟩), .string k, .bool rev] w fun e w' => e = .returned (placeV l k rev) ∧ Below w.heap.size w w' := by
  have hsc := score_calls B g m v l N k w h hk
  unfold opt at hsc
  have hpl := due_pl_lt (l := l) (k := k)
  rcases hd : dueL l k with _ | t
  · rw [hd] at hsc hpl
    simp only [Option.isSome_none, Bool.false_eq_true, false_iff] at hpl
    have hpv : placeV l k rev = .tuple #[.int .i64 0, .bool false] := by unfold placeV; rw [place_none rev hpl]
    rw [hpv]
    simp only [Option.getD_none, Option.isSome_none] at hsc
    clear hpv hpl hd
    go_enter Tryz.func23, Tryz.ntmps23
    go_wp2_with (go_at_call 22; refine hsc.mono ?_; rintro e w1 ⟨rfl, hw1⟩; subst w1)
    go_ret2
    exact ⟨rfl, Below.refl _ _⟩
  · rw [hd] at hsc hpl
    simp only [Option.isSome_some, true_iff] at hpl
    simp only [Option.getD_some, Option.isSome_some] at hsc
    have hm := (due_some h.srt.one).1 hd
    have hpos := pos_pl h.srt hd
    obtain ⟨p1, -⟩ := pos_at linS h.srt hm
    have hpi := place_is h.srt.one (k := k) rev hpl
    obtain ⟨i, hi⟩ : ∃ i, posL ltS l (t, k) = i := ⟨_, rfl⟩
    rw [hi] at hpos p1
    rw [← hpos] at hpi hpl
    obtain ⟨A, c, rfl⟩ := own_form h.own
    have hr : RdE w A l.length c l := Rd.of_own h.own
    obtain ⟨n, hn⟩ : ∃ n, l.length = n := ⟨_, rfl⟩
    have hlN := h.len
    have hsrt := h.srt
    have hc0 := h.cells.1
    rw [hn] at hr hc0 hpi hpl hlN
    have hpv : placeV l k rev = .tuple #[.int .i64 ((if rev = true then n - 1 - i else i : Nat)), .bool true] := by unfold placeV; rw [hpi]
    rw [hpv]
    have HN := Lib.hid hn
    have HR := Lib.hid hr
    have HC := Lib.hid hc0
    clear hpv hpi hpos hd hm hn h
    obtain ⟨W2, hW2⟩ : ∃ W2, W2 = w.alloc (.cells #[.string k, .int .i64 t] 51) := ⟨_, rfl⟩
    have e0 : W2.cell? ⟨w.heap.size, 0, none⟩ = some (.string k) := by rw [hW2]; exact (eo_cells w (t, k)).1
    have e1 : W2.cell? ⟨w.heap.size, 1, none⟩ = some (.int .i64 t) := by rw [hW2]; exact (eo_cells w (t, k)).2
    have b2 : Below w.heap.size w W2 := by rw [hW2]; exact al _ _
    have hat := at_calls g n c A l (t, k) W2 (cell_b hc0 b2) (hr.below b2) hsrt (by omega)
    rw [hi] at hat
    have HB2 := Lib.hid b2
    have HE := Lib.hid (And.intro e0 e1)
    clear hr hc0 b2 hi hsrt
    rw [hW2] at e0 e1
    go_enter Tryz.func23, Tryz.ntmps23
    go_wp2_with (go_at_call 22; refine hsc.mono ?_; rintro e w1 ⟨rfl, hw1⟩; subst w1)
    rw [← hW2]
    refine hat.mono ?_
    clear hat e0 e1 hsc
    rintro e w3 ⟨rfl, b3⟩
    have b23 := HB2.out.trans (b3.mono HB2.out.size)
    have f0 := cell_b HE.out.1 b3
    have f1 := cell_b HE.out.2 b3
    have hc3 := cell_b HC.out b23
    obtain ⟨p, hp, x0, x1⟩ := rde_get (HR.out.below b23) p1
    subst hp
    simp only at x0 x1
    have hin : ¬ (n : Int) ≤ (i : Int) := by omega
    have HB := Lib.hid b23
    clear b3 b23 hW2 p1
    go_upto_region 6 with fail
    go_quiet (fail)
    cases rev
    · go_wp2_with fail
      go_ret2
      exact ⟨rfl, HB.out.trans ((below_drawn_ (Below.refl _ _) nq).mono HB.out.size)⟩
    · go_wp2_with fail
      go_ret2
      refine ⟨?_, HB.out.trans ((below_drawn_ (Below.refl _ _) nq).mono HB.out.size)⟩
      congr 3
      simp
      omega
end Go.Proofs.YtakhcfemakapbaaGreatDoor.RkQ
set_option maxRecDepth 100000
set_option linter.unusedSimpArgs false
set_option linter.unusedVariables false
namespace Go.Proofs.YtakhcfemakapbaaGreatDoor.RkR
open Go Go.RowKit Go.Shelf Go.Proofs.YtakhcfemakapbaaGreatDoor.Mem Go.Proofs.YtakhcfemakapbaaGreatDoor.DuA Go.Proofs.YtakhcfemakapbaaGreatDoor.DuM Go.Proofs.YtakhcfemakapbaaGreatDoor.DuN Go.Proofs.YtakhcfemakapbaaGreatDoor.RkA Go.Proofs.YtakhcfemakapbaaGreatDoor.RkC Go.Proofs.YtakhcfemakapbaaGreatDoor.RkB Go.Proofs.YtakhcfemakapbaaGreatDoor.RkE Go.Proofs.YtakhcfemakapbaaGreatDoor.RkH Go.Proofs.YtakhcfemakapbaaGreatDoor.RkI Go.Proofs.YtakhcfemakapbaaGreatDoor.RkJ Go.Proofs.YtakhcfemakapbaaGreatDoor.RkL Go.Proofs.YtakhcfemakapbaaGreatDoor.RkM Go.Proofs.YtakhcfemakapbaaGreatDoor.RkO Go.Proofs.YtakhcfemakapbaaGreatDoor.RkP

theorem cut_pre (A : Option Addr) (n c T : Nat) (h : T ≤ c) (w : World) :
    (Instr.slice 22 (.slice A n c) none (some (.int .i64 T)) none).run Tryz.prog w = .ok (.slice A T c) w := by
  rw [run_slice_h w 22 A n c (by kernel_rfl) .i64 T (by omega) (by omega)]
  go_simp
theorem drop_last {l : List En} {y : En} (hn : ((l ++ [y]).map (·.2)).Nodup) : dropL (l ++ [y]) y.2 = l := by
  unfold dropL
  rw [List.filter_append]
  simp only [List.map_append, List.map_cons, List.map_nil] at hn
  have h1 : l.filter (fun e => decide (e.2 ≠ y.2)) = l := by
    rw [List.filter_eq_self]
    intro a ha
    simp only [decide_eq_true_eq]
    exact fun e => (List.nodup_append.1 hn).2.2 a.2 (List.mem_map_of_mem ha) y.2 (by simp) e
  rw [h1]
  simp
theorem drop_back {l : List En} (hn : (l.map (·.2)).Nodup) : ∀ m, m ≤ l.length → ((l.reverse.take m).map (·.2)).foldl dropL l = l.take (l.length - m)
  | 0, _ => by simp
  | m + 1, hm => by
    have ih := drop_back hn m (by omega)
    have hlt : m < l.reverse.length := by simp; omega
    rw [List.take_succ_eq_append_getElem hlt, List.map_append, List.foldl_append, ih]
    simp only [List.map_cons, List.map_nil, List.foldl_cons, List.foldl_nil, List.getElem_reverse]
    obtain ⟨q, hq⟩ : ∃ q, l.length - m = q + 1 := ⟨l.length - m - 1, by omega⟩
    have hq2 : l.length - (m + 1) = q := by omega
    have hql : q < l.length := by omega
    have he : l.length - 1 - m = q := by omega
    simp only [he]
    rw [hq, hq2, List.take_succ_eq_append_getElem hql]
    refine drop_last ?_
    rw [← List.take_succ_eq_append_getElem hql]
    exact nd_of_take hn
theorem left_is {l : List En} (hn : (l.map (·.2)).Nodup) (n : Int) (g : Bool) : (((wayL l g).take (popN l n)).map (·.2)).foldl dropL l = leftL l n g := by
  have hp : popN l n ≤ l.length := by unfold popN; omega
  unfold wayL leftL
  cases g
  · simpa using drop_front hn (popN l n) hp
  · simpa using drop_back hn (popN l n) hp
/-- Between two rounds. -/
structure Pp (B g m N : Nat) (v : Value) (w w2 wr : World) (A : Option Addr) (T c : Nat) (L lj : List En) : Prop where
  rk : ∃ vj, Rk wr B g m vj lj N ∧ (vj.ownBlock = v.ownBlock ∨ ∃ k, vj.ownBlock = some k ∧ w2.heap.size ≤ k)
  on : Only (RkS g m v) w wr
  sz : w2.heap.size ≤ wr.heap.size
  row : RdE wr A T c L
  far : ∀ ad, A = some ad → w.heap.size ≤ ad.block ∧ ad.block < w2.heap.size
theorem Pp.below {B g m N : Nat} {v : Value} {w w2 wr w' : World} {A : Option Addr} {T c : Nat} {L lj : List En} (h : Pp B g m N v w w2 wr A T c L lj) (hb : Below wr.heap.size wr w') : Pp B g m N v w w2 w' A T c L lj := by
  obtain ⟨vj, hr, hv⟩ := h.rk
  exact ⟨⟨vj, hr.below hb, hv⟩, h.on.trans (only_b (S := fun _ => False) hb) (fun _ e => e.elim), Nat.le_trans h.sz hb.size, h.row.below hb, h.far⟩
theorem Pp.drop {B g m N : Nat} {v : Value} {w w2 wr w' : World} {A : Option Addr} {T c : Nat} {L lj l' : List En} (h : Pp B g m N v w w2 wr A T c L lj) (hg : g < w.heap.size) (hm : m < w.heap.size) (hvw : ∀ k, v.ownBlock = some k → k < w.heap.size) {vj : Value} (hr : Rk wr B g m vj lj N) (hv : vj.ownBlock = v.ownBlock ∨ ∃ k, vj.ownBlock = some k ∧ w2.heap.size ≤ k) (hle : w.heap.size ≤ w2.heap.size) (ht : Turn B g m vj l' N wr w') : Pp B g m N v w w2 w' A T c L l' := by
  obtain ⟨v', r', O', hv'⟩ := ht
  have hsz := h.sz
  refine ⟨⟨v', r', ?_⟩, ?_, Nat.le_trans h.sz O'.size, ?_, h.far⟩
  · rcases hv' with e | ⟨k, e, hk⟩
    · rw [e]; exact hv
    · exact .inr ⟨k, e, by omega⟩
  · refine h.on.trans O' (fun b hb => ?_)
    rcases hb with e | e | e
    · exact .inl (.inl e)
    · exact .inl (.inr (.inl e))
    · rcases hv with e' | ⟨k, e', hk⟩
      · exact .inl (.inr (.inr (by rw [← e']; exact e)))
      · rw [e'] at e; injection e with e; exact .inr (by omega)
  · refine h.row.only O' (fun ad had hb => ?_)
    obtain ⟨f1, f2⟩ := h.far ad had
    rcases hb with e | e | e
    · omega
    · omega
    · rcases hv with e' | ⟨k, e', hk⟩
      · have := hvw _ (by rw [← e']; exact e); omega
      · rw [e'] at e; injection e with e; omega
set_option maxHeartbeats 4000000 in
theorem pop_calls (B g m : Nat) (v : Value) (l : List En) (N : Nat) (n : Int) (gr : Bool) (w : World) (h : Rk w B g m v l N) (hB : B ≤ w.heap.size) (hN : N ≤ 1000000000) (hn : inI n) :
    Calls Tryz.prog 26 #[.pointer (some ⟨g, 0, none⟩), .int .i64 n, .bool gr] w fun e w' => ∃ v' w1, e = .returned v' ∧ Turn B g m v (leftL l n gr) N w w1 ∧ OwnE w' w1.heap.size v' (popL l n gr) ∧ Below w1.heap.size w1 w' := by
  have hor := order_calls B g m v l N gr w h hN
  have hlN := h.len
  have hlt := h.lt
  obtain ⟨hn1, hn2⟩ := hn
  obtain ⟨T, hT⟩ : ∃ T : Nat, min (max n 0) (l.length : Int) = (T : Int) := ⟨popN l n, by unfold popN; omega⟩
  have hpT : popN l n = T := by unfold popN; omega
  have hleft := left_is h.srt.one n gr
  have hTl : T ≤ l.length := by omega
  unfold popL
  rw [hpT] at hleft ⊢
  have hwl := way_len l gr
  have hmem : ∀ e ∈ wayL l gr, okk e.2 := fun e he => h.kok e (by unfold wayL at he; split at he <;> simpa using he)
  obtain ⟨L, hL⟩ : ∃ L, L = wayL l gr := ⟨_, rfl⟩
  rw [← hL] at hor hwl hmem hleft ⊢
  obtain ⟨M, hM⟩ : ∃ M, M = leftL l n gr := ⟨_, rfl⟩
  rw [← hM] at hleft ⊢
  have H0 := Lib.hid (And.intro h (And.intro hleft (And.intro hmem (And.intro hlt hwl))))
  obtain ⟨q, hq⟩ : ∃ q, l.length = q := ⟨_, rfl⟩
  rw [hq] at hT hTl hlN hwl
  have HQ := Lib.hid hq
  have HW := Lib.hid hwl
  clear hpT hleft hmem hL hM hlt h hq hwl
  have hLT : (L.take T).length = T := by rw [List.length_take, HW.out]; omega
  obtain ⟨LT, hLTe⟩ : ∃ LT, LT = L.take T := ⟨_, rfl⟩
  rw [← hLTe] at hLT ⊢
  have HLT := Lib.hid (And.intro hLT hLTe)
  have hTn : T ≤ 1000000000 := by omega
  clear hLT hLTe
  go_enter Tryz.func26, Tryz.ntmps26
  go_wp2_with fail
  refine hor.mono ?_
  clear hor
  rintro e w2 ⟨v1, rfl, o1, b1⟩
  obtain ⟨A1, c1, rfl⟩ := own_form o1
  rw [HW.out] at o1
  have hr : RdE w2 A1 q c1 L := by have := o1; unfold OwnE at this; rw [HW.out] at this; exact Rd.of_own this
  have hcap := hr.cap
  have hcut := fun W => cut_pre A1 q c1 T (by omega) W
  have P0 : Pp B g m N v w w2 w2 A1 T c1 LT l := by
    rw [HLT.out.2]
    refine ⟨⟨v, H0.out.1.below b1, .inl rfl⟩, only_b b1, Nat.le_refl _, rde_take hr hTl, fun ad had => ?_⟩
    subst had
    have := o1.lt ad.block rfl
    exact this
  have HP0 := Lib.hid P0
  have HB1 := Lib.hid b1
  simp only [HW.out]
  clear P0 b1 o1 hr
  go_wp2_with fail
  go_loopw [22] (fun i wr => ∃ j : Nat, i = .int .i64 j ∧ j ≤ T ∧ Hid (Pp B g m N v w w2 wr A1 T c1 LT (((LT.take j).map (·.2)).foldl dropL l))) (fun i _ => T - (RowKit.intOf i).toNat)
  case atStart => exact ⟨0, rfl, Nat.zero_le _, Lib.hid (by simpa using HP0.out)⟩
  case round =>
    obtain ⟨j, rfl, hj, P⟩ := hrel
    by_cases hlt : j < T
    · obtain ⟨y, hy⟩ : ∃ y, LT[j]? = some y := ⟨_, List.getElem?_eq_getElem (by rw [HLT.out.1]; exact hlt)⟩
      obtain ⟨p, hp, x0, x1⟩ := rde_get P.out.row hy
      have hjs : ((LT.take (j + 1)).map (·.2)).foldl dropL l = dropL (((LT.take j).map (·.2)).foldl dropL l) y.2 := by
        rw [List.take_add_one, hy]
        simp
      have hky : okk y.2 := H0.out.2.2.1 y (by have := List.mem_of_getElem? hy; rw [HLT.out.2] at this; exact List.mem_of_mem_take this)
      have P2 := P.out.below (al wr (eo y))
      obtain ⟨vj, hrk, hvj⟩ := P2.rk
      have hgw := (H0.out.2.2.2.1 g (.inl rfl)).2
      have hmw := (H0.out.2.2.2.1 m (.inr (.inl rfl))).2
      have hsz := P2.sz
      have hb1s := HB1.out.size
      have hdr := drop_calls B g m vj _ N y.2 _ hrk hky (by omega) hN
      have FIN : ∀ w3, Turn B g m vj (dropL (((LT.take j).map (·.2)).foldl dropL l) y.2) N (wr.alloc (eo y)) w3 → Pp B g m N v w w2 w3 A1 T c1 LT (((LT.take (j + 1)).map (·.2)).foldl dropL l) := fun w3 ht => by
        rw [hjs]
        exact P2.drop hgw hmw (fun k hk => (H0.out.2.2.2.1 k (.inr (.inr hk))).2) hrk hvj HB1.out.size ht
      have HF := Lib.hid FIN
      clear FIN P2 hrk hvj hgw hmw hsz hb1s hjs hky hy
      obtain ⟨x, y⟩ := y
      subst hp
      go_wp2_with (go_at_call 29; refine hdr.mono ?_; rintro e w3 ⟨rfl, ht⟩)
      exact ⟨⟨j + 1, by simp, by omega, Lib.hid (HF.out _ ht)⟩, by simp [RowKit.intOf]; omega⟩
    · obtain rfl : j = T := by omega
      have hll : ((LT.take j).map (·.2)).foldl dropL l = M := by
        rw [List.take_of_length_le (by rw [HLT.out.1]; exact Nat.le_refl _), HLT.out.2]
        exact H0.out.2.1
      have hcl := cloneE_calls A1 j c1 LT wr P.out.row (by omega)
      go_wp2_with fail
      refine hcl.mono ?_
      clear hcl
      rintro e w4 ⟨v4, rfl, o4, b4⟩
      go_wp2_with fail
      go_ret
      obtain ⟨vj, hrk, hvj⟩ := P.out.rk
      rw [hll] at hrk
      refine ⟨v4, wr, rfl, ⟨vj, hrk, P.out.on, ?_⟩, o4, b4⟩
      rcases hvj with e | ⟨k, e, hk⟩
      · exact .inl e
      · exact .inr ⟨k, e, Nat.le_trans HB1.out.size hk⟩
end Go.Proofs.YtakhcfemakapbaaGreatDoor.RkR
set_option maxRecDepth 100000
set_option linter.unusedSimpArgs false
set_option linter.unusedVariables false
namespace Go.Proofs.YtakhcfemakapbaaGreatDoor.RkX
open Go Go.RowKit Go.Shelf Go.Proofs.YtakhcfemakapbaaGreatDoor.Mem Go.Proofs.YtakhcfemakapbaaGreatDoor.DuA Go.Proofs.YtakhcfemakapbaaGreatDoor.DuM Go.Proofs.YtakhcfemakapbaaGreatDoor.DuN Go.Proofs.YtakhcfemakapbaaGreatDoor.RkA Go.Proofs.YtakhcfemakapbaaGreatDoor.RkC Go.Proofs.YtakhcfemakapbaaGreatDoor.RkB Go.Proofs.YtakhcfemakapbaaGreatDoor.RkE Go.Proofs.YtakhcfemakapbaaGreatDoor.RkF Go.Proofs.YtakhcfemakapbaaGreatDoor.RkI Go.Proofs.YtakhcfemakapbaaGreatDoor.RkM

set_option maxHeartbeats 2000000 in
theorem turned_calls (A : Option Addr) (n c : Nat) (l : List En) (w : World) (hr : RdE w A n c l) (hn : n ≤ 1000000000) :
    Calls Tryz.prog 71 #[.slice A n c] w fun e w' => ∃ v, e = .returned v ∧ OwnE w' w.heap.size v l.reverse ∧ Below w.heap.size w w' := by
  obtain rfl := rde_len hr
  have HR := Lib.hid hr
  clear hr
  go_enter Tryz.func71, Tryz.ntmps71
  go_wp2_with fail
  go_loopw [3, 4] (fun ov iv wr => ∃ (k : Nat) (J : Int), iv = .int .i64 J ∧ Hid (J = (k : Int) - 1) ∧ k ≤ l.length ∧ Hid (OwnE wr w.heap.size ov (l.drop k).reverse ∧ Below w.heap.size w wr)) (fun _ iv _ => (RowKit.intOf iv + 1).toNat)
  case atStart => exact ⟨l.length, _, rfl, rfl, Nat.le_refl _, Lib.hid ⟨by rw [List.drop_length]; exact World.ownsRow_nil _ _ _ _, Below.refl _ _⟩⟩
  case round =>
    obtain ⟨k, J, rfl, hJ, hk, hX⟩ := hrel
    rcases Nat.eq_zero_or_pos k with h0 | h0
    · subst h0
      obtain rfl : J = -1 := by have := hJ.out; omega
      go_wp2_with fail
      go_ret
      exact ⟨_, rfl, by simpa using hX.out.1, hX.out.2⟩
    · obtain ⟨m, rfl⟩ : ∃ m, k = m + 1 := ⟨k - 1, by omega⟩
      obtain rfl : J = (m : Int) := by have := hJ.out; omega
      have hlt : m < l.length := by omega
      obtain ⟨y, hy⟩ : ∃ y, l[m]? = some y := ⟨_, List.getElem?_eq_getElem hlt⟩
      obtain ⟨q, rfl, x0, x1⟩ := rde_get (HR.out.below hX.out.2) hy
      have hO : ((l.drop (m + 1)).reverse).length = l.length - (m + 1) := by simp
      have hdr : (l.drop m).reverse = (l.drop (m + 1)).reverse ++ [y] := by
        rw [show l.drop m = y :: l.drop (m + 1) by have := (List.getElem?_eq_some_iff.1 hy).2; rw [← this]; exact List.drop_eq_getElem_cons hlt, List.reverse_cons]
      have HD := Lib.hid hdr
      obtain ⟨O, hOe⟩ : ∃ O, O = (l.drop (m + 1)).reverse := ⟨_, rfl⟩
      rw [← hOe] at hX hO
      have HO := Lib.hid hOe
      clear hdr hy hJ hOe
      obtain ⟨ys, yn⟩ := y
      obtain ⟨A2, c2, rfl⟩ := own_form hX.out.1
      have ho4 := own_only (w' := wr.alloc (eo (ys, yn))) hX.out.1 (only_b (S := fun _ => False) (al wr _)) (fun _ _ => id)
      have hrv : RdE (wr.alloc (eo (ys, yn))) (some ⟨wr.heap.size, 0, none⟩) 1 1 [(ys, yn)] := One.rd ⟨heap_alloc_new wr (eo (ys, yn))⟩
      have hbs := hX.out.2.size
      go_wp2_with (at_builtin; refine wpList_app rfl (.tmp 12) (.tmp 17) elE rfl w.heap.size _ O.length _ rfl ho4 (some ⟨wr.heap.size, 0, none⟩) 1 1 (ents [(ys, yn)]) rfl hrv (ents_one _) (by unfold maxLen; omega) (by omega) (by simp; omega) ?_; intro v5 w5 o5 O5 hv5)
      have o6 : OwnE w5 w.heap.size v5 (l.drop m).reverse := by
        rw [HD.out, ← HO.out]
        unfold OwnE
        rw [List.length_append, ents_app]
        exact o5
      have b6 : Below w.heap.size w w5 := O5.after (hX.out.2.trans ((al wr _).mono hX.out.2.size)) (Nat.le_refl _) (fun k hk => (hX.out.1.lt k hk).1)
      exact ⟨⟨m, (m : Int) - 1, rfl, rfl, by omega, Lib.hid ⟨o6, b6⟩⟩, by simp [RowKit.intOf]⟩
end Go.Proofs.YtakhcfemakapbaaGreatDoor.RkX
