/-
  The walk of DequeOwn, for a list of at most 1048576 numbers. Conditions: as stated.
-/
import Derived.RangeFuncNested
import Derived.RangeFuncBound
import Derived.RangeFuncCalls
import Derived.RangeFuncLeaves
import Derived.RangeFuncFrom
import Derived.Test.YtgbgdgncdanblaaDqS
import Derived.Test.YtgbgdgncdanblaaDqU
import Derived.Test.YtgbgdgncdanblaaDqK
set_option maxRecDepth 100000
set_option linter.unusedSimpArgs false
set_option linter.unusedVariables false
namespace Go.Proofs.Ytgbgdgncdanblaa.DqT
open Go.RowKit Go.Proofs.Ytgbgdgncdanblaa.Mem Go.Proofs.Ytgbgdgncdanblaa.DqA Go.Proofs.Ytgbgdgncdanblaa.DqB Go.Proofs.Ytgbgdgncdanblaa.DqD Go.Proofs.Ytgbgdgncdanblaa.DqF Go.Proofs.Ytgbgdgncdanblaa.DqI Go.Proofs.Ytgbgdgncdanblaa.DqO Go.Proofs.Ytgbgdgncdanblaa.DqP Go.Proofs.Ytgbgdgncdanblaa.DqQ Go.Proofs.Ytgbgdgncdanblaa.DqR Go.Proofs.Ytgbgdgncdanblaa.DqS Go.Proofs.Ytgbgdgncdanblaa.DqU Go.Proofs.Ytgbgdgncdanblaa.DqC Go.Proofs.Ytgbgdgncdanblaa.DqK

theorem none_allIter (w : World) : Calls Try.prog 47 #[.pointer none] w fun e w' =>
    e = .returned (.func (.func 68) #[] #[.pointer (some ⟨w.heap.size, 0, none⟩)]) ∧ w' = w.alloc (.cells #[.slice none 0 0] 22) := by
  go_enter Try.func47, Try.ntmps47
  go_wp2_with (go_at_call 16; refine (none_list _).mono ?_; rintro e w' ⟨rfl, rfl⟩)
  go_ret
  exact ⟨rfl, rfl⟩

theorem none_iter (l Bs : Nat) (W : World) (hBs : W.cell? ⟨Bs, 0, none⟩ = some (.slice none 0 0)) :
    Calls Try.prog 68 #[.func (.yield l) #[] #[], .pointer (some ⟨Bs, 0, none⟩)] W fun e W' => (∃ v, e = .returned v) ∧ W' = W := by
  go_enter Try.func68, Try.ntmps68
  go_wp2_with fail
  refine wp_loop_rounds 1 ?_
  rw [rounds_succ]
  go_wp2_with fail
  go_end0
  exact ⟨⟨_, rfl⟩, rfl⟩

theorem none_stops (n Bs : Nat) (w : World) (hlt : Bs < w.heap.size) (hc : w.cell? ⟨Bs, 0, none⟩ = some (.slice none 0 0)) :
    SeqStopsK Fence.wide n Try.prog 68 #[.pointer (some ⟨Bs, 0, none⟩)] (fun x : Empty => #[]) (fun _ _ => True) (fun _ => True) (fun _ => False) 0 w := fun l J Jx W hW _ _ hY h0 => by
  have hc' := (hW.cell (p := ⟨Bs, 0, none⟩) hlt).trans hc
  exact callsIn_wide.2 ((none_iter l Bs W hc').mono fun e W' ⟨he, hw⟩ => ⟨he, .inl ⟨[], trivial, hw ▸ h0⟩⟩)

theorem Dqn.less {w : World} {B B' g N : Nat} {v : Value} {l : List Int} (h : Dqn w B g v l N) (hB : B' ≤ B) : Dqn w B' g v l N := by
  obtain ⟨xs, f, ⟨a, b, c, d, e⟩, hl, hn⟩ := h
  exact ⟨xs, f, ⟨a, Nat.le_trans hB b, own_less c hB, d, e⟩, hl, hn⟩
/-- A cell of an own slice. -/
theorem own_at {w : World} {B n c j : Nat} {A : Option Addr} {L : List Int} (h : OwnI w B (.slice A n c) L) (hj : j < n) :
    ∃ b x, A = some ⟨b, 0, none⟩ ∧ w.cell? ⟨b, j, none⟩ = some (.int .i64 x) ∧ w.frozen? ⟨b, j, none⟩ = false := by
  have hn : L.length = n := own_n h
  rcases h.2 with ⟨e, _⟩ | ⟨b, cap, cur, e, _⟩
  · injection e with _ e; omega
  injection e with e1 e2 e3
  subst e1
  obtain ⟨y, hy⟩ : ∃ y, L[j]? = some y := ⟨_, List.getElem?_eq_getElem (by omega)⟩
  have hc := World.ownsRow.cells h (g := b) rfl j (.int .i64 y) (by simp [ints, hy])
  rw [add_mk, Nat.zero_add] at hc
  exact ⟨b, y, rfl, hc, World.ownsRow.frozenAt (by unfold OwnI at h; rw [hn] at h; exact h) j⟩

theorem put_apart {w : World} {B n c b bc i : Nat} {u : Value} {xs : List Int} (ho : OwnI w B (.slice (some ⟨bc, 0, none⟩) n c) xs) (hne : bc ≠ b) : OwnI (w.setCell ⟨b, i, none⟩ u) B (.slice (some ⟨bc, 0, none⟩) n c) xs :=
  put_own ho (fun e => hne (Option.some.inj e))
theorem two_app {wr wa wc : World} {Ba Bc : Nat} {av cv va vc : Value} {La Lc La' Lc' : List Int} (Oa : OwnI wr Ba av La) (Oc : OwnI wr Bc cv Lc) (hd : ∀ k, av.ownBlock = some k → cv.ownBlock ≠ some k)
    (oa : OwnI wa Ba va La') (ba : Only (fun k => av.ownBlock = some k) wr wa) (fa : va.ownBlock = av.ownBlock ∨ ∃ k, va.ownBlock = some k ∧ wr.heap.size ≤ k)
    (oc : OwnI wc Bc vc Lc') (bc : Only (fun k => cv.ownBlock = some k) wa wc) (fc : vc.ownBlock = cv.ownBlock ∨ ∃ k, vc.ownBlock = some k ∧ wa.heap.size ≤ k) :
    OwnI wc Ba va La' ∧ (∀ k, va.ownBlock = some k → vc.ownBlock ≠ some k) ∧ Only (fun k => av.ownBlock = some k ∨ cv.ownBlock = some k) wr wc ∧
    (∀ k, va.ownBlock = some k → av.ownBlock = some k ∨ wr.heap.size ≤ k) ∧ (∀ k, vc.ownBlock = some k → cv.ownBlock = some k ∨ wr.heap.size ≤ k) := by
  have hs := ba.size
  have h1 : ∀ k, va.ownBlock = some k → cv.ownBlock ≠ some k := fun k hk e => by
    rcases fa with h | ⟨k', h, hk'⟩
    · exact hd k (h ▸ hk) e
    · rw [h] at hk; injection hk with hk; subst hk; have := (Oc.lt _ e).2; omega
  refine ⟨own_only oa bc (fun k hk e => h1 k hk e), fun k hk e => ?_, (ba.mono (fun b hb => .inl hb)).trans bc (fun b hb => .inl (.inr hb)), fun k hk => ?_, fun k hk => ?_⟩
  · rcases fc with h | ⟨k', h, hk'⟩
    · exact h1 k hk (h ▸ e)
    · rw [h] at e; injection e with e; subst e; have := (oa.lt _ hk).2; omega
  · rcases fa with h | ⟨k', h, hk'⟩
    · exact .inl (h ▸ hk)
    · rw [h] at hk; injection hk with hk; subst hk; exact .inr hk'
  · rcases fc with h | ⟨k', h, hk'⟩
    · exact .inl (h ▸ hk)
    · rw [h] at hk; injection hk with hk; subst hk; exact .inr (by omega)

set_option maxHeartbeats 2000000 in
theorem own_calls (A : Option Addr) (n c : Nat) (l : List Int) (m : Int) (W : World) (hr : RdI W A n c l) (hn : n ≤ 1048576)
    (m1 : -9223372036854775808 ≤ m) (m2 : m ≤ 9223372036854775807) :
    Calls Try.prog 9 #[.slice A n c, .int .i64 m] W fun e w' => e = .returned (.bool true) ∧ Below W.heap.size W w' := by
  obtain rfl := rdi_len hr
  refine (callsIn_wide (n := 4)).1 ?_
  refine callsIn_of_wp_marks Try.func9 rfl trivial ?_ rfl
  simp only [Try.ntmps9, List.size_toArray, List.length_cons, List.length_nil, Nat.reduceAdd, Nat.reduceSub, Array.replicate_succ, Array.replicate_zero, List.push_toArray, List.append_toArray, List.nil_append, List.cons_append]
  refine wpIn_wide.2 ?_
  have hneq : ∀ (bs : Array Value) (w : World), Sem.run Try.prog (binOp BinOp.neq 69 (Value.func (.func 68) #[] bs) Value.nilFunc) w = .ok (.bool true) w := fun _ _ => by kernel_rfl
  go_wp2_with (first
    | (go_at_call 22; refine (none_pushFront _ _ _ _).mono ?_; rintro e w' ⟨rfl, rfl⟩)
    | (go_at_call 24; refine (none_pushBack _ _ _ _).mono ?_; rintro e w' ⟨rfl, rfl⟩)
    | (go_at_call 21; refine (none_trim _ _ _).mono ?_; rintro e w' ⟨rfl, rfl⟩)
    | (go_at_call 20; refine (none_at _).mono ?_; rintro e w' ⟨rfl, rfl⟩)
    | (go_at_call 26; refine (none_len _).mono ?_; rintro e w' ⟨rfl, rfl⟩)
    | (go_at_call 23; refine (none_popFront _).mono ?_; rintro e w' ⟨rfl, rfl⟩)
    | (go_at_call 25; refine (none_popBack _).mono ?_; rintro e w' ⟨rfl, rfl⟩)
    | (go_at_call 18; refine (none_slice _).mono ?_; rintro e w' ⟨rfl, rfl⟩)
    | (go_at_call 12; refine (none_find _).mono ?_; rintro e w' ⟨rfl, rfl⟩)
    | (go_at_call 16; refine (none_list _).mono ?_; rintro e w' ⟨rfl, rfl⟩)
    | (go_at_call 48; refine (none_put _).mono ?_; rintro e w' ⟨rfl, rfl⟩)
    | (go_at_call 15; refine (none_remove _).mono ?_; rintro e w' ⟨rfl, rfl⟩)
    | (go_at_call 17; refine (none_insert _).mono ?_; rintro e w' ⟨rfl, rfl⟩)
    | (go_at_call 47; refine (none_allIter _).mono ?_; rintro e w' ⟨rfl, rfl⟩))
  obtain ⟨W0, hW0⟩ : ∃ W0, ((((W.alloc (Obj.cells #[Value.bool false] 4)).alloc (Obj.cells #[Value.int IntKind.i64 1] 3)).alloc (Obj.cells #[Value.int IntKind.i64 1] 3)).alloc (Obj.cells #[Value.slice none 0 0] 22)) = W0 := ⟨_, rfl⟩
  have hB0 : Below W.heap.size W W0 := by rw [← hW0]; exact (((((Below.refl _ W).alloc (Nat.le_refl _) _).alloc (by simp) _).alloc (by simp; omega) _).alloc (by simp; omega) _)
  have bR := (((Boxed.new W 4 (.bool false)).alloc (Obj.cells #[Value.int IntKind.i64 1] 3)).alloc (Obj.cells #[Value.int IntKind.i64 1] 3)).alloc (Obj.cells #[Value.slice none 0 0] 22)
  rw [hW0] at bR
  have hs0 : W0.heap.size = W.heap.size + 4 := by rw [← hW0]; simp
  have bN := Boxed.new (((W.alloc (Obj.cells #[Value.bool false] 4)).alloc (Obj.cells #[Value.int IntKind.i64 1] 3)).alloc (Obj.cells #[Value.int IntKind.i64 1] 3)) 22 (.slice none 0 0)
  simp only [World.size_alloc, hW0] at bN
  have hcl := bN.cell
  rw [hW0]
  clear hW0
  refine (wpIn_wide (n := 4)).1 (wpIn_rangeFunc_ownF (α := Empty) rfl (by decide) (gf := 68) (lb := #[.pointer (some ⟨W.heap.size + 1 + 1 + 1, 0, none⟩)]) rfl trivial (enters_of Try.func68 (by kernel_rfl) rfl)
    (none_stops 3 (W.heap.size + 1 + 1 + 1) W0 (by omega) hcl) (fun _ _ => trivial) (fun _ _ _ _ _ _ _ _ => trivial) (Below.refl _ _) (fun x => x.elim)
    (fun pre W1 => (W1.cell? ⟨W.heap.size, 0, none⟩ = some (.bool false) ∧ W1.frozen? ⟨W.heap.size, 0, none⟩ = false) ∧ Below W.heap.size W W1)
    (fun _ _ _ => False)
    (OwnFrom.and (Own.from (fun s A B row hs hg hr => ⟨cell_kept hs.1 hg hr, (frozen_kept hs.1 hg hr).trans hs.2⟩) _) (ownFrom_below (Nat.le_refl _) (by omega)))
    (fun _ _ _ _ _ hs _ _ => hs) ⟨⟨bR.cell, bR.frozen⟩, hB0⟩ (fun x => x.elim) (fun _ x => x.elim) (fun _ _ x => x.elim) ?done (fun D c pre W1 _ _ h _ => h.elim))
  rintro D xs W1 hD _ ⟨⟨hcR, hfR⟩, hB1⟩ hK
  have hWD : W.heap.size ≤ D := by omega
  clear hneq bR bN hcl hs0 hB0
  have hr1 := hr.below hB1
  have hsz1 := hB1.size
  go_wp2_with (at_builtin; refine wpList_app rfl (.const (.slice none 0 0)) (.tmp 88) elI rfl W1.heap.size _ 0 [] rfl (World.ownsRow_nil _ _ _ _) A l.length c (ints l) rfl hr1 (ints_one l) (by unfold maxLen; omega) (by omega) (Nat.le_refl _) ?_; intro v2 w2 o2 b2 f2)
  have O2 : OwnI w2 W1.heap.size v2 l := by simpa [OwnI] using o2
  have B2 : Below W1.heap.size W1 w2 := b2.below (Nat.le_refl _) (fun b hb => by cases hb)
  clear o2 b2 f2 hr1
  obtain ⟨A2, c2, rfl⟩ := own_form O2
  refine (ofN_calls A2 _ c2 l w2 (Rd.of_own O2) (by omega)).mono ?_
  rintro e w3 ⟨g, v3, rfl, D3, b3⟩
  have O3 := own_keep O2 b3
  have B3 := below_new B2 b3
  have hlt2 := fun k hk => (O2.lt k hk).2
  have sW2 := B2.size
  have hge2 := fun k hk => (O2.lt k hk).1
  clear O2 B2 b3
  go_wp2_with fail
  refine (awake_calls w3).mono ?_
  rintro e w4 ⟨rfl, b4⟩
  have O4 := own_keep O3 b4
  have B4 := below_new B3 b4
  have D4 := D3.below b4
  clear O3 B3 D3 b4
  go_wp2_with fail
  go_loopw [11] (fun i wr => ∃ (j : Nat) (L : List Int), j ≤ l.length ∧ i = .int .i64 j ∧ L.length = l.length ∧ OwnI wr W1.heap.size (.slice A2 l.length c2) L ∧ Only (fun k => (Value.slice A2 l.length c2).ownBlock = some k) w4 wr) (fun i _ => l.length - (intOf i).toNat)
  case atStart => exact ⟨0, l, Nat.zero_le _, rfl, rfl, O4, Only.refl _ _⟩
  case round =>
    obtain ⟨j, L, h1, rfl, hL, OL, OO⟩ := hrel
    by_cases hlt : j < l.length
    · obtain ⟨b, x, rfl, cx, fx⟩ := own_at OL hlt
      go_wp2_with fail
      exact ⟨⟨j + 1, L.set j _, by omega, by go_num, by simp [hL], own_put OL _, OO.put (p := ⟨b, j, none⟩) (.inl rfl) _⟩, by simp [intOf]; omega⟩
    · obtain rfl : j = l.length := by omega
      have D5 := D4.only OO (fun e => by have := hlt2 g e; have := D4.ge; omega) (fun k hk e => by have := hlt2 k e; have := (D4.olt k hk).1; omega)
      have B5 : Below W1.heap.size W1 wr := OO.after B4 (Nat.le_refl _) (fun k e => hge2 k e)
      clear OL OO O4 D4 B4 hL
      generalize wr = w5 at D5 B5 ⊢
      go_wp2_with fail
      refine (list_calls w2.heap.size g v3 l w5 (D5.dq (by omega))).mono ?_
      rintro e w6 ⟨sa, rfl, Oa6, b6⟩
      have D6 := D5.below b6
      have B6 := below_new B5 b6
      obtain ⟨Aa, ca, rfl⟩ := own_form Oa6
      go_wp2_with fail
      refine (list_calls w2.heap.size g v3 l w6 (D6.dq (by omega))).mono ?_
      rintro e w7 ⟨sb, rfl, Ob7, b7⟩
      have D7 := D6.below b7
      have B7 := below_new B6 b7
      have Oa7 := own_keep Oa6 b7
      obtain ⟨Ab, cb, rfl⟩ := own_form Ob7
      go_wp2_with fail
      refine (slice_calls w2.heap.size g v3 l 0 (-1) w7 (D7.dq (by omega)) (by decide) (by decide) (by decide) (by decide)).mono ?_
      rintro e w8 ⟨sc, rfl, Oc8, b8⟩
      rw [piece_all] at Oc8
      have D8 := D7.below b8
      have B8 := below_new B7 b8
      have Oa8 := own_keep Oa7 b8
      have Ob8 := own_keep Ob7 b8
      obtain ⟨Ac, cc, rfl⟩ := own_form Oc8
      have la := Oa6.lt
      have lb := Ob7.lt
      have lc := Oc8.lt
      have lg := D5.lt
      have lo := D5.olt
      have s6 := b6.size
      have s7 := b7.size
      have s8 := b8.size
      have sW := B5.size
      clear D5 D6 D7 B5 B6 B7 Oa6 Oa7 Ob7 b6 b7 b8
      go_wp2_with fail
      go_loopw [15] (fun i wr => ∃ (j : Nat) (La Lc : List Int), j ≤ l.length ∧ i = .int .i64 j ∧ La.length = l.length ∧ Lc.length = l.length ∧ OwnI wr w5.heap.size (.slice Aa l.length ca) La ∧ OwnI wr w7.heap.size (.slice Ac l.length cc) Lc ∧
        Only (fun k => (Value.slice Aa l.length ca).ownBlock = some k ∨ (Value.slice Ac l.length cc).ownBlock = some k) w8 wr) (fun i _ => l.length - (intOf i).toNat)
      case atStart => exact ⟨0, l, l, Nat.zero_le _, rfl, rfl, rfl, Oa8, Oc8, Only.refl _ _⟩
      case round =>
        obtain ⟨j, La, Lc, h1, rfl, hLa, hLc, OA, OC, OO⟩ := hrel
        by_cases hlt : j < l.length
        · obtain ⟨ba, xa, rfl, ca1, fa1⟩ := own_at OA hlt
          obtain ⟨bc, xc, rfl, cc1, fc1⟩ := own_at OC hlt
          have ha := la ba rfl
          have hc := lc bc rfl
          have OA1 := own_put OA (j := j) 77
          have OC1 := put_apart (i := j) (u := .int .i64 77) OC (show bc ≠ ba by omega)
          obtain ⟨bc', xc', e, cc2, fc2⟩ := own_at OC1 hlt
          injection e with e; injection e with e; subst e
          have OC2 := own_put OC1 (j := j) 78
          have OA2 := put_apart (i := j) (u := .int .i64 78) OA1 (show ba ≠ bc by omega)
          go_wp2_with fail
          exact ⟨⟨j + 1, La.set j 77, Lc.set j 78, by omega, by go_num, by simp [hLa], by simp [hLc], OA2, OC2, (OO.put (p := ⟨ba, j, none⟩) (.inl (.inl rfl)) _).put (p := ⟨bc, j, none⟩) (.inl (.inr rfl)) _⟩, by simp [intOf]; omega⟩
        · obtain rfl : j = l.length := by omega
          have hA : ∀ k, (Value.slice Aa l.length ca).ownBlock = some k ∨ (Value.slice Ac l.length cc).ownBlock = some k → (w5.heap.size ≤ k ∧ k < w6.heap.size) ∨ (w7.heap.size ≤ k ∧ k < w8.heap.size) := fun k hk => hk.elim (fun h => .inl (la k h)) (fun h => .inr (lc k h))
          have D9 := D8.only OO (fun e => by have := hA g e; omega) (fun k hk e => by have := hA k e; have := lo k hk; omega)
          have Ob9 := own_only Ob8 OO (fun k hk e => by have := hA k e; have := lb k hk; omega)
          have B9 : Below W1.heap.size W1 wr := OO.after B8 (Nat.le_refl _) (fun k e => by have := hA k e; omega)
          have hs9 := OO.size
          clear Oa8 Ob8 Oc8 D8 B8 OO
          generalize wr = w9 at OA OC D9 Ob9 B9 hs9 ⊢
          go_wp2_with fail
          go_loopw [12, 14, 16] (fun av cv i wr => ∃ (j : Nat) (La Lc : List Int), j ≤ 9 ∧ i = .int .i64 j ∧ La.length = l.length + j ∧ Lc.length = l.length + j ∧ OwnI wr w5.heap.size av La ∧ OwnI wr w7.heap.size cv Lc ∧ (∀ k, av.ownBlock = some k → cv.ownBlock ≠ some k) ∧
            Only (fun k => (Value.slice Aa l.length ca).ownBlock = some k ∨ (Value.slice Ac l.length cc).ownBlock = some k) w9 wr ∧ (∀ k, av.ownBlock = some k → (Value.slice Aa l.length ca).ownBlock = some k ∨ w9.heap.size ≤ k) ∧ (∀ k, cv.ownBlock = some k → (Value.slice Ac l.length cc).ownBlock = some k ∨ w9.heap.size ≤ k)) (fun _ _ i _ => 9 - (intOf i).toNat)
          case atStart => exact ⟨0, La, Lc, by omega, rfl, hLa, hLc, OA, OC, fun k hk e => by have := la k hk; have := lc k e; omega, Only.refl _ _, fun k hk => .inl hk, fun k hk => .inl hk⟩
          case round =>
            clear OA OC hLa hLc
            obtain ⟨j, La, Lc, h1, rfl, hLa, hLc, OA, OC, hdis, OO, hav, hcv⟩ := hrel
            by_cases hlt : j < 9
            · have hw9 := OO.size
              obtain ⟨Av, cav, rfl⟩ := own_form OA
              obtain ⟨Cv, ccv, rfl⟩ := own_form OC
              have HLa := Lib.hid hLa
              have HLc := Lib.hid hLc
              clear hLa hLc
              go_wp2_with (first
                | (at_builtin; refine wpList_app1 rfl (.tmp 132) (.tmp 133) elI rfl w5.heap.size _ La.length (ints La) rfl OA (.int .i64 79) rfl rfl (by have := HLa.out; unfold maxLen; omega) (by have := HLa.out; omega) (by omega) ?_; intro va wa oa ba fa; have oc1 := own_only OC ba (fun k hk e => hdis k e hk); have hwa := ba.size)
                | (at_builtin; refine wpList_app1 rfl (.tmp 135) (.tmp 136) elI rfl w7.heap.size _ Lc.length (ints Lc) rfl oc1 (.int .i64 80) rfl rfl (by have := HLc.out; unfold maxLen; omega) (by have := HLc.out; omega) (by omega) ?_; intro vc wc oc bc fc))
              obtain ⟨r1, r2, r3, r4, r5⟩ := two_app OA OC hdis (own_snoc oa) ba fa (own_snoc oc) bc fc
              exact ⟨⟨j + 1, La ++ [79], Lc ++ [80], by omega, by go_num, by have := HLa.out; simp; omega, by have := HLc.out; simp; omega, r1, own_snoc oc, r2, OO.trans r3 (fun b hb => hb.elim (fun h => (hav b h).elim (fun h => .inl (.inl h)) .inr) (fun h => (hcv b h).elim (fun h => .inl (.inr h)) .inr)),
                fun k hk => (r4 k hk).elim (hav k) (fun h => .inr (by omega)), fun k hk => (r5 k hk).elim (hcv k) (fun h => .inr (by omega))⟩, by simp [intOf]; omega⟩
            · obtain rfl : j = 9 := by omega
              have D10 := D9.only OO (fun e => by have := hA g e; omega) (fun k hk e => by have := hA k e; have := lo k hk; omega)
              have Ob10 := own_only Ob9 OO (fun k hk e => by have := hA k e; have := lb k hk; omega)
              have B10 : Below W1.heap.size W1 wr := OO.after B9 (Nat.le_refl _) (fun k e => by have := hA k e; omega)
              have hs10 := OO.size
              clear OA OC OO D9 Ob9 B9 hdis hav hcv hLa hLc
              generalize wr = w10 at D10 Ob10 B10 hs10 ⊢
              go_wp2_with fail
              refine (pop_calls A _ c l m w10 (hr.below (below_new hB1 B10)) hn).mono ?_
              rintro e w11 ⟨s1, s2, rfl, Og, Ol, b11⟩
              have D11 := D10.below b11
              have Ob11 := own_keep Ob10 b11
              have B11 := below_new B10 b11
              have s11 := b11.size
              obtain ⟨T, hT⟩ : ∃ T, T = l.take (popN l.length m) := ⟨_, rfl⟩
              obtain ⟨U, hU⟩ : ∃ U, U = l.drop (popN l.length m) := ⟨_, rfl⟩
              have hTl : T.length ≤ 1048576 := by rw [hT, List.length_take]; omega
              have hUl : U.length ≤ 1048576 := by rw [hU, List.length_drop]; omega
              rw [← hT] at Og
              rw [← hU] at Ol
              have HT := Lib.hid hT
              have HU := Lib.hid hU
              obtain ⟨Ag, cg, rfl⟩ := own_form Og
              obtain ⟨Al, cl, rfl⟩ := own_form Ol
              have lg2 := Og.lt
              have ll := Ol.lt
              clear hT hU D10 Ob10 B10 b11
              go_wp2_with fail
              refine (popFront_same w2.heap.size g _ v3 l m w11 D11 (by omega) m1 m2).mono ?_
              rintro e w12 ⟨p, rfl, Op, v12, D12, O12, hv12⟩
              rw [← HT.out] at Op
              rw [← HU.out] at D12
              obtain ⟨Ap, cp, rfl⟩ := own_form Op
              have lp := Op.lt
              have hge := D11.ge
              have hP : ∀ k, (k = g ∨ v3.ownBlock = some k) → w2.heap.size ≤ k ∧ k < w5.heap.size := fun k hk => hk.elim (fun h => by subst h; exact ⟨hge, lg⟩) (fun h => lo k h)
              have Og12 := own_only Og O12 (fun k hk e => by have := lg2 k hk; have := hP k e; omega)
              have Ol12 := own_only Ol O12 (fun k hk e => by have := ll k hk; have := hP k e; omega)
              have Ob12 := own_only Ob11 O12 (fun k hk e => by have := lb k hk; have := hP k e; omega)
              have B12 : Below W1.heap.size W1 w12 := O12.after B11 (Nat.le_refl _) (fun k e => by have := hP k e; omega)
              have s12 := O12.size
              have lo12 : ∀ k, v12.ownBlock = some k → k < w5.heap.size := fun k hk => (lo k (hv12 ▸ hk)).2
              clear Og Ol D11 Ob11 B11 O12
              go_wp2_with fail
              refine (same_calls Ap Ag _ _ cp cg T T _ (Rd.of_own Op) (Rd.of_own Og12)).mono ?_
              rintro e w13 ⟨rfl, nd13, rfl⟩
              have b13 : Below w12.heap.size w12 (w12.drewN nd13) := below_drawn (Below.refl _ _) nd13
              have D13 := D12.drawn nd13
              have B13 := below_drawn B12 nd13
              have Ol13 := own_keep Ol12 b13
              have Ob13 := own_keep Ob12 b13
              have Op13 := own_keep Op b13
              have s13 : w12.heap.size ≤ (w12.drewN nd13).heap.size := b13.size
              clear Og12 D12 B12 Ol12 Ob12 Op b13
              generalize w12.drewN nd13 = w13 at D13 B13 Ol13 Ob13 Op13 s13 ⊢
              go_wp2_with fail
              go_loopw [20] (fun i wr => ∃ (j : Nat) (L : List Int), j ≤ T.length ∧ i = .int .i64 j ∧ L.length = T.length ∧ OwnI wr w11.heap.size (.slice Ap T.length cp) L ∧ Only (fun k => (Value.slice Ap T.length cp).ownBlock = some k) w13 wr) (fun i _ => T.length - (intOf i).toNat)
              case atStart => exact ⟨0, T, Nat.zero_le _, rfl, rfl, Op13, Only.refl _ _⟩
              case round =>
                obtain ⟨j, L, h1, rfl, hL, OL, OO⟩ := hrel
                by_cases hlt : j < T.length
                · obtain ⟨b, x, rfl, cx, fx⟩ := own_at OL hlt
                  go_wp2_with fail
                  exact ⟨⟨j + 1, L.set j _, by omega, by go_num, by simp [hL], own_put OL _, OO.put (p := ⟨b, j, none⟩) (.inl rfl) _⟩, by simp [intOf]; omega⟩
                · obtain rfl : j = T.length := by omega
                  have D14 := D13.only OO (fun e => by have := lp g e; omega) (fun k hk e => by have := lp k e; have := lo12 k hk; omega)
                  have Ob14 := own_only Ob13 OO (fun k hk e => by have := lp k e; have := lb k hk; omega)
                  have Ol14 := own_only Ol13 OO (fun k hk e => by have := lp k e; have := ll k hk; omega)
                  have B14 : Below W1.heap.size W1 wr := OO.after B13 (Nat.le_refl _) (fun k e => by have := lp k e; omega)
                  have s14 := OO.size
                  clear D13 Ob13 Ol13 B13 OO Op13
                  generalize wr = w14 at OL D14 Ob14 Ol14 B14 s14 ⊢
                  go_wp2_with fail
                  go_loopw [19, 21] (fun pv i wr => ∃ (j : Nat) (L : List Int), j ≤ 9 ∧ i = .int .i64 j ∧ L.length = T.length + j ∧ OwnI wr w11.heap.size pv L ∧ Only (fun k => (Value.slice Ap T.length cp).ownBlock = some k) w14 wr ∧ (∀ k, pv.ownBlock = some k → (Value.slice Ap T.length cp).ownBlock = some k ∨ w14.heap.size ≤ k)) (fun _ i _ => 9 - (intOf i).toNat)
                  case atStart => exact ⟨0, L, by omega, rfl, hL, OL, Only.refl _ _, fun k hk => .inl hk⟩
                  case round =>
                    clear OL hL
                    obtain ⟨j, L, h1, rfl, hL, OL, OO, hpv⟩ := hrel
                    by_cases hlt : j < 9
                    · have hw14 := OO.size
                      obtain ⟨Av, cav, rfl⟩ := own_form OL
                      have HL := Lib.hid hL
                      clear hL
                      go_wp2_with (at_builtin; refine wpList_app1 rfl (.tmp 164) (.tmp 165) elI rfl w11.heap.size _ L.length (ints L) rfl OL (.int .i64 82) rfl rfl (by have := HL.out; unfold maxLen; omega) (by have := HL.out; omega) (by omega) ?_; intro va wa oa ba fa)
                      exact ⟨⟨j + 1, L ++ [82], by omega, by go_num, by have := HL.out; simp; omega, own_snoc oa, OO.trans ba (fun b hb => (hpv b hb).elim .inl .inr), fun k hk => fa.elim (fun h => hpv k (h ▸ hk)) (fun ⟨k', h, hk'⟩ => .inr (by rw [h] at hk; injection hk with hk; omega))⟩, by simp [intOf]; omega⟩
                    · obtain rfl : j = 9 := by omega
                      have D15 := D14.only OO (fun e => by have := lp g e; omega) (fun k hk e => by have := lp k e; have := lo12 k hk; omega)
                      have Ob15 := own_only Ob14 OO (fun k hk e => by have := lp k e; have := lb k hk; omega)
                      have Ol15 := own_only Ol14 OO (fun k hk e => by have := lp k e; have := ll k hk; omega)
                      have B15 : Below W1.heap.size W1 wr := OO.after B14 (Nat.le_refl _) (fun k e => by have := lp k e; omega)
                      clear D14 Ob14 Ol14 B14 OO OL hpv hL
                      generalize wr = w15 at D15 Ob15 Ol15 B15 ⊢
                      go_wp2_with fail
                      refine (same_calls Ab A _ _ cb c l l _ (Rd.of_own Ob15) (hr.below (below_new hB1 B15))).mono ?_
                      rintro e w16 ⟨rfl, nd16, rfl⟩
                      have b16 : Below w15.heap.size w15 (w15.drewN nd16) := below_drawn (Below.refl _ _) nd16
                      have D16 := D15.drawn nd16
                      have B16 := below_drawn B15 nd16
                      have Ol16 := own_keep Ol15 b16
                      clear D15 Ob15 Ol15 B15 b16
                      generalize w15.drewN nd16 = w16 at D16 B16 Ol16 ⊢
                      go_wp2_with fail
                      refine (list_calls w2.heap.size g v12 U w16 (D16.dq (by omega))).mono ?_
                      rintro e w17 ⟨s17, rfl, O17, b17⟩
                      have B17 := below_new B16 b17
                      have Ol17 := own_keep Ol16 b17
                      obtain ⟨A17, c17, rfl⟩ := own_form O17
                      clear D16 B16 Ol16 b17
                      go_wp2_with fail
                      refine (same_calls A17 Al _ _ c17 cl U U _ (Rd.of_own O17) (Rd.of_own Ol17)).mono ?_
                      rintro e w18 ⟨rfl, nd18, rfl⟩
                      have B18 := below_drawn B17 nd18
                      clear B17 Ol17 O17
                      generalize w17.drewN nd18 = w18 at B18 ⊢
                      have hRl : W.heap.size < W1.heap.size := by
                        rcases Nat.lt_or_ge W.heap.size W1.heap.size with h | h
                        · exact h
                        · simp [World.cell?, Array.getElem?_eq_none h] at hcR
                      have hDl : D < W1.heap.size := (Array.getElem?_eq_some_iff.1 hK).1
                      have cR := (B18.cell (p := ⟨W.heap.size, 0, none⟩) hRl).trans hcR
                      have fR : w18.frozen? ⟨W.heap.size, 0, none⟩ = false := (World.frozen?_of_block (a := ⟨W.heap.size, 0, none⟩) (B18.block _ hRl)).trans hfR
                      have K18 := (B18.block D hDl).trans hK
                      go_wp2_with fail
                      have hK' := (KeepsOthers.setCell w18 ⟨W.heap.size, 0, none⟩ (.bool true)).same D _ K18 rfl
                      refine ⟨by simp, .inl ⟨_, _, rfl, run_takeDeferred hK', ?_⟩⟩
                      have hc5 := cell_kept (World.cell?_setCell_same' w18 ⟨W.heap.size, 0, none⟩ (.bool true) (by rw [cR]; rfl)) (grownBy_putObj' _ D (.deferred none)) (fun r e => by cases e; exact ⟨_, hK', rfl⟩)
                      refine ⟨.bool true, ?_, rfl, ((below_new hB1 B18).setCell (p := ⟨W.heap.size, 0, none⟩) (Nat.le_refl _) _).trans (belowK_b (w := W) (Nat.le_refl _) _ D _ _ hWD hK' rfl rfl)⟩
                      simp [results, Try.f9, go_sem, hc5]
end Go.Proofs.Ytgbgdgncdanblaa.DqT
