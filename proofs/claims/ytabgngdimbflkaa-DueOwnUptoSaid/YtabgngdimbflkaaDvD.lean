/-
  The walk of DueOwn, for scripts of bulk at most 1048576. Conditions: as stated.
-/
import Derived.Test.YtabgngdimbflkaaDvC
set_option maxRecDepth 100000
set_option linter.unusedSimpArgs false
set_option linter.unusedVariables false
namespace Go.Proofs.Ytabgngdimbflkaa.DvD
open Go.RowKit Go.Shelf Go.Proofs.Ytabgngdimbflkaa.Mem Go.Proofs.Ytabgngdimbflkaa.DuA Go.Proofs.Ytabgngdimbflkaa.DuM Go.Proofs.Ytabgngdimbflkaa.DuN Go.Proofs.Ytabgngdimbflkaa.DuB Go.Proofs.Ytabgngdimbflkaa.DuO Go.Proofs.Ytabgngdimbflkaa.DsC Go.Proofs.Ytabgngdimbflkaa.DsH Go.Proofs.Ytabgngdimbflkaa.DsI Go.Proofs.Ytabgngdimbflkaa.DsJ Go.Proofs.Ytabgngdimbflkaa.DsK Go.Proofs.Ytabgngdimbflkaa.DsL Go.Proofs.Ytabgngdimbflkaa.DsM Go.Proofs.Ytabgngdimbflkaa.DuR Go.Proofs.Ytabgngdimbflkaa.DuS Go.Proofs.Ytabgngdimbflkaa.DuT Go.Proofs.Ytabgngdimbflkaa.DuU Go.Proofs.Ytabgngdimbflkaa.DuV Go.Proofs.Ytabgngdimbflkaa.DuW Go.Proofs.Ytabgngdimbflkaa.DuX Go.Proofs.Ytabgngdimbflkaa.DuY Go.Proofs.Ytabgngdimbflkaa.DuP Go.Proofs.Ytabgngdimbflkaa.DvA Go.Proofs.Ytabgngdimbflkaa.DvB Go.Proofs.Ytabgngdimbflkaa.DvC
attribute [local go_sem] Oper.semAt_some

/-- What the last region asks. -/
abbrev Hs (R h : Nat) (A : Option Addr) (n c : Nat) (w : World) : Prop := w.cell? ⟨h, 0, none⟩ = some (.slice A n c) ∧ ∃ u, Boxed w R 4 u
theorem hs_set {R h : Nat} {A : Option Addr} {n c : Nat} {w : World} (hs : Hs R h A n c w) (hne : h ≠ R) (u : Value) : Hs R h A n c (w.setCell ⟨R, 0, none⟩ u) := by
  obtain ⟨h1, v, h2⟩ := hs
  exact ⟨((Only.refl (fun k => k = R) w).put (p := ⟨R, 0, none⟩) (.inl rfl) u).cell h1 hne, u, Boxed.set u h2⟩
set_option maxHeartbeats 2000000 in
theorem own_calls (AD : Option Addr) (nD cD : Nat) (ds : List De) (now : Int) (W : World) (hD : RdD W AD nD cD ds) (hb : ds.length ≤ 1048576) :
    Calls Try.prog 7 #[.slice AD nD cD, .int .i64 now] W fun e w' => e = .returned (.bool true) ∧ Below W.heap.size W w' := by
  obtain rfl := hD.len
  refine (callsIn_wide (n := 4)).1 ?_
  refine callsIn_of_wp_marks Try.func7 rfl trivial ?_ rfl
  simp only [Try.ntmps7, List.size_toArray, List.length_cons, List.length_nil, Nat.reduceAdd, Nat.reduceSub, Array.replicate_succ, Array.replicate_zero, List.push_toArray, List.append_toArray, List.nil_append, List.cons_append]
  refine wpIn_wide.2 ?_
  have hneq : ∀ (bs : Array Value) (w : World), Sem.run Try.prog (binOp BinOp.neq 40 (Value.func (.func 34) #[] bs) Value.nilFunc) w = .ok (.bool true) w := fun _ _ => by kernel_rfl
  go_wp2_with (first
    | (go_at_call 15; refine (none_next _).mono ?_; rintro e w' ⟨rfl, rfl⟩)
    | (go_at_call 26; refine (none_due _ _).mono ?_; rintro e w' ⟨rfl, rfl⟩)
    | (go_at_call 27; refine (none_set _ _).mono ?_; rintro e w' ⟨rfl, rfl⟩)
    | (go_at_call 28; refine (none_drop _ _).mono ?_; rintro e w' ⟨rfl, rfl⟩)
    | (go_at_call 29; refine (none_len _).mono ?_; rintro e w' ⟨rfl, rfl⟩)
    | (go_at_call 11; refine (none_peek _ _ _).mono ?_; rintro e w' ⟨rfl, rfl⟩)
    | (go_at_call 14; refine (none_take _ _ _).mono ?_; rintro e w' ⟨rfl, rfl⟩)
    | (go_at_call 16; refine (none_allIter _).mono ?_; rintro e w' ⟨rfl, rfl⟩))
  obtain ⟨W0, hW0⟩ : ∃ W0, ((W.alloc (Obj.cells #[Value.bool false] 4)).alloc (Obj.cells #[Value.slice none 0 0] 69)) = W0 := ⟨_, rfl⟩
  have hB0 : Below W.heap.size W W0 := by rw [← hW0]; exact (((Below.refl _ W).alloc (Nat.le_refl _) _).alloc (by simp) _)
  have bR := (Boxed.new W 4 (.bool false)).alloc (Obj.cells #[Value.slice none 0 0] 69)
  rw [hW0] at bR
  have hs0 : W0.heap.size = W.heap.size + 2 := by rw [← hW0]; simp
  have bN := Boxed.new (W.alloc (Obj.cells #[Value.bool false] 4)) 69 (.slice none 0 0)
  simp only [World.size_alloc, hW0] at bN
  have hcl := bN.cell
  rw [hW0]
  clear hW0
  refine (wpIn_wide (n := 4)).1 (wpIn_rangeFunc_ownF (α := Empty) rfl (by decide) (gf := 34) (lb := #[.pointer (some ⟨W.heap.size + 1, 0, none⟩)]) rfl trivial (enters_of Try.func34 (by kernel_rfl) rfl)
    (none_stops 3 (W.heap.size + 1) W0 (by omega) hcl) (fun _ _ => trivial) (fun _ _ _ _ _ _ _ _ => trivial) (Below.refl _ _) (fun x => x.elim)
    (fun pre W1 => Boxed W1 W.heap.size 4 (.bool false) ∧ Below W.heap.size W W1)
    (fun _ _ _ => False)
    (OwnFrom.and (Own.from (fun s A B row hs hg hr => boxed_own W.heap.size 4 (fun _ : List Empty => .bool false) s A B row hs hg hr) _) (ownFrom_below (Nat.le_refl _) (by omega)))
    (fun _ _ _ _ _ hs _ _ => hs) ⟨bR, hB0⟩ (fun x => x.elim) (fun _ x => x.elim) (fun _ _ x => x.elim) ?done (fun D c pre W1 _ _ h _ => h.elim))
  rintro D xs W1 hDD _ ⟨bR1, hB1⟩ hK
  have hWD : W.heap.size ≤ D := by omega
  have hRl : W.heap.size < W1.heap.size := bR1.lt
  have hDl : D < W1.heap.size := (Array.getElem?_eq_some_iff.1 hK).1
  have KR := Lib.hid (And.intro bR1 hK)
  clear hneq bR bN hcl hs0 hB0 bR1 hK
  go_wp2_with fail
  refine (new_calls W1).mono ?_
  rintro e w1 ⟨g, m, rfl, h1, b1⟩
  have bo2 := bo_new h1 b1.size
  have B2 := b1.alloc b1.size (.cells #[.slice none 0 0] 28)
  obtain ⟨h, hh⟩ : ∃ h, w1.heap.size = h := ⟨_, rfl⟩
  obtain ⟨w2, hw2⟩ : ∃ w2, w1.alloc (.cells #[.slice none 0 0] 28) = w2 := ⟨_, rfl⟩
  rw [hw2] at bo2 B2
  rw [hh] at bo2
  have S2 : Sw W1 g m h 0 w2 (.slice none 0 0) [] none 0 := ⟨bo2, B2⟩
  clear h1 b1 bo2 B2
  go_wp2_with fail
  refine (awake_calls w2).mono ?_
  rintro e w3 ⟨rfl, b3⟩
  have S3 := S2.below b3
  clear S2 b3 hw2 hh
  go_wp2_with fail
  go_loopw [14] (fun i wr => ∃ (k : Nat) (v : Value) (l : List (Int × ByteArray)) (A : Option Addr) (c : Nat), k ≤ ds.length ∧ i = .int .i64 k ∧ Sw W1 g m h k wr v l A c) (fun i _ => ds.length - (intOf i).toNat)
  case atStart => exact ⟨0, _, _, _, _, Nat.zero_le _, rfl, S3⟩
  case round =>
    obtain ⟨k, v, l, A, c, hk, rfl, S⟩ := hrel
    by_cases hlt : k < ds.length
    · obtain ⟨x, hx⟩ : ∃ x, ds[k]? = some x := ⟨_, List.getElem?_eq_getElem hlt⟩
      obtain ⟨p, rfl, k0, k1, k2, k3⟩ := hD.at_ (hB1.trans (S.bel.mono hB1.size)) hx
      have hok := hD.ok x (List.mem_of_getElem? hx)
      clear hx
      go_wp2_with fail
      refine (do_calls W1.heap.size g m v l h A c k x.key x.n x.m wr x.kind S.bo S.bel.size hok (by omega)).mono ?_
      intro e w4 d4
      obtain ⟨rfl, v4, l4, A4, c4, S4⟩ := S.did d4
      clear k0 k1 k2 k3 S d4
      go_wp2_with fail
      exact ⟨⟨k + 1, v4, l4, A4, c4, by omega, by go_num, S4⟩, by simp [intOf]; omega⟩
    · obtain rfl : k = ds.length := by omega
      generalize wr = w4 at S ⊢
      have hll := S.bo.x.len
      obtain ⟨L, hL⟩ : ∃ L, peekL l now 1099511627776 = L := ⟨_, rfl⟩
      have hp1 := fun w' (y : Ix w' W1.heap.size g m v l ds.length) => peek_calls W1.heap.size g m v l ds.length now 1099511627776 w' y (by omega)
      have hp2 := fun w' (y : Yx w' W1.heap.size h A c l) => peekR_calls W1.heap.size h c A l now 1099511627776 w' y (by omega)
      have htk := fun w' (y : Ix w' W1.heap.size g m v l ds.length) (hB : W1.heap.size ≤ w'.heap.size) => take_calls W1.heap.size g m v l ds.length now 1099511627776 w' y hB (by omega)
      have hTl : takeL l now 1099511627776 = l.drop L.length := by rw [← hL, peekL_len]; rfl
      have hLb : L.length ≤ l.length := by rw [← hL, peekL_len]; exact (peek_le now l _).1
      rw [hL] at hp1 hp2 htk
      rw [hTl] at htk
      clear hL hTl
      have hLb2 : L.length ≤ 1048576 := by omega
      go_wp2_with fail
      refine (hp1 w4 S.bo.x).mono ?_
      rintro e w5 ⟨s5, rfl, o5, b5⟩
      obtain ⟨A5, c5, rfl⟩ := own_form o5
      have S5 := S.below b5
      go_wp2_with fail
      refine (hp1 w5 S5.bo.x).mono ?_
      rintro e w6 ⟨s6, rfl, o6, b6⟩
      obtain ⟨A6, c6, rfl⟩ := own_form o6
      have S6 := S5.below b6
      have a6 := own_keep o5 b6
      go_wp2_with fail
      refine (hp2 w6 S6.bo.y).mono ?_
      rintro e w7 ⟨s7, rfl, o7, b7⟩
      obtain ⟨A7, c7, rfl⟩ := own_form o7
      have S7 := S6.below b7
      have a7 := own_keep a6 b7
      have bb7 := own_keep o6 b7
      have la := o5.lt
      have lb := o6.lt
      have lw := o7.lt
      have q5 := b5.size
      have q6 := b6.size
      have q7 := b7.size
      have qS := S.bel.size
      have lx := S.bo.x.lt
      have ly := S.bo.y.lt
      have lA := S.bo.y.nh
      clear hp1 hp2 S S5 S6 o5 o6 b5 b6 b7 a6
      go_wp2_with fail
      go_loopw [18] (fun i wr' => ∃ (j : Nat) (La : List ByteArray), j ≤ L.length ∧ i = .int .i64 j ∧ La.length = L.length ∧ OwnKs wr' w4.heap.size (.slice A5 L.length c5) La ∧ Only (fun k => (Value.slice A5 L.length c5).ownBlock = some k) w7 wr') (fun i _ => L.length - (intOf i).toNat)
      case atStart => exact ⟨0, L, Nat.zero_le _, rfl, rfl, a7, Only.refl _ _⟩
      case round =>
        obtain ⟨j, La, h1, rfl, hLa, OA, OO⟩ := hrel
        have HLa := Lib.hid hLa
        clear hLa
        by_cases hlt : j < L.length
        · obtain ⟨b, x, rfl, cx, fx⟩ := own_at OA hlt
          go_wp2_with fail
          exact ⟨⟨j + 1, La.set j _, by omega, by go_num, by have := HLa.out; simp [this], own_put OA _, OO.put (p := ⟨b, j, none⟩) (.inl rfl) _⟩, by simp [intOf]; omega⟩
        · obtain rfl : j = L.length := by omega
          have hA : ∀ k, (Value.slice A5 L.length c5).ownBlock = some k → w4.heap.size ≤ k ∧ k < w5.heap.size := la
          have S8 : Sw W1 g m h ds.length wr v l A c := ⟨⟨S7.bo.x.only OO (fun k hx e => by have := hA k e; have := lx k hx; omega), S7.bo.y.only OO (fun e => by have := hA h e; omega) (fun ad e e' => by have := hA _ e'; have := (lA ad e).2; omega), S7.bo.ap, S7.bo.ar⟩, OO.after S7.bel (Nat.le_refl _) (fun k e => by have := hA k e; omega)⟩
          have b8 := own_only bb7 OO (fun k hk e => by have := hA k e; have := lb k hk; omega)
          have w8 := own_only o7 OO (fun k hk e => by have := hA k e; have := lw k hk; omega)
          have hs8 := OO.size
          clear S7 bb7 o7 OO a7
          generalize wr = wr8 at OA S8 b8 w8 hs8 ⊢
          go_wp2_with fail
          go_loopw [15, 19] (fun av i wr => ∃ (j : Nat) (La : List ByteArray), j ≤ 9 ∧ i = .int .i64 j ∧ La.length = L.length + j ∧ OwnKs wr w4.heap.size av La ∧ Only (fun k => (Value.slice A5 L.length c5).ownBlock = some k) wr8 wr ∧ (∀ k, av.ownBlock = some k → (Value.slice A5 L.length c5).ownBlock = some k ∨ wr8.heap.size ≤ k)) (fun _ i _ => 9 - (intOf i).toNat)
          case atStart => exact ⟨0, La, by omega, rfl, HLa.out, OA, Only.refl _ _, fun k hk => .inl hk⟩
          case round =>
            clear OA HLa
            obtain ⟨j, La, h1, rfl, hLa, OA, OO, hav⟩ := hrel
            by_cases hlt : j < 9
            · have hw9 := OO.size
              obtain ⟨Av, cav, rfl⟩ := own_form OA
              have HLa := Lib.hid hLa
              clear hLa
              go_wp2_with (at_builtin; refine wpList_app1b rfl _ _ elKs rfl w4.heap.size _ La.length (keysV La) rfl OA (.string _) rfl _ rfl rfl (by have := HLa.out; unfold maxLen; omega) (by have := HLa.out; omega) (by omega) ?_; intro va wa oa ba fa)
              exact ⟨⟨j + 1, La ++ [_], by omega, by go_num, by have := HLa.out; simp; omega, own_snoc oa, OO.trans ba (fun b hb => Or.elim (hav b hb) .inl .inr),
                fun k hk => Or.elim fa (fun f => hav k (f ▸ hk)) (fun ⟨k', f, hk'⟩ => .inr (by rw [f] at hk; injection hk with hk; omega))⟩, by simp [intOf]; omega⟩
            · obtain rfl : j = 9 := by omega
              have S9 : Sw W1 g m h ds.length wr v l A c := ⟨⟨S8.bo.x.only OO (fun k hx e => by have := hA k e; have := lx k hx; omega), S8.bo.y.only OO (fun e => by have := hA h e; omega) (fun ad e e' => by have := hA _ e'; have := (lA ad e).2; omega), S8.bo.ap, S8.bo.ar⟩, OO.after S8.bel (Nat.le_refl _) (fun k e => by have := hA k e; omega)⟩
              have b9 := own_only b8 OO (fun k hk e => by have := hA k e; have := lb k hk; omega)
              have w9 := own_only w8 OO (fun k hk e => by have := hA k e; have := lw k hk; omega)
              have hs9 := OO.size
              clear S8 b8 w8 OO OA hLa hav
              generalize wr = wr9 at S9 b9 w9 hs9 ⊢
              go_wp2_with fail
              refine (htk wr9 S9.bo.x S9.bel.size).mono ?_
              rintro e w10 ⟨s10, rfl, o10, T⟩
              obtain ⟨A10, c10, rfl⟩ := own_form o10
              obtain ⟨v10, bo10, hv10, O10⟩ := S9.bo.turn T
              have b10 := own_only b9 O10 (fun k hk e => by have := lx k e; have := lb k hk; omega)
              have w10' := own_only w9 O10 (fun k hk e => by have := lx k e; have := lw k hk; omega)
              have B10 := O10.after S9.bel (Nat.le_refl _) (fun k hk => (S9.bo.x.lt k hk).1)
              have BW := hB1.trans (B10.mono hB1.size)
              obtain ⟨bR1, hK⟩ := KR.out
              have K10 := (B10.block D hDl).trans hK
              have bR : Boxed w10 W.heap.size 4 (.bool false) := (B10.block _ hRl).trans bR1
              clear S9 b9 w9 T htk B10 bR1 hK
              obtain ⟨cy, -⟩ := bo10.y.cell
              have o10' := o10
              have HS : Hs W.heap.size h A l.length c w10.drew := ⟨cy, _, bR⟩
              have hln := fun w' (y : Ix w' W1.heap.size g m v10 (l.drop L.length) ds.length) => len_calls W1.heap.size g m v10 (l.drop L.length) ds.length w' y
              have hlen : (((l.drop L.length).length : Nat) : Int) = (l.length : Int) - (L.length : Int) := by rw [List.length_drop]; omega
              rw [hlen] at hln
              have hne : h ≠ W.heap.size := by have := bo10.y.hB; omega
              have hwr : IntKind.i64.wrap ((l.length : Int) - (L.length : Int)) = (l.length : Int) - (L.length : Int) := by rw [IntKind.wrap_i64]; omega
              have hq : (((l.length : Int) - (L.length : Int)) == ((l.length : Int) - (L.length : Int))) = true := by simp
              go_wp2_with fail
              go_region_held3 (fun w' => Hs W.heap.size h A l.length c w')
                (first
                  | exact HS
                  | assumption
                  | exact hs_set (by assumption) hne _)
                (first
                  | (go_at_call_of 12 (Value.slice A6 L.length c6); refine (texts_same A6 _ c6 L A7 _ c7 w10.drew (Rd.of_own (own_keep b10 ((Below.refl _ _).drew))) (Rd.of_own (own_keep w10' ((Below.refl _ _).drew)))).mono ?_; rintro e w11 ⟨rfl, nd11, hw11⟩; have b11 : Below w10.heap.size w10 w11 := (by rw [hw11]; exact below_drawn_ ((Below.refl w10.heap.size w10).drew) nd11); have HS11 : Hs W.heap.size h A l.length c w11 := (by rw [hw11]; exact HS); clear hw11)
                  | (go_at_call_of 12 (Value.slice A10 L.length c10); refine (texts_same A10 _ c10 L A7 _ c7 w11 (Rd.of_own (own_keep o10' b11)) (Rd.of_own (own_keep w10' b11))).mono ?_; rintro e w12 ⟨rfl, nd12, hw12⟩; have b12 : Below w10.heap.size w10 w12 := (by rw [hw12]; exact below_drawn_ b11 nd12); have HS12 : Hs W.heap.size h A l.length c w12 := (by rw [hw12]; exact HS11); clear hw12)
                  | (go_at_call 29; refine (hln w12 (bo10.x.below b12)).mono ?_; rintro e w13 ⟨rfl, hw13⟩; subst hw13; obtain ⟨u13, B13⟩ := HS12.2; have c13 := B13.cell; have f13 := B13.frozen))
              go_wp2_with fail
              have K13 := (b12.block D (by have := BW.size; have := (Array.getElem?_eq_some_iff.1 K10).1; omega)).trans K10
              have BW13 := BW.trans (b12.mono BW.size)
              have hK' := (KeepsOthers.setCell w13 ⟨W.heap.size, 0, none⟩ (.bool true)).same D _ K13 rfl
              refine ⟨by simp, .inl ⟨_, _, rfl, run_takeDeferred hK', ?_⟩⟩
              have hc5 := cell_kept (World.cell?_setCell_same' w13 ⟨W.heap.size, 0, none⟩ (.bool true) (by rw [c13]; rfl)) (grownBy_putObj' _ D (.deferred none)) (fun r e => by cases e; exact ⟨_, hK', rfl⟩)
              refine ⟨.bool true, ?_, rfl, (BW13.setCell (p := ⟨W.heap.size, 0, none⟩) (Nat.le_refl _) _).trans (belowK_b (w := W) (Nat.le_refl _) _ D _ _ hWD hK' rfl rfl)⟩
              simp [results, Try.f7, go_sem, hc5]
theorem own_law (AD : Option Addr) (nD cD : Nat) (ds : List De) (now : Int) (W : World) (hr : Rd W 4 AD nD cD (ds.flatMap De.cells)) (hl : ds.length = nD) (hok : ∀ x ∈ ds, De.good x) (hb : (ds.map De.wt).sum ≤ 1048576)
    (_ : -9223372036854775808 ≤ now) (_ : now ≤ 9223372036854775807) :
    Calls Try.prog 7 #[.slice AD nD cD, .int .i64 now] W fun e w' => e = .returned (.bool true) ∧ Below W.heap.size W w' :=
  own_calls AD nD cD ds now W (rdd_of hr hl hok) (by have := wt_len ds; omega)
end Go.Proofs.Ytabgngdimbflkaa.DvD
