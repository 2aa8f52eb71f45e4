/-
  What is taken bit by bit is what was seen at once; the walk of DueTakes, for scripts of bulk at most 1048576. Conditions: as stated.
-/
import Derived.Test.YtabgngdimbflkaaDvA
set_option maxRecDepth 100000
set_option linter.unusedSimpArgs false
set_option linter.unusedVariables false
namespace Go.Proofs.Ytabgngdimbflkaa.DvB
open Go.RowKit Go.Shelf Go.Proofs.Ytabgngdimbflkaa.Mem Go.Proofs.Ytabgngdimbflkaa.DuA Go.Proofs.Ytabgngdimbflkaa.DuM Go.Proofs.Ytabgngdimbflkaa.DuN Go.Proofs.Ytabgngdimbflkaa.DuB Go.Proofs.Ytabgngdimbflkaa.DuO Go.Proofs.Ytabgngdimbflkaa.DsC Go.Proofs.Ytabgngdimbflkaa.DsH Go.Proofs.Ytabgngdimbflkaa.DsI Go.Proofs.Ytabgngdimbflkaa.DsJ Go.Proofs.Ytabgngdimbflkaa.DsK Go.Proofs.Ytabgngdimbflkaa.DsL Go.Proofs.Ytabgngdimbflkaa.DuR Go.Proofs.Ytabgngdimbflkaa.DuS Go.Proofs.Ytabgngdimbflkaa.DuT Go.Proofs.Ytabgngdimbflkaa.DuU Go.Proofs.Ytabgngdimbflkaa.DuV Go.Proofs.Ytabgngdimbflkaa.DuW Go.Proofs.Ytabgngdimbflkaa.DuX Go.Proofs.Ytabgngdimbflkaa.DuY Go.Proofs.Ytabgngdimbflkaa.DuP Go.Proofs.Ytabgngdimbflkaa.DvA

section
variable {K : Type}
/-- How many stand at the front that are due. -/
def dn (now : Int) (l : List (Int × K)) : Nat := (l.takeWhile (fun e => decide (e.1 ≤ now))).length
theorem peek_min (now : Int) : ∀ (l : List (Int × K)) (m : Nat), peekN now l m = min m (dn now l)
  | [], m => by cases m <;> simp [peekN, dn]
  | e :: r, 0 => by simp [peekN]
  | e :: r, m + 1 => by
    unfold peekN
    by_cases h : e.1 ≤ now
    · rw [if_pos h, peek_min now r m]
      simp [dn, List.takeWhile_cons, h]
    · rw [if_neg h]
      simp [dn, List.takeWhile_cons, h]
theorem dn_le (now : Int) (l : List (Int × K)) : dn now l ≤ l.length := (List.takeWhile_sublist _).length_le
theorem dn_drop (now : Int) : ∀ (l : List (Int × K)) (j : Nat), j ≤ dn now l → dn now (l.drop j) = dn now l - j
  | l, 0, _ => by simp
  | [], j + 1, h => by simp [dn] at h
  | e :: r, j + 1, h => by
    by_cases he : e.1 ≤ now
    · have e1 : dn now (e :: r) = dn now r + 1 := by simp [dn, List.takeWhile_cons, he]
      rw [List.drop_succ_cons, dn_drop now r j (by omega), e1]; omega
    · have e1 : dn now (e :: r) = 0 := by simp [dn, List.takeWhile_cons, he]
      omega
theorem dn_head {now : Int} {l : List (Int × K)} (h : dn now l = 0) : l = [] ∨ ∃ e r, l = e :: r ∧ now < e.1 := by
  rcases l with _ | ⟨e, r⟩
  · exact .inl rfl
  · refine .inr ⟨e, r, rfl, ?_⟩
    by_cases he : e.1 ≤ now
    · simp [dn, List.takeWhile_cons, he] at h
    · omega
theorem peekL_all {now most : Int} {l : List (Int × K)} (h : (dn now l : Int) ≤ most) : peekL l now most = (l.take (dn now l)).map (·.2) := by
  unfold peekL
  rw [peek_min, Nat.min_eq_right (by omega)]
/-- One bit more. -/
theorem bit {now q : Int} {l : List (Int × K)} {j : Nat} (hj : j ≤ dn now l) : ∃ s, s = min q.toNat (dn now l - j) ∧ peekL (l.drop j) now q = ((l.drop j).take s).map (·.2) ∧ takeL (l.drop j) now q = l.drop (j + s) ∧ (l.take j).map (·.2) ++ ((l.drop j).take s).map (·.2) = (l.take (j + s)).map (·.2) := by
  refine ⟨_, rfl, ?_, ?_, ?_⟩
  · unfold peekL; rw [peek_min, dn_drop now l j hj]
  · unfold takeL; rw [peek_min, dn_drop now l j hj, List.drop_drop]
  · rw [List.take_add, List.map_append]
end
/-- A slice that was made ahead is none of the index's. -/
theorem apart_turn {g m : Nat} {v v' : Value} {w : World} {gv : Value} (hg : ∀ k, gv.ownBlock = some k → ¬ IxS g m v k) (hl : ∀ k, gv.ownBlock = some k → k < w.heap.size)
    (hv : v'.ownBlock = v.ownBlock ∨ ∃ k, v'.ownBlock = some k ∧ w.heap.size ≤ k) : ∀ k, gv.ownBlock = some k → ¬ IxS g m v' k := fun k hk => ixs_new hv (hl k hk) (hg k hk)
/-- Between two bits. -/
structure Sb (W w0 : World) (g m N d : Nat) (l : List (Int × ByteArray)) (want : Value) (L : List ByteArray) (k j : Nat) (gv v : Value) (w : World) : Prop where
  ix : Ix w W.heap.size g m v (l.drop j) N
  got : w.ownsRow w0.heap.size 9 1 gv (l.take j).length (keysV ((l.take j).map (·.2)))
  j1 : j ≤ d
  j2 : min k d ≤ j
  ap : ∀ k, gv.ownBlock = some k → ¬ IxS g m v k
  bel : Below W.heap.size W w
  sz : w0.heap.size ≤ w.heap.size
  wt : OwnKs w W.heap.size want L
  wa : ∀ k, want.ownBlock = some k → ¬ IxS g m v k ∧ k < w0.heap.size
theorem Sb.gotL {W w0 w : World} {g m N d : Nat} {l : List (Int × ByteArray)} {want : Value} {L : List ByteArray} {k j : Nat} {gv v : Value} (S : Sb W w0 g m N d l want L k j gv v w) (e1 : (l.take j).map (·.2) = L) : OwnKs w w0.heap.size gv L := by
  have h1 := S.got
  have e2 : (l.take j).length = L.length := by have := congrArg List.length e1; simpa using this
  rw [e1, e2] at h1
  exact h1

set_option maxHeartbeats 1000000 in
theorem takes_lo (AD : Option Addr) (nD cD : Nat) (ds : List De) (now most : Int) (W : World) (hD : RdD W AD nD cD ds) (hb : ds.length ≤ 1048576) (hm : most < 1) :
    Calls Try.prog 3 #[.slice AD nD cD, .int .i64 now, .int .i64 most] W fun e w' => e = .returned (.bool true) ∧ Below W.heap.size W w' := by
  obtain rfl := hD.len
  go_enter Try.func3, Try.ntmps3
  go_wp2_with fail
  refine (new_calls W).mono ?_
  rintro e w1 ⟨g, m, rfl, h1, b1⟩
  have bo2 := bo_new h1 b1.size
  have B2 := b1.alloc b1.size (.cells #[.slice none 0 0] 28)
  obtain ⟨h, hh⟩ : ∃ h, w1.heap.size = h := ⟨_, rfl⟩
  obtain ⟨w2, hw2⟩ : ∃ w2, w1.alloc (.cells #[.slice none 0 0] 28) = w2 := ⟨_, rfl⟩
  rw [hw2] at bo2 B2
  rw [hh] at bo2
  have S2 : Sw W g m h 0 w2 (.slice none 0 0) [] none 0 := ⟨bo2, B2⟩
  clear h1 b1 bo2 B2
  go_wp2_with fail
  refine (awake_calls w2).mono ?_
  rintro e w3 ⟨rfl, b3⟩
  have S3 := S2.below b3
  clear S2 b3 hw2 hh
  go_wp2_with fail
  go_loopw [9] (fun i wr => ∃ (k : Nat) (v : Value) (l : List (Int × ByteArray)) (A : Option Addr) (c : Nat), k ≤ ds.length ∧ i = .int .i64 k ∧ Sw W g m h k wr v l A c) (fun i _ => ds.length - (intOf i).toNat)
  case atStart => exact ⟨0, _, _, _, _, Nat.zero_le _, rfl, S3⟩
  case round =>
    obtain ⟨k, v, l, A, c, hk, rfl, S⟩ := hrel
    by_cases hlt : k < ds.length
    · obtain ⟨x, hx⟩ : ∃ x, ds[k]? = some x := ⟨_, List.getElem?_eq_getElem hlt⟩
      obtain ⟨p, rfl, k0, k1, k2, k3⟩ := hD.at_ S.bel hx
      have hok := hD.ok x (List.mem_of_getElem? hx)
      clear hx
      go_wp2_with fail
      refine (do_calls W.heap.size g m v l h A c k x.key x.n x.m wr x.kind S.bo S.bel.size hok (by omega)).mono ?_
      intro e w4 d4
      obtain ⟨rfl, v4, l4, A4, c4, S4⟩ := S.did d4
      clear k0 k1 k2 k3 S d4
      go_wp2_with fail
      exact ⟨⟨k + 1, v4, l4, A4, c4, by omega, by go_num, S4⟩, by simp [intOf]; omega⟩
    · obtain rfl : k = ds.length := by omega
      have hll := S.bo.x.len
      obtain ⟨d, hd⟩ : ∃ d, dn now l = d := ⟨_, rfl⟩
      have hdl : d ≤ l.length := by rw [← hd]; exact dn_le _ _
      have hpk : peekL l now 1099511627776 = (l.take d).map (·.2) := by rw [← hd]; exact peekL_all (by omega)
      have hLlen : ((l.take d).map (·.2)).length = d := by simp; omega
      obtain ⟨L, hL⟩ : ∃ L, (l.take d).map (·.2) = L := ⟨_, rfl⟩
      rw [hL] at hpk hLlen
      have hp1 := peek_calls W.heap.size g m v l ds.length now 1099511627776 wr S.bo.x (by omega)
      rw [hpk] at hp1
      have hp2 := fun w' (y : Yx w' W.heap.size h A c l) => peekR_calls W.heap.size h c A l now 1099511627776 w' y (by omega)
      rw [hpk] at hp2
      have HH := Lib.hid (And.intro hd (And.intro hL hLlen))
      have hLb : L.length ≤ 1048576 := by omega
      clear hd hL hLlen hpk
      go_wp2_with fail
      refine hp1.mono ?_
      rintro e w5 ⟨s5, rfl, o5, b5⟩
      obtain ⟨A5, c5, rfl⟩ := own_form o5
      have S5 := S.below b5
      clear hp1
      go_wp2_with fail
      refine (hp2 _ S5.bo.y).mono ?_
      rintro e w6 ⟨s6, rfl, o6, b6⟩
      obtain ⟨A6, c6, rfl⟩ := own_form o6
      have S6 := S5.below b6
      have o56 := own_only o5 (only_b (S := fun _ => False) b6) (fun k hk e => e)
      clear hp2
      go_wp2_with fail
      refine (texts_same A5 _ c5 L A6 _ c6 w6 (Rd.of_own o56) (Rd.of_own o6)).mono ?_
      rintro e w7 ⟨rfl, nd7, rfl⟩
      have S7 := S6.below (below_drawn_ (Below.refl _ _) nd7)
      have o57 := own_only o56 (only_b (S := fun _ => False) (below_drawn_ (Below.refl w6.heap.size w6) nd7)) (fun k hk e => e)
      have hlt5 := o5.lt
      have hsv := S.bo.x.lt
      have hb5 := b5.size
      have hb6 := b6.size
      have hbw := S.bel.size
      obtain ⟨w0, hw0⟩ : ∃ w0, w6.drewN nd7 = w0 := ⟨_, rfl⟩
      have SZ : W.heap.size ≤ w0.heap.size := by rw [← hw0]; show _ ≤ w6.heap.size; omega
      have hs0 : w0.heap.size = w6.heap.size := by rw [← hw0]; rfl
      rw [hw0] at S7 o57 ⊢
      have SB : Sb W w0 g m ds.length L.length l (.slice A5 L.length c5) L 0 0 (.slice none 0 0) v w0 := ⟨S7.bo.x, World.ownsRow_nil _ _ _ _, Nat.zero_le _, by omega, (fun k hk => by cases hk), S7.bel, Nat.le_refl _, own_less o57 (by omega), (fun k hk => by have := hlt5 k hk; exact ⟨fun hx => by have := hsv k hx; omega, by omega⟩)⟩
      clear S S5 S6 S7 o5 o6 o56 o57 b5 b6 hw0 hlt5 hsv hs0
      go_wp2_with fail
      go_loopw [11, 12] (fun gv i wr => ∃ (k j : Nat) (v : Value), k ≤ L.length + 1 ∧ i = .int .i64 k ∧ Sb W w0 g m ds.length L.length l (.slice A5 L.length c5) L k j gv v wr) (fun _ i _ => L.length + 1 - (intOf i).toNat)
      case atStart => exact ⟨0, 0, v, Nat.zero_le _, rfl, SB⟩
      case round =>
        clear SB
        obtain ⟨k, j, v, hk, rfl, S⟩ := hrel
        by_cases hlt : k ≤ L.length
        · obtain ⟨s, hs, e1, e2, e3⟩ := bit (now := now) (q := 1) (l := l) (j := j) (by have := HH.out.1; have := HH.out.2.2; have := S.j1; omega)
          have htk := take_calls W.heap.size g m v (l.drop j) ds.length now 1 _ S.ix S.bel.size (by omega)
          rw [e1, e2] at htk
          obtain ⟨M, hM⟩ : ∃ M, ((l.drop j).take s).map (·.2) = M := ⟨_, rfl⟩
          rw [hM] at htk e3
          have hMl : M.length ≤ l.length := by rw [← hM]; simp; omega
          have hTl : (l.take j).length ≤ l.length := by simp; omega
          have E3 := Lib.hid (And.intro hs e3)
          clear hs e1 e2 e3 hM
          go_wp2_with fail
          refine htk.mono ?_
          rintro e w8 ⟨s8, rfl, o8, v8, x8, O8, hv8⟩
          obtain ⟨A8, c8, rfl⟩ := own_form o8
          have got8 := own_only S.got O8 (fun k hk e => S.ap k hk e)
          have z8 := O8.size
          have zs := S.sz
          have gl := got8.lt
          have gl0 := S.got.lt
          have ap8 := apart_turn S.ap (fun k hk => (gl0 k hk).2) hv8
          go_wp2_with (at_builtin; refine wpList_app rfl _ _ elKs rfl w0.heap.size _ _ _ rfl got8 A8 M.length c8 (keysV M) rfl (Rd.of_own o8) (keysV_one M) (by unfold maxLen; omega) (by omega) (by omega) ?_; intro v9 w9 o9 O9 f9)
          obtain ⟨hs, e3⟩ := E3.out
          have e4 := congrArg List.length e3
          simp only [List.length_append, List.length_map] at e4
          have hd := HH.out.2.2
          have h1 := S.j1
          have h2 := S.j2
          have hsd : dn now l = L.length := by rw [HH.out.1]; exact hd.symm
          have lt9 := o9.lt
          rw [hsd] at hs
          refine ⟨⟨k + 1, j + s, v8, by omega, by go_num, ⟨x8.only O9 (fun k hx e => ap8 k e hx), ?_, by omega, by omega, fun k hk hx => ?_, ?_, by have := O9.size; omega, ?_, fun k hk => ?_⟩⟩, by simp [intOf]; omega⟩
          · rw [← e3, ← e4]
            have e5 : keysV ((l.take j).map (·.2) ++ M) = keysV ((l.take j).map (·.2)) ++ keysV M := by simp [keysV]
            rw [e5]
            exact o9
          · rcases f9 with f | f
            · rw [f] at hk; exact ap8 k hk hx
            · rw [f] at hk; injection hk with hk; have := (x8.lt k hx).2; omega
          · have z1 := O8.after S.bel (Nat.le_refl _) (fun k hk => (S.ix.lt k hk).1)
            exact O9.after z1 (Nat.le_refl _) (fun k hk => by have := (gl k hk).1; have := S.bel.size; have := SZ; omega)
          · exact own_only (own_only S.wt O8 (fun k hk e => (S.wa k hk).1 e)) O9 (fun k hk e => by have := (S.wa k hk).2; have := (gl k e).1; omega)
          · obtain ⟨q1, q2⟩ := S.wa k hk
            exact ⟨ixs_new hv8 (by omega) q1, q2⟩
        · obtain rfl : k = L.length + 1 := by omega
          have hj : j = L.length := by have := S.j1; have := S.j2; omega
          subst hj
          have hd := HH.out.2.2
          have hg := S.gotL (by have := HH.out.2.1; rwa [← hd] at this)
          have hn0 : dn now (l.drop L.length) = 0 := by rw [dn_drop _ _ _ (by have := HH.out.1; omega)]; have := HH.out.1; omega
          have htk := take_calls W.heap.size g m v (l.drop L.length) ds.length now 1
          have e1 : peekL (l.drop L.length) now 1 = [] := by unfold peekL; rw [peek_min, hn0]; simp
          have e2 : takeL (l.drop L.length) now 1 = l.drop L.length := by unfold takeL; rw [peek_min, hn0]; simp
          rw [e1, e2] at htk
          have X1 := S.ix
          have T1 := Lib.hid (dn_head hn0)
          have bl := S.bel
          have wl := S.wt
          obtain ⟨R, hR⟩ : ∃ R, l.drop L.length = R := ⟨_, rfl⟩
          rw [hR] at htk X1 T1
          clear e1 e2 hn0 hd hR S
          obtain ⟨A9, c9, rfl⟩ := own_form hg
          go_wp2_with fail
          refine (texts_same A9 _ c9 L A5 _ c5 wr (Rd.of_own hg) (Rd.of_own wl)).mono ?_
          rintro e w8 ⟨rfl, nd8, rfl⟩
          have X2 := X1.drawn nd8
          have b2 : Below W.heap.size W (wr.drewN nd8) := bl.trans (below_drawn_ (Below.refl _ _) nd8)
          clear X1 bl wl hg
          go_wp2_with fail
          refine (htk _ X2 b2.size (by omega)).mono ?_
          rintro e w9 ⟨s9, rfl, o9, v9, x9, O9, -⟩
          obtain ⟨A10, c10, rfl⟩ := own_form o9
          have b3 := O9.after b2 (Nat.le_refl _) (fun k hk => (X2.lt k hk).1)
          clear o9 X2 b2 htk
          have hnx := next_calls W.heap.size g m v9 R _ w9 x9 (by omega)
          rcases T1.out with rfl | ⟨e, r, rfl, hlt2⟩
          · have e2 : nextV [] = .tuple #[.string ⟨#[]⟩, .int .i64 0, .bool false] := rfl
            rw [e2] at hnx
            clear e2
            go_wp2_with fail
            refine hnx.mono ?_
            rintro e w10 ⟨rfl, nd, rfl⟩
            go_wp2_with fail
            go_ret
            exact ⟨rfl, b3.trans (below_drawn_ (Below.refl _ _) nd)⟩
          · have e2 : nextV (e :: r) = .tuple #[Value.string e.2, .int .i64 e.1, .bool true] := rfl
            rw [e2] at hnx
            clear e2
            go_wp2_with fail
            refine hnx.mono ?_
            rintro e w10 ⟨rfl, nd, rfl⟩
            go_wp2_with fail
            go_ret
            exact ⟨rfl, b3.trans (below_drawn_ (Below.refl _ _) nd)⟩

set_option maxHeartbeats 1000000 in
theorem takes_hi (AD : Option Addr) (nD cD : Nat) (ds : List De) (now most : Int) (W : World) (hD : RdD W AD nD cD ds) (hb : ds.length ≤ 1048576) (hm : 1 ≤ most) :
    Calls Try.prog 3 #[.slice AD nD cD, .int .i64 now, .int .i64 most] W fun e w' => e = .returned (.bool true) ∧ Below W.heap.size W w' := by
  obtain rfl := hD.len
  go_enter Try.func3, Try.ntmps3
  go_wp2_with fail
  refine (new_calls W).mono ?_
  rintro e w1 ⟨g, m, rfl, h1, b1⟩
  have bo2 := bo_new h1 b1.size
  have B2 := b1.alloc b1.size (.cells #[.slice none 0 0] 28)
  obtain ⟨h, hh⟩ : ∃ h, w1.heap.size = h := ⟨_, rfl⟩
  obtain ⟨w2, hw2⟩ : ∃ w2, w1.alloc (.cells #[.slice none 0 0] 28) = w2 := ⟨_, rfl⟩
  rw [hw2] at bo2 B2
  rw [hh] at bo2
  have S2 : Sw W g m h 0 w2 (.slice none 0 0) [] none 0 := ⟨bo2, B2⟩
  clear h1 b1 bo2 B2
  go_wp2_with fail
  refine (awake_calls w2).mono ?_
  rintro e w3 ⟨rfl, b3⟩
  have S3 := S2.below b3
  clear S2 b3 hw2 hh
  go_wp2_with fail
  go_loopw [9] (fun i wr => ∃ (k : Nat) (v : Value) (l : List (Int × ByteArray)) (A : Option Addr) (c : Nat), k ≤ ds.length ∧ i = .int .i64 k ∧ Sw W g m h k wr v l A c) (fun i _ => ds.length - (intOf i).toNat)
  case atStart => exact ⟨0, _, _, _, _, Nat.zero_le _, rfl, S3⟩
  case round =>
    obtain ⟨k, v, l, A, c, hk, rfl, S⟩ := hrel
    by_cases hlt : k < ds.length
    · obtain ⟨x, hx⟩ : ∃ x, ds[k]? = some x := ⟨_, List.getElem?_eq_getElem hlt⟩
      obtain ⟨p, rfl, k0, k1, k2, k3⟩ := hD.at_ S.bel hx
      have hok := hD.ok x (List.mem_of_getElem? hx)
      clear hx
      go_wp2_with fail
      refine (do_calls W.heap.size g m v l h A c k x.key x.n x.m wr x.kind S.bo S.bel.size hok (by omega)).mono ?_
      intro e w4 d4
      obtain ⟨rfl, v4, l4, A4, c4, S4⟩ := S.did d4
      clear k0 k1 k2 k3 S d4
      go_wp2_with fail
      exact ⟨⟨k + 1, v4, l4, A4, c4, by omega, by go_num, S4⟩, by simp [intOf]; omega⟩
    · obtain rfl : k = ds.length := by omega
      have hll := S.bo.x.len
      obtain ⟨d, hd⟩ : ∃ d, dn now l = d := ⟨_, rfl⟩
      have hdl : d ≤ l.length := by rw [← hd]; exact dn_le _ _
      have hpk : peekL l now 1099511627776 = (l.take d).map (·.2) := by rw [← hd]; exact peekL_all (by omega)
      have hLlen : ((l.take d).map (·.2)).length = d := by simp; omega
      obtain ⟨L, hL⟩ : ∃ L, (l.take d).map (·.2) = L := ⟨_, rfl⟩
      rw [hL] at hpk hLlen
      have hp1 := peek_calls W.heap.size g m v l ds.length now 1099511627776 wr S.bo.x (by omega)
      rw [hpk] at hp1
      have hp2 := fun w' (y : Yx w' W.heap.size h A c l) => peekR_calls W.heap.size h c A l now 1099511627776 w' y (by omega)
      rw [hpk] at hp2
      have HH := Lib.hid (And.intro hd (And.intro hL hLlen))
      have hLb : L.length ≤ 1048576 := by omega
      clear hd hL hLlen hpk
      go_wp2_with fail
      refine hp1.mono ?_
      rintro e w5 ⟨s5, rfl, o5, b5⟩
      obtain ⟨A5, c5, rfl⟩ := own_form o5
      have S5 := S.below b5
      clear hp1
      go_wp2_with fail
      refine (hp2 _ S5.bo.y).mono ?_
      rintro e w6 ⟨s6, rfl, o6, b6⟩
      obtain ⟨A6, c6, rfl⟩ := own_form o6
      have S6 := S5.below b6
      have o56 := own_only o5 (only_b (S := fun _ => False) b6) (fun k hk e => e)
      clear hp2
      go_wp2_with fail
      refine (texts_same A5 _ c5 L A6 _ c6 w6 (Rd.of_own o56) (Rd.of_own o6)).mono ?_
      rintro e w7 ⟨rfl, nd7, rfl⟩
      have S7 := S6.below (below_drawn_ (Below.refl _ _) nd7)
      have o57 := own_only o56 (only_b (S := fun _ => False) (below_drawn_ (Below.refl w6.heap.size w6) nd7)) (fun k hk e => e)
      have hlt5 := o5.lt
      have hsv := S.bo.x.lt
      have hb5 := b5.size
      have hb6 := b6.size
      have hbw := S.bel.size
      obtain ⟨w0, hw0⟩ : ∃ w0, w6.drewN nd7 = w0 := ⟨_, rfl⟩
      have SZ : W.heap.size ≤ w0.heap.size := by rw [← hw0]; show _ ≤ w6.heap.size; omega
      have hs0 : w0.heap.size = w6.heap.size := by rw [← hw0]; rfl
      rw [hw0] at S7 o57 ⊢
      have SB : Sb W w0 g m ds.length L.length l (.slice A5 L.length c5) L 0 0 (.slice none 0 0) v w0 := ⟨S7.bo.x, World.ownsRow_nil _ _ _ _, Nat.zero_le _, by omega, (fun k hk => by cases hk), S7.bel, Nat.le_refl _, own_less o57 (by omega), (fun k hk => by have := hlt5 k hk; exact ⟨fun hx => by have := hsv k hx; omega, by omega⟩)⟩
      clear S S5 S6 S7 o5 o6 o56 o57 b5 b6 hw0 hlt5 hsv hs0
      go_wp2_with fail
      go_loopw [11, 12] (fun gv i wr => ∃ (k j : Nat) (v : Value), k ≤ L.length + 1 ∧ i = .int .i64 k ∧ Sb W w0 g m ds.length L.length l (.slice A5 L.length c5) L k j gv v wr) (fun _ i _ => L.length + 1 - (intOf i).toNat)
      case atStart => exact ⟨0, 0, v, Nat.zero_le _, rfl, SB⟩
      case round =>
        clear SB
        obtain ⟨k, j, v, hk, rfl, S⟩ := hrel
        by_cases hlt : k ≤ L.length
        · obtain ⟨s, hs, e1, e2, e3⟩ := bit (now := now) (q := most) (l := l) (j := j) (by have := HH.out.1; have := HH.out.2.2; have := S.j1; omega)
          have htk := take_calls W.heap.size g m v (l.drop j) ds.length now most _ S.ix S.bel.size (by omega)
          rw [e1, e2] at htk
          obtain ⟨M, hM⟩ : ∃ M, ((l.drop j).take s).map (·.2) = M := ⟨_, rfl⟩
          rw [hM] at htk e3
          have hMl : M.length ≤ l.length := by rw [← hM]; simp; omega
          have hTl : (l.take j).length ≤ l.length := by simp; omega
          have E3 := Lib.hid (And.intro hs e3)
          clear hs e1 e2 e3 hM
          go_wp2_with fail
          refine htk.mono ?_
          rintro e w8 ⟨s8, rfl, o8, v8, x8, O8, hv8⟩
          obtain ⟨A8, c8, rfl⟩ := own_form o8
          have got8 := own_only S.got O8 (fun k hk e => S.ap k hk e)
          have z8 := O8.size
          have zs := S.sz
          have gl := got8.lt
          have gl0 := S.got.lt
          have ap8 := apart_turn S.ap (fun k hk => (gl0 k hk).2) hv8
          go_wp2_with (at_builtin; refine wpList_app rfl _ _ elKs rfl w0.heap.size _ _ _ rfl got8 A8 M.length c8 (keysV M) rfl (Rd.of_own o8) (keysV_one M) (by unfold maxLen; omega) (by omega) (by omega) ?_; intro v9 w9 o9 O9 f9)
          obtain ⟨hs, e3⟩ := E3.out
          have e4 := congrArg List.length e3
          simp only [List.length_append, List.length_map] at e4
          have hd := HH.out.2.2
          have h1 := S.j1
          have h2 := S.j2
          have hsd : dn now l = L.length := by rw [HH.out.1]; exact hd.symm
          have lt9 := o9.lt
          rw [hsd] at hs
          refine ⟨⟨k + 1, j + s, v8, by omega, by go_num, ⟨x8.only O9 (fun k hx e => ap8 k e hx), ?_, by omega, by omega, fun k hk hx => ?_, ?_, by have := O9.size; omega, ?_, fun k hk => ?_⟩⟩, by simp [intOf]; omega⟩
          · rw [← e3, ← e4]
            have e5 : keysV ((l.take j).map (·.2) ++ M) = keysV ((l.take j).map (·.2)) ++ keysV M := by simp [keysV]
            rw [e5]
            exact o9
          · rcases f9 with f | f
            · rw [f] at hk; exact ap8 k hk hx
            · rw [f] at hk; injection hk with hk; have := (x8.lt k hx).2; omega
          · have z1 := O8.after S.bel (Nat.le_refl _) (fun k hk => (S.ix.lt k hk).1)
            exact O9.after z1 (Nat.le_refl _) (fun k hk => by have := (gl k hk).1; have := S.bel.size; have := SZ; omega)
          · exact own_only (own_only S.wt O8 (fun k hk e => (S.wa k hk).1 e)) O9 (fun k hk e => by have := (S.wa k hk).2; have := (gl k e).1; omega)
          · obtain ⟨q1, q2⟩ := S.wa k hk
            exact ⟨ixs_new hv8 (by omega) q1, q2⟩
        · obtain rfl : k = L.length + 1 := by omega
          have hj : j = L.length := by have := S.j1; have := S.j2; omega
          subst hj
          have hd := HH.out.2.2
          have hg := S.gotL (by have := HH.out.2.1; rwa [← hd] at this)
          have hn0 : dn now (l.drop L.length) = 0 := by rw [dn_drop _ _ _ (by have := HH.out.1; omega)]; have := HH.out.1; omega
          have htk := take_calls W.heap.size g m v (l.drop L.length) ds.length now most
          have e1 : peekL (l.drop L.length) now most = [] := by unfold peekL; rw [peek_min, hn0]; simp
          have e2 : takeL (l.drop L.length) now most = l.drop L.length := by unfold takeL; rw [peek_min, hn0]; simp
          rw [e1, e2] at htk
          have X1 := S.ix
          have T1 := Lib.hid (dn_head hn0)
          have bl := S.bel
          have wl := S.wt
          obtain ⟨R, hR⟩ : ∃ R, l.drop L.length = R := ⟨_, rfl⟩
          rw [hR] at htk X1 T1
          clear e1 e2 hn0 hd hR S
          obtain ⟨A9, c9, rfl⟩ := own_form hg
          go_wp2_with fail
          refine (texts_same A9 _ c9 L A5 _ c5 wr (Rd.of_own hg) (Rd.of_own wl)).mono ?_
          rintro e w8 ⟨rfl, nd8, rfl⟩
          have X2 := X1.drawn nd8
          have b2 : Below W.heap.size W (wr.drewN nd8) := bl.trans (below_drawn_ (Below.refl _ _) nd8)
          clear X1 bl wl hg
          go_wp2_with fail
          refine (htk _ X2 b2.size (by omega)).mono ?_
          rintro e w9 ⟨s9, rfl, o9, v9, x9, O9, -⟩
          obtain ⟨A10, c10, rfl⟩ := own_form o9
          have b3 := O9.after b2 (Nat.le_refl _) (fun k hk => (X2.lt k hk).1)
          clear o9 X2 b2 htk
          have hnx := next_calls W.heap.size g m v9 R _ w9 x9 (by omega)
          rcases T1.out with rfl | ⟨e, r, rfl, hlt2⟩
          · have e2 : nextV [] = .tuple #[.string ⟨#[]⟩, .int .i64 0, .bool false] := rfl
            rw [e2] at hnx
            clear e2
            go_wp2_with fail
            refine hnx.mono ?_
            rintro e w10 ⟨rfl, nd, rfl⟩
            go_wp2_with fail
            go_ret
            exact ⟨rfl, b3.trans (below_drawn_ (Below.refl _ _) nd)⟩
          · have e2 : nextV (e :: r) = .tuple #[Value.string e.2, .int .i64 e.1, .bool true] := rfl
            rw [e2] at hnx
            clear e2
            go_wp2_with fail
            refine hnx.mono ?_
            rintro e w10 ⟨rfl, nd, rfl⟩
            go_wp2_with fail
            go_ret
            exact ⟨rfl, b3.trans (below_drawn_ (Below.refl _ _) nd)⟩
theorem takes_law (AD : Option Addr) (nD cD : Nat) (ds : List De) (now most : Int) (W : World) (hr : Rd W 4 AD nD cD (ds.flatMap De.cells)) (hl : ds.length = nD) (hok : ∀ x ∈ ds, De.good x) (hb : (ds.map De.wt).sum ≤ 1048576)
    (_ : -9223372036854775808 ≤ now) (_ : now ≤ 9223372036854775807) (_ : -9223372036854775808 ≤ most) (_ : most ≤ 9223372036854775807) :
    Calls Try.prog 3 #[.slice AD nD cD, .int .i64 now, .int .i64 most] W fun e w' => e = .returned (.bool true) ∧ Below W.heap.size W w' := by
  have h1 := wt_len ds
  by_cases hm : most < 1
  · exact takes_lo AD nD cD ds now most W (rdd_of hr hl hok) (by omega) hm
  · exact takes_hi AD nD cD ds now most W (rdd_of hr hl hok) (by omega) (by omega)
end Go.Proofs.Ytabgngdimbflkaa.DvB
