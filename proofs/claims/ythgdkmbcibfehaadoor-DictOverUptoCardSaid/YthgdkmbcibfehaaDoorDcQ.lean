/-
  The law DictBack: what is set is got, nothing else changes, a dict of its fields is as it was. Conditions: as stated.
-/
import Derived.Test.YthgdkmbcibfehaaDoorDcP
set_option maxRecDepth 100000
set_option linter.unusedSimpArgs false
set_option linter.unusedVariables false
namespace Go.Proofs.YthgdkmbcibfehaaDoor.DcQ
open Go.RowKit Go.Proofs.YthgdkmbcibfehaaDoor.Mem Go.Proofs.YthgdkmbcibfehaaDoor.NumA Go.Proofs.YthgdkmbcibfehaaDoor.NumB Go.Proofs.YthgdkmbcibfehaaDoor.NumE Go.Proofs.YthgdkmbcibfehaaDoor.DcA Go.Proofs.YthgdkmbcibfehaaDoor.DcB Go.Proofs.YthgdkmbcibfehaaDoor.DcC Go.Proofs.YthgdkmbcibfehaaDoor.DcD Go.Proofs.YthgdkmbcibfehaaDoor.DcE Go.Proofs.YthgdkmbcibfehaaDoor.DcF Go.Proofs.YthgdkmbcibfehaaDoor.DcG Go.Proofs.YthgdkmbcibfehaaDoor.DcI Go.Proofs.YthgdkmbcibfehaaDoor.DcJ Go.Proofs.YthgdkmbcibfehaaDoor.DcK Go.Proofs.YthgdkmbcibfehaaDoor.DcL Go.Proofs.YthgdkmbcibfehaaDoor.DcM Go.Proofs.YthgdkmbcibfehaaDoor.DcN Go.Proofs.YthgdkmbcibfehaaDoor.DcP

/-- A dict of a list that is handed in: what holds between two calls on it. -/
structure Ho (W w : World) (g m N : Nat) (l : List Fld) : Prop where
  dc : Dc w W.heap.size g m l N
  bel : Below W.heap.size W w
  gd : Gd l
section
variable {W w w' : World} {g m N : Nat} {l l' : List Fld}
theorem Ho.below (h : Ho W w g m N l) (hb : Below w.heap.size w w') : Ho W w' g m N l := ⟨h.dc.below hb, below_seq h.bel hb, h.gd⟩
theorem Ho.turn (h : Ho W w g m N l) {N' : Nat} (d' : Dc w' W.heap.size g m l' N') (ho : Only (fun b => b = m) w w') (hg : Gd l') : Ho W w' g m N' l' := ⟨d', dc_keep h.dc h.bel (Nat.le_refl _) ho, hg⟩
theorem Ho.len (h : Ho W w g m N l) : l.length ≤ N := h.dc.len
theorem Ho.laid (h : Ho W w g m N l) (hL : Laid W) : Laid w := hL.below h.bel
end
/-- Of, of what is handed in. -/
theorem of_ho (A : Option Addr) (c : Nat) (l : List Fld) (W : World) (hr : RdF W A l.length c l) (hg : Gd l) (hn : l.length ≤ 2000000) :
    Calls Tryd.prog 8 #[.slice A l.length c] W fun e w' => (Ris l ∧ ∃ g m, e = .returned (.tuple #[.pointer (some ⟨g, 0, none⟩), .int .i64 0]) ∧ Ho W w' g m l.length l) ∨ (¬ Ris l ∧ e = .returned (.tuple #[.pointer none, .int .i64 100]) ∧ Below W.heap.size W w') :=
  (of_calls A _ c l W hr hg.ok (by omega)).mono fun e w' h => by
    obtain ⟨b1, ⟨hl, g, m, rfl, d1⟩ | ⟨hl, rfl⟩⟩ := h
    · exact .inl ⟨hl, g, m, rfl, d1, b1, hg⟩
    · exact .inr ⟨hl, rfl, b1⟩
theorem not_rises (A : Option Addr) (c : Nat) (l : List Fld) (w : World) (hr : RdF w A l.length c l) (hn : l.length ≤ 1048576) (hl : ¬ Ris l) :
    Calls Tryd.prog 9 #[.slice A l.length c] w fun e w' => e = .returned (.bool false) ∧ Below w.heap.size w w' :=
  (rises_calls A _ c l w hr (by omega)).mono fun e w' h => by
    obtain ⟨⟨b, rfl, hb⟩, nd, rfl⟩ := h
    refine ⟨?_, below_drawn_' nd⟩
    cases b with
    | false => rfl
    | true => exact absurd (hb.1 rfl) hl
/-- Fields, of a dict that is as the list says: a list of its own. -/
theorem fields_ho {W w : World} {g m N : Nat} {l : List Fld} (h : Ho W w g m N l) (hN : N ≤ 100000000) :
    Calls Tryd.prog 20 #[.pointer (some ⟨g, 0, none⟩)] w fun e w' => ∃ A c, e = .returned (.slice A l.length c) ∧ RdF w' A l.length c l ∧ Below w.heap.size w w' :=
  (fields_calls W.heap.size g m l N w h.dc (by have := h.len; omega)).mono fun e w' k => by
    obtain ⟨v, rfl, o, b⟩ := k
    obtain ⟨A, c, rfl, r⟩ := own_rd o
    exact ⟨A, c, rfl, r, b⟩
/-- Has an earlier place the name? -/
def hasN (l : List Fld) (k : ByteArray) : Bool := l.any fun f => f.1 == k
theorem has_iff {l : List Fld} (hr : Ris l) (k : ByteArray) : (getL l k).isSome = true ↔ ∃ f ∈ l, f.1 = k := by
  rw [Option.isSome_iff_exists]
  constructor
  · rintro ⟨v, hv⟩; exact ⟨_, (get_mem hr k v).1 hv, rfl⟩
  · rintro ⟨f, hf, rfl⟩; exact ⟨f.2, (get_mem hr f.1 f.2).2 hf⟩
theorem found_next {l : List Fld} {k : Nat} {f : Fld} (hf : l[k]? = some f) {nm : ByteArray} {fb : Bool} (h : fb = true ↔ ∃ x ∈ l.take k, x.1 = nm) : (fb || decide (f.1 = nm)) = true ↔ ∃ x ∈ l.take (k + 1), x.1 = nm := by
  obtain ⟨hk, he⟩ := List.getElem?_eq_some_iff.1 hf
  rw [List.take_succ_eq_append_getElem hk, he, Bool.or_eq_true, h, decide_eq_true_eq]
  constructor
  · rintro (⟨x, hx, e⟩ | e)
    · exact ⟨x, List.mem_append.2 (.inl hx), e⟩
    · exact ⟨f, by simp, e⟩
  · rintro ⟨x, hx, e⟩
    rcases List.mem_append.1 hx with hx | hx
    · exact .inl ⟨x, hx, e⟩
    · rw [List.mem_singleton] at hx; subst hx; exact .inr e
set_option maxHeartbeats 16000000 in
theorem back_calls (A : Option Addr) (c : Nat) (l : List Fld) (nm vl : ByteArray) (W : World) (hr : RdF W A l.length c l) (hg : Gd l) (hn : l.length ≤ 1048576) (h1 : nm.size ≤ 1048576) (h2 : vl.size ≤ 1048576) (hL : Laid W) :
    Calls Tryd.prog 5 #[.slice A l.length c, .string nm, .string vl] W fun e w' => e = .returned (.bool true) ∧ Below W.heap.size W w' := by
  have hof := of_ho A c l W hr hg (by omega)
  have hcap := hr.cap
  have hbig : c ≤ 9223372036854775807 := hr.big
  have HR := Lib.hid (And.intro hr (And.intro hg (And.intro (ok_small' h1) (And.intro (ok_small' h2) hL))))
  clear hr hg hL
  go_enter Tryd.func5, Tryd.ntmps5
  go_wp2_with fail
  refine hof.mono ?_
  clear hof
  rintro e w1 (⟨hl, g, m, rfl, d1⟩ | ⟨hl, rfl, b1⟩)
  · have Hl := Lib.hid hl
    have hst := set_calls W.heap.size g m l l.length nm vl w1 d1.dc HR.out.2.2.1 HR.out.2.2.2.1 (by omega)
    have H1 := Lib.hid d1
    have hgs : getV (setL l nm vl) nm = .tuple #[.string vl, .bool true] := by unfold getV; rw [get_set, if_pos rfl]; rfl
    obtain ⟨tb, htb⟩ : ∃ tb, tb = (getL l nm).isSome := ⟨_, rfl⟩
    rw [← htb] at hst
    have Htb := Lib.hid htb
    clear hl d1 htb
    go_wp2_with fail
    refine hst.mono ?_
    clear hst
    rintro e w2 ⟨rfl, d2, o2⟩
    have D2 : Ho W w2 g m (l.length + 1) (setL l nm vl) := H1.out.turn d2 o2 (HR.out.2.1.set (by omega) (by omega))
    have hgt := get_calls W.heap.size g m (setL l nm vl) (l.length + 1) nm w2 D2.dc HR.out.2.2.1
    rw [hgs] at hgt
    have H2 := Lib.hid D2
    clear d2 o2 D2 hgs H1
    go_wp2_with fail
    refine hgt.mono ?_
    clear hgt
    rintro e w3 ⟨rfl, rfl⟩
    go_wp2_with fail
    go_loopw [12, 13] (fun fv i wr => ∃ (k nd : Nat) (fb : Bool), k ≤ l.length ∧ fv = .bool fb ∧ i = .int .i64 k ∧ Hid (fb = true ↔ ∃ x ∈ l.take k, x.1 = nm) ∧ wr = w3.drewN nd) (fun _ i _ => l.length - (intOf i).toNat)
    case atStart => exact ⟨0, 0, false, Nat.zero_le _, rfl, rfl, Lib.hid (by simp), rfl⟩
    case round =>
      obtain ⟨k, nd, fb, hk, rfl, rfl, hfb, rfl⟩ := hrel
      have H3 := Lib.hid (H2.out.below (below_drawn_' nd))
      by_cases hlt : k < l.length
      · obtain ⟨f, hf⟩ : ∃ f, l[k]? = some f := ⟨_, List.getElem?_eq_getElem (by omega)⟩
        obtain ⟨p, rfl, x0, x1⟩ := rdf_get (HR.out.1.below H3.out.bel) hf
        have hfm := List.mem_of_getElem? hf
        have Hnx := Lib.hid (found_next hf hfb.out)
        obtain ⟨fk, fv⟩ := f
        simp only at x0 x1 Hnx
        have hok := (HR.out.2.1.ok _ hfm).1
        have hgt := get_calls W.heap.size g m (setL l nm vl) (l.length + 1) fk _ H3.out.dc hok
        have hgf := (get_mem Hl.out fk fv).2 hfm
        clear hf hfm hok hfb
        by_cases e : fk = nm
        · subst e
          rw [show getV (setL l fk vl) fk = .tuple #[.string vl, .bool true] by unfold getV; rw [get_set, if_pos rfl]; rfl] at hgt
          have Hnx := Lib.hid (show true = true ↔ ∃ x ∈ l.take (k + 1), x.1 = fk by simpa using Hnx.out)
          clear hgf
          go_wp2_with fail
          refine hgt.mono ?_
          clear hgt
          rintro e w4 ⟨rfl, rfl⟩
          go_wp2_with fail
          exact ⟨⟨k + 1, nd, true, by omega, rfl, by go_num, Lib.hid (by simpa using Hnx.out), rfl⟩, by simp [intOf]; omega⟩
        · rw [show getV (setL l nm vl) fk = .tuple #[.string fv, .bool true] by unfold getV; rw [get_set, if_neg e, hgf]; rfl] at hgt
          have Hnx := Lib.hid (show fb = true ↔ ∃ x ∈ l.take (k + 1), x.1 = nm by simpa [e] using Hnx.out)
          have hne : (fk.toList == nm.toList) = false := by
            cases h : fk.toList == nm.toList
            · rfl
            · exact absurd (toL_inj (by simpa using h)) e
          clear hgf e
          go_wp2_with fail
          refine hgt.mono ?_
          clear hgt
          rintro e w4 ⟨rfl, rfl⟩
          go_wp2_with fail
          exact ⟨⟨k + 1, nd, fb, by omega, rfl, by go_num, Hnx, rfl⟩, by simp [intOf]; omega⟩
      · obtain rfl : k = l.length := by omega
        obtain rfl : fb = tb := by
          have h := hfb.out
          rw [List.take_length, ← has_iff Hl.out nm, ← Htb.out] at h
          cases fb <;> cases tb <;> simp_all
        clear hfb
        have hfl := fields_ho H3.out (by omega)
        obtain ⟨w4, hw4⟩ : ∃ w4, w4 = w3.drewN nd := ⟨_, rfl⟩
        rw [← hw4]
        rw [← hw4] at hfl H3
        clear hw4 H2
        have hcl := H3.out.len
        have Hcl := Lib.hid hcl
        clear hcl
        obtain ⟨cur, hcur⟩ : ∃ cur, cur = setL l nm vl := ⟨_, rfl⟩
        rw [← hcur] at hfl H3 Hcl
        have Hcur := Lib.hid hcur
        clear hcur
        go_wp2_with fail
        refine hfl.mono ?_
        clear hfl
        rintro e w5 ⟨A5, c5, rfl, r5, b5⟩
        have H5 := Lib.hid (H3.out.below b5)
        have hof := of_ho A5 c5 cur w5 r5 H5.out.gd (by have := Hcl.out; omega)
        clear r5 b5 H3
        go_wp2_with fail
        refine hof.mono ?_
        clear hof
        rintro e w6 (⟨hl6, g6, m6, rfl, d6⟩ | ⟨hl6, _⟩)
        · have H6 := Lib.hid (And.intro d6 (H5.out.below d6.bel))
          clear d6 hl6 H5
          have hf6 := fields_ho H6.out.1 (by have := Hcl.out; omega)
          have hdl : (dropL cur nm).length = l.length - (if fb then 1 else 0) := by
            rw [drop_len, Hcur.out, get_set, if_pos rfl, set_len l Hl.out, ← Htb.out]
            cases fb <;> simp
          have hpos : fb = true → 1 ≤ l.length := by
            intro h
            rw [Htb.out, has_iff Hl.out] at h
            obtain ⟨f, hf, _⟩ := h
            cases l with
            | nil => cases hf
            | cons a r => simp
          have Hdl := Lib.hid (And.intro hdl hpos)
          clear hdl hpos
          have HN := Lib.hid (show (getL cur nm).isSome = true by rw [Hcur.out, get_set, if_pos rfl]; rfl)
          obtain ⟨cn, hcn⟩ : ∃ cn, cn = cur.length := ⟨_, rfl⟩
          cases fb
          · go_wp2_with (fail)
            refine hf6.mono ?_
            clear hf6
            rintro e w7 ⟨A7, c7, rfl, r7, b7⟩
            have H7 := Lib.hid (H6.out.2.below b7)
            have Hr7 := Lib.hid r7
            have hf7 := fields_ho H7.out (by omega)
            clear r7 b7 H6
            go_wp2_with fail
            refine hf7.mono ?_
            clear hf7
            rintro e w8 ⟨A8, c8, rfl, r8, b8⟩
            have H8 := Lib.hid (H7.out.below b8)
            have hsm := same_true A7 A8 _ c7 _ c8 cur cur w8 (Hr7.out.below b8) r8 (by have := Hcl.out; omega) (by have := Hcl.out; omega) rfl
            clear r8 b8 H7 Hr7
            go_wp2_with fail
            refine hsm.mono ?_
            clear hsm
            rintro e w9 ⟨rfl, nd9, rfl⟩
            have H9 := Lib.hid (H8.out.below (below_drawn_' nd9))
            have hf9 := fields_ho H9.out (by omega)
            clear H8
            go_wp2_with fail
            refine hf9.mono ?_
            clear hf9
            rintro e w10 ⟨A10, c10, rfl, r10, b10⟩
            have H10 := Lib.hid (H9.out.below b10)
            clear r10 b10 H9
            have hln := len_calls W.heap.size g m cur (l.length + 1) w10 H10.out.dc
            go_wp2_with fail
            refine hln.mono ?_
            clear hln
            rintro e w11 ⟨rfl, rfl⟩
            have hdr := drop_calls W.heap.size g m cur (l.length + 1) nm w11 H10.out.dc HR.out.2.2.1
            rw [HN.out] at hdr
            go_wp2_with fail
            refine hdr.mono ?_
            clear hdr
            rintro e w12 ⟨rfl, d12, o12⟩
            have H12 := Lib.hid (H10.out.turn d12 o12 (H10.out.gd.drop nm))
            clear d12 o12 H10
            have hln := len_calls W.heap.size g m (dropL cur nm) (l.length + 1) w12 H12.out.dc
            obtain ⟨dn, hdn⟩ : ∃ dn, dn = (dropL cur nm).length := ⟨_, rfl⟩
            rw [← hdn] at hln
            have Hdn := Lib.hid (hdn.trans Hdl.out.1)
            have hsr := sure_calls w12 (H12.out.laid HR.out.2.2.2.2)
            clear hdn
            go_wp2_with fail
            refine hln.mono ?_
            clear hln
            rintro e w13 ⟨rfl, rfl⟩
            have hd1 := Hdn.out
            have hd2 := Hdl.out.2
            have heq : ((dn : Int) == (l.length : Int)) = true := by simp; simp at hd1; omega
            clear hd1 hd2
            go_wp2_with fail
            refine hsr.mono ?_
            clear hsr
            rintro e w14 ⟨rfl, b14⟩
            go_wp2_with fail
            go_ret
            exact ⟨rfl, below_seq H12.out.bel b14⟩
          · go_wp2_with (fail)
            refine hf6.mono ?_
            clear hf6
            rintro e w7 ⟨A7, c7, rfl, r7, b7⟩
            have H7 := Lib.hid (H6.out.2.below b7)
            have Hr7 := Lib.hid r7
            have hf7 := fields_ho H7.out (by omega)
            clear r7 b7 H6
            go_wp2_with fail
            refine hf7.mono ?_
            clear hf7
            rintro e w8 ⟨A8, c8, rfl, r8, b8⟩
            have H8 := Lib.hid (H7.out.below b8)
            have hsm := same_true A7 A8 _ c7 _ c8 cur cur w8 (Hr7.out.below b8) r8 (by have := Hcl.out; omega) (by have := Hcl.out; omega) rfl
            clear r8 b8 H7 Hr7
            go_wp2_with fail
            refine hsm.mono ?_
            clear hsm
            rintro e w9 ⟨rfl, nd9, rfl⟩
            have H9 := Lib.hid (H8.out.below (below_drawn_' nd9))
            have hf9 := fields_ho H9.out (by omega)
            clear H8
            go_wp2_with fail
            refine hf9.mono ?_
            clear hf9
            rintro e w10 ⟨A10, c10, rfl, r10, b10⟩
            have H10 := Lib.hid (H9.out.below b10)
            clear r10 b10 H9
            have hln := len_calls W.heap.size g m cur (l.length + 1) w10 H10.out.dc
            go_wp2_with fail
            refine hln.mono ?_
            clear hln
            rintro e w11 ⟨rfl, rfl⟩
            have hdr := drop_calls W.heap.size g m cur (l.length + 1) nm w11 H10.out.dc HR.out.2.2.1
            rw [HN.out] at hdr
            go_wp2_with fail
            refine hdr.mono ?_
            clear hdr
            rintro e w12 ⟨rfl, d12, o12⟩
            have H12 := Lib.hid (H10.out.turn d12 o12 (H10.out.gd.drop nm))
            clear d12 o12 H10
            have hln := len_calls W.heap.size g m (dropL cur nm) (l.length + 1) w12 H12.out.dc
            obtain ⟨dn, hdn⟩ : ∃ dn, dn = (dropL cur nm).length := ⟨_, rfl⟩
            rw [← hdn] at hln
            have Hdn := Lib.hid (hdn.trans Hdl.out.1)
            have hsr := sure_calls w12 (H12.out.laid HR.out.2.2.2.2)
            clear hdn
            go_wp2_with fail
            refine hln.mono ?_
            clear hln
            rintro e w13 ⟨rfl, rfl⟩
            have hd1 := Hdn.out
            have hd2 := Hdl.out.2
            have heq : ((dn : Int) == (l.length : Int)) = false := by simp at hd1 hd2; simp; omega
            clear hd1 hd2
            go_wp2_with fail
            refine hsr.mono ?_
            clear hsr
            rintro e w14 ⟨rfl, b14⟩
            go_wp2_with fail
            go_ret
            exact ⟨rfl, below_seq H12.out.bel b14⟩
        · exact absurd H5.out.dc.ris hl6
  · have Hl := Lib.hid hl
    have H1 := Lib.hid b1
    clear hl b1
    have hrs := not_rises A c l w1 (HR.out.1.below H1.out) hn Hl.out
    go_wp2_with fail
    refine hrs.mono ?_
    clear hrs
    rintro e w2 ⟨rfl, b2⟩
    have hsr := sure_calls w2 (HR.out.2.2.2.2.below (below_seq H1.out b2))
    have H2 := Lib.hid b2
    clear b2
    go_wp2_with fail
    refine hsr.mono ?_
    clear hsr
    rintro e w3 ⟨rfl, b3⟩
    go_wp2_with fail
    go_ret
    exact ⟨rfl, below_seq (below_seq H1.out H2.out) b3⟩
theorem back_law (A : Option Addr) (n c : Nat) (l : List Fld) (nm vl : ByteArray) (W : World) (hr : Rd W 2 A n c (l.flatMap fF)) (hl : l.length = n) (h1 : ∀ x ∈ l, fOK x) (h2 : (l.map fM).sum ≤ 1048576)
    (h3 : nm.size ≤ 1048576) (h4 : vl.size ≤ 1048576) (hL : Laid W) :
    Calls Tryd.prog 5 #[.slice A n c, .string nm, .string vl] W fun e w' => e = .returned (.bool true) ∧ Below W.heap.size W w' := by
  subst hl
  exact back_calls A c l nm vl W hr (Gd.of_sum h2) (by have := LawR.len_sum fM (fun x => by unfold fM; omega) l; omega) h3 h4 hL
end Go.Proofs.YthgdkmbcibfehaaDoor.DcQ
