/-
  The document's May, Less, Find. Conditions: as stated.
  The law's twin and same. Conditions: as stated.
  The document's Drop. Conditions: as stated.
  The document's Put. Conditions: as stated.
  The document's way, Place. Conditions: as stated.
-/
import Derived.Test.YtakhcfemakapbaaGreatDoorRgC
import Derived.Deep.QuietTactic
import Derived.Laws.StructEq
import Derived.Test.YtakhcfemakapbaaGreatDoorRgE
import Derived.Deep.Cut
set_option maxRecDepth 100000
set_option linter.unusedSimpArgs false
set_option linter.unusedVariables false
namespace Go.Proofs.YtakhcfemakapbaaGreatDoor.RkV
open Go Go.RowKit Go.Shelf Go.Sort Go.Proofs.YtakhcfemakapbaaGreatDoor.Mem Go.Proofs.YtakhcfemakapbaaGreatDoor.DuA Go.Proofs.YtakhcfemakapbaaGreatDoor.DuM Go.Proofs.YtakhcfemakapbaaGreatDoor.DuN Go.Proofs.YtakhcfemakapbaaGreatDoor.RkA Go.Proofs.YtakhcfemakapbaaGreatDoor.RkC Go.Proofs.YtakhcfemakapbaaGreatDoor.RkB Go.Proofs.YtakhcfemakapbaaGreatDoor.RkE Go.Proofs.YtakhcfemakapbaaGreatDoor.RkI

theorem may_calls (n : Int) (w : World) : Calls Tryz.prog 34 #[.int .i64 n] w fun e w' => e = .returned (.bool (decide (okS n))) ∧ w' = w := by
  by_cases h1 : -9007199254740992 ≤ n
  · by_cases h2 : n ≤ 9007199254740992
    · rw [show decide (okS n) = true from decide_eq_true ⟨h1, h2⟩]
      go_enter Tryz.func34, Tryz.ntmps34
      go_wp2_with fail
      go_ret
      exact ⟨rfl, rfl⟩
    · rw [show decide (okS n) = false from decide_eq_false (fun h => h2 h.2)]
      go_enter Tryz.func34, Tryz.ntmps34
      go_wp2_with fail
      go_ret
      exact ⟨rfl, rfl⟩
  · rw [show decide (okS n) = false from decide_eq_false (fun h => h1 h.1)]
    go_enter Tryz.func34, Tryz.ntmps34
    go_wp2_with fail
    go_ret
    exact ⟨rfl, rfl⟩
theorem lessR_calls (s t : Int) (a b : ByteArray) (w : World) : Calls Tryz.prog 62 #[.agg #[.string a, .int .i64 s], .agg #[.string b, .int .i64 t]] w fun e w' => e = .returned (.bool (bef ltS (s, a) (t, b))) ∧ w' = (w.alloc (eo (s, a))).alloc (eo (t, b)) := by
  unfold bef ltS
  go_enter Tryz.func62, Tryz.ntmps62
  by_cases h1 : s < t
  · go_wp2_with fail
    go_ret
    exact ⟨by simp [h1], rfl⟩
  · by_cases h2 : s = t
    · have h3 : (s == t) = true := by simp [h2]
      have H2 := Lib.hid h2
      clear h2
      go_wp2_with fail
      go_ret
      exact ⟨by simp [h1, H2.out], rfl⟩
    · have h3 : (s == t) = false := by simp [h2]
      have H2 := Lib.hid h2
      clear h2
      go_wp2_with fail
      go_ret
      exact ⟨by simp [h1, H2.out], rfl⟩
theorem lessR_grown (x y : En) (w : World) : Calls Tryz.prog 62 #[eV x, eV y] w fun e w' => e = .returned (.bool (bef ltS x y)) ∧ ∃ q os, w' = grow (w.drewN q) os := by
  refine (lessR_calls x.1 y.1 x.2 y.2 w).mono ?_
  rintro e w' ⟨rfl, rfl⟩
  exact ⟨rfl, 0, _, by rw [alloc_eq_grow, alloc_eq_grow, grow_grow]; rfl⟩
/-- The place of a name, as an int. -/
def findI (l : List En) (k : ByteArray) : Int := if plN l k < l.length then (plN l k : Int) else -1
theorem find_calls (A : Option Addr) (n c : Nat) (l : List En) (k : ByteArray) (w : World) (hr : RdE w A n c l) (hn : n ≤ 1000000000) :
    Calls Tryz.prog 35 #[.slice A n c, .string k] w fun e w' => e = .returned (.int .i64 (findI l k)) ∧ w' = w := by
  obtain rfl := rde_len hr
  have HR := Lib.hid hr
  clear hr
  obtain ⟨R, hRR⟩ : ∃ R, R = findI l k := ⟨_, rfl⟩
  rw [← hRR]
  have HRR := Lib.hid hRR
  clear hRR
  go_enter Tryz.func35, Tryz.ntmps35
  go_wp2_with fail
  go_loopw [5] (fun iv wr => wr = w ∧ ∃ j : Nat, iv = .int .i64 j ∧ j ≤ l.length ∧ Hid (∀ t e, t < j → l[t]? = some e → e.2 ≠ k)) (fun iv _ => l.length - (RowKit.intOf iv).toNat)
  case atStart => exact ⟨rfl, 0, rfl, Nat.zero_le _, Lib.hid (fun t e h => absurd h (Nat.not_lt_zero _))⟩
  case round =>
    obtain ⟨hw, j, rfl, hj, P⟩ := hrel
    subst wr
    by_cases hlt : j < l.length
    · obtain ⟨y, hy⟩ : ∃ y, l[j]? = some y := ⟨_, List.getElem?_eq_getElem hlt⟩
      obtain ⟨q, hq, x0, x1⟩ := rde_get HR.out hy
      subst hq
      have heq := eqS y.2 k
      have HY := Lib.hid hy
      clear hy
      by_cases he : y.2 = k
      · rw [decide_eq_true he] at heq
        have hpl : plN l k = j := pl_uniq P.out (.inr ⟨y, HY.out, he⟩)
        have hR : R = (j : Int) := by rw [HRR.out]; unfold findI; rw [hpl, if_pos hlt]
        have HE := Lib.hid hR
        clear he hpl hR
        go_wp2_with fail
        go_ret
        exact ⟨by rw [HE.out]; rfl, rfl⟩
      · rw [decide_eq_false he] at heq
        have HE := Lib.hid he
        clear he
        go_wp2_with fail
        refine ⟨⟨by trivial, j + 1, by simp, by omega, Lib.hid (fun t e h1 h2 => ?_)⟩, by simp [RowKit.intOf]; omega⟩
        rcases Nat.lt_or_ge t j with h3 | h3
        · exact P.out t e h3 h2
        · have : t = j := by omega
          subst this
          rw [HY.out] at h2
          injection h2 with h2
          subst h2
          exact HE.out
    · obtain rfl : j = l.length := by omega
      have hpl : plN l k = l.length := pl_uniq P.out (.inl rfl)
      have hR : R = -1 := by rw [HRR.out]; unfold findI; rw [hpl, if_neg (by omega)]
      have HE := Lib.hid hR
      clear hpl hR
      go_wp2_with fail
      go_ret
      exact ⟨by rw [HE.out]; rfl, rfl⟩
end Go.Proofs.YtakhcfemakapbaaGreatDoor.RkV
set_option maxRecDepth 100000
set_option linter.unusedSimpArgs false
set_option linter.unusedVariables false
namespace Go.Proofs.YtakhcfemakapbaaGreatDoor.RkW
open Go Go.RowKit Go.Shelf Go.Proofs.YtakhcfemakapbaaGreatDoor.Mem Go.Proofs.YtakhcfemakapbaaGreatDoor.DuA Go.Proofs.YtakhcfemakapbaaGreatDoor.DuM Go.Proofs.YtakhcfemakapbaaGreatDoor.DuN Go.Proofs.YtakhcfemakapbaaGreatDoor.RkA Go.Proofs.YtakhcfemakapbaaGreatDoor.RkC Go.Proofs.YtakhcfemakapbaaGreatDoor.RkB Go.Proofs.YtakhcfemakapbaaGreatDoor.RkE Go.Proofs.YtakhcfemakapbaaGreatDoor.RkI

theorem twin_calls (A : Option Addr) (n c : Nat) (l : List En) (w : World) (hr : RdE w A n c l) (hn : n ≤ 1000000000) :
    Calls Tryz.prog 10 #[.slice A n c] w fun e w' => ∃ v, e = .returned v ∧ OwnE w' w.heap.size v l ∧ Below w.heap.size w w' := by
  have hl : Hid (l.length = n) := rde_len hr
  go_enter Tryz.func10, Tryz.ntmps10
  go_wp2_with (at_builtin; refine wpList_app rfl (.tmp 4) (.tmp 5) elE rfl w.heap.size (.slice none 0 0) 0 [] rfl (World.ownsRow_nil _ _ _ _) A n c (ents l) rfl hr (ents_one _) (by unfold maxLen; omega) (by omega) (Nat.le_refl _) ?_; intro v w1 o1 b1 f1)
  go_ret
  refine ⟨_, rfl, ?_, b1.below (Nat.le_refl _) (fun _ h => nomatch h)⟩
  simpa [OwnE, hl.out] using o1
theorem toL_iff {a b : ByteArray} : a.toList = b.toList ↔ a = b := ⟨toL_inj, fun h => by rw [h]⟩
theorem neq_K (a b : ByteArray × Int) (w : World) : (binOp .neq 51 (.agg #[.string a.1, .int .i64 a.2]) (.agg #[.string b.1, .int .i64 b.2])).run Tryz.prog w = .ok (.bool (!decide (a = b))) w := by
  have u3 := Tryz.underlying9
  have a3 := Tryz.isAgg9
  have z3 := Tryz.sizeOf9
  have u4 := Tryz.underlying3
  have a4 := Tryz.isAgg3
  have z4 := Tryz.sizeOf3
  have hS : Tryz.prog.underlying 51 = some (.struct (Tryz.prog.fieldsOf 51)) := by kernel_rfl
  have hp : Tryz.prog.stoodInHeld 51 = false := by kernel_rfl
  rw [run_neq_struct, show (10000 : Nat) = 9999 + 1 from rfl, run_equalIn_agg w 9999 51 _ _ hS hp]
  simp only [Program.fieldsOf, Tryz.underlying51]
  go_simp
  obtain ⟨a1, a2⟩ := a
  obtain ⟨b1, b2⟩ := b
  by_cases h1 : a1 = b1 <;> by_cases h2 : a2 = b2 <;> simp [toL_iff, h1, h2]

set_option maxHeartbeats 2000000 in
theorem same_calls (A A' : Option Addr) (n c n' c' : Nat) (a b : List En) (w : World) (ha : RdE w A n c a) (hb : RdE w A' n' c' b) (hn : n ≤ 1000000000) :
    Calls Tryz.prog 13 #[.slice A n c, .slice A' n' c'] w fun e w' => e = .returned (.bool (decide (a = b))) ∧ ∃ nd, w' = w.drewN nd := by
  obtain rfl := rde_len ha
  obtain rfl := rde_len hb
  by_cases hlen : a.length = b.length
  · obtain ⟨R, hRR⟩ : ∃ R, R = decide (a = b) := ⟨_, rfl⟩
    rw [← hRR]
    have HRR := Lib.hid hRR
    have hle : ((a.length : Int) != (b.length : Int)) = false := by simp [hlen]
    have HL := Lib.hid hlen
    have HA := Lib.hid ha
    have HB := Lib.hid hb
    clear hRR hlen ha hb
    go_enter Tryz.func13, Tryz.ntmps13
    go_wp2_with fail
    clear hle
    go_loopw [5] (fun iv wr => ∃ j : Nat, iv = .int .i64 j ∧ j ≤ a.length ∧ Hid ((∃ nd, wr = w.drewN nd) ∧ ∀ t, t < j → a[t]? = b[t]?)) (fun iv _ => a.length - (RowKit.intOf iv).toNat)
    case atStart => exact ⟨0, rfl, Nat.zero_le _, Lib.hid ⟨⟨0, rfl⟩, fun t h => absurd h (Nat.not_lt_zero _)⟩⟩
    case round =>
      obtain ⟨j, rfl, hj, P⟩ := hrel
      have ha' : RdE wr A a.length c a := by obtain ⟨⟨nd, hw⟩, -⟩ := P.out; rw [hw]; exact HA.out.drawn nd
      have hb' : RdE wr A' b.length c' b := by obtain ⟨⟨nd, hw⟩, -⟩ := P.out; rw [hw]; exact HB.out.drawn nd
      have HD : Hid (∀ q, ∃ nd, wr.drewN q = w.drewN nd) := Lib.hid (fun q => by obtain ⟨⟨nd, hw⟩, -⟩ := P.out; rw [hw]; exact ⟨nd + q, World.drewN_drewN _ _ _⟩)
      by_cases hlt : j < a.length
      · obtain ⟨x, hx⟩ : ∃ x, a[j]? = some x := ⟨_, List.getElem?_eq_getElem hlt⟩
        have hltb : j < b.length := by rw [← HL.out]; exact hlt
        obtain ⟨y, hy⟩ : ∃ y, b[j]? = some y := ⟨_, List.getElem?_eq_getElem hltb⟩
        obtain ⟨q, rfl, x0, x1⟩ := rde_get ha' hx
        obtain ⟨q', rfl, y0, y1⟩ := rde_get hb' hy
        have HX := Lib.hid (And.intro hx hy)
        clear hx hy ha' hb'
        obtain ⟨xs, xn⟩ := x
        obtain ⟨ys, yn⟩ := y
        simp only at x0 x1 y0 y1
        by_cases he : xn = yn ∧ xs = ys
        · obtain ⟨h1, h2⟩ := he
          subst h1 h2
          go_wp2_with fail
          go_quiet (fail)
          go_wp2_with fail
          refine ⟨⟨j + 1, by simp, by omega, Lib.hid ⟨HD.out nq, fun t ht => ?_⟩⟩, by simp [RowKit.intOf]; omega⟩
          rcases Nat.lt_or_ge t j with h3 | h3
          · exact P.out.2 t h3
          · have : t = j := by omega
            subst this
            rw [HX.out.1, HX.out.2]
        · have hne : (xn.toList == yn.toList && xs == ys) = false := by
            rw [eqS]
            by_cases h1 : xn = yn
            · have h2 : ¬ xs = ys := fun h2 => he ⟨h1, h2⟩
              simp [h1, h2]
            · simp [h1]
          have hR : R = false := by
            rw [HRR.out]
            refine decide_eq_false (fun h => he ?_)
            have h1 := HX.out.1
            rw [h, HX.out.2] at h1
            injection h1 with h1
            injection h1 with h1 h2
            exact ⟨h2.symm, h1.symm⟩
          have HE := Lib.hid hR
          clear he hR
          have hnq := neq_K (xn, xs) (yn, ys)
          rw [decide_eq_false (fun h => by injection h with h1 h2; simp [h1, h2] at hne), Bool.not_false] at hnq
          simp only at hnq
          go_wp2_with fail
          go_quiet (fail)
          go_wp2_with fail
          go_ret
          exact ⟨by rw [HE.out]; rfl, HD.out nq⟩
      · obtain rfl : j = a.length := by omega
        have hR : R = true := by
          rw [HRR.out]
          refine decide_eq_true (List.ext_getElem? (fun t => ?_))
          rcases Nat.lt_or_ge t a.length with h3 | h3
          · exact P.out.2 t h3
          · rw [List.getElem?_eq_none h3, List.getElem?_eq_none (by rw [← HL.out]; exact h3)]
        have HE := Lib.hid hR
        clear hR
        go_wp2_with fail
        go_ret
        exact ⟨by rw [HE.out]; rfl, by obtain ⟨nd, h⟩ := HD.out 0; exact ⟨nd, h⟩⟩
  · have hle : ((a.length : Int) != (b.length : Int)) = true := by simp; omega
    rw [decide_eq_false (fun h : a = b => hlen (by rw [h]))]
    clear hlen
    go_enter Tryz.func13, Tryz.ntmps13
    go_wp2_with fail
    go_ret
    exact ⟨rfl, 0, rfl⟩
end Go.Proofs.YtakhcfemakapbaaGreatDoor.RkW
set_option maxRecDepth 100000
set_option linter.unusedSimpArgs false
set_option linter.unusedVariables false
namespace Go.Proofs.YtakhcfemakapbaaGreatDoor.RkY
open Go Go.RowKit Go.Shelf Go.Proofs.YtakhcfemakapbaaGreatDoor.Mem Go.Proofs.YtakhcfemakapbaaGreatDoor.DuA Go.Proofs.YtakhcfemakapbaaGreatDoor.DuM Go.Proofs.YtakhcfemakapbaaGreatDoor.DuN Go.Proofs.YtakhcfemakapbaaGreatDoor.RkA Go.Proofs.YtakhcfemakapbaaGreatDoor.RkC Go.Proofs.YtakhcfemakapbaaGreatDoor.RkB Go.Proofs.YtakhcfemakapbaaGreatDoor.RkE Go.Proofs.YtakhcfemakapbaaGreatDoor.RkF Go.Proofs.YtakhcfemakapbaaGreatDoor.RkI Go.Proofs.YtakhcfemakapbaaGreatDoor.RkM Go.Proofs.YtakhcfemakapbaaGreatDoor.RkP Go.Proofs.YtakhcfemakapbaaGreatDoor.RkR Go.Proofs.YtakhcfemakapbaaGreatDoor.RkV

theorem cut_from (A : Option Addr) (n c k : Nat) (h1 : k ≤ n) (h2 : n ≤ c) (w : World) :
    (Instr.slice 22 (.slice A n c) (some (.int .i64 k)) none none).run Tryz.prog w = .ok (.slice (if c = k then A else A.map (·.add (k * 2))) (n - k) (c - k)) w := by
  rw [run_slice_l w 22 A n c (by kernel_rfl) .i64 k (by omega) (by omega)]
  go_simp
set_option maxHeartbeats 2000000 in
/-- A slice's memory is another's, or lies from B to E. -/
def Near (A A' : Option Addr) (B E : Nat) : Prop := ∀ k, (Value.slice A' 0 0).ownBlock = some k → (Value.slice A 0 0).ownBlock = some k ∨ (B ≤ k ∧ k < E)
theorem Near.refl (A : Option Addr) (B E : Nat) : Near A A B E := fun _ h => .inl h
theorem Near.own {A A' : Option Addr} {w : World} {B n c : Nat} {l : List En} (h : OwnE w B (.slice A' n c) l) : Near A A' B w.heap.size := fun k hk => .inr (h.lt k (by rw [ob A' n c 0 0]; exact hk))
theorem Near.cut (A : Option Addr) (p : Prop) [Decidable p] (k B E : Nat) : Near A (if p then A else A.map (·.add k)) B E := fun q hq => .inl (by
  split at hq
  · exact hq
  · cases A with
    | none => cases hq
    | some a =>
      simp only [Option.map_some, Value.ownBlock, Option.some.injEq] at hq ⊢
      rw [← hq, Mem.add_block])
set_option maxHeartbeats 1000000 in
theorem dropR_calls (A : Option Addr) (n c : Nat) (l : List En) (k : ByteArray) (w : World) (hr : RdE w A n c l) (hnd : (l.map (·.2)).Nodup) (hn : n ≤ 1000000000) :
    Calls Tryz.prog 40 #[.slice A n c, .string k] w fun e w' => ∃ A' n' c', e = .returned (.tuple #[.slice A' n' c', .bool (dueL l k).isSome]) ∧ RdE w' A' n' c' (dropL l k) ∧ Below w.heap.size w w' ∧ Near A A' w.heap.size w'.heap.size := by
  obtain rfl := rde_len hr
  have hf := find_calls A l.length c l k w hr hn
  have hcap := hr.cap
  by_cases hp : plN l k < l.length
  · obtain ⟨i, hi⟩ : ∃ i, i = plN l k := ⟨_, rfl⟩
    have hd := drop_pl hnd hp
    have hs : (dueL l k).isSome = true := due_pl_lt.2 hp
    rw [hs]
    unfold findI at hf
    rw [if_pos hp] at hf
    rw [← hi] at hf hd hp
    obtain ⟨i1, hi1⟩ : ∃ i1, i1 = i + 1 := ⟨_, rfl⟩
    have hiz : (i : Int) + 1 = (i1 : Int) := by omega
    have hc1 := fun W => cut_pre A l.length c i (by omega) W
    have hc2 := fun W => cut_from A l.length c i1 (by omega) hcap W
    have r1 := rde_take hr (k := i) (by omega)
    have r2 := rde_drop hr (k := i1) (by omega)
    obtain ⟨A4, hA4⟩ : ∃ A4, A4 = (if c = i1 then A else A.map (·.add (i1 * 2))) := ⟨_, rfl⟩
    rw [← hA4] at hc2 r2
    have hl1 : (l.take i).length = i := by rw [List.length_take]; omega
    have HD := Lib.hid (And.intro hd (And.intro hi1 hl1))
    have hbs : i1 ≤ l.length := by omega
    clear hd hs hi hnd hA4 hl1 hi1
    obtain ⟨n4, hn4⟩ : ∃ n4, n4 = l.length - i1 := ⟨_, rfl⟩
    obtain ⟨c4, hc4⟩ : ∃ c4, c4 = c - i1 := ⟨_, rfl⟩
    rw [← hn4, ← hc4] at hc2 r2
    have hn4b : i + n4 ≤ 1000000000 := by have := HD.out.2.1; omega
    clear hn4 hc4
    go_enter Tryz.func40, Tryz.ntmps40
    go_wp2_with (first
      | (go_at_call 35; refine hf.mono ?_; rintro e w1 ⟨rfl, hw1⟩; subst w1)
      | (at_builtin; refine wpList_app rfl (.tmp 14) (.tmp 17) elE rfl w.heap.size (.slice none 0 0) 0 [] rfl (World.ownsRow_nil _ _ _ _) A i c (ents (l.take i)) rfl r1 (ents_one _) (by unfold maxLen; omega) (by omega) (Nat.le_refl _) ?_; intro v5 w5 o5 O5 hv5; simp only [Nat.zero_add, List.nil_append] at o5; have b5 : Below w.heap.size w w5 := O5.below (Nat.le_refl _) (fun _ h => nomatch h); have r5 := r2.below b5; have hs5 := b5.size)
      | (at_builtin; refine wpList_app rfl (.tmp 19) (.tmp 23) elE rfl w.heap.size v5 i _ rfl o5 A4 n4 c4 (ents (l.drop i1)) rfl r5 (ents_one _) (by unfold maxLen; omega) (by omega) hs5 ?_; intro v6 w6 o6 O6 hv6; obtain ⟨A6, c6, rfl⟩ := own_form o6))
    go_ret2
    refine ⟨A6, i + n4, c6, rfl, ?_, O6.after b5 (Nat.le_refl _) (fun q hq => (o5.lt q hq).1), fun k hk => .inr (o6.lt k (by rw [ob A6 _ c6 0 0]; exact hk))⟩
    have := Rd.of_own o6
    rw [← ents_app, HD.out.2.1, ← HD.out.1] at this
    exact this
  · have hs : (dueL l k).isSome = false := by
      cases h : (dueL l k).isSome
      · rfl
      · exact absurd (due_pl_lt.1 h) hp
    rw [hs, drop_pl_none hp]
    unfold findI at hf
    rw [if_neg hp] at hf
    clear hs hp
    go_enter Tryz.func40, Tryz.ntmps40
    go_wp2_with (go_at_call 35; refine hf.mono ?_; rintro e w1 ⟨rfl, hw1⟩; subst w1)
    go_ret2
    exact ⟨_, _, _, rfl, hr, Below.refl _ _, Near.refl _ _ _⟩
end Go.Proofs.YtakhcfemakapbaaGreatDoor.RkY
set_option maxRecDepth 100000
set_option linter.unusedSimpArgs false
set_option linter.unusedVariables false
namespace Go.Proofs.YtakhcfemakapbaaGreatDoor.RkZ
open Go Go.RowKit Go.Shelf Go.Sort Go.Proofs.YtakhcfemakapbaaGreatDoor.Mem Go.Proofs.YtakhcfemakapbaaGreatDoor.DuA Go.Proofs.YtakhcfemakapbaaGreatDoor.DuM Go.Proofs.YtakhcfemakapbaaGreatDoor.DuN Go.Proofs.YtakhcfemakapbaaGreatDoor.RkA Go.Proofs.YtakhcfemakapbaaGreatDoor.RkC Go.Proofs.YtakhcfemakapbaaGreatDoor.RkB Go.Proofs.YtakhcfemakapbaaGreatDoor.RkE Go.Proofs.YtakhcfemakapbaaGreatDoor.RkF Go.Proofs.YtakhcfemakapbaaGreatDoor.RkI Go.Proofs.YtakhcfemakapbaaGreatDoor.RkK Go.Proofs.YtakhcfemakapbaaGreatDoor.RkM Go.Proofs.YtakhcfemakapbaaGreatDoor.RkP Go.Proofs.YtakhcfemakapbaaGreatDoor.RkR Go.Proofs.YtakhcfemakapbaaGreatDoor.RkV Go.Proofs.YtakhcfemakapbaaGreatDoor.RkY

set_option maxHeartbeats 2000000 in
theorem putR_calls (A : Option Addr) (n c : Nat) (l : List En) (e : En) (w : World) (hr : RdE w A n c l) (hs : Srt ltS l) (hn : n ≤ 1000000000) :
    Calls Tryz.prog 36 #[.slice A n c, .agg #[.string e.2, .int .i64 e.1]] w fun e' w' => ∃ v, e' = .returned v ∧ OwnE w' w.heap.size v (l.take (posL ltS l e) ++ e :: l.drop (posL ltS l e)) ∧ Below w.heap.size w w' := by
  obtain rfl := rde_len hr
  have hcap := hr.cap
  have hpl := pos_le (lt := ltS) l e
  have hiff : ∀ {y : En} {i : Nat}, l[i]? = some y → (bef ltS y e = true ↔ i < posL ltS l e) := fun hy => pos_iff hs hy
  obtain ⟨P, hP⟩ : ∃ P, P = posL ltS l e := ⟨_, rfl⟩
  rw [← hP] at hpl ⊢
  simp only [← hP] at hiff
  have HI : Hid (∀ (y : En) (i : Nat), l[i]? = some y → (bef ltS y e = true ↔ i < P)) := Lib.hid (fun y i hy => hiff hy)
  obtain ⟨t, nm⟩ := e
  obtain ⟨W2, hW2⟩ : ∃ W2, W2 = w.alloc (.cells #[.string nm, .int .i64 t] 51) := ⟨_, rfl⟩
  have b2 : Below w.heap.size w W2 := by rw [hW2]; exact al w _
  have e0 : W2.cell? ⟨w.heap.size, 0, none⟩ = some (.string nm) := by rw [hW2]; exact (eo_cells w (t, nm)).1
  have e1 : W2.cell? ⟨w.heap.size, 1, none⟩ = some (.int .i64 t) := by rw [hW2]; exact (eo_cells w (t, nm)).2
  have H2 := Lib.hid (And.intro b2 (And.intro e0 (And.intro e1 hr)))
  have mixed : Tryz.prog.follows .mixedOrders = true := by kernel_rfl
  clear hP hiff hs b2 e0 e1 hr
  go_enter Tryz.func36, Tryz.ntmps36
  go_upto_region 1 with fail
  rw [← hW2]
  clear hW2
  go_wp2_with fail
  go_loopw [5, 6] (fun lv hv wr => ∃ lo hi : Nat, lv = .int .i64 lo ∧ hv = .int .i64 hi ∧ lo ≤ P ∧ P ≤ hi ∧ hi ≤ l.length ∧ Hid (Below W2.heap.size W2 wr)) (fun lv hv _ => (RowKit.intOf hv - RowKit.intOf lv).toNat)
  case atStart => exact ⟨0, l.length, rfl, rfl, Nat.zero_le _, hpl, Nat.le_refl _, Lib.hid (Below.refl _ _)⟩
  case round =>
    obtain ⟨lo, hi, rfl, rfl, h1, h2, h3, hb⟩ := hrel
    have bw := H2.out.1.trans (hb.out.mono H2.out.1.size)
    have f0 := cell_b H2.out.2.1 hb.out
    have f1 := cell_b H2.out.2.2.1 hb.out
    have hr := H2.out.2.2.2.below bw
    by_cases hlt : lo < hi
    · obtain ⟨m, hm⟩ : ∃ m : Nat, ((lo : Int) + (hi : Int)) / 2 = (m : Int) := ⟨(lo + hi) / 2, by omega⟩
      have hm' : ((lo : Int) + (hi : Int)).tdiv 2 = (m : Int) := by rw [Int.tdiv_eq_ediv_of_nonneg (by omega)]; exact hm
      have hml : m < l.length := by omega
      have hm1 : lo ≤ m ∧ m < hi := by omega
      obtain ⟨y, hy⟩ : ∃ y, l[m]? = some y := ⟨_, List.getElem?_eq_getElem hml⟩
      obtain ⟨q, rfl, x0, x1⟩ := rde_get hr hy
      have hif := HI.out y m hy
      have c0 := fun n os => cell_grown (cell_lt x0) x0 n os
      have c1 := fun n os => cell_grown (cell_lt x1) x1 n os
      have c2 := fun n os => cell_grown (cell_lt f0) f0 n os
      have c3 := fun n os => cell_grown (cell_lt f1) f1 n os
      have hah := fun n os => lessR_grown y (t, nm) (grow (wr.drewN n) os)
      have HB := Lib.hid bw
      clear x0 x1 f0 f1 hr bw hy
      obtain ⟨ys, yn⟩ := y
      simp only at hah c0 c1
      cases hv : bef ltS (ys, yn) (t, nm)
      · rw [hv] at hif
        simp only [hv] at hah
        simp only [Bool.false_eq_true, false_iff] at hif
        have HF := Lib.hid hif
        have HM1 := Lib.hid hm1
        clear hv hif hm1
        go_upto_region 4 with fail
        go_quiet_grown (first | (go_at_call 62; refine Calls.grown_of (hah _ _)))
        go_wp2_with fail
        refine ⟨⟨lo, m, rfl, by first | rfl | rw [hm], h1, by have := HF.out; omega, by omega, Lib.hid (hb.out.trans ((below_grow nq osq).mono hb.out.size))⟩, by have := HM1.out; simp [RowKit.intOf]; omega⟩
      · rw [hv] at hif
        simp only [hv] at hah
        simp only [true_iff] at hif
        have HF := Lib.hid hif
        have HM1 := Lib.hid hm1
        clear hv hif hm1
        go_upto_region 4 with fail
        go_quiet_grown (first | (go_at_call 62; refine Calls.grown_of (hah _ _)))
        go_wp2_with fail
        refine ⟨⟨m + 1, hi, by simp, rfl, by have := HF.out; omega, h2, h3, Lib.hid (hb.out.trans ((below_grow nq osq).mono hb.out.size))⟩, by have := HM1.out; simp [RowKit.intOf]; omega⟩
    · have hlp : lo = P := by omega
      have hhp : hi = P := by omega
      subst hlp
      have hhp2 := hhp.symm
      subst hhp2
      have r1 := rde_take hr h3
      have r2 := rde_drop H2.out.2.2.2 h3
      obtain ⟨A4, hA4⟩ : ∃ A4, A4 = (if c = lo then A else A.map (·.add (lo * 2))) := ⟨_, rfl⟩
      have hc1 := fun W => cut_pre A l.length c lo (by omega) W
      have hc2 := fun W => cut_from A l.length c lo h3 hcap W
      rw [← hA4] at r2
      simp only [← hA4] at hc2
      obtain ⟨n4, hn4⟩ : ∃ n4, n4 = l.length - lo := ⟨_, rfl⟩
      obtain ⟨c4, hc4⟩ : ∃ c4, c4 = c - lo := ⟨_, rfl⟩
      rw [← hn4, ← hc4] at r2
      simp only [← hn4, ← hc4] at hc2
      have hb4 : lo + 1 + n4 ≤ 1000000001 := by omega
      have HN4 := Lib.hid hn4
      have hbs := bw.size
      have HBW := Lib.hid bw
      clear hA4 hn4 hc4 bw hr h1 h2 hlt
      go_wp2_with (first
        | (at_builtin; refine wpList_app rfl (.tmp 27) (.tmp 30) elE rfl w.heap.size (.slice none 0 0) 0 [] rfl (World.ownsRow_nil _ _ _ _) A lo c (ents (l.take lo)) rfl r1 (ents_one _) (by unfold maxLen; omega) (by omega) hbs ?_; intro v5 w5 o5 O5 hv5; simp only [Nat.zero_add, List.nil_append] at o5; have b5 : Below w.heap.size w w5 := O5.after HBW.out (Nat.le_refl _) (fun _ h => nomatch h); have g0 := O5.cell f0 (fun h => nomatch h); have g1 := O5.cell f1 (fun h => nomatch h); have ho6 := own_only (w' := w5.alloc (eo (t, nm))) o5 (only_b (S := fun _ => False) (al w5 _)) (fun _ _ => id); have hrv : RdE (w5.alloc (eo (t, nm))) (some ⟨w5.heap.size, 0, none⟩) 1 1 [(t, nm)] := One.rd ⟨heap_alloc_new w5 (eo (t, nm))⟩; have hs5 := b5.size)
        | (at_builtin; refine wpList_app rfl (.tmp 32) (.tmp 34) elE rfl w.heap.size v5 lo _ rfl ho6 (some ⟨w5.heap.size, 0, none⟩) 1 1 (ents [(t, nm)]) rfl hrv (ents_one _) (by unfold maxLen; omega) (by omega) (by simp; omega) ?_; intro v7 w7 o7 O7 hv7; have b7 : Below w.heap.size w w7 := O7.after (b5.trans ((al w5 _).mono b5.size)) (Nat.le_refl _) (fun q hq => (o5.lt q hq).1); have r7 := r2.below b7; have hs7 := b7.size)
        | (at_builtin; refine wpList_app rfl (.tmp 36) (.tmp 39) elE rfl w.heap.size v7 (lo + 1) _ rfl o7 A4 n4 c4 (ents (l.drop lo)) rfl r7 (ents_one _) (by unfold maxLen; omega) (by omega) hs7 ?_; intro v8 w8 o8 O8 hv8))
      go_ret
      refine ⟨_, rfl, ?_, O8.after b7 (Nat.le_refl _) (fun q hq => (o7.lt q hq).1)⟩
      have hl : (l.take lo ++ (t, nm) :: l.drop lo).length = lo + 1 + n4 := by
        have := HN4.out
        simp only [List.length_append, List.length_take, List.length_cons, List.length_drop]
        omega
      unfold OwnE
      rw [hl]
      have he : ents (l.take lo ++ (t, nm) :: l.drop lo) = ents (l.take lo) ++ ents [(t, nm)] ++ ents (l.drop lo) := by
        rw [← ents_app, ← ents_app]
        simp
      rw [he]
      exact o8
end Go.Proofs.YtakhcfemakapbaaGreatDoor.RkZ
set_option maxRecDepth 100000
set_option linter.unusedSimpArgs false
set_option linter.unusedVariables false
namespace Go.Proofs.YtakhcfemakapbaaGreatDoor.RjB
open Go Go.RowKit Go.Shelf Go.Proofs.YtakhcfemakapbaaGreatDoor.Mem Go.Proofs.YtakhcfemakapbaaGreatDoor.DuA Go.Proofs.YtakhcfemakapbaaGreatDoor.DuM Go.Proofs.YtakhcfemakapbaaGreatDoor.DuN Go.Proofs.YtakhcfemakapbaaGreatDoor.RkA Go.Proofs.YtakhcfemakapbaaGreatDoor.RkC Go.Proofs.YtakhcfemakapbaaGreatDoor.RkB Go.Proofs.YtakhcfemakapbaaGreatDoor.RkE Go.Proofs.YtakhcfemakapbaaGreatDoor.RkF Go.Proofs.YtakhcfemakapbaaGreatDoor.RkI Go.Proofs.YtakhcfemakapbaaGreatDoor.RkM Go.Proofs.YtakhcfemakapbaaGreatDoor.RkQ Go.Proofs.YtakhcfemakapbaaGreatDoor.RkV Go.Proofs.YtakhcfemakapbaaGreatDoor.RkX

theorem way_calls (A : Option Addr) (n c : Nat) (l : List En) (rev : Bool) (w : World) (hr : RdE w A n c l) (hn : n ≤ 1000000000) :
    Calls Tryz.prog 66 #[.slice A n c, .bool rev] w fun e w' => ∃ A' n' c', e = .returned (.slice A' n' c') ∧ RdE w' A' n' c' (wayL l rev) ∧ Below w.heap.size w w' := by
  have ht := turned_calls A n c l w hr hn
  unfold wayL
  cases rev
  · go_enter Tryz.func66, Tryz.ntmps66
    go_wp2_with fail
    go_ret
    exact ⟨_, _, _, rfl, hr, Below.refl _ _⟩
  · go_enter Tryz.func66, Tryz.ntmps66
    go_wp2_with fail
    refine ht.mono ?_
    rintro e w1 ⟨v, rfl, o1, b1⟩
    obtain ⟨A1, c1, rfl⟩ := own_form o1
    have HO := Lib.hid (And.intro o1 b1)
    clear o1 b1 ht
    go_wp2_with fail
    go_ret
    exact ⟨_, _, _, rfl, by simpa using Rd.of_own HO.out.1, HO.out.2⟩
theorem placeR_calls (A : Option Addr) (n c : Nat) (l : List En) (k : ByteArray) (rev : Bool) (w : World) (hr : RdE w A n c l) (hn : n ≤ 1000000000) :
    Calls Tryz.prog 41 #[.slice A n c, .string k, .bool rev] w fun e w' => e = .returned (placeV l k rev) ∧ Below w.heap.size w w' := by
  have hw := way_calls A n c l rev w hr hn
  have hwl := way_len l rev
  have hln := rde_len hr
  unfold placeV placeL
  obtain ⟨L, hL⟩ : ∃ L, L = wayL l rev := ⟨_, rfl⟩
  rw [← hL] at hw hwl ⊢
  rw [← hwl]
  have HF : Hid (∀ A' n' c' w1, RdE w1 A' n' c' L → Calls Tryz.prog 35 #[.slice A' n' c', .string k] w1 fun e w' => e = .returned (.int .i64 (findI L k)) ∧ w' = w1) := Lib.hid (fun A' n' c' w1 h1 => find_calls A' n' c' L k w1 h1 (by have := rde_len h1; omega))
  clear hL hwl hln
  by_cases hp : plN L k < L.length
  · rw [if_pos hp]
    unfold findI at HF
    simp only [if_pos hp] at HF
    obtain ⟨i, hi⟩ : ∃ i, i = plN L k := ⟨_, rfl⟩
    simp only [← hi] at HF ⊢
    have hmx : max (0 : Int) (i : Int) = (i : Int) := by omega
    clear hp hi
    go_enter Tryz.func41, Tryz.ntmps41
    go_wp2_with fail
    refine hw.mono ?_
    rintro e w1 ⟨A', n', c', rfl, r1, b1⟩
    have hf := HF.out A' n' c' w1 r1
    have HB := Lib.hid b1
    clear hw r1 b1
    go_wp2_with (go_at_call 35; refine hf.mono ?_; rintro e w2 ⟨rfl, hw2⟩; subst w2)
    go_ret2
    exact ⟨rfl, HB.out⟩
  · rw [if_neg hp]
    unfold findI at HF
    simp only [if_neg hp] at HF
    clear hp
    go_enter Tryz.func41, Tryz.ntmps41
    go_wp2_with fail
    refine hw.mono ?_
    rintro e w1 ⟨A', n', c', rfl, r1, b1⟩
    have hf := HF.out A' n' c' w1 r1
    have HB := Lib.hid b1
    clear hw r1 b1
    go_wp2_with (go_at_call 35; refine hf.mono ?_; rintro e w2 ⟨rfl, hw2⟩; subst w2)
    go_ret2
    exact ⟨rfl, HB.out⟩
end Go.Proofs.YtakhcfemakapbaaGreatDoor.RjB
