/-
  The document's set of a list of texts. Conditions: as stated.
-/
import Derived.Test.YtjofbagaobdmoaaGreatVaJ
import Derived.Test.YtjofbagaobdmoaaGreatVaK
set_option maxRecDepth 100000
set_option linter.unusedSimpArgs false
set_option linter.unusedVariables false
namespace Go.Proofs.YtjofbagaobdmoaaGreat.VaL
open Go.RowKit Go.Proofs.YtjofbagaobdmoaaGreat.Mem Go.Proofs.YtjofbagaobdmoaaGreat.VaA Go.Proofs.YtjofbagaobdmoaaGreat.VaB Go.Proofs.YtjofbagaobdmoaaGreat.VaC Go.Proofs.YtjofbagaobdmoaaGreat.VaE Go.Proofs.YtjofbagaobdmoaaGreat.VaK

theorem elS : El Tryz.prog 23 9 (.string ⟨#[]⟩) 1 16 := by
  obtain ⟨i, h1, h2, h3, h4⟩ := info_parts (show (Tryz.prog.info? 9).map (fun i => (i.zero, i.size, i.bytes)) = some (some (.string ⟨#[]⟩), 1, 16) by kernel_rfl)
  exact ⟨Tryz.underlying23, ⟨i, h1, h2, h3, h4⟩, rfl, by decide⟩
/-- A row of texts of the call's own. -/
abbrev OwnS (w : World) (B : Nat) (v : Value) (l : List ByteArray) : Prop := w.ownsRow B 9 1 v l.length (strs l)
theorem rds_own {w : World} {B n c : Nat} {A : Option Addr} {l : List ByteArray} (h : OwnS w B (.slice A n c) l) : RdS w A n c l := by
  have hn := own_n h
  unfold OwnS at h; rw [hn] at h
  exact Rd.of_own h
theorem own_snocS {w : World} {B : Nat} {v : Value} {l : List ByteArray} {x : ByteArray} (h : w.ownsRow B 9 1 v (l.length + 1) (strs l ++ [.string x])) : OwnS w B v (l ++ [x]) := by
  simpa [OwnS, strs] using h
theorem own_putS {w : World} {B g n c : Nat} {l : List ByteArray} (h : OwnS w B (.slice (some ⟨g, 0, none⟩) n c) l) {j : Nat} (x : ByteArray) :
    OwnS (w.setCell ⟨g, j, none⟩ (.string x)) B (.slice (some ⟨g, 0, none⟩) n c) (l.set j x) := by
  have hn : l.length = n := own_n h
  have := (World.ownsRow.stored (w := w) (base := B) (e := 9) (size := 1) (g := g) (n := n) (cap := c) (xs := strs l) (by unfold OwnS at h; rw [hn] at h; exact h) j (.string x)).1
  unfold OwnS
  rw [List.length_set, hn]
  simpa [strs, List.map_set] using this
theorem own_blk {w : World} {B : Nat} {v : Value} {l : List ByteArray} {x : ByteArray} (h : OwnS w B v (l ++ [x])) : ∃ g c, v = .slice (some ⟨g, 0, none⟩) (l ++ [x]).length c ∧ B ≤ g := by
  rcases h.2 with ⟨_, h0⟩ | ⟨g, cap, _, rfl, hb, _⟩
  · simp at h0
  · exact ⟨g, cap, rfl, hb⟩
theorem ownbS {w w' : World} {B : Nat} {v : Value} {l : List ByteArray} (h : OwnS w B v l) (hb : Below w.heap.size w w') : OwnS w' B v l := own_only h (Only.of_below hb) (fun k hk => by have := (h.lt k hk).2; omega)
theorem take_one_ {α : Type} {l : List α} {k : Nat} {x : α} (h : l[k]? = some x) : l.take (k + 1) = l.take k ++ [x] := by
  obtain ⟨hk, e⟩ := List.getElem?_eq_some_iff.1 h
  rw [List.take_succ_eq_append_getElem hk, e]
theorem below_drawn_ {B : Nat} {w w' : World} (h : Below B w w') (n : Nat) : Below B w (w'.drewN n) := h.trans ⟨rfl, rfl, rfl, Nat.le_refl _, fun _ _ => rfl⟩
theorem shift_set {out : List ByteArray} {k : Nat} {y x : ByteArray} (hx : out[k]? = some x) : (out.take (k + 1) ++ y :: out.drop (k + 1)).set (k + 1) x = out.take k ++ x :: out.drop k := by
  obtain ⟨hk, e⟩ := List.getElem?_eq_some_iff.1 hx
  rw [List.set_append_right _ _ (by simp; omega)]
  rw [show k + 1 - (out.take (k + 1)).length = 0 by simp; omega, List.set_cons_zero, List.take_succ_eq_append_getElem hk, List.drop_eq_getElem_cons hk, e]
  simp
theorem last_set {out : List ByteArray} {a : Nat} {y s : ByteArray} (ha : a ≤ out.length) : (out.take a ++ y :: out.drop a).set a s = out.take a ++ s :: out.drop a := by
  rw [List.set_append_right _ _ (by simp; omega), show a - (out.take a).length = 0 by simp; omega, List.set_cons_zero]

set_option maxHeartbeats 2000000 in
theorem ofR_calls (A : Option Addr) (n c : Nat) (l : List ByteArray) (w : World) (hr : RdS w A n c l) (hn : n ≤ 100000000) :
    Calls Tryz.prog 115 #[.slice A n c] w fun e w' => ∃ v, e = .returned v ∧ OwnS w' w.heap.size v (ofL l) ∧ Below w.heap.size w w' := by
  obtain rfl := rds_len hr
  have hcap := hr.cap
  have hbig : c ≤ 9223372036854775807 := hr.big
  go_enter Tryz.func115, Tryz.ntmps115
  go_wp2_with fail
  go_loopw [3, 4] (fun v i wr => ∃ k : Nat, k ≤ l.length ∧ i = .int .i64 k ∧ OwnS wr w.heap.size v (ofL (l.take k)) ∧ Below w.heap.size w wr) (fun _ i _ => l.length - (intOf i).toNat)
  case atStart => exact ⟨0, Nat.zero_le _, rfl, World.ownsRow_nil _ _ _ _, Below.refl _ _⟩
  case round =>
    obtain ⟨k, hk, rfl, ho, hb⟩ := hrel
    by_cases hlt : k < l.length
    · obtain ⟨s, hs⟩ : ∃ s, l[k]? = some s := ⟨_, List.getElem?_eq_getElem hlt⟩
      obtain ⟨out, hout⟩ : ∃ out, out = ofL (l.take k) := ⟨_, rfl⟩
      have hol : out.length ≤ k := by rw [hout]; have := (of_facts (l.take k)).2.2.1; rw [List.length_take] at this; omega
      rw [← hout] at ho
      obtain ⟨Ao, co, rfl⟩ := own_form ho
      have hro := rds_own ho
      have hcapo := hro.cap
      have hbigo : co ≤ 9223372036854775807 := hro.big
      obtain ⟨p, rfl, cp⟩ := rds_get (hr.below hb) hs
      have Hs := Lib.hid (And.intro hs hout)
      have Ho := Lib.hid (And.intro ho hb)
      clear hs hout ho hb
      go_wp2_with fail
      go_loopw [5] (fun a w2 => ∃ (a' : Nat), a' ≤ out.length ∧ a = .int .i64 a' ∧ posS out s a' = atS out s ∧ ∃ nd, w2 = wr.drewN nd) (fun a _ => (intOf a).toNat)
      case atStart => exact ⟨out.length, Nat.le_refl _, rfl, rfl, 0, rfl⟩
      case round =>
        obtain ⟨a, ha, rfl, hpos, nd, rfl⟩ := hrel
        have Hpos := Lib.hid hpos
        clear hpos
        rcases Nat.eq_zero_or_pos a with h0 | hpos
        · have hdec : decide (0 < a) = false := by rw [h0]; rfl
          have hat0 : posS out s a = a := by rw [h0]; rfl
          have hit0 : hitS out s = false := by unfold hitS; rw [← Hpos.out, hat0, h0]; rfl
          have H0 := Lib.hid (And.intro h0 (And.intro hat0 hit0))
          clear h0 hat0 hit0
          go_wp2_with fail
          go_quiet (fail)
          go_wp2_with fail
          go_quiet (fail)
          have hwl : IntKind.i64.wrap (out.length : Int) = (out.length : Int) := Go.IntWalk.i64_in _ (by omega)
          have hal : a ≤ out.length := ha
          go_wp2_with (at_builtin; refine wpList_app1 rfl (.tmp 45) (.tmp 46) elS rfl w.heap.size _ out.length (strs out) rfl Ho.out.1 (.string ⟨#[]⟩) rfl rfl (by unfold maxLen; omega) (by omega) Ho.out.2.size ?_; intro v' w3 o3 b3 f3; have o4 := own_snocS o3; obtain ⟨g, c3, rfl, hg⟩ := own_blk o4; have hlen4 : (out ++ [(⟨#[]⟩ : ByteArray)]).length = out.length + 1 := by simp)
          have B3 : Below w.heap.size w w3 := b3.after (below_drawn_ Ho.out.2 _) (Nat.le_refl _) (fun b hb => (Ho.out.1.lt b hb).1)
          rw [hlen4] at o4
          have O4 : OwnS w3 w.heap.size (.slice (some ⟨g, 0, none⟩) (out.length + 1) c3) (out.take out.length ++ (⟨#[]⟩ : ByteArray) :: out.drop out.length) := by simpa using o4
          clear o3 o4 b3 f3 hwl
          go_loopw [6] (fun kk w4 => ∃ (m : Nat) (y : ByteArray), a ≤ m ∧ m ≤ out.length ∧ kk = .int .i64 m ∧ OwnS w4 w.heap.size (.slice (some ⟨g, 0, none⟩) (out.length + 1) c3) (out.take m ++ y :: out.drop m) ∧ Below w.heap.size w w4) (fun kk _ => (intOf kk).toNat)
          case atStart => exact ⟨out.length, _, hal, Nat.le_refl _, rfl, O4, B3⟩
          case round =>
            obtain ⟨m, y, ham, hmo, rfl, o5, b5⟩ := hrel
            have hl5 : (out.take m ++ y :: out.drop m).length = out.length + 1 := by simp; omega
            have o5' := o5
            unfold OwnS at o5'
            rw [hl5] at o5'
            have O5 := Lib.hid (And.intro o5 b5)
            clear O4 B3
            by_cases hma : a < m
            · obtain ⟨i, rfl⟩ : ∃ i, m = i + 1 := ⟨m - 1, by omega⟩
              obtain ⟨x, hx⟩ : ∃ x, out[i]? = some x := ⟨_, List.getElem?_eq_getElem (by omega)⟩
              have g1 := World.ownsRow.cellAt o5' i (by omega)
              have g2 := World.ownsRow.cellAt o5' (i + 1) (by omega)
              have g3 := World.ownsRow.frozenAt o5' (i + 1)
              rw [show (strs (out.take (i + 1) ++ y :: out.drop (i + 1)))[i]? = some (.string x) by
                unfold strs
                rw [List.getElem?_map, List.getElem?_append_left (by simp; omega), List.getElem?_take, if_pos (by omega), hx]; rfl] at g1
              rw [List.getElem?_eq_getElem (by rw [strs_len, hl5]; omega)] at g2
              have hwi : IntKind.i64.wrap (i : Int) = (i : Int) := Go.IntWalk.i64_in _ (by omega)
              have Hx := Lib.hid hx
              clear o5 o5' b5 hx
              go_wp2_with fail
              refine ⟨⟨i, x, by omega, by omega, rfl, ?_, O5.out.2.setCell (p := ⟨g, i + 1, none⟩) hg _⟩, by simp [intOf] <;> omega⟩
              have h := own_putS O5.out.1 (j := i + 1) x
              rw [shift_set Hx.out] at h
              exact h
            · obtain rfl : m = a := by omega
              have g2 := World.ownsRow.cellAt o5' m (by omega)
              have g3 := World.ownsRow.frozenAt o5' m
              rw [List.getElem?_eq_getElem (by rw [strs_len, hl5]; omega)] at g2
              obtain ⟨p', e', cp'⟩ := rds_get (hr.below b5) Hs.out.1
              injection e' with e'; subst e'
              clear o5 o5' b5
              go_wp2_with fail
              refine ⟨⟨k + 1, by omega, by go_num, ?_, O5.out.2.setCell (p := ⟨g, m, none⟩) hg _⟩, by simp [intOf]; omega⟩
              have h := own_putS O5.out.1 (j := m) s
              rw [last_set hal] at h
              have hat : m = atS out s := by rw [← Hpos.out, H0.out.2.1]
              rw [take_one_ Hs.out.1, of_snoc, ← Hs.out.2]
              unfold insS
              rw [if_neg (by rw [H0.out.2.2]; decide), ← hat]
              exact h
        · obtain ⟨j, hj⟩ : ∃ j, a = j + 1 := ⟨a - 1, by omega⟩
          obtain ⟨t, ht⟩ : ∃ t, out[j]? = some t := ⟨_, List.getElem?_eq_getElem (by omega)⟩
          obtain ⟨q, rfl, cq⟩ := rds_get hro ht
          have hj2 : j < out.length := by omega
          have hp' : (0 : Int) < (a : Int) := by omega
          have hw1 : IntKind.i64.wrap ((a : Int) - 1) = (j : Int) := by rw [Go.IntWalk.i64_in _ (by omega)]; omega
          have Hj := Lib.hid hj
          have Ht := Lib.hid ht
          have hps : posS out s (j + 1) = if gtS t s then posS out s j else j + 1 := by
            conv => lhs; unfold posS
            rw [ht]
          have HP := Lib.hid hps
          clear hj ht hps
          have hps1 : gtS t s = false → posS out s a = a := fun h => by rw [Hj.out, HP.out, h]; rfl
          have hitE : gtS t s = false → hitS out s = (t.toList == s.toList) := fun h => by
            unfold hitS
            rw [← Hpos.out, hps1 h, Hj.out, Nat.add_sub_cancel, Ht.out]; simp
          have H1 := Lib.hid (And.intro hps1 hitE)
          clear hps1 hitE
          cases hbl : Op.bytesLess t.toList s.toList
          · cases he : (t.toList == s.toList)
            · have HG := Lib.hid (And.intro hbl he)
              go_wp2_with fail
              go_quiet (fail)
              go_wp2_with fail
              refine ⟨⟨j, by omega, by first | rfl | go_num, ?_, nd + nq, by first | rfl | exact drew2 _ _ _⟩, by have := Hj.out; simp [intOf]; omega⟩
              have h' : posS out s (j + 1) = posS out s j := by rw [HP.out]; unfold gtS; rw [HG.out.1, HG.out.2]; rfl
              rw [← h', ← Hj.out]; exact Hpos.out
            · have hgt : gtS t s = false := by unfold gtS; rw [hbl, he]; rfl
              have H0 := Lib.hid (And.intro (H1.out.1 hgt) ((H1.out.2 hgt).trans he))
              clear hgt
              go_wp2_with fail
              go_quiet (fail)
              go_wp2_with fail
              go_quiet (fail)
              go_wp2_with fail
              refine ⟨⟨k + 1, by omega, by go_num, ?_, below_drawn_ Ho.out.2 _⟩, by simp [intOf]; omega⟩
              rw [take_one_ Hs.out.1, of_snoc, ← Hs.out.2]
              unfold insS
              rw [H0.out.2, if_pos rfl]
              exact Ho.out.1
          · have he : (t.toList == s.toList) = false := by
              cases he : (t.toList == s.toList)
              · rfl
              · rw [beq_iff_eq] at he; rw [he, bl_irrefl] at hbl; cases hbl
            have hgt : gtS t s = false := by unfold gtS; rw [hbl]; rfl
            have H0 := Lib.hid (And.intro (H1.out.1 hgt) ((H1.out.2 hgt).trans he))
            clear hgt
            go_wp2_with fail
            go_quiet (fail)
            go_wp2_with fail
            go_quiet (fail)
            have hwl : IntKind.i64.wrap (out.length : Int) = (out.length : Int) := Go.IntWalk.i64_in _ (by omega)
            have hal : a ≤ out.length := ha
            go_wp2_with (at_builtin; refine wpList_app1 rfl (.tmp 45) (.tmp 46) elS rfl w.heap.size _ out.length (strs out) rfl Ho.out.1 (.string ⟨#[]⟩) rfl rfl (by unfold maxLen; omega) (by omega) Ho.out.2.size ?_; intro v' w3 o3 b3 f3; have o4 := own_snocS o3; obtain ⟨g, c3, rfl, hg⟩ := own_blk o4; have hlen4 : (out ++ [(⟨#[]⟩ : ByteArray)]).length = out.length + 1 := by simp)
            have B3 : Below w.heap.size w w3 := b3.after (below_drawn_ Ho.out.2 _) (Nat.le_refl _) (fun b hb => (Ho.out.1.lt b hb).1)
            rw [hlen4] at o4
            have O4 : OwnS w3 w.heap.size (.slice (some ⟨g, 0, none⟩) (out.length + 1) c3) (out.take out.length ++ (⟨#[]⟩ : ByteArray) :: out.drop out.length) := by simpa using o4
            clear o3 o4 b3 f3 hwl
            go_loopw [6] (fun kk w4 => ∃ (m : Nat) (y : ByteArray), a ≤ m ∧ m ≤ out.length ∧ kk = .int .i64 m ∧ OwnS w4 w.heap.size (.slice (some ⟨g, 0, none⟩) (out.length + 1) c3) (out.take m ++ y :: out.drop m) ∧ Below w.heap.size w w4) (fun kk _ => (intOf kk).toNat)
            case atStart => exact ⟨out.length, _, hal, Nat.le_refl _, rfl, O4, B3⟩
            case round =>
              obtain ⟨m, y, ham, hmo, rfl, o5, b5⟩ := hrel
              have hl5 : (out.take m ++ y :: out.drop m).length = out.length + 1 := by simp; omega
              have o5' := o5
              unfold OwnS at o5'
              rw [hl5] at o5'
              have O5 := Lib.hid (And.intro o5 b5)
              clear O4 B3
              by_cases hma : a < m
              · obtain ⟨i, rfl⟩ : ∃ i, m = i + 1 := ⟨m - 1, by omega⟩
                obtain ⟨x, hx⟩ : ∃ x, out[i]? = some x := ⟨_, List.getElem?_eq_getElem (by omega)⟩
                have g1 := World.ownsRow.cellAt o5' i (by omega)
                have g2 := World.ownsRow.cellAt o5' (i + 1) (by omega)
                have g3 := World.ownsRow.frozenAt o5' (i + 1)
                rw [show (strs (out.take (i + 1) ++ y :: out.drop (i + 1)))[i]? = some (.string x) by
                  unfold strs
                  rw [List.getElem?_map, List.getElem?_append_left (by simp; omega), List.getElem?_take, if_pos (by omega), hx]; rfl] at g1
                rw [List.getElem?_eq_getElem (by rw [strs_len, hl5]; omega)] at g2
                have hwi : IntKind.i64.wrap (i : Int) = (i : Int) := Go.IntWalk.i64_in _ (by omega)
                have Hx := Lib.hid hx
                clear o5 o5' b5 hx
                go_wp2_with fail
                refine ⟨⟨i, x, by omega, by omega, rfl, ?_, O5.out.2.setCell (p := ⟨g, i + 1, none⟩) hg _⟩, by simp [intOf] <;> omega⟩
                have h := own_putS O5.out.1 (j := i + 1) x
                rw [shift_set Hx.out] at h
                exact h
              · obtain rfl : m = a := by omega
                have g2 := World.ownsRow.cellAt o5' m (by omega)
                have g3 := World.ownsRow.frozenAt o5' m
                rw [List.getElem?_eq_getElem (by rw [strs_len, hl5]; omega)] at g2
                obtain ⟨p', e', cp'⟩ := rds_get (hr.below b5) Hs.out.1
                injection e' with e'; subst e'
                clear o5 o5' b5
                go_wp2_with fail
                refine ⟨⟨k + 1, by omega, by go_num, ?_, O5.out.2.setCell (p := ⟨g, m, none⟩) hg _⟩, by simp [intOf]; omega⟩
                have h := own_putS O5.out.1 (j := m) s
                rw [last_set hal] at h
                have hat : m = atS out s := by rw [← Hpos.out, H0.out.1]
                rw [take_one_ Hs.out.1, of_snoc, ← Hs.out.2]
                unfold insS
                rw [if_neg (by rw [H0.out.2]; decide), ← hat]
                exact h

    · obtain rfl : k = l.length := by omega
      rw [List.take_length] at ho
      go_wp2_with fail
      go_ret
      exact ⟨_, rfl, ho, hb⟩
end Go.Proofs.YtjofbagaobdmoaaGreat.VaL
