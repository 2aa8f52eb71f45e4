/-
  num.Print and num.Parse, by the library's contracts. Conditions: the listed variables hold what the text lays (Laid).
-/
import Derived.Test.YtakhcfemakapbaaGreatDoorNumD
import Derived.Shelf.Strconv.ErrVarParseInt
import Derived.Shelf.Strconv.Itoa4
import Derived.Shelf.Lay
import Derived.Ground.NamesProg
set_option maxRecDepth 100000
set_option linter.unusedSimpArgs false
set_option linter.unusedVariables false
namespace Go.Proofs
open Go.Shelf Go.RowKit Go.Lib
shelf_lay LaysC.n174 Nm 174 at Tryz as YtakhcfemakapbaaGreatDoor.parseIntL
shelf_lay LaysM.n173 Nm 173 at Tryz as YtakhcfemakapbaaGreatDoor.formatIntL
shelf_lay LaysM.n171 Nm 171 at Tryz as YtakhcfemakapbaaGreatDoor.itoaL
end Go.Proofs
namespace Go.Proofs.YtakhcfemakapbaaGreatDoor.NumE
open Go.RowKit Go.Lib Go.Proofs.YtakhcfemakapbaaGreatDoor.Mem Go.Proofs.YtakhcfemakapbaaGreatDoor.NumA Go.Proofs.YtakhcfemakapbaaGreatDoor.NumB Go.Proofs.YtakhcfemakapbaaGreatDoor.NumC Go.Proofs.YtakhcfemakapbaaGreatDoor.NumD

/-- The library's variables that are read: what they hold. -/
structure Laid (w : World) : Prop where
  syn : ∃ t p, w.var? Tryz.prog "strconv.ErrSyntax" = some #[.iface t p]
  rng : ∃ t p, w.var? Tryz.prog "strconv.ErrRange" = some #[.iface t p]
  tab : TabIs Tryz.prog w "internal/strconv.uint64pow10" .u64 pow10Tab
theorem var_below {w w' : World} {nm : String} {cs : Array Value} (h : w.var? Tryz.prog nm = some cs) (hb : Below w.heap.size w w') : w'.var? Tryz.prog nm = some cs := by
  unfold World.var? at *
  rcases hg : Tryz.prog.globalNamed nm with _ | g
  · rw [hg] at h; cases h
  · rw [hg] at h
    simp only [Option.bind_some] at h ⊢
    rcases hh : w.heap[g]? with _ | o
    · rw [hh] at h; cases h
    · rw [hb.block g (Array.getElem?_eq_some_iff.1 hh).1, hh]
      rw [hh] at h
      exact h
theorem Laid.below {w w' : World} (h : Laid w) (hb : Below w.heap.size w w') : Laid w' := by
  obtain ⟨⟨t, p, h1⟩, ⟨t2, p2, h2⟩, h3⟩ := h
  exact ⟨⟨t, p, var_below h1 hb⟩, ⟨t2, p2, var_below h2 hb⟩, var_below h3 hb⟩
theorem below_grow {w : World} (k : Nat) (os : Array Obj) : Below w.heap.size w (Sort.grow (w.drewN k) os) :=
  ⟨rfl, rfl, rfl, by simp [Sort.grow, World.drewN], fun i hi => by simp [Sort.grow, World.drewN, Array.getElem?_append, hi]⟩
set_option maxHeartbeats 2000000 in
theorem parse_calls (s : ByteArray) (w : World) (hL : Laid w) (hs : s.size ≤ 281474976710656) : Calls Tryz.prog 46 #[.string s] w fun e w' => e = .returned (parseV (parseD s.data.toList)) ∧ Below w.heap.size w w' := by
  rcases hp : parseIntB 64 s.data.toList with v | _ | _
  · have hb := parseIntB_bounds hp
    have hv : inR v := by
      have h63 : (((2 : Nat) ^ (64 - 1) : Nat) : Int) = 9223372036854775808 := rfl
      rw [h63] at hb
      unfold inR; omega
    have hc : Calls Tryz.prog 72 #[.string s, .int .i64 10, .int .i64 64] w _ := Any.strconv_ParseInt_10_at64_ok YtakhcfemakapbaaGreatDoor.parseIntL s (by omega) v hp w
    have Hc := Lib.hid hc
    have hf : Hid (∀ w', Laid w' → Calls Tryz.prog 73 #[.int .i64 v, .int .i64 10] w' fun e w'' => e = .returned (.string (txt v)) ∧ ∃ k os, w'' = Sort.grow (w'.drewN k) os) := fun w' h => Any.strconv_FormatInt_10 YtakhcfemakapbaaGreatDoor.formatIntL v hv.1 hv.2 w' h.tab
    have Hs := Lib.hid hs
    clear hc
    go_enter Tryz.func46, Tryz.ntmps46
    go_wp2_with fail
    refine Hc.out.mono ?_
    rintro e w1 ⟨rfl, hw⟩
    have b1 : Below w.heap.size w w1 := by
      rcases hw with rfl | ⟨t, rfl⟩
      · exact Below.refl _ _
      · exact Lib.bytesWorld_below _ _ _
    clear hw Hc
    go_wp2_with fail
    refine (hf.out _ (hL.below b1)).mono ?_
    rintro e w2 ⟨rfl, k, os, rfl⟩
    by_cases he : itoa v = s.data.toList
    · have hpd : Hid (parseD s.data.toList = some v) := by show _ = _; rw [← he]; exact parse_itoa hv.1 hv.2
      have hq : ((txt v).toList == s.toList) = true := by
        rw [ByteArray.toList_eq, ByteArray.toList_eq]
        show ((itoa v).toArray.toList == s.data.toList) = true
        simp [he]
      clear hf
      go_wp2_with fail
      go_ret2
      exact ⟨by rw [hpd.out]; rfl, b1.trans ((below_grow k os).mono b1.size)⟩
    · have hpd : Hid (parseD s.data.toList = none) := by
        show _ = _
        rcases hd : parseD s.data.toList with _ | n
        · rfl
        · obtain ⟨h1, h2, h3⟩ := itoa_parse hd
          have h4 := int_itoa h2 h3
          rw [h1, hp] at h4
          injection h4 with h4
          subst h4
          exact absurd h1 he
      have hq : ((txt v).toList == s.toList) = false := by
        rw [ByteArray.toList_eq, ByteArray.toList_eq, beq_eq_false_iff_ne]
        intro h
        have h' : (itoa v).toArray.toList = s.data.toList := h
        exact he (by rw [← h'])
      clear hf
      go_wp2_with fail
      go_ret2
      exact ⟨by rw [hpd.out]; rfl, b1.trans ((below_grow k os).mono b1.size)⟩
  all_goals (
    have hpd : Hid (parseD s.data.toList = none) := by
      show _ = _
      rcases hd : parseD s.data.toList with _ | n
      · rfl
      · obtain ⟨h1, h2, h3⟩ := itoa_parse hd
        have h4 := int_itoa h2 h3
        rw [h1, hp] at h4
        cases h4)
  · obtain ⟨tp, p, hsyn⟩ := hL.syn
    have hc : Calls Tryz.prog 72 #[.string s, .int .i64 10, .int .i64 64] w _ := Any.strconv_ParseInt_10_at64_syntax_var YtakhcfemakapbaaGreatDoor.parseIntL s hs hp tp p w hsyn
    have Hc := Lib.hid hc
    clear hc
    go_enter Tryz.func46, Tryz.ntmps46
    go_wp2_with fail
    refine Hc.out.mono ?_
    rintro e w1 ⟨N, rfl, hN, hb, b1⟩
    go_wp2_with fail
    go_ret2
    exact ⟨by rw [hpd.out]; rfl, b1⟩
  · obtain ⟨tp, p, hrng⟩ := hL.rng
    have hc : Calls Tryz.prog 72 #[.string s, .int .i64 10, .int .i64 64] w _ := Any.strconv_ParseInt_10_at64_range_var YtakhcfemakapbaaGreatDoor.parseIntL s hs hp tp p w hrng
    have Hc := Lib.hid hc
    clear hc
    go_enter Tryz.func46, Tryz.ntmps46
    go_wp2_with fail
    refine Hc.out.mono ?_
    rintro e w1 ⟨N, rfl, hN, hb, b1⟩
    go_wp2_with fail
    go_ret2
    exact ⟨by rw [hpd.out]; rfl, b1⟩
end Go.Proofs.YtakhcfemakapbaaGreatDoor.NumE
