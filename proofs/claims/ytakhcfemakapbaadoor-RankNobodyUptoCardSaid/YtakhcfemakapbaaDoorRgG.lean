/-
  The document's May, Less, Find. Conditions: as stated.
  The law's twin and same. Conditions: as stated.
  The document's Drop. Conditions: as stated.
  The document's Put. Conditions: as stated.
  The document's way, Place. Conditions: as stated.
-/
import Derived.Test.YtakhcfemakapbaaDoorRgC
import Derived.Deep.QuietTactic
import Derived.Laws.StructEq
import Derived.Test.YtakhcfemakapbaaDoorRgE
import Derived.Deep.Cut
set_option maxRecDepth 100000
set_option linter.unusedSimpArgs false
set_option linter.unusedVariables false
namespace Go.Proofs.YtakhcfemakapbaaDoor.RkV
open Go Go.RowKit Go.Shelf Go.Sort Go.Proofs.YtakhcfemakapbaaDoor.Mem Go.Proofs.YtakhcfemakapbaaDoor.DuA Go.Proofs.YtakhcfemakapbaaDoor.DuM Go.Proofs.YtakhcfemakapbaaDoor.DuN Go.Proofs.YtakhcfemakapbaaDoor.RkA Go.Proofs.YtakhcfemakapbaaDoor.RkC Go.Proofs.YtakhcfemakapbaaDoor.RkB Go.Proofs.YtakhcfemakapbaaDoor.RkE Go.Proofs.YtakhcfemakapbaaDoor.RkI

/-- The place of a name, as an int. -/
def findI (l : List En) (k : ByteArray) : Int := if plN l k < l.length then (plN l k : Int) else -1
end Go.Proofs.YtakhcfemakapbaaDoor.RkV
set_option maxRecDepth 100000
set_option linter.unusedSimpArgs false
set_option linter.unusedVariables false
namespace Go.Proofs.YtakhcfemakapbaaDoor.RkW
open Go Go.RowKit Go.Shelf Go.Proofs.YtakhcfemakapbaaDoor.Mem Go.Proofs.YtakhcfemakapbaaDoor.DuA Go.Proofs.YtakhcfemakapbaaDoor.DuM Go.Proofs.YtakhcfemakapbaaDoor.DuN Go.Proofs.YtakhcfemakapbaaDoor.RkA Go.Proofs.YtakhcfemakapbaaDoor.RkC Go.Proofs.YtakhcfemakapbaaDoor.RkB Go.Proofs.YtakhcfemakapbaaDoor.RkE Go.Proofs.YtakhcfemakapbaaDoor.RkI

theorem toL_iff {a b : ByteArray} : a.toList = b.toList ↔ a = b := ⟨toL_inj, fun h => by rw [h]⟩
theorem neq_K (a b : ByteArray × Int) (w : World) : (binOp .neq 42 (.agg #[.string a.1, .int .i64 a.2]) (.agg #[.string b.1, .int .i64 b.2])).run Tryd.prog w = .ok (.bool (!decide (a = b))) w := by
  have u3 := Tryd.underlying9
  have a3 := Tryd.isAgg9
  have z3 := Tryd.sizeOf9
  have u4 := Tryd.underlying3
  have a4 := Tryd.isAgg3
  have z4 := Tryd.sizeOf3
  have hS : Tryd.prog.underlying 42 = some (.struct (Tryd.prog.fieldsOf 42)) := by kernel_rfl
  have hp : Tryd.prog.stoodInHeld 42 = false := by kernel_rfl
  rw [run_neq_struct, show (10000 : Nat) = 9999 + 1 from rfl, run_equalIn_agg w 9999 42 _ _ hS hp]
  simp only [Program.fieldsOf, Tryd.underlying42]
  go_simp
  obtain ⟨a1, a2⟩ := a
  obtain ⟨b1, b2⟩ := b
  by_cases h1 : a1 = b1 <;> by_cases h2 : a2 = b2 <;> simp [toL_iff, h1, h2]

set_option maxHeartbeats 2000000 in
theorem same_calls (A A' : Option Addr) (n c n' c' : Nat) (a b : List En) (w : World) (ha : RdE w A n c a) (hb : RdE w A' n' c' b) (hn : n ≤ 1000000000) :
    Calls Tryd.prog 30 #[.slice A n c, .slice A' n' c'] w fun e w' => e = .returned (.bool (decide (a = b))) ∧ ∃ nd, w' = w.drewN nd := by
  obtain rfl := rde_len ha
  obtain rfl := rde_len hb
  by_cases hlen : a.length = b.length
  · obtain ⟨R, hRR⟩ : ∃ R, R = decide (a = b) := ⟨_, rfl⟩
    rw [← hRR]
    have HRR := Lib.hid hRR
    have hle : ((a.length : Int) != (b.length : Int)) = false := by simp [hlen]
    have HL := Lib.hid hlen
    have HA := Lib.hid ha
    have HB := Lib.hid hb
    clear hRR hlen ha hb
    go_enter Tryd.func30, Tryd.ntmps30
    go_wp2_with fail
    clear hle
    go_loopw [5] (fun iv wr => ∃ j : Nat, iv = .int .i64 j ∧ j ≤ a.length ∧ Hid ((∃ nd, wr = w.drewN nd) ∧ ∀ t, t < j → a[t]? = b[t]?)) (fun iv _ => a.length - (RowKit.intOf iv).toNat)
    case atStart => exact ⟨0, rfl, Nat.zero_le _, Lib.hid ⟨⟨0, rfl⟩, fun t h => absurd h (Nat.not_lt_zero _)⟩⟩
    case round =>
      obtain ⟨j, rfl, hj, P⟩ := hrel
      have ha' : RdE wr A a.length c a := by obtain ⟨⟨nd, hw⟩, -⟩ := P.out; rw [hw]; exact HA.out.drawn nd
      have hb' : RdE wr A' b.length c' b := by obtain ⟨⟨nd, hw⟩, -⟩ := P.out; rw [hw]; exact HB.out.drawn nd
      have HD : Hid (∀ q, ∃ nd, wr.drewN q = w.drewN nd) := Lib.hid (fun q => by obtain ⟨⟨nd, hw⟩, -⟩ := P.out; rw [hw]; exact ⟨nd + q, World.drewN_drewN _ _ _⟩)
      by_cases hlt : j < a.length
      · obtain ⟨x, hx⟩ : ∃ x, a[j]? = some x := ⟨_, List.getElem?_eq_getElem hlt⟩
        have hltb : j < b.length := by rw [← HL.out]; exact hlt
        obtain ⟨y, hy⟩ : ∃ y, b[j]? = some y := ⟨_, List.getElem?_eq_getElem hltb⟩
        obtain ⟨q, rfl, x0, x1⟩ := rde_get ha' hx
        obtain ⟨q', rfl, y0, y1⟩ := rde_get hb' hy
        have HX := Lib.hid (And.intro hx hy)
        clear hx hy ha' hb'
        obtain ⟨xs, xn⟩ := x
        obtain ⟨ys, yn⟩ := y
        simp only at x0 x1 y0 y1
        by_cases he : xn = yn ∧ xs = ys
        · obtain ⟨h1, h2⟩ := he
          subst h1 h2
          go_wp2_with fail
          go_quiet (fail)
          go_wp2_with fail
          refine ⟨⟨j + 1, by simp, by omega, Lib.hid ⟨HD.out nq, fun t ht => ?_⟩⟩, by simp [RowKit.intOf]; omega⟩
          rcases Nat.lt_or_ge t j with h3 | h3
          · exact P.out.2 t h3
          · have : t = j := by omega
            subst this
            rw [HX.out.1, HX.out.2]
        · have hne : (xn.toList == yn.toList && xs == ys) = false := by
            rw [eqS]
            by_cases h1 : xn = yn
            · have h2 : ¬ xs = ys := fun h2 => he ⟨h1, h2⟩
              simp [h1, h2]
            · simp [h1]
          have hR : R = false := by
            rw [HRR.out]
            refine decide_eq_false (fun h => he ?_)
            have h1 := HX.out.1
            rw [h, HX.out.2] at h1
            injection h1 with h1
            injection h1 with h1 h2
            exact ⟨h2.symm, h1.symm⟩
          have HE := Lib.hid hR
          clear he hR
          have hnq := neq_K (xn, xs) (yn, ys)
          rw [decide_eq_false (fun h => by injection h with h1 h2; simp [h1, h2] at hne), Bool.not_false] at hnq
          simp only at hnq
          go_wp2_with fail
          go_quiet (fail)
          go_wp2_with fail
          go_ret
          exact ⟨by rw [HE.out]; rfl, HD.out nq⟩
      · obtain rfl : j = a.length := by omega
        have hR : R = true := by
          rw [HRR.out]
          refine decide_eq_true (List.ext_getElem? (fun t => ?_))
          rcases Nat.lt_or_ge t a.length with h3 | h3
          · exact P.out.2 t h3
          · rw [List.getElem?_eq_none h3, List.getElem?_eq_none (by rw [← HL.out]; exact h3)]
        have HE := Lib.hid hR
        clear hR
        go_wp2_with fail
        go_ret
        exact ⟨by rw [HE.out]; rfl, by obtain ⟨nd, h⟩ := HD.out 0; exact ⟨nd, h⟩⟩
  · have hle : ((a.length : Int) != (b.length : Int)) = true := by simp; omega
    rw [decide_eq_false (fun h : a = b => hlen (by rw [h]))]
    clear hlen
    go_enter Tryd.func30, Tryd.ntmps30
    go_wp2_with fail
    go_ret
    exact ⟨rfl, 0, rfl⟩
end Go.Proofs.YtakhcfemakapbaaDoor.RkW
set_option maxRecDepth 100000
set_option linter.unusedSimpArgs false
set_option linter.unusedVariables false
namespace Go.Proofs.YtakhcfemakapbaaDoor.RkY
open Go Go.RowKit Go.Shelf Go.Proofs.YtakhcfemakapbaaDoor.Mem Go.Proofs.YtakhcfemakapbaaDoor.DuA Go.Proofs.YtakhcfemakapbaaDoor.DuM Go.Proofs.YtakhcfemakapbaaDoor.DuN Go.Proofs.YtakhcfemakapbaaDoor.RkA Go.Proofs.YtakhcfemakapbaaDoor.RkC Go.Proofs.YtakhcfemakapbaaDoor.RkB Go.Proofs.YtakhcfemakapbaaDoor.RkE Go.Proofs.YtakhcfemakapbaaDoor.RkF Go.Proofs.YtakhcfemakapbaaDoor.RkI Go.Proofs.YtakhcfemakapbaaDoor.RkM Go.Proofs.YtakhcfemakapbaaDoor.RkP Go.Proofs.YtakhcfemakapbaaDoor.RkR Go.Proofs.YtakhcfemakapbaaDoor.RkV

theorem cut_from (A : Option Addr) (n c k : Nat) (h1 : k ≤ n) (h2 : n ≤ c) (w : World) :
    (Instr.slice 33 (.slice A n c) (some (.int .i64 k)) none none).run Tryd.prog w = .ok (.slice (if c = k then A else A.map (·.add (k * 2))) (n - k) (c - k)) w := by
  rw [run_slice_l w 33 A n c (by kernel_rfl) .i64 k (by omega) (by omega)]
  go_simp
set_option maxHeartbeats 2000000 in
/-- A slice's memory is another's, or lies from B to E. -/
def Near (A A' : Option Addr) (B E : Nat) : Prop := ∀ k, (Value.slice A' 0 0).ownBlock = some k → (Value.slice A 0 0).ownBlock = some k ∨ (B ≤ k ∧ k < E)
theorem Near.refl (A : Option Addr) (B E : Nat) : Near A A B E := fun _ h => .inl h
theorem Near.own {A A' : Option Addr} {w : World} {B n c : Nat} {l : List En} (h : OwnE w B (.slice A' n c) l) : Near A A' B w.heap.size := fun k hk => .inr (h.lt k (by rw [ob A' n c 0 0]; exact hk))
theorem Near.cut (A : Option Addr) (p : Prop) [Decidable p] (k B E : Nat) : Near A (if p then A else A.map (·.add k)) B E := fun q hq => .inl (by
  split at hq
  · exact hq
  · cases A with
    | none => cases hq
    | some a =>
      simp only [Option.map_some, Value.ownBlock, Option.some.injEq] at hq ⊢
      rw [← hq, Mem.add_block])
end Go.Proofs.YtakhcfemakapbaaDoor.RkY
set_option maxRecDepth 100000
set_option linter.unusedSimpArgs false
set_option linter.unusedVariables false
namespace Go.Proofs.YtakhcfemakapbaaDoor.RkZ
open Go Go.RowKit Go.Shelf Go.Sort Go.Proofs.YtakhcfemakapbaaDoor.Mem Go.Proofs.YtakhcfemakapbaaDoor.DuA Go.Proofs.YtakhcfemakapbaaDoor.DuM Go.Proofs.YtakhcfemakapbaaDoor.DuN Go.Proofs.YtakhcfemakapbaaDoor.RkA Go.Proofs.YtakhcfemakapbaaDoor.RkC Go.Proofs.YtakhcfemakapbaaDoor.RkB Go.Proofs.YtakhcfemakapbaaDoor.RkE Go.Proofs.YtakhcfemakapbaaDoor.RkF Go.Proofs.YtakhcfemakapbaaDoor.RkI Go.Proofs.YtakhcfemakapbaaDoor.RkK Go.Proofs.YtakhcfemakapbaaDoor.RkM Go.Proofs.YtakhcfemakapbaaDoor.RkP Go.Proofs.YtakhcfemakapbaaDoor.RkR Go.Proofs.YtakhcfemakapbaaDoor.RkV Go.Proofs.YtakhcfemakapbaaDoor.RkY

end Go.Proofs.YtakhcfemakapbaaDoor.RkZ
set_option maxRecDepth 100000
set_option linter.unusedSimpArgs false
set_option linter.unusedVariables false
namespace Go.Proofs.YtakhcfemakapbaaDoor.RjB
open Go Go.RowKit Go.Shelf Go.Proofs.YtakhcfemakapbaaDoor.Mem Go.Proofs.YtakhcfemakapbaaDoor.DuA Go.Proofs.YtakhcfemakapbaaDoor.DuM Go.Proofs.YtakhcfemakapbaaDoor.DuN Go.Proofs.YtakhcfemakapbaaDoor.RkA Go.Proofs.YtakhcfemakapbaaDoor.RkC Go.Proofs.YtakhcfemakapbaaDoor.RkB Go.Proofs.YtakhcfemakapbaaDoor.RkE Go.Proofs.YtakhcfemakapbaaDoor.RkF Go.Proofs.YtakhcfemakapbaaDoor.RkI Go.Proofs.YtakhcfemakapbaaDoor.RkM Go.Proofs.YtakhcfemakapbaaDoor.RkQ Go.Proofs.YtakhcfemakapbaaDoor.RkV Go.Proofs.YtakhcfemakapbaaDoor.RkX

end Go.Proofs.YtakhcfemakapbaaDoor.RjB
