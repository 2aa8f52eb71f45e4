/-
  The document's Get and Rises; same. Conditions: as stated.
-/
import Derived.Test.YthgdkmbcibfehaaDoorDcH
set_option maxRecDepth 100000
set_option linter.unusedSimpArgs false
set_option linter.unusedVariables false
namespace Go.Proofs.YthgdkmbcibfehaaDoor.DcI
open Go.RowKit Go.Proofs.YthgdkmbcibfehaaDoor.Mem Go.Proofs.YthgdkmbcibfehaaDoor.DcA Go.Proofs.YthgdkmbcibfehaaDoor.DcB Go.Proofs.YthgdkmbcibfehaaDoor.DcC Go.Proofs.YthgdkmbcibfehaaDoor.DcD Go.Proofs.YthgdkmbcibfehaaDoor.DcE Go.Proofs.YthgdkmbcibfehaaDoor.DcF Go.Proofs.YthgdkmbcibfehaaDoor.DcH

theorem get_some_pos {l : List Fld} (hl : Ris l) {k s : ByteArray} (h : getL l k = some s) : l[posL l k]? = some (k, s) := by
  have := get_pos hl k
  rw [h] at this
  cases hf : l[posL l k]? with
  | none => rw [hf] at this; cases this
  | some f =>
    rw [hf] at this
    by_cases he : f.1 = k
    · simp only [if_pos he] at this
      injection this with this
      rw [← he, this]
    · simp only [if_neg he] at this
      cases this
set_option maxHeartbeats 2000000 in
theorem getR_calls (A : Option Addr) (n c : Nat) (l : List Fld) (k : ByteArray) (w : World) (hr : RdF w A n c l) (hl : Ris l) (hn : n ≤ 1000000000) :
    Calls Tryd.prog 22 #[.slice A n c, .string k] w fun e w' => e = .returned (.tuple #[.string ((getL l k).getD ⟨#[]⟩), .bool (getL l k).isSome]) ∧ ∃ nd, w' = w.drewN nd := by
  obtain rfl := rdf_len hr
  have hcap := hr.cap
  have hbig : c ≤ 9223372036854775807 := hr.big
  have hfind := find_calls A l.length c l k w hr hl hn
  have hp := pos_le l k
  cases hg : getL l k with
  | none =>
    rw [hg] at hfind
    clear hg
    go_enter Tryd.func22, Tryd.ntmps22
    go_wp2_with fail
    refine hfind.mono ?_
    rintro e w1 ⟨rfl, nd, rfl⟩
    go_wp2_with fail
    go_ret2
    exact ⟨rfl, nd, rfl⟩
  | some s =>
    have hs := get_some_pos hl hg
    rw [hg] at hfind
    obtain ⟨P, hP⟩ : ∃ P, P = posL l k := ⟨_, rfl⟩
    rw [← hP] at hs hp hfind
    have hlt : P < l.length := (List.getElem?_eq_some_iff.1 hs).1
    obtain ⟨p, rfl, x0, x1⟩ := rdf_get hr hs
    clear hg hP hs
    go_enter Tryd.func22, Tryd.ntmps22
    go_wp2_with fail
    refine hfind.mono ?_
    rintro e w1 ⟨rfl, nd, rfl⟩
    go_wp2_with fail
    go_ret2
    exact ⟨rfl, nd, rfl⟩
set_option maxHeartbeats 2000000 in
theorem rises_calls (A : Option Addr) (n c : Nat) (l : List Fld) (w : World) (hr : RdF w A n c l) (hn : n ≤ 1000000000) :
    Calls Tryd.prog 9 #[.slice A n c] w fun e w' => (∃ b, e = .returned (.bool b) ∧ (b = true ↔ Ris l)) ∧ ∃ nd, w' = w.drewN nd := by
  obtain rfl := rdf_len hr
  have hcap := hr.cap
  have hbig : c ≤ 9223372036854775807 := hr.big
  have Hr := Lib.hid hr
  clear hr
  go_enter Tryd.func9, Tryd.ntmps9
  go_wp2_with fail
  go_loopw [3] (fun i wr => ∃ k nd : Nat, 1 ≤ k ∧ (k ≤ l.length ∨ l.length = 0 ∧ k = 1) ∧ i = .int .i64 k ∧ Ris (l.take k) ∧ wr = w.drewN nd) (fun i _ => l.length - (RowKit.intOf i).toNat)
  case atStart => exact ⟨1, 0, Nat.le_refl _, by omega, rfl, by cases l <;> simp [Ris], rfl⟩
  case round =>
    obtain ⟨k, nd, hk1, hk2, rfl, hrk, rfl⟩ := hrel
    have Hrk := Lib.hid hrk
    clear hrk
    by_cases hlt : k < l.length
    · obtain ⟨f, hf⟩ : ∃ f, l[k]? = some f := ⟨_, List.getElem?_eq_getElem (by omega)⟩
      obtain ⟨e, he⟩ : ∃ e, l[k - 1]? = some e := ⟨_, List.getElem?_eq_getElem (by omega)⟩
      obtain ⟨p, rfl, x0, x1⟩ := rdf_get Hr.out hf
      obtain ⟨q, hq, y0, y1⟩ := rdf_get Hr.out he
      injection hq with hq
      subst hq
      have hsn := Lib.hid (ris_snoc hf Hrk.out)
      have He := Lib.hid he
      clear hf he
      have hk3 : ((k : Int) - 1) = ((k - 1 : Nat) : Int) := by omega
      cases hcmp : ltS e.1 f.1
      · have hno := Lib.hid hcmp
        unfold ltS at hcmp
        go_wp2_with fail
        go_quiet (fail)
        go_wp2_with fail
        go_ret
        refine ⟨⟨_, rfl, fun h => by (first | cases h | simp at h), fun hl => ?_⟩, nd + nq, World.drewN_drewN _ _ _⟩
        exfalso
        have := hsn.out.1 (ris_take hl _)
        rcases this with h | ⟨e', he', h'⟩
        · omega
        · rw [He.out] at he'
          injection he' with he'
          subst he'
          rw [hno.out] at h'
          cases h'
      · have hyes := Lib.hid hcmp
        unfold ltS at hcmp
        go_wp2_with fail
        go_quiet (fail)
        go_wp2_with fail
        exact ⟨⟨k + 1, nd + nq, by omega, by omega, by simp, hsn.out.2 (.inr ⟨_, He.out, hyes.out⟩), rfl⟩, by simp [RowKit.intOf]; omega⟩
    · go_wp2_with fail
      go_ret
      refine ⟨⟨_, rfl, fun _ => ?_, fun _ => rfl⟩, nd, rfl⟩
      have := Hrk.out
      rwa [List.take_of_length_le (by omega)] at this
theorem toL_iff {a b : ByteArray} : a.toList = b.toList ↔ a = b := ⟨toL_inj, fun h => by rw [h]⟩
theorem neq_F (a b : Fld) (w : World) : (binOp .neq 52 (.agg #[.string a.1, .string a.2]) (.agg #[.string b.1, .string b.2])).run Tryd.prog w = .ok (.bool (!decide (a = b))) w := by
  have u3 := Tryd.underlying9
  have a3 := Tryd.isAgg9
  have z3 := Tryd.sizeOf9
  have hS : Tryd.prog.underlying 52 = some (.struct (Tryd.prog.fieldsOf 52)) := by kernel_rfl
  have hp : Tryd.prog.stoodInHeld 52 = false := by kernel_rfl
  rw [run_neq_struct, show (10000 : Nat) = 9999 + 1 from rfl, run_equalIn_agg w 9999 52 _ _ hS hp]
  simp only [Program.fieldsOf, Tryd.underlying52]
  go_simp
  obtain ⟨a1, a2⟩ := a
  obtain ⟨b1, b2⟩ := b
  by_cases h1 : a1 = b1 <;> by_cases h2 : a2 = b2 <;> simp [toL_iff, h1, h2]
set_option maxHeartbeats 2000000 in
theorem same_calls (A A' : Option Addr) (n c n' c' : Nat) (l k : List Fld) (w : World) (ha : RdF w A n c l) (hb : RdF w A' n' c' k) (hn : n ≤ 1000000000) (hn' : n' ≤ 1000000000) :
    Calls Tryd.prog 17 #[.slice A n c, .slice A' n' c'] w fun e w' => (∃ b, e = .returned (.bool b) ∧ (b = true ↔ l = k)) ∧ ∃ nd, w' = w.drewN nd := by
  obtain rfl := rdf_len ha
  obtain rfl := rdf_len hb
  have hcap := ha.cap
  have hbig : c ≤ 9223372036854775807 := ha.big
  have hcap' := hb.cap
  have hbig' : c' ≤ 9223372036854775807 := hb.big
  have Ha := Lib.hid ha
  have Hb := Lib.hid hb
  clear ha hb
  by_cases hlen : l.length = k.length
  · have Hlen := Lib.hid hlen
    have hlen2 : ((l.length : Int) == (k.length : Int)) = true := by simp [hlen]
    clear hlen
    go_enter Tryd.func17, Tryd.ntmps17
    go_wp2_with fail
    go_loopw [5] (fun i wr => ∃ j nd : Nat, j ≤ l.length ∧ i = .int .i64 j ∧ (∀ t x y, t < j → l[t]? = some x → k[t]? = some y → x = y) ∧ wr = w.drewN nd) (fun i _ => l.length - (RowKit.intOf i).toNat)
    case atStart => exact ⟨0, 0, Nat.zero_le _, rfl, fun t x y h => absurd h (Nat.not_lt_zero _), rfl⟩
    case round =>
      obtain ⟨j, nd, hj, rfl, hin, rfl⟩ := hrel
      have Hin := Lib.hid hin
      clear hin
      by_cases hlt : j < l.length
      · have hlt2 : j < k.length := by rw [← Hlen.out]; exact hlt
        obtain ⟨f, hf⟩ : ∃ f, l[j]? = some f := ⟨_, List.getElem?_eq_getElem (by omega)⟩
        obtain ⟨g, hg⟩ : ∃ g, k[j]? = some g := ⟨_, List.getElem?_eq_getElem (by omega)⟩
        obtain ⟨p, rfl, x0, x1⟩ := rdf_get Ha.out hf
        obtain ⟨q, rfl, y0, y1⟩ := rdf_get Hb.out hg
        have Hf := Lib.hid hf
        have Hg := Lib.hid hg
        clear hf hg
        have hne := neq_F f g
        by_cases he : f = g
        · rw [decide_eq_true he] at hne
          have HE := Lib.hid he
          clear he
          go_wp2_with fail
          go_quiet (fail)
          go_wp2_with fail
          refine ⟨⟨j + 1, nd + nq, by omega, by simp, fun i x y hi hx hy => ?_, rfl⟩, by simp [RowKit.intOf]; omega⟩
          by_cases h : i < j
          · exact Hin.out i x y h hx hy
          · obtain rfl : i = j := by omega
            rw [Hf.out] at hx; injection hx with hx; subst hx
            rw [Hg.out] at hy; injection hy with hy; subst hy
            exact HE.out
        · rw [decide_eq_false he] at hne
          have HE := Lib.hid he
          clear he
          go_wp2_with fail
          go_quiet (fail)
          go_wp2_with fail
          go_ret
          refine ⟨⟨_, rfl, fun h => by (first | cases h | simp at h), fun hl => ?_⟩, nd + nq, World.drewN_drewN _ _ _⟩
          subst hl
          exact absurd (Option.some.inj (Hf.out.symm.trans Hg.out)) HE.out
      · go_wp2_with fail
        go_ret
        refine ⟨⟨_, rfl, fun _ => ?_, fun _ => rfl⟩, nd, rfl⟩
        obtain rfl : j = l.length := by omega
        exact List.ext_getElem Hlen.out (fun i h1 h2 => Hin.out i _ _ h1 (List.getElem?_eq_getElem h1) (List.getElem?_eq_getElem h2))
  · have hlen2 : ((l.length : Int) == (k.length : Int)) = false := by simp; omega
    go_enter Tryd.func17, Tryd.ntmps17
    go_wp2_with fail
    go_ret
    exact ⟨⟨_, rfl, fun h => by (first | cases h | simp at h), fun h => absurd (congrArg List.length h) hlen⟩, 0, rfl⟩
end Go.Proofs.YthgdkmbcibfehaaDoor.DcI
