/-
  Keys of a request (the document's one). Conditions: as stated.
-/
import Derived.Test.YtiffdkagmnpjiaaTbS
set_option maxRecDepth 100000
set_option linter.unusedSimpArgs false
set_option linter.unusedVariables false
namespace Go.Proofs.Ytiffdkagmnpjiaa.TbT
open Go.RowKit Go.Proofs.Ytiffdkagmnpjiaa.Mem Go.Proofs.Ytiffdkagmnpjiaa.TbA Go.Proofs.Ytiffdkagmnpjiaa.TbB Go.Proofs.Ytiffdkagmnpjiaa.Bytes Go.Proofs.Ytiffdkagmnpjiaa.TbI Go.Proofs.Ytiffdkagmnpjiaa.TbJ Go.Proofs.Ytiffdkagmnpjiaa.TbL Go.Proofs.Ytiffdkagmnpjiaa.TbN Go.Proofs.Ytiffdkagmnpjiaa.TbO Go.Proofs.Ytiffdkagmnpjiaa.TbP Go.Proofs.Ytiffdkagmnpjiaa.TbQ Go.Proofs.Ytiffdkagmnpjiaa.TbR Go.Proofs.Ytiffdkagmnpjiaa.TbS

set_option maxHeartbeats 2000000 in
theorem keysR_none (A : Option Addr) (n c : Nat) (l : List ByteArray) (w : World) (hr : RdS w A n c l) (hs : Small l) (hc : checkD l ≠ ⟨#[]⟩) :
    Calls Try.prog 19 #[.slice A n c] w fun e w' => ∃ v, e = .returned v ∧ OwnS w' w.heap.size v (keysD l) ∧ Below w.heap.size w w' := by
  have hk : Hid (keysD l = []) := if_neg hc
  have hq : ((checkD l).toList == []) = false := by
    rw [beq_eq_false_iff_ne]; intro e; exact hc (toL_inj (e.trans (by kernel_rfl)))
  have hcheck := Lib.hid (checkR_calls A n c l w hr hs)
  obtain ⟨C, hC⟩ : ∃ C, C = checkD l := ⟨_, rfl⟩
  rw [← hC] at hq hcheck
  clear hC hc hr hs
  go_enter Try.func19, Try.ntmps19
  go_wp2_with fail
  refine hcheck.out.mono ?_
  rintro e w1 ⟨rfl, b1⟩
  clear hcheck
  go_wp2_with fail
  go_ret
  exact ⟨_, rfl, by rw [hk.out]; exact World.ownsRow_nil _ _ _ _, b1⟩
set_option maxHeartbeats 4000000 in
theorem keysR_good (p : Addr) (c : Nat) (l : List ByteArray) (s xn : ByteArray) (xa xf xl xs last : Int) (xw xc : Bool) (K : List ByteArray) (w : World) (hr : RdS w (some p) l.length c l) (hs : Small l) (h0 : l[0]? = some s) (hc : checkD l = ⟨#[]⟩) (hf : findD s = some ⟨xn, xa, xw, xc, xf, xl, xs⟩)
    (hla : xl < 0 ∧ last = xl + l.length ∨ 0 ≤ xl ∧ last = xl) (hl : -1 ≤ xl ∧ xl ≤ 2) (hfi : 1 ≤ xf ∧ xf ≤ 2 ∧ 1 ≤ xs ∧ xs ≤ 2) (hK : K = keysFrom l last xs l.length xf) :
    Calls Try.prog 19 #[.slice (some p) l.length c] w fun e w' => ∃ v, e = .returned v ∧ OwnS w' w.heap.size v K ∧ Below w.heap.size w w' := by
  have hcheck := Lib.hid (checkR_calls (some p) l.length c l w hr hs)
  rw [hc] at hcheck
  have hfind : Hid (∀ W, Calls Try.prog 9 #[.string s] W fun e w' => e = .returned (.tuple #[.agg #[.string xn, .int .i64 xa, .bool xw, .bool xc, .int .i64 xf, .int .i64 xl, .int .i64 xs], .bool true]) ∧ Below W.heap.size W w') := fun W => by have := findR_calls s W (hs.2 s (List.mem_of_getElem? h0)); rw [hf] at this; exact this
  have h1 := hr.cap
  have h2 : c ≤ 9223372036854775807 := hr.big
  have hln := hs.1
  have hpos : 0 < l.length := (List.getElem?_eq_some_iff.1 h0).1
  have H0 := Lib.hid h0
  have HK := Lib.hid hK
  have Hs := Lib.hid hs
  have Hr := Lib.hid hr
  clear hc hf h0 hK hs hr
  go_enter Try.func19, Try.ntmps19
  go_wp2_with fail
  refine hcheck.out.mono ?_
  rintro e w1 ⟨rfl, b1⟩
  clear hcheck
  have x0 : w1.cell? p = some (.string s) := by
    obtain ⟨q, e, h⟩ := rds_get (Hr.out.below b1) H0.out
    injection e with e; subst e; exact h
  go_wp2_with fail
  refine (hfind.out _).mono ?_
  rintro e w2 ⟨rfl, b2⟩
  have B2 : Below w.heap.size w w2 := b1.trans (b2.mono b1.size)
  have hz : (w2.alloc (.cells #[.string xn, .int .i64 xa, .bool xw, .bool xc, .int .i64 xf, .int .i64 xl, .int .i64 xs] 23)).heap[w2.heap.size]? = some (.cells #[.string xn, .int .i64 xa, .bool xw, .bool xc, .int .i64 xf, .int .i64 xl, .int .i64 xs] 23 (0, 0)) := heap_alloc_new w2 _
  have B3 := B2.alloc B2.size (.cells #[.string xn, .int .i64 xa, .bool xw, .bool xc, .int .i64 xf, .int .i64 xl, .int .i64 xs] 23)
  have Hz := Lib.hid hz
  have HB := Lib.hid B3
  clear hfind b1 b2 x0 hz B3
  go_wp2_with fail
  all_goals (
    go_loopw [3, 7] (fun v i wr => ∃ (j f : Nat) (out : List ByteArray), 1 ≤ j ∧ j ≤ l.length + 2 ∧ l.length ≤ j + f ∧ i = .int .i64 j ∧ out.length ≤ j ∧ Hid (K = out ++ keysFrom l last xs f j) ∧ OwnS wr (w2.heap.size + 1) v out ∧ wr.heap[w2.heap.size]? = some (.cells #[.string xn, .int .i64 xa, .bool xw, .bool xc, .int .i64 xf, .int .i64 xl, .int .i64 xs] 23 (0, 0)) ∧ Below w.heap.size w wr) (fun _ i _ => l.length + 3 - (intOf i).toNat)
    case atStart => exact ⟨xf.toNat, l.length, [], by omega, by omega, by omega, by rw [Int.toNat_of_nonneg (by omega)], by simp, by show _ = _; rw [Int.toNat_of_nonneg (by omega)]; exact HK.out, World.ownsRow_nil _ _ _ _, Hz.out, HB.out⟩
    case round =>
      clear HK Hz HB
      obtain ⟨j, f, out, hj1, hj2, hjf, rfl, hol, hk, ho, hz, hb⟩ := hrel
      have z4 : wr.cell? ⟨w2.heap.size, 4, none⟩ = some (.int .i64 xf) := by simp [World.cell?, hz]
      have z5 : wr.cell? ⟨w2.heap.size, 5, none⟩ = some (.int .i64 xl) := by simp [World.cell?, hz]
      have z6 : wr.cell? ⟨w2.heap.size, 6, none⟩ = some (.int .i64 xs) := by simp [World.cell?, hz]
      by_cases hin : (j : Int) ≤ last ∧ j < l.length
      · obtain ⟨hi1, hi2⟩ := hin
        obtain ⟨t, ht⟩ : ∃ t, l[j]? = some t := ⟨_, List.getElem?_eq_getElem hi2⟩
        obtain ⟨q, eq, cp⟩ := rds_get (Hr.out.below hb) ht
        injection eq with eq; subst eq
        obtain ⟨f', rfl, hst⟩ := kf_step (st := xs) hi1 ht hjf
        have hk2 : Hid (K = (out ++ [t]) ++ keysFrom l last xs f' ((j + xs.toNat : Nat) : Int)) := by
          show _ = _
          rw [hk.out, hst, List.append_assoc, Int.natCast_add, Int.toNat_of_nonneg (by omega)]; rfl
        clear hk hst ht
        have Ho := Lib.hid ho
        have Hb := Lib.hid hb
        have Hzz := Lib.hid hz
        have hgs : w2.heap.size + 1 ≤ wr.heap.size := (Array.getElem?_eq_some_iff.1 hz).1
        obtain ⟨A1, c1, rfl⟩ := own_form ho
        have hne : ∀ k, (Value.slice A1 out.length c1).ownBlock = some k → w2.heap.size + 1 ≤ k := fun k h => (Ho.out.lt k h).1
        clear ho hb hz
        go_wp2_with (at_builtin; refine wpList_app1 rfl (.tmp 46) (.tmp 51) elS rfl (w2.heap.size + 1) _ out.length (strs out) rfl Ho.out (.string t) rfl rfl (by unfold maxLen; omega) (by omega) hgs ?_; intro v' w3 o3 b3 f3; have z6' : w3.cell? ⟨w2.heap.size, 6, none⟩ = some (.int .i64 xs) := (b3.cell z6 (fun h => Nat.not_succ_le_self _ (hne _ h))))
        go_simp
        refine ⟨⟨j + xs.toNat, by omega, by omega, f', by omega, by omega, out ++ [t], by simp; omega, hk2, own_snocS o3, b3.heap Hzz.out (fun h => Nat.not_succ_le_self _ (hne _ h)), ?_⟩, by simp [intOf]; omega⟩
        exact b3.after Hb.out (Nat.le_refl _) (fun k h => by have := hne _ h; have := Hb.out.size; have := B2.size; omega)
      · have hK : K = out := by rw [hk.out, kf_stop f (by omega), List.append_nil]
        have HK := Lib.hid hK
        obtain ⟨A1, c1, rfl⟩ := own_form ho
        clear hK hk
        rcases Int.lt_or_le last j with hi | hi
        · go_wp2_with fail
          go_ret
          exact ⟨_, rfl, by rw [HK.out]; exact own_less ho (by have := B2.size; omega), hb⟩
        · have hge : l.length ≤ j := by omega
          go_wp2_with fail
          all_goals (
            go_ret
            exact ⟨_, rfl, by rw [HK.out]; exact own_less ho (by have := B2.size; omega), hb⟩))
set_option maxHeartbeats 4000000 in
theorem keysR_zero (p : Addr) (c : Nat) (l : List ByteArray) (s xn : ByteArray) (xa xl xs : Int) (xw xc : Bool) (w : World) (hr : RdS w (some p) l.length c l) (hs : Small l) (h0 : l[0]? = some s) (hc : checkD l = ⟨#[]⟩) (hf : findD s = some ⟨xn, xa, xw, xc, 0, xl, xs⟩) (hl : -1 ≤ xl ∧ xl ≤ 2) :
    Calls Try.prog 19 #[.slice (some p) l.length c] w fun e w' => ∃ v, e = .returned v ∧ OwnS w' w.heap.size v [] ∧ Below w.heap.size w w' := by
  have hcheck := Lib.hid (checkR_calls (some p) l.length c l w hr hs)
  rw [hc] at hcheck
  have hfind : Hid (∀ W, Calls Try.prog 9 #[.string s] W fun e w' => e = .returned (.tuple #[.agg #[.string xn, .int .i64 xa, .bool xw, .bool xc, .int .i64 0, .int .i64 xl, .int .i64 xs], .bool true]) ∧ Below W.heap.size W w') := fun W => by have := findR_calls s W (hs.2 s (List.mem_of_getElem? h0)); rw [hf] at this; exact this
  have h1 := hr.cap
  have h2 : c ≤ 9223372036854775807 := hr.big
  have hln := hs.1
  have hpos : 0 < l.length := (List.getElem?_eq_some_iff.1 h0).1
  have H0 := Lib.hid h0
  have Hr := Lib.hid hr
  clear hc hf h0 hs hr
  go_enter Try.func19, Try.ntmps19
  go_wp2_with fail
  refine hcheck.out.mono ?_
  rintro e w1 ⟨rfl, b1⟩
  clear hcheck
  have x0 : w1.cell? p = some (.string s) := by
    obtain ⟨q, e, h⟩ := rds_get (Hr.out.below b1) H0.out
    injection e with e; subst e; exact h
  go_wp2_with fail
  refine (hfind.out _).mono ?_
  rintro e w2 ⟨rfl, b2⟩
  have B2 : Below w.heap.size w w2 := b1.trans (b2.mono b1.size)
  have B3 := B2.alloc B2.size (.cells #[.string xn, .int .i64 xa, .bool xw, .bool xc, .int .i64 0, .int .i64 xl, .int .i64 xs] 23)
  have HB := Lib.hid B3
  clear hfind b1 b2 x0 B3
  go_wp2_with fail
  all_goals (
    go_loopw [3, 7] (fun v i wr => v = .slice none 0 0 ∧ i = .int .i64 0 ∧ Below w.heap.size w wr) (fun _ i _ => 0)
    case atStart => exact ⟨rfl, rfl, HB.out⟩
    case round =>
      obtain ⟨rfl, rfl, hb⟩ := hrel
      go_wp2_with fail
      go_ret
      exact ⟨_, rfl, World.ownsRow_nil _ _ _ _, hb⟩)
theorem keysR_calls (A : Option Addr) (n c : Nat) (l : List ByteArray) (w : World) (hr : RdS w A n c l) (hs : Small l) :
    Calls Try.prog 19 #[.slice A n c] w fun e w' => ∃ v, e = .returned v ∧ OwnS w' w.heap.size v (keysD l) ∧ Below w.heap.size w w' := by
  by_cases hc : checkD l = ⟨#[]⟩
  · match l, hr, hs, hc with
    | [], hr, hs, hc => exact absurd hc (by decide)
    | s :: k, hr, hs, hc =>
      rcases hf : findD s with _ | x
      · exfalso
        have e : checkD (s :: k) = unkn ++ shownD s := by unfold checkD; simp only [hf]
        have := congrArg ByteArray.size (e.symm.trans hc)
        rw [ByteArray.size_append] at this
        have h2 : unkn.size = 20 := rfl
        have h3 : (⟨#[]⟩ : ByteArray).size = 0 := rfl
        omega
      · have hk := keys_first hc hf
        obtain ⟨g1, g2, g3⟩ := find_keys hf
        obtain ⟨p, rfl, -⟩ := hr.get 0 (.string s) rfl
        obtain rfl := rds_len hr
        obtain ⟨xn, xa, xw, xc, xf, xl, xs⟩ := x
        simp only at hk g1 g2 g3
        rcases g3 with rfl | g3
        · rw [hk, if_pos rfl]
          exact keysR_zero p c (s :: k) s xn xa xl xs xw xc w hr hs rfl hc hf ⟨g1, g2⟩
        · rw [if_neg (by omega)] at hk
          refine keysR_good p c (s :: k) s xn xa xf xl xs (lastD (s :: k) ⟨xn, xa, xw, xc, xf, xl, xs⟩) xw xc _ w hr hs rfl hc hf ?_ ⟨g1, g2⟩ g3 hk
          unfold lastD
          simp only
          split
          · exact .inl ⟨by assumption, rfl⟩
          · exact .inr ⟨by omega, rfl⟩
  · exact keysR_none A n c l w hr hs hc
end Go.Proofs.Ytiffdkagmnpjiaa.TbT
