/-
  The document's Incr and After. Conditions: as stated.
-/
import Derived.Test.YthgdkmbcibfehaaDoorDcJ
set_option maxRecDepth 100000
set_option linter.unusedSimpArgs false
set_option linter.unusedVariables false
namespace Go.Proofs.YthgdkmbcibfehaaDoor.DcK
open Go.RowKit Go.Proofs.YthgdkmbcibfehaaDoor.Mem Go.Proofs.YthgdkmbcibfehaaDoor.NumA Go.Proofs.YthgdkmbcibfehaaDoor.NumB Go.Proofs.YthgdkmbcibfehaaDoor.NumC Go.Proofs.YthgdkmbcibfehaaDoor.NumD Go.Proofs.YthgdkmbcibfehaaDoor.NumE Go.Proofs.YthgdkmbcibfehaaDoor.DcA Go.Proofs.YthgdkmbcibfehaaDoor.DcB Go.Proofs.YthgdkmbcibfehaaDoor.DcC Go.Proofs.YthgdkmbcibfehaaDoor.DcD Go.Proofs.YthgdkmbcibfehaaDoor.DcE Go.Proofs.YthgdkmbcibfehaaDoor.DcF Go.Proofs.YthgdkmbcibfehaaDoor.DcG Go.Proofs.YthgdkmbcibfehaaDoor.DcH Go.Proofs.YthgdkmbcibfehaaDoor.DcI Go.Proofs.YthgdkmbcibfehaaDoor.DcJ

theorem below_seq {w w1 w2 : World} (h : Below w.heap.size w w1) (k : Below w1.heap.size w1 w2) : Below w.heap.size w w2 :=
  ⟨k.os.trans h.os, k.tape.trans h.tape, k.output.trans h.output, Nat.le_trans h.size k.size, fun b hb => (k.block b (by have := h.size; omega)).trans (h.block b hb)⟩
def IncPost (w : World) (l : List Fld) (k : ByteArray) (n : Int) (e : Ending) (w' : World) : Prop :=
  ∃ A' n' c' a b, e = .returned (.tuple #[.slice A' n' c', .int .i64 a, .int .i64 b]) ∧ incV l k n = .tuple #[.int .i64 a, .int .i64 b] ∧ RdF w' A' n' c' (incL l k n) ∧ Below w.heap.size w w'
theorem inc_none {l : List Fld} {k : ByteArray} {n : Int} (hb : baseD l k = none) : incV l k n = .tuple #[.int .i64 0, .int .i64 10] ∧ incL l k n = l := by unfold incV incL; rw [hb]; exact ⟨rfl, rfl⟩
theorem inc_far {l : List Fld} {k : ByteArray} {n M : Int} (hb : baseD l k = some M) (h : ¬ inR (M + n)) : incV l k n = .tuple #[.int .i64 0, .int .i64 11] ∧ incL l k n = l := by unfold incV incL addD; rw [hb]; simp only; rw [if_neg h, if_neg h]; exact ⟨rfl, rfl⟩
theorem inc_is {l : List Fld} {k : ByteArray} {n M : Int} (hb : baseD l k = some M) (h : inR (M + n)) : incV l k n = .tuple #[.int .i64 (M + n), .int .i64 0] ∧ incL l k n = setL l k (txt (M + n)) := by unfold incV incL addD; rw [hb]; simp only; rw [if_pos h, if_pos h]; exact ⟨rfl, rfl⟩
set_option maxHeartbeats 4000000 in
theorem incrR_calls (A : Option Addr) (n0 c : Nat) (l : List Fld) (k : ByteArray) (n : Int) (w : World) (hr : RdF w A n0 c l) (hl : Ris l) (hn0 : n0 ≤ 1000000000) (hn : inR n) (hv : ∀ s, getL l k = some s → s.size ≤ 281474976710656) :
    Calls Tryd.prog 15 #[.slice A n0 c, .string k, .int .i64 n] w (IncPost w l k n) := by
  obtain rfl := rdf_len hr
  have hget := getR_calls A l.length c l k w hr hl hn0
  have hset := Lib.hid (fun w' x (hb : Below w.heap.size w w') => setR_calls A l.length c l k x w' (hr.below hb) hl hn0)
  have Hr := Lib.hid hr
  have Hl := Lib.hid hl
  have Hv := Lib.hid hv
  have B0 : ∀ nd, Below w.heap.size w (w.drewN nd) := fun nd => ⟨rfl, rfl, rfl, Nat.le_refl _, fun _ _ => rfl⟩
  clear hr hl hv
  rcases hg : getL l k with _ | s
  · rw [hg] at hget
    have hb : baseD l k = some 0 := by unfold baseD; rw [hg]
    have ha : ∀ W, Calls Tryd.prog 27 #[.int .i64 0, .int .i64 n] W fun e w' => e = .returned (.tuple #[.int .i64 n, .int .i64 0]) ∧ w' = W := fun W => by
      have := addR_calls 0 n W (by unfold inR; omega) hn
      unfold addD at this
      rw [if_pos (by simpa using hn)] at this
      simpa using this
    have hI := inc_is hb (n := n) (by simpa using hn)
    rw [Int.zero_add] at hI
    have HI := Lib.hid hI
    clear hb hg hI
    go_enter Tryd.func15, Tryd.ntmps15
    go_wp2_with fail
    refine hget.mono ?_
    rintro e w1 ⟨rfl, nd, rfl⟩
    go_wp2_with fail
    refine (ha _).mono ?_
    rintro e w2 ⟨rfl, rfl⟩
    go_wp2_with fail
    refine (printR_calls n _ hn).mono ?_
    rintro e w3 ⟨rfl, b3⟩
    have b3' := below_seq (B0 nd) b3
    go_wp2_with fail
    refine (hset.out w3 (txt n) b3').mono ?_
    rintro e w4 ⟨v, rfl, o4, b4⟩
    have b4' := below_seq b3' b4
    obtain ⟨L, hL⟩ : ∃ L, L = setL l k (txt n) := ⟨_, rfl⟩
    rw [← hL] at o4 HI
    clear hL
    obtain ⟨A', c', rfl, r4⟩ := own_rd o4
    go_wp2_with fail
    go_ret3
    exact ⟨_, _, _, _, _, rfl, HI.out.1, by rw [HI.out.2]; exact r4, b4'⟩
  · rw [hg] at hget
    have hbd : baseD l k = parseD s.data.toList := by unfold baseD; rw [hg]
    have hsz := Hv.out s hg
    have hpr := fun W => parseR_calls s W hsz
    clear hg
    rcases hp : parseD s.data.toList with _ | M
    · rw [hp] at hbd hpr
      have HI := Lib.hid (inc_none hbd (n := n))
      unfold parseV at hpr
      clear hbd hp
      go_enter Tryd.func15, Tryd.ntmps15
      go_wp2_with fail
      refine hget.mono ?_
      rintro e w1 ⟨rfl, nd, rfl⟩
      go_wp2_with fail
      refine (hpr _).mono ?_
      rintro e w2 ⟨rfl, rfl⟩
      go_wp2_with fail
      go_ret3
      exact ⟨_, _, _, _, _, rfl, HI.out.1, by rw [HI.out.2]; exact Hr.out.drawn nd, B0 nd⟩
    · have hM : inR M := (itoa_parse hp).2
      rw [hp] at hbd hpr
      unfold parseV at hpr
      have ha := fun W => addR_calls M n W hM hn
      clear hp
      unfold addD at ha
      by_cases hin : inR (M + n)
      · simp only [if_pos hin] at ha
        have HI := Lib.hid (inc_is hbd hin)
        obtain ⟨S, hS⟩ : ∃ S, S = M + n := ⟨_, rfl⟩
        rw [← hS] at ha hin HI
        clear hS hbd
        go_enter Tryd.func15, Tryd.ntmps15
        go_wp2_with fail
        refine hget.mono ?_
        rintro e w1 ⟨rfl, nd, rfl⟩
        go_wp2_with fail
        refine (hpr _).mono ?_
        rintro e w2 ⟨rfl, rfl⟩
        go_wp2_with fail
        refine (ha _).mono ?_
        rintro e w2 ⟨rfl, rfl⟩
        go_wp2_with fail
        refine (printR_calls S _ hin).mono ?_
        rintro e w3 ⟨rfl, b3⟩
        have b3' := below_seq (B0 nd) b3
        go_wp2_with fail
        refine (hset.out w3 (txt S) b3').mono ?_
        rintro e w4 ⟨v, rfl, o4, b4⟩
        have b4' := below_seq b3' b4
        obtain ⟨L, hL⟩ : ∃ L, L = setL l k (txt S) := ⟨_, rfl⟩
        rw [← hL] at o4 HI
        clear hL
        obtain ⟨A', c', rfl, r4⟩ := own_rd o4
        go_wp2_with fail
        go_ret3
        exact ⟨_, _, _, _, _, rfl, HI.out.1, by rw [HI.out.2]; exact r4, b4'⟩
      · simp only [if_neg hin] at ha
        have HI := Lib.hid (inc_far hbd hin)
        clear hbd hin
        go_enter Tryd.func15, Tryd.ntmps15
        go_wp2_with fail
        refine hget.mono ?_
        rintro e w1 ⟨rfl, nd, rfl⟩
        go_wp2_with fail
        refine (hpr _).mono ?_
        rintro e w2 ⟨rfl, rfl⟩
        go_wp2_with fail
        refine (ha _).mono ?_
        rintro e w2 ⟨rfl, rfl⟩
        go_wp2_with fail
        go_ret3
        exact ⟨_, _, _, _, _, rfl, HI.out.1, by rw [HI.out.2]; exact Hr.out.drawn nd, B0 nd⟩
theorem cut_mid (A : Option Addr) (n c lo T : Nat) (h : lo + T ≤ c) (w : World) :
    (Instr.slice 22 (.slice A n c) (some (.int .i64 lo)) (some (.int .i64 ((lo : Int) + T))) none).run Tryd.prog w = .ok (.slice (if c = lo then A else A.map (·.add (lo * 2))) T (c - lo)) w := by
  rw [run_slice_lh w 22 A n c (by kernel_rfl) .i64 .i64 lo ((lo : Int) + T) (by omega) (by omega) (by omega)]
  have e : ((lo : Int) + T).toNat = lo + T := by omega
  have e2 : lo + T - lo = T := by omega
  go_simp
theorem take_most (l : List Fld) (Q T : Nat) (most : Int) (hQ : Q ≤ l.length) (hT : max 0 (min most ((l.length : Int) - Q)) = T) : (l.drop Q).take most.toNat = (l.drop Q).take T := by
  by_cases h : most.toNat ≤ l.length - Q
  · rw [show most.toNat = T by omega]
  · rw [List.take_of_length_le (by rw [List.length_drop]; omega), List.take_of_length_le (by rw [List.length_drop]; omega)]
set_option maxHeartbeats 4000000 in
theorem afterR_calls (A : Option Addr) (n c : Nat) (l : List Fld) (k : ByteArray) (most : Int) (w : World) (hr : RdF w A n c l) (hl : Ris l) (hn : n ≤ 1000000000) (hm : inR most) :
    Calls Tryd.prog 19 #[.slice A n c, .string k, .int .i64 most] w fun e w' => ∃ A' n' c', e = .returned (.slice A' n' c') ∧ RdF w' A' n' c' (aftL l k most) ∧ ∃ nd, w' = w.drewN nd := by
  obtain rfl := rdf_len hr
  have hcap := hr.cap
  have hbig : c ≤ 9223372036854775807 := hr.big
  have hfind := find_calls A l.length c l k w hr hl hn
  have hp := pos_le l k
  have hq := aft_le l hl k
  unfold aftL
  unfold aftP at hq ⊢
  obtain ⟨P, hP⟩ : ∃ P, P = posL l k := ⟨_, rfl⟩
  obtain ⟨b, hb⟩ : ∃ b, b = (getL l k).isSome := ⟨_, rfl⟩
  rw [← hP, ← hb] at hfind hq
  rw [← hP] at hp
  rw [← hP, ← hb]
  clear hb hP hl
  have Hr := Lib.hid hr
  clear hr
  rcases b with _ | _
  · simp only [if_neg (show ¬ (false = true) by simp)] at hq ⊢
    obtain ⟨T, hT⟩ : ∃ T : Nat, max 0 (min most ((l.length : Int) - (P : Int))) = (T : Int) := ⟨(max 0 (min most ((l.length : Int) - (P : Int)))).toNat, by omega⟩
    have htk := take_most l P T most hq (by omega)
    rw [htk]
    have hTl : P + T ≤ l.length := by omega
    have hTl2 : T ≤ l.length - P := by omega
    obtain ⟨A4, hA4⟩ : ∃ A4, A4 = (if c = P then A else A.map (·.add (P * 2))) := ⟨_, rfl⟩
    obtain ⟨c4, hc4⟩ : ∃ c4, c4 = c - P := ⟨_, rfl⟩
    have hcut := fun w => cut_mid A l.length c P T (by omega) w
    have hrd : Hid (∀ nd, RdF (w.drewN nd) A4 T c4 ((l.drop P).take T)) := fun nd => by
      rw [hA4, hc4]
      exact rdf_take (rdf_drop (Hr.out.drawn nd) hq) hTl2
    rw [← hA4, ← hc4] at hcut
    skip
    clear hA4 hc4 htk hTl2
    go_enter Tryd.func19, Tryd.ntmps19
    go_wp2_with fail
    refine hfind.mono ?_
    rintro e w1 ⟨rfl, nd, rfl⟩
    go_wp2_with fail
    go_ret
    exact ⟨_, _, _, rfl, hrd.out nd, nd, rfl⟩
  · simp only [if_true] at hq ⊢
    obtain ⟨T, hT⟩ : ∃ T : Nat, max 0 (min most ((l.length : Int) - ((P : Int) + 1))) = (T : Int) := ⟨(max 0 (min most ((l.length : Int) - ((P : Int) + 1)))).toNat, by omega⟩
    have htk := take_most l (P + 1) T most hq (by omega)
    rw [htk]
    have hTl : (P + 1) + T ≤ l.length := by omega
    have hTl2 : T ≤ l.length - (P + 1) := by omega
    obtain ⟨A4, hA4⟩ : ∃ A4, A4 = (if c = (P + 1) then A else A.map (·.add ((P + 1) * 2))) := ⟨_, rfl⟩
    obtain ⟨c4, hc4⟩ : ∃ c4, c4 = c - (P + 1) := ⟨_, rfl⟩
    have hcut := fun w => cut_mid A l.length c (P + 1) T (by omega) w
    have hrd : Hid (∀ nd, RdF (w.drewN nd) A4 T c4 ((l.drop (P + 1)).take T)) := fun nd => by
      rw [hA4, hc4]
      exact rdf_take (rdf_drop (Hr.out.drawn nd) hq) hTl2
    rw [← hA4, ← hc4] at hcut
    rw [show ((P + 1 : Nat) : Int) = (P : Int) + 1 by omega] at hcut
    clear hA4 hc4 htk hTl2
    go_enter Tryd.func19, Tryd.ntmps19
    go_wp2_with fail
    refine hfind.mono ?_
    rintro e w1 ⟨rfl, nd, rfl⟩
    go_wp2_with fail
    go_ret
    exact ⟨_, _, _, rfl, hrd.out nd, nd, rfl⟩
end Go.Proofs.YthgdkmbcibfehaaDoor.DcK
