/-
  like: the two indexes tell the same; entries. Conditions: as stated.
-/
import Derived.Test.YtabgngdimbflkaaDuV
import Derived.Deep.RegionHeld3
set_option maxRecDepth 100000
set_option linter.unusedSimpArgs false
set_option linter.unusedVariables false
namespace Go.Proofs.Ytabgngdimbflkaa.DuY
open Go.RowKit Go.Shelf Go.Proofs.Ytabgngdimbflkaa.Mem Go.Proofs.Ytabgngdimbflkaa.DuA Go.Proofs.Ytabgngdimbflkaa.DuM Go.Proofs.Ytabgngdimbflkaa.DuN Go.Proofs.Ytabgngdimbflkaa.DuB Go.Proofs.Ytabgngdimbflkaa.DuO Go.Proofs.Ytabgngdimbflkaa.DsC Go.Proofs.Ytabgngdimbflkaa.DsH Go.Proofs.Ytabgngdimbflkaa.DsI Go.Proofs.Ytabgngdimbflkaa.DsJ Go.Proofs.Ytabgngdimbflkaa.DsK Go.Proofs.Ytabgngdimbflkaa.DsL Go.Proofs.Ytabgngdimbflkaa.DuR Go.Proofs.Ytabgngdimbflkaa.DuS Go.Proofs.Ytabgngdimbflkaa.DuT Go.Proofs.Ytabgngdimbflkaa.DuU Go.Proofs.Ytabgngdimbflkaa.DuV

set_option maxHeartbeats 2000000 in
theorem like_calls (B g m : Nat) (v : Value) (l : List (Int × ByteArray)) (h : Nat) (A : Option Addr) (c N : Nat) (k : ByteArray) (w : World) (bo : Bo w B g m v l h A c l N) (hk : okk k) (hN : N ≤ 1099511627774) :
    Calls Try.prog 19 #[.pointer (some ⟨g, 0, none⟩), .pointer (some ⟨h, 0, none⟩), .string k] w fun e w' => e = .returned (.bool true) ∧ ∃ nd, w' = w.drewN nd := by
  have hlen := bo.x.len
  obtain ⟨D, hD⟩ : ∃ D, (dueL l k).getD 0 = D := ⟨_, rfl⟩
  obtain ⟨S, hS⟩ : ∃ S, (dueL l k).isSome = S := ⟨_, rfl⟩
  have e1 : DsH.opt l k = .tuple #[.int .i64 D, .bool S] := by rw [← hD, ← hS]; rfl
  have hx := due_calls B g m v l N k w bo.x hk
  have hy := dueR_calls B h c A l k w bo.y (by omega)
  rw [e1] at hx hy
  have hnx := next_calls B g m v l N w bo.x (by omega)
  clear hD hS e1
  have hDD : (D == D) = true := by simp
  rcases l with _ | ⟨⟨t, s⟩, r⟩
  · have e2 : nextV [] = .tuple #[.string ⟨#[]⟩, .int .i64 0, .bool false] := rfl
    rw [e2] at hnx
    go_enter Try.func19, Try.ntmps19
    go_wp2_with fail
    refine hx.mono ?_
    rintro e w1 ⟨rfl, rfl⟩
    go_wp2_with fail
    refine hy.mono ?_
    rintro e w1 ⟨rfl, rfl⟩
    go_wp2_with fail
    refine hnx.mono ?_
    rintro e w1 ⟨rfl, nd, rfl⟩
    have bo2 := bo.below (below_drawn_ (Below.refl _ _) (nd + 1))
    obtain ⟨cy, -⟩ := bo2.y.cell
    have hln := len_calls B g m v _ N _ bo2.x
    go_wp2_with fail
    go_region_held3 (fun w' => w'.cell? ⟨h, 0, none⟩ = some (.slice A ([] : List (Int × ByteArray)).length c))
      (first | exact cy | assumption)
      (first
        | (go_at_call 29; refine hln.mono ?_; rintro e w3 ⟨rfl, rfl⟩))
    go_wp2_with fail
    go_ret
    exact ⟨rfl, nd + 1, rfl⟩
  · have e2 : nextV ((t, s) :: r) = .tuple #[.string s, .int .i64 t, .bool true] := rfl
    rw [e2] at hnx
    have hts : (s.toList == s.toList) = true := by simp
    have htt : (t == t) = true := by simp
    have e3 : (0 : Int) < (((t, s) :: r).length : Int) := by simp
    go_enter Try.func19, Try.ntmps19
    go_wp2_with fail
    refine hx.mono ?_
    rintro e w1 ⟨rfl, rfl⟩
    go_wp2_with fail
    refine hy.mono ?_
    rintro e w1 ⟨rfl, rfl⟩
    go_wp2_with fail
    refine hnx.mono ?_
    rintro e w1 ⟨rfl, nd, rfl⟩
    have bo2 := bo.below (below_drawn_ (Below.refl _ _) (nd + 1))
    obtain ⟨cy, -⟩ := bo2.y.cell
    have hln := len_calls B g m v _ N _ bo2.x
    obtain ⟨q, hq, q0, q1⟩ := rdr_get bo2.y.rd (i := 0) (e := (t, s)) rfl
    have hq0 : q.add 0 = q := by unfold Addr.add; simp
    simp only [Nat.zero_mul, hq0] at q0 q1
    clear hq0
    obtain ⟨LL, hLL⟩ : ∃ LL, ((t, s) :: r).length = LL := ⟨_, rfl⟩
    rw [hLL] at cy e3 hln
    have HLL := Lib.hid hLL
    clear hLL
    have e4 : 0 < LL := by omega
    clear e3
    have e5 : decide (0 < LL) = true := by simpa using e4
    have hqq : ((LL : Int) == (LL : Int)) = true := by simp
    go_wp2_with fail
    go_region_held3 (fun w' => w'.cell? ⟨h, 0, none⟩ = some (.slice A LL c))
      (first | exact cy | assumption)
      (first
        | (go_at_call 29; refine hln.mono ?_; rintro e w3 ⟨rfl, rfl⟩))
    go_wp2_with fail
    go_ret
    exact ⟨rfl, nd + 1, rfl⟩

set_option maxHeartbeats 1000000 in
theorem entries_calls (A : Option Addr) (n c : Nat) (l : List (Int × ByteArray)) (B : Option Addr) (d : Nat) (w : World) (ha : RdR w A n c l) (hb : RdR w B n d l) (hn : n ≤ 1099511627776) :
    Calls Try.prog 17 #[.slice A n c, .slice B n d] w fun e w' => e = .returned (.bool true) ∧ ∃ nd, w' = w.drewN nd := by
  have h1 := ha.cap
  have h3 := hb.cap
  have HL : Hid (l.length = n) := by have := ha.len; rw [entsR_len] at this; show _ = _; omega
  go_enter Try.func17, Try.ntmps17
  have hnn : ((n : Int) == (n : Int)) = true := by simp
  go_wp2_with fail
  go_loopw [5] (fun i wr => ∃ j : Nat, j ≤ n ∧ i = .int .i64 j ∧ ∃ nd, wr = w.drewN nd) (fun i _ => n - (intOf i).toNat)
  case atStart => exact ⟨0, Nat.zero_le _, rfl, 0, rfl⟩
  case round =>
    obtain ⟨j, hj, rfl, nd, rfl⟩ := hrel
    by_cases hlt : j < n
    · obtain ⟨s, hs⟩ : ∃ s, l[j]? = some s := ⟨_, List.getElem?_eq_getElem (by have := HL.out; omega)⟩
      obtain ⟨p, rfl, c1, c2⟩ := rdr_get ha hs
      obtain ⟨q, rfl, d1, d2⟩ := rdr_get hb hs
      have hts : (s.2.toList == s.2.toList) = true := by simp
      have htt : (s.1 == s.1) = true := by simp
      clear hs
      go_wp2_with fail
      go_quiet (fail)
      go_wp2_with fail
      exact ⟨⟨j + 1, by omega, by go_num, nd + nq, rfl⟩, by simp [intOf]; omega⟩
    · obtain rfl : j = n := by omega
      go_wp2_with fail
      go_ret
      exact ⟨rfl, nd, rfl⟩
end Go.Proofs.Ytabgngdimbflkaa.DuY
