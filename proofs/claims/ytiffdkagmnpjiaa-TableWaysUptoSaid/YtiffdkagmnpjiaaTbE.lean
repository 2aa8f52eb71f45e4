/-
  slices.Concat of rows. Conditions: as stated.
-/
import Derived.Test.YtiffdkagmnpjiaaTbD
set_option maxRecDepth 100000
set_option linter.unusedSimpArgs false
set_option linter.unusedVariables false
namespace Go.Proofs.Ytiffdkagmnpjiaa.TbE
open Go.RowKit Go.Proofs.Ytiffdkagmnpjiaa.Mem Go.Proofs.Ytiffdkagmnpjiaa.TbA Go.Proofs.Ytiffdkagmnpjiaa.TbB

/-- A part: a slice and what it reads as. -/
def Prt (w : World) (p : Value × List Sp) : Prop := ∃ A c, p.1 = .slice A p.2.length c ∧ RdP w A p.2.length c p.2
def cat (ps : List (Value × List Sp)) : List Sp := ps.flatMap (·.2)
abbrev vals (ps : List (Value × List Sp)) : List Value := ps.map (·.1)
theorem Prt.below {w w' : World} {p : Value × List Sp} (h : Prt w p) (hb : Below w.heap.size w w') : Prt w' p := by
  obtain ⟨A, c, h1, h2⟩ := h
  exact ⟨A, c, h1, h2.below hb⟩
theorem cat_succ {ps : List (Value × List Sp)} {k : Nat} {p : Value × List Sp} (h : ps[k]? = some p) : cat (ps.take (k + 1)) = cat (ps.take k) ++ p.2 := by
  unfold cat; rw [List.take_add_one, h]; simp
def clen (ps : List (Value × List Sp)) (k : Nat) : Nat := (cat (ps.take k)).length
theorem clen_succ {ps : List (Value × List Sp)} {k : Nat} {p : Value × List Sp} (h : ps[k]? = some p) : clen ps (k + 1) = clen ps k + p.2.length := by
  unfold clen; rw [cat_succ h, List.length_append]
theorem clen_le (ps : List (Value × List Sp)) (k : Nat) : clen ps k ≤ (cat ps).length := by
  unfold clen
  conv => rhs; rw [← List.take_append_drop k ps]
  simp only [cat, List.flatMap_append, List.length_append]; omega
theorem clen_all (ps : List (Value × List Sp)) : clen ps ps.length = (cat ps).length := by unfold clen; rw [List.take_length]
set_option maxHeartbeats 2000000 in
theorem concat_calls (b : Nat) (ps : List (Value × List Sp)) (w : World) (hr : Rd w 1 (some ⟨b, 0, none⟩) ps.length ps.length (vals ps)) (hp : ∀ p ∈ ps, Prt w p) (h0 : 0 < (cat ps).length) (hn : (cat ps).length ≤ 1048576) :
    Calls Try.prog 21 #[.slice (some ⟨b, 0, none⟩) ps.length ps.length] w fun e w' => ∃ v, e = .returned v ∧ OwnP w' w.heap.size v (cat ps) ∧ Below w.heap.size w w' := by
  have hbig := hr.big
  have hbig' : ps.length ≤ 9223372036854775807 := hbig
  have hget : Hid (∀ (k : Nat) (w' : World), Below w.heap.size w w' → k < ps.length → ∃ p A c, ps[k]? = some p ∧ p.1 = .slice A p.2.length c ∧ RdP w' A p.2.length c p.2 ∧ w'.cell? ⟨b, k, none⟩ = some (.slice A p.2.length c)) := by
    intro k w' hb hk
    obtain ⟨p, hpk⟩ : ∃ p, ps[k]? = some p := ⟨_, List.getElem?_eq_getElem hk⟩
    obtain ⟨A, c, h1, h2⟩ := (hp p (List.mem_of_getElem? hpk)).below hb
    obtain ⟨ad, e, hc⟩ := (hr.below hb).get k p.1 (by simp [vals, hpk])
    injection e with e; subst e
    refine ⟨p, A, c, hpk, h1, h2, ?_⟩
    rw [← h1, ← hc]
    show _ = w'.cell? (if k = 0 then _ else _)
    split
    · rename_i e; rw [e]
    · show _ = w'.cell? ⟨b, 0 + k, none⟩; rw [Nat.zero_add]
  clear hp
  go_enter Try.func21, Try.ntmps21
  go_wp2_with fail
  go_loopw [3, 11] (fun t i wr => ∃ k : Nat, k ≤ ps.length ∧ i = .int .i64 k ∧ t = .int .i64 (clen ps k : Nat) ∧ Below w.heap.size w wr) (fun _ i _ => ps.length - (intOf i).toNat)
  case atStart => exact ⟨0, Nat.zero_le _, rfl, rfl, Below.refl _ _⟩
  case round =>
    obtain ⟨k, hk, rfl, rfl, hb⟩ := hrel
    by_cases hlt : k < ps.length
    · obtain ⟨p, A, c, hpk, h1, h2, h3⟩ := hget.out k _ hb hlt
      have hs2 := clen_succ hpk
      have hle := clen_le ps (k + 1)
      go_wp2_with fail
      refine ⟨⟨k + 1, by omega, by go_num, ?_, hb⟩, by simp [intOf]; omega⟩
      rw [hs2]
      go_num
    · obtain rfl : k = ps.length := by omega
      rw [clen_all] at *
      obtain ⟨n, hN⟩ : ∃ n, n = (cat ps).length := ⟨_, rfl⟩
      rw [← hN] at h0 hn ⊢
      have HN := Lib.hid hN
      clear hN
      go_wp2_with fail
      refine (TbD.grow_calls n _ h0 hn).mono ?_
      rintro e wg ⟨v, rfl, ho, hg⟩
      have hb2 : Below w.heap.size w wg := hb.trans (hg.mono hb.size)
      have ho2 : OwnP wg w.heap.size v [] := own_less ho hb.size
      clear ho hg hb
      go_wp2_with fail
      go_loopw [6, 27] (fun u i wr => ∃ k : Nat, k ≤ ps.length ∧ i = .int .i64 k ∧ OwnP wr w.heap.size u (cat (ps.take k)) ∧ Below w.heap.size w wr) (fun _ i _ => ps.length - (intOf i).toNat)
      case atStart => exact ⟨0, Nat.zero_le _, rfl, ho2, hb2⟩
      case round =>
        obtain ⟨k, hk, rfl, ho3, hb3⟩ := hrel
        by_cases hlt : k < ps.length
        · obtain ⟨p, A, c, hpk, h1, h2, h3⟩ := hget.out k _ hb3 hlt
          have hs2 := Lib.hid (cat_succ hpk)
          have hle : (cat (ps.take k)).length + p.2.length ≤ 1048576 := by
            have h1 := clen_succ hpk
            have h2 := clen_le ps (k + 1)
            rw [h1, ← HN.out] at h2
            unfold clen at h2; omega
          obtain ⟨L, hL⟩ : ∃ L, L = cat (ps.take k) := ⟨_, rfl⟩
          rw [← hL] at ho3 hs2 hle
          clear hL
          go_wp2_with (at_builtin; refine wpList_app rfl (.tmp 31) (.tmp 32) zP rfl w.heap.size _ _ _ rfl ho3 A p.2.length c (sps p.2) rfl h2 (sps_one _) (by unfold maxLen; omega) (by omega) hb3.size ?_; intro v3 w3 o3 O3 f3)
          refine ⟨⟨k + 1, by omega, by go_num, ?_, O3.after hb3 (Nat.le_refl _) (fun b hb => (ho3.lt b hb).1)⟩, by simp [intOf]; omega⟩
          rw [hs2.out]
          unfold OwnP
          rw [List.length_append, sps_app]
          exact o3
        · obtain rfl : k = ps.length := by omega
          go_wp2_with fail
          go_ret
          refine ⟨_, rfl, ?_, hb3⟩
          rw [List.take_length] at ho3
          exact ho3
end Go.Proofs.Ytiffdkagmnpjiaa.TbE
