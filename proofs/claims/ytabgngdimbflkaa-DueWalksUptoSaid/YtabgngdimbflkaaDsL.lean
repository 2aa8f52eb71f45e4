/-
  An Index's Take. Conditions: as stated.
-/
import Derived.Test.YtabgngdimbflkaaDsK
set_option maxRecDepth 100000
set_option linter.unusedSimpArgs false
set_option linter.unusedVariables false
namespace Go.Proofs.Ytabgngdimbflkaa.DsL
open Go.RowKit Go.Shelf Go.Proofs.Ytabgngdimbflkaa.Mem Go.Proofs.Ytabgngdimbflkaa.DuA Go.Proofs.Ytabgngdimbflkaa.DuM Go.Proofs.Ytabgngdimbflkaa.DuN Go.Proofs.Ytabgngdimbflkaa.DuB Go.Proofs.Ytabgngdimbflkaa.DsC Go.Proofs.Ytabgngdimbflkaa.DsD Go.Proofs.Ytabgngdimbflkaa.DsE Go.Proofs.Ytabgngdimbflkaa.DsF Go.Proofs.Ytabgngdimbflkaa.DsG Go.Proofs.Ytabgngdimbflkaa.DsH Go.Proofs.Ytabgngdimbflkaa.DsI Go.Proofs.Ytabgngdimbflkaa.DsJ Go.Proofs.Ytabgngdimbflkaa.DsK

/-- The state of the taking: k are gone. -/
structure Tk (B g m : Nat) (v : Value) (l : List (Int × ByteArray)) (N : Nat) (w w1 : World) (A : Option Addr) (c : Nat) (out : List ByteArray) (k : Nat) (wr : World) : Prop where
  t : Turn B g m v (l.drop k) N w1 wr
  o : OwnKs wr w.heap.size (.slice A out.length c) out
theorem turn_old {B g m N : Nat} {v v' : Value} {l : List (Int × ByteArray)} {w w1 : World} (h : Ix w B g m v l N) (hb : w.heap.size ≤ w1.heap.size) (hv : v'.ownBlock = v.ownBlock ∨ ∃ k, v'.ownBlock = some k ∧ w1.heap.size ≤ k) {A : Option Addr} {n c : Nat}
    (ho : ∀ k, (.slice A n c : Value).ownBlock = some k → w.heap.size ≤ k ∧ k < w1.heap.size) : ∀ k, (.slice A n c : Value).ownBlock = some k → ¬ IxS g m v' k := by
  intro k hk hx
  obtain ⟨h1, h2⟩ := ho k hk
  rcases hx with rfl | rfl | hx
  · have := (h.lt k (.inl rfl)).2; omega
  · have := (h.lt k (.inr (.inl rfl))).2; omega
  · rcases hv with e | ⟨k', e, h'⟩
    · rw [e] at hx; have := (h.lt k (.inr (.inr hx))).2; omega
    · rw [e] at hx; injection hx with hx; omega
theorem Turn.trans {B g m N : Nat} {v : Value} {l' l'' : List (Int × ByteArray)} {w w1 w2 : World} {v1 : Value} (h2 : Turn B g m v1 l'' N w1 w2) (ho : Only (IxS g m v) w w1) (hv : v1.ownBlock = v.ownBlock ∨ ∃ k, v1.ownBlock = some k ∧ w.heap.size ≤ k) : Turn B g m v l'' N w w2 := by
  obtain ⟨v2, i2, o2, hv2⟩ := h2
  refine ⟨v2, i2, ho.trans o2 (fun b hb => ?_), ?_⟩
  · rcases hb with rfl | rfl | hb
    · exact .inl (.inl rfl)
    · exact .inl (.inr (.inl rfl))
    · rcases hv with e | ⟨k, e, h'⟩
      · exact .inl (.inr (.inr (by rw [← e]; exact hb)))
      · rw [e] at hb; injection hb with hb; exact .inr (by omega)
  · rcases hv2 with e | ⟨k, e, h'⟩
    · rw [e]; exact hv
    · exact .inr ⟨k, e, Nat.le_trans ho.size h'⟩

set_option maxHeartbeats 4000000 in
theorem take_calls (B g m : Nat) (v : Value) (l : List (Int × ByteArray)) (N : Nat) (now most : Int) (w : World) (h : Ix w B g m v l N) (hB : B ≤ w.heap.size) (hN : N ≤ 1099511627776) :
    Calls Try.prog 14 #[.pointer (some ⟨g, 0, none⟩), .int .i64 now, .int .i64 most] w fun e w' => ∃ v', e = .returned v' ∧ OwnKs w' w.heap.size v' (peekL l now most) ∧ Turn B g m v (takeL l now most) N w w' := by
  have hpk := peek_calls B g m v l N now most w h hN
  have hple := (peek_le now l most.toNat).1
  have hlN := h.len
  unfold takeL
  unfold peekL at hpk ⊢
  obtain ⟨p, hp⟩ : ∃ p, peekN now l most.toNat = p := ⟨_, rfl⟩
  rw [hp] at hpk hple ⊢
  clear hp
  obtain ⟨out, hout⟩ : ∃ out, (l.take p).map (·.2) = out := ⟨_, rfl⟩
  have hol : out.length = p := by rw [← hout]; simp; omega
  rw [hout] at hpk ⊢
  have HO := Lib.hid hout
  have HL := Lib.hid hol
  clear hout hol
  go_enter Try.func14, Try.ntmps14
  go_wp2_with fail
  refine hpk.mono ?_
  rintro e w1 ⟨v1, rfl, o1, b1⟩
  obtain ⟨A, c, rfl⟩ := own_form o1
  have h1 := h.below b1
  have hcap := (Rd.of_own o1).cap
  have holt := fun k hk => (o1.lt k hk)
  go_wp2_with fail
  go_loopw [16] (fun i wr => ∃ k : Nat, k ≤ out.length ∧ i = .int .i64 k ∧ Tk B g m v l N w w1 A c out k wr) (fun i _ => out.length - (intOf i).toNat)
  case atStart => exact ⟨0, Nat.zero_le _, rfl, ⟨by rw [List.drop_zero]; exact Turn.refl h1, o1⟩⟩
  case round =>
    obtain ⟨k, hk, rfl, T⟩ := hrel
    obtain ⟨⟨v2, i2, O2, hv2⟩, o2⟩ := T
    by_cases hlt : k < out.length
    · have hkl : k < l.length := by have := HL.out; omega
      obtain ⟨y, hy⟩ : ∃ y, l[k]? = some y := ⟨_, List.getElem?_eq_getElem hkl⟩
      have hok : out[k]? = some y.2 := by
        rw [← HO.out, List.getElem?_map, List.getElem?_take, if_pos (by have := HL.out; omega), hy]; rfl
      obtain ⟨q, rfl, x0⟩ := (Rd.of_own o2 : RdKs wr A out.length c out).get k (Value.string y.2) (by simp [keysV, hok])
      have hdk : l.drop k = y :: l.drop (k + 1) := by
        obtain ⟨h', e⟩ := List.getElem?_eq_some_iff.1 hy
        rw [List.drop_eq_getElem_cons h', e]
      have hkk : okk y.2 := h.kok y (List.mem_of_getElem? hy)
      have hdr := drop_calls B g m v2 (l.drop k) N y.2 wr i2 hkk (by have := b1.size; have := O2.size; omega) hN
      rw [drop_head hdk i2.srt.one] at hdr
      obtain ⟨t, kk⟩ := y
      have HY := Lib.hid (And.intro hy (And.intro hok hdk))
      clear hy hok hdk
      go_wp2_with fail
      refine hdr.mono ?_
      rintro e w3 ⟨rfl, T3⟩
      have T4 : Turn B g m v (l.drop (k + 1)) N w1 w3 := Turn.trans (l' := l.drop k) T3 O2 hv2
      have o4 : OwnKs w3 w.heap.size (.slice (some q) out.length c) out := by
        obtain ⟨v3, -, O3, -⟩ := T3
        exact own_only o2 O3 (turn_old h b1.size hv2 holt)
      go_wp2_with fail
      exact ⟨⟨k + 1, by omega, by go_num, ⟨T4, o4⟩⟩, by simp [intOf]; omega⟩
    · obtain rfl : k = out.length := by omega
      have T4 : Turn B g m v (l.drop out.length) N w wr := Turn.trans (l' := l) ⟨v2, i2, O2, hv2⟩ (only_b b1) (.inl rfl)
      rw [HL.out] at T4
      go_wp2_with fail
      go_ret
      exact ⟨_, rfl, o2, T4⟩
end Go.Proofs.Ytabgngdimbflkaa.DsL
