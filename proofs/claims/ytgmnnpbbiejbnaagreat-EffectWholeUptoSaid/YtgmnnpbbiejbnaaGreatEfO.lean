/-
  Plain law: what is written is read as it was; what is read is written as it stands. Conditions: as stated.
-/
import Derived.Test.YtgmnnpbbiejbnaaGreatEfG
set_option maxRecDepth 100000
set_option linter.unusedSimpArgs false
set_option linter.unusedVariables false
namespace Go.Proofs.YtgmnnpbbiejbnaaGreat.EfO
open Go.Proofs.YtgmnnpbbiejbnaaGreat.VaA (le le_len)
open Go.Proofs.YtgmnnpbbiejbnaaGreat.VaI Go.Proofs.YtgmnnpbbiejbnaaGreat.VaH Go.Proofs.YtgmnnpbbiejbnaaGreat.SpC Go.Proofs.YtgmnnpbbiejbnaaGreat.SpF Go.Proofs.YtgmnnpbbiejbnaaGreat.EfA Go.Proofs.YtgmnnpbbiejbnaaGreat.EfB Go.Proofs.YtgmnnpbbiejbnaaGreat.EfD Go.Proofs.YtgmnnpbbiejbnaaGreat.EfE Go.Proofs.YtgmnnpbbiejbnaaGreat.EfF Go.Proofs.YtgmnnpbbiejbnaaGreat.EfG
open Go.Proofs.YtgmnnpbbiejbnaaGreat.VaP (unle unle_lt)
open Go.Proofs.YtgmnnpbbiejbnaaGreat.VbA (decD)
open Go.Proofs.YtgmnnpbbiejbnaaGreat.VcQ (le_unle unle_le ext_list size_list ba_eq)

theorem rest_of {s : ByteArray} {A Z : List UInt8} (h : s.data.toList = A ++ Z) : s.extract A.length s.size = ⟨Z.toArray⟩ := by
  apply ba_eq
  rw [ext_list, h, List.drop_left, ← size_list, h, List.length_append, Nat.add_sub_cancel_left, List.take_length]
theorem head_of {s : ByteArray} {A Z : List UInt8} (h : s.data.toList = A ++ Z) : (s.extract 0 A.length).data.toList = A := by
  rw [ext_list, h]; simp
theorem cut_at {s k : ByteArray} {Z : List UInt8} (h : s.data.toList = k.data.toList ++ Z) : cutP s false k.size = (k, ⟨Z.toArray⟩, false) := by
  have hz : s.size = k.size + Z.length := by rw [← size_list, h, List.length_append, size_list]
  unfold cutP
  rw [if_neg (fun e => e.elim (fun e => by cases e) (fun e => by omega))]
  have h1 := head_of h
  have h2 := rest_of h
  rw [size_list] at h1 h2
  rw [h2, ba_eq h1]
theorem num_at {s : ByteArray} {Z : List UInt8} {n : Nat} (h : s.data.toList = le n 8 ++ Z) (hn : n < 18446744073709551616) : numP s false = (n, ⟨Z.toArray⟩, false) := by
  have hz : s.size = 8 + Z.length := by rw [← size_list, h, List.length_append, le_len]
  unfold numP
  rw [if_neg (fun e => e.elim (fun e => by cases e) (fun e => by omega))]
  have h1 := head_of h
  have h2 := rest_of h
  rw [le_len] at h1 h2
  rw [h2, h1, unle_le 8 n (by rw [show (256 : Nat) ^ 8 = 18446744073709551616 from by decide]; exact hn)]
theorem num_is {s r : ByteArray} {n : Nat} {b : Bool} (h : numP s false = (n, r, b)) (hb : b = false) : s.data.toList = le n 8 ++ r.data.toList := by
  subst hb
  unfold numP at h
  split at h
  · injection h with _ h; injection h with _ h; cases h
  · rename_i hn
    have h8 : 8 ≤ s.size := Nat.not_lt.1 (fun e => hn (.inr e))
    injection h with h1 h; injection h with h2 _
    have hl : (s.extract 0 8).data.toList.length = 8 := by rw [size_list, ByteArray.size_extract]; omega
    rw [← h1, ← h2]
    have := le_unle (s.extract 0 8).data.toList
    rw [hl] at this
    rw [this, ext_list, ext_list, List.drop_zero, Nat.sub_zero, List.take_of_length_le (l := s.data.toList.drop 8) (by rw [List.length_drop, size_list]; exact Nat.le_refl _), List.take_append_drop]
theorem cut_is {s k r : ByteArray} {n : Nat} {b : Bool} (h : cutP s false n = (k, r, b)) (hb : b = false) : s.data.toList = k.data.toList ++ r.data.toList ∧ k.size = n := by
  subst hb
  unfold cutP at h
  split at h
  · injection h with _ h; injection h with _ h; cases h
  · rename_i hn
    have h8 : n ≤ s.size := Nat.not_lt.1 (fun e => hn (.inr e))
    injection h with h1 h; injection h with h2 _
    rw [← h1, ← h2]
    refine ⟨?_, by rw [ByteArray.size_extract]; omega⟩
    rw [ext_list, ext_list, List.drop_zero, Nat.sub_zero, List.take_of_length_le (l := s.data.toList.drop n) (by rw [List.length_drop, size_list]; exact Nat.le_refl _), List.take_append_drop]
theorem cut_bad (s : ByteArray) (n : Nat) : (cutP s true n).2.2 = true := by unfold cutP; rw [if_pos (.inl rfl)]
theorem num_bad (s : ByteArray) : (numP s true).2.2 = true := by unfold numP; rw [if_pos (.inl rfl)]
/-- An effect that may be, of sizes within bounds. -/
structure Fine (p : PE) : Prop where
  may : mayP p = true
  key : p.key.size ≤ 100000000
  l : p.v.list.length < 4294967296
  f : p.v.flds.length < 4294967296
  k : p.v.rank.length < 4294967296
theorem one_cons {s : ByteArray} {b : UInt8} {t : List UInt8} (h : s.data.toList = b :: t) : s.extract 1 s.size = ⟨t.toArray⟩ := rest_of (A := [b]) h
theorem eff1_enc {p : PE} (hp : Fine p) {s : ByteArray} {Z : List UInt8} (h : s.data.toList = bytesE p ++ Z) : eff1 s = some (p, ⟨Z.toArray⟩) := by
  obtain ⟨hm, hk, hl, hf, hr⟩ := hp
  obtain ⟨kd, key, v, due⟩ := p
  unfold mayP at hm
  unfold bytesE at h
  dsimp only at hm h hk hl hf hr
  by_cases k1 : kd = 1
  · subst k1
    rw [if_pos rfl] at hm h
    simp only [Bool.and_eq_true, decide_eq_true_eq] at hm
    obtain ⟨hc, ht⟩ := hm
    have hd := (tick_iff due).1 ht
    obtain ⟨dn, rfl⟩ : ∃ dn : Nat, due = (dn : Int) := ⟨due.toNat, by omega⟩
    rw [Int.toNat_natCast] at h
    simp only [List.cons_append, List.append_assoc] at h
    have e1 := one_cons h
    have e2 := num_at (s := ⟨(le key.size 8 ++ (key.data.toList ++ (le dn 8 ++ (encP v ++ Z)))).toArray⟩) (n := key.size) (Z := key.data.toList ++ (le dn 8 ++ (encP v ++ Z))) rfl (by omega)
    have e3 := cut_at (s := ⟨(key.data.toList ++ (le dn 8 ++ (encP v ++ Z))).toArray⟩) (k := key) (Z := le dn 8 ++ (encP v ++ Z)) rfl
    have e4 := num_at (s := ⟨(le dn 8 ++ (encP v ++ Z)).toArray⟩) (n := dn) (Z := encP v ++ Z) rfl (by omega)
    obtain ⟨e5, e6⟩ := VcR.dec_enc (x := v.vv) hc ⟨rfl, rfl, rfl⟩ hl hf hr (s := ⟨(encP v ++ Z).toArray⟩) (Z := Z) rfl
    have hkd := isK_of hc
    have hv : pvOf (decD ⟨(encP v ++ Z).toArray⟩).v = v := by
      rw [e5]
      show (⟨((v.kind.toNat : Nat) : Int), v.text, v.list, v.flds, v.rank⟩ : PV) = v
      have : ((v.kind.toNat : Nat) : Int) = v.kind := by have : v.vv.kind = v.kind := rfl; omega
      rw [this]
    have e7 : (⟨(encP v ++ Z).toArray⟩ : ByteArray).extract (decD ⟨(encP v ++ Z).toArray⟩).st.k (⟨(encP v ++ Z).toArray⟩ : ByteArray).size = ⟨Z.toArray⟩ := by
      rw [e5]
      exact rest_of (s := ⟨(encP v ++ Z).toArray⟩) (A := encV v.vv) (Z := Z) rfl
    unfold eff1
    rw [h]
    dsimp only
    rw [if_neg (by decide), e1, e2]
    dsimp only
    rw [if_neg (by decide), e3]
    dsimp only
    rw [e4]
    dsimp only
    rw [if_neg (fun e => e.elim (fun e => by cases e) (fun e => by omega)), if_neg (by decide), if_pos rfl, if_pos e6, hv, e7]
  rw [if_neg k1] at hm h
  by_cases k2 : kd = 2
  · subst k2
    rw [if_pos rfl] at hm h
    simp only [Bool.and_eq_true, decide_eq_true_eq] at hm
    obtain ⟨rfl, rfl⟩ := hm
    simp only [List.cons_append, List.append_assoc] at h
    have e1 := one_cons h
    have e2 := num_at (s := ⟨(le key.size 8 ++ (key.data.toList ++ Z)).toArray⟩) (n := key.size) (Z := key.data.toList ++ Z) rfl (by omega)
    have e3 := cut_at (s := ⟨(key.data.toList ++ Z).toArray⟩) (k := key) (Z := Z) rfl
    unfold eff1
    rw [h]
    dsimp only
    rw [if_neg (by decide), e1, e2]
    dsimp only
    rw [if_pos rfl, e3]
    dsimp only
    rw [if_neg (by decide)]
  rw [if_neg k2] at hm h
  by_cases k3 : kd = 3
  · subst k3
    rw [if_pos rfl] at hm h
    simp only [Bool.and_eq_true, decide_eq_true_eq] at hm
    obtain ⟨rfl, ht⟩ := hm
    have hd := (tick_iff due).1 ht
    obtain ⟨dn, rfl⟩ : ∃ dn : Nat, due = (dn : Int) := ⟨due.toNat, by omega⟩
    rw [Int.toNat_natCast] at h
    simp only [List.cons_append, List.append_assoc] at h
    have e1 := one_cons h
    have e2 := num_at (s := ⟨(le key.size 8 ++ (key.data.toList ++ (le dn 8 ++ Z))).toArray⟩) (n := key.size) (Z := key.data.toList ++ (le dn 8 ++ Z)) rfl (by omega)
    have e3 := cut_at (s := ⟨(key.data.toList ++ (le dn 8 ++ Z)).toArray⟩) (k := key) (Z := le dn 8 ++ Z) rfl
    have e4 := num_at (s := ⟨(le dn 8 ++ Z).toArray⟩) (n := dn) (Z := Z) rfl (by omega)
    unfold eff1
    rw [h]
    dsimp only
    rw [if_neg (by decide), e1, e2]
    dsimp only
    rw [if_neg (by decide), e3]
    dsimp only
    rw [e4]
    dsimp only
    rw [if_neg (fun e => e.elim (fun e => by cases e) (fun e => by omega)), if_pos rfl]
  rw [if_neg k3] at hm h
  by_cases k4 : kd = 4
  · subst k4
    rw [if_pos rfl] at hm
    simp only [Bool.and_eq_true, decide_eq_true_eq] at hm
    obtain ⟨⟨rfl, rfl⟩, rfl⟩ := hm
    have e1 := one_cons (s := s) (b := 4) (t := Z) h
    unfold eff1
    rw [h]
    show (if (4 : UInt8) = 4 then _ else _) = _
    rw [if_pos rfl, e1]
  · rw [if_neg k4] at hm; cases hm
theorem eff1_is {s r : ByteArray} {p : PE} (h : eff1 s = some (p, r)) : mayP p = true ∧ s.data.toList = bytesE p ++ r.data.toList := by
  unfold eff1 at h
  cases hl : s.data.toList with
  | nil => rw [hl] at h; cases h
  | cons b t =>
    rw [hl] at h
    dsimp only at h
    have e1 := one_cons hl
    rw [e1] at h
    by_cases b4 : b = 4
    · rw [if_pos b4] at h
      injection h with h; injection h with h1 h2
      subst h1 h2 b4
      exact ⟨by rfl, rfl⟩
    rw [if_neg b4] at h
    obtain ⟨n, s2, c2, hn⟩ : ∃ n s2 c2, numP ⟨t.toArray⟩ false = (n, s2, c2) := ⟨_, _, _, rfl⟩
    rw [hn] at h
    dsimp only at h
    obtain ⟨k, s3, c3, hk⟩ : ∃ k s3 c3, cutP s2 c2 n = (k, s3, c3) := ⟨_, _, _, rfl⟩
    rw [hk] at h
    dsimp only at h
    have good : c3 = false → t = le k.size 8 ++ (k.data.toList ++ s3.data.toList) := by
      intro hc
      have hc2 : c2 = false := by
        cases c2 with
        | false => rfl
        | true => have := cut_bad s2 n; rw [hk] at this; exact absurd (this.symm.trans hc) (by decide)
      subst hc2
      have a1 := num_is hn rfl
      obtain ⟨a2, a3⟩ := cut_is hk hc
      have : t = le n 8 ++ s2.data.toList := a1
      rw [this, a2, a3]
    by_cases b2 : b = 2
    · rw [if_pos b2] at h
      split at h
      · cases h
      · rename_i hc
        have hc : c3 = false := by simpa using hc
        injection h with h; injection h with h1 h2
        subst h1 h2 b2
        refine ⟨by rfl, ?_⟩
        rw [good hc]
        unfold bytesE
        simp
    rw [if_neg b2] at h
    obtain ⟨d, s4, c4, hd⟩ : ∃ d s4 c4, numP s3 c3 = (d, s4, c4) := ⟨_, _, _, rfl⟩
    rw [hd] at h
    dsimp only at h
    split at h
    · cases h
    · rename_i hcd
      have hc4 : c4 = false := by cases c4 with
        | false => rfl
        | true => exact absurd (.inl rfl) hcd
      have hdm : d ≤ 9007199254740992 := Nat.not_lt.1 (fun e => hcd (.inr e))
      have hc3 : c3 = false := by
        cases c3 with
        | false => rfl
        | true => have := num_bad s3; rw [hd] at this; exact absurd (this.symm.trans hc4) (by decide)
      subst hc3
      have a4 := num_is hd hc4
      have hti : tickB (d : Int) = true := (tick_iff _).2 (by omega)
      by_cases b3 : b = 3
      · rw [if_pos b3] at h
        injection h with h; injection h with h1 h2
        subst h1 h2 b3
        refine ⟨by unfold mayP; dsimp only; rw [if_neg (by decide), if_neg (by decide), if_pos rfl, hti]; rfl, ?_⟩
        rw [good rfl, a4]
        unfold bytesE
        simp
      rw [if_neg b3] at h
      by_cases b1 : b = 1
      · rw [if_pos b1] at h
        split at h
        · rename_i hok
          injection h with h; injection h with h1 h2
          subst h1 h2 b1
          obtain ⟨q1, q2, q3⟩ := VcR.dec_is hok
          have hv : encP (pvOf (decD s4).v) = encV (decD s4).v := rfl
          have hcv : chkP (pvOf (decD s4).v) = 0 := q1
          refine ⟨by unfold mayP; dsimp only; rw [if_pos rfl, hcv, hti]; rfl, ?_⟩
          have a5 : s4.data.toList = encV (decD s4).v ++ (s4.extract (decD s4).st.k s4.size).data.toList := by
            rw [← q3, ext_list, List.take_of_length_le (l := s4.data.toList.drop _) (by rw [List.length_drop, size_list]; exact Nat.le_refl _), List.take_append_drop]
          rw [good rfl, a4]
          unfold bytesE
          dsimp only
          rw [if_pos rfl, hv, Int.toNat_natCast]
          conv => lhs; rw [a5]
          simp
        · cases h
      · rw [if_neg b1] at h; cases h
theorem decF_enc : ∀ (ps : List PE) {f : Nat} {s : ByteArray}, (∀ p ∈ ps, Fine p) → s.data.toList = encL ps → s.size ≤ f → decF f s = some ps
  | [], f, s, _, h, _ => by
    have : s.size = 0 := by rw [← size_list, h]; rfl
    exact decF_end this
  | p :: r, f, s, hp, h, hf => by
    have h' : s.data.toList = bytesE p ++ encL r := by rw [h]; simp [encL]
    have e := eff1_enc (hp p (by simp)) h'
    have hz := eff1_lt e
    rw [decF_some (by omega) hf e, decF_enc r (fun q hq => hp q (by simp [hq])) rfl (by omega)]
    rfl
theorem decF_is : ∀ (f : Nat) {s : ByteArray} {l : List PE}, decF f s = some l → l.all mayP = true ∧ s.data.toList = encL l
  | 0, s, l, h => by
    unfold decF at h
    split at h
    · rename_i hz
      injection h with h; subst h
      refine ⟨rfl, ?_⟩
      have : s.data.toList.length = 0 := by rw [size_list]; exact hz
      rw [List.length_eq_zero_iff.1 this]; rfl
    · cases h
  | f + 1, s, l, h => by
    unfold decF at h
    split at h
    · rename_i hz
      injection h with h; subst h
      refine ⟨rfl, ?_⟩
      have : s.data.toList.length = 0 := by rw [size_list]; exact hz
      rw [List.length_eq_zero_iff.1 this]; rfl
    · split at h
      · cases h
      · rename_i p r he
        cases hd : decF f r with
        | none => rw [hd] at h; cases h
        | some l' =>
          rw [hd] at h
          injection h with h; subst h
          obtain ⟨a1, a2⟩ := decF_is f hd
          obtain ⟨a3, a4⟩ := eff1_is he
          refine ⟨by rw [List.all_cons, a3, a1]; rfl, ?_⟩
          rw [a4, a2]; simp [encL]
end Go.Proofs.YtgmnnpbbiejbnaaGreat.EfO
