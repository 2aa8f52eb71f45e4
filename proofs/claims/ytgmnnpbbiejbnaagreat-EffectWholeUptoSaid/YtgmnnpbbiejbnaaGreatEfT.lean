/-
  Plain laws of what effects make: changes behind a mark may all be and are read back; the whole of a space told as effects. Conditions: as stated.
-/
import Derived.Test.YtgmnnpbbiejbnaaGreatEfO
import Derived.Test.YtgmnnpbbiejbnaaGreatMgM
set_option maxRecDepth 100000
set_option linter.unusedSimpArgs false
set_option linter.unusedVariables false
namespace Go.Proofs.YtgmnnpbbiejbnaaGreat.EfT
open Go.RowKit Go.Proofs.YtgmnnpbbiejbnaaGreat.Mem Go.Proofs.YtgmnnpbbiejbnaaGreat.VaC Go.Proofs.YtgmnnpbbiejbnaaGreat.VaE Go.Proofs.YtgmnnpbbiejbnaaGreat.VaH Go.Proofs.YtgmnnpbbiejbnaaGreat.VaI Go.Proofs.YtgmnnpbbiejbnaaGreat.VaX Go.Proofs.YtgmnnpbbiejbnaaGreat.DuA Go.Proofs.YtgmnnpbbiejbnaaGreat.SpA Go.Proofs.YtgmnnpbbiejbnaaGreat.SpB Go.Proofs.YtgmnnpbbiejbnaaGreat.SpC Go.Proofs.YtgmnnpbbiejbnaaGreat.SpD Go.Proofs.YtgmnnpbbiejbnaaGreat.SpE Go.Proofs.YtgmnnpbbiejbnaaGreat.SpF Go.Proofs.YtgmnnpbbiejbnaaGreat.SpG Go.Proofs.YtgmnnpbbiejbnaaGreat.EfA Go.Proofs.YtgmnnpbbiejbnaaGreat.EfB Go.Proofs.YtgmnnpbbiejbnaaGreat.EfD Go.Proofs.YtgmnnpbbiejbnaaGreat.EfE Go.Proofs.YtgmnnpbbiejbnaaGreat.EfF Go.Proofs.YtgmnnpbbiejbnaaGreat.EfG Go.Proofs.YtgmnnpbbiejbnaaGreat.EfH Go.Proofs.YtgmnnpbbiejbnaaGreat.EfJ Go.Proofs.YtgmnnpbbiejbnaaGreat.EfK Go.Proofs.YtgmnnpbbiejbnaaGreat.EfO Go.Proofs.YtgmnnpbbiejbnaaGreat.SpM Go.Proofs.YtgmnnpbbiejbnaaGreat.SpR Go.Proofs.YtgmnnpbbiejbnaaGreat.SpS Go.Proofs.YtgmnnpbbiejbnaaGreat.SpU Go.Proofs.YtgmnnpbbiejbnaaGreat.SpZ Go.Proofs.YtgmnnpbbiejbnaaGreat.SrC

/-- The weight of effects. -/
def WS (l : List PE) : Nat := (l.map (fun p => (opOf p).wt)).sum
theorem ws_next {l : List PE} {k : Nat} {p : PE} (h : l[k]? = some p) : WS (l.take (k + 1)) = WS (l.take k) + (opOf p).wt := by
  unfold WS
  rw [List.take_add_one, h]
  simp
theorem done_on (s : PS) (o : PO) : (doneS s o).on = s.on ∧ (doneS s o).ld = s.ld := by
  have hg : ∀ (ks : List ByteArray) (s : PS), (ks.foldl goneP s).on = s.on ∧ (ks.foldl goneP s).ld = s.ld := by
    intro ks
    induction ks with
    | nil => intro s; exact ⟨rfl, rfl⟩
    | cons k r ih => intro s; rw [List.foldl_cons]; exact ih (goneP s k)
  unfold doneS putS dropS dueS clearS
  split
  · split <;> exact ⟨rfl, rfl⟩
  split
  · split <;> exact ⟨rfl, rfl⟩
  split
  · split
    · split <;> exact ⟨rfl, rfl⟩
    · exact ⟨rfl, rfl⟩
  split
  · split
    · exact ⟨rfl, rfl⟩
    · exact hg _ s
  · exact ⟨rfl, rfl⟩
theorem again_on : ∀ (l : List PE) (s : PS), (againS s l).on = s.on ∧ (againS s l).ld = s.ld
  | [], s => ⟨rfl, rfl⟩
  | p :: r, s => by
    obtain ⟨h1, h2⟩ := again_on r (doneS s (opOf p))
    obtain ⟨h3, h4⟩ := done_on s (opOf p)
    exact ⟨h1.trans h3, h2.trans h4⟩
/-- Bounds on what an effect holds. -/
structure Tame (p : PE) : Prop where
  key : p.key.size ≤ 100000000
  l : p.v.list.length < 4294967296
  f : p.v.flds.length < 4294967296
  k : p.v.rank.length < 4294967296
theorem pv0_lens : pv0.list.length < 4294967296 ∧ pv0.flds.length < 4294967296 ∧ pv0.rank.length < 4294967296 := ⟨by decide, by decide, by decide⟩
/-- A change behind a mark: none, or one effect more, which may be and is not heavier. -/
theorem step_fine {t : PS} (hon : t.on = true) (p : PE) (hp : Tame p) : doneS t (opOf p) = t ∨ ∃ e, (doneS t (opOf p)).ch = t.ch ++ [e] ∧ Fine e ∧ (bytesE e).length ≤ 1 + (opOf p).wt := by
  obtain ⟨kind, key, v, due⟩ := p
  obtain ⟨l1, l2, l3⟩ := pv0_lens
  have hxx : key.data.toList.length = key.size := by rw [Array.length_toList]; rfl
  by_cases k1 : kind = 1
  · subst k1
    rw [dn1 rfl]
    dsimp only
    by_cases hq : putE v due = 0
    · refine .inr ⟨⟨1, key, v, due⟩, by unfold putS; rw [if_pos hq]; unfold putP noteP; simp [touchP, hon], ⟨?_, hp.key, hp.l, hp.f, hp.k⟩, ?_⟩
      · unfold putE at hq
        by_cases hc : chkP v = 0
        · rw [if_neg (by simp [hc])] at hq
          by_cases ht : tickB due = true
          · unfold mayP; simp [hc, ht]
          · rw [if_neg ht] at hq; cases hq
        · rw [if_pos hc] at hq; exact absurd hq hc
      · unfold bytesE PO.wt opOf
        simp only [if_pos, List.length_cons, List.length_append, VaA.le_len, hxx]; omega
    · exact .inl (by unfold putS; rw [if_neg hq])
  by_cases k2 : kind = 2
  · subst k2
    rw [dn2 rfl]
    dsimp only
    by_cases hq : (getK t.l key).isSome
    · refine .inr ⟨⟨2, key, pv0, 0⟩, by unfold dropS; rw [if_pos hq]; unfold dropP noteP; simp [touchP, hon], ⟨?_, hp.key, l1, l2, l3⟩, ?_⟩
      · unfold mayP; simp
      · have e1 : bytesE ⟨2, key, pv0, 0⟩ = 2 :: (VaA.le key.size 8 ++ key.data.toList) := rfl
        rw [e1]
        unfold PO.wt opOf
        simp only [List.length_cons, List.length_append, VaA.le_len, hxx]; omega
    · exact .inl (by unfold dropS; rw [if_neg hq])
  by_cases k3 : kind = 3
  · subst k3
    rw [dn3 rfl]
    dsimp only
    by_cases ht : tickB due = true
    · cases hg : getK t.l key with
      | none => exact .inl (by unfold dueS; rw [if_pos ht, hg])
      | some h =>
        have e1 : dueS t key due = dueP t key h due := by unfold dueS; rw [if_pos ht, hg]
        refine .inr ⟨⟨3, key, pv0, due⟩, by rw [e1]; unfold dueP noteP; simp [touchP, hon], ⟨?_, hp.key, l1, l2, l3⟩, ?_⟩
        · unfold mayP; simp [ht]
        · have e2 : bytesE ⟨3, key, pv0, due⟩ = 3 :: (VaA.le key.size 8 ++ key.data.toList ++ VaA.le due.toNat 8) := rfl
          rw [e2]
          unfold PO.wt opOf
          simp only [List.length_cons, List.length_append, VaA.le_len, hxx]; omega
    · exact .inl (by unfold dueS; rw [if_neg ht])
  by_cases k4 : kind = 4
  · subst k4
    rw [dn4 rfl]
    by_cases hl : t.l = []
    · exact .inl (by unfold clearS; rw [if_pos hl])
    · refine .inr ⟨⟨4, ⟨#[]⟩, pv0, 0⟩, ?_, ⟨by unfold mayP; simp, by show (0 : Nat) ≤ _; omega, l1, l2, l3⟩, ?_⟩
      · have hg := (gone_on (t.l.map (·.1)) t hon).1
        unfold clearS noteP
        rw [if_neg hl]
        dsimp only
        rw [if_pos hg, gone_ch]
      · have e3 : bytesE ⟨4, ⟨#[]⟩, pv0, 0⟩ = [4] := rfl
        rw [e3]
        unfold PO.wt
        simp only [List.length_cons, List.length_nil]; omega
  · left
    unfold doneS opOf
    simp [k1, k2, k3, k4]
theorem encL_app (a b : List PE) : encL (a ++ b) = encL a ++ encL b := by simp [encL]
theorem doneS_id {t : PS} {o : PO} (h : doneS t o = t) : (doneS t o).ch = t.ch := by rw [h]
/-- Effects done behind a mark: the changes may all be and are no heavier. -/
theorem again_fine : ∀ (l : List PE) (t : PS), t.on = true → (∀ p ∈ l, Tame p) → (∀ e ∈ t.ch, Fine e) → (∀ e ∈ (againS t l).ch, Fine e) ∧ (encL (againS t l).ch).length ≤ (encL t.ch).length + (WS l + l.length)
  | [], t, hon, _, hf => ⟨hf, by show (encL t.ch).length ≤ _; omega⟩
  | p :: r, t, hon, hp, hf => by
    have h1 : (∀ e ∈ (doneS t (opOf p)).ch, Fine e) ∧ (encL (doneS t (opOf p)).ch).length ≤ (encL t.ch).length + (1 + (opOf p).wt) := by
      rcases step_fine hon p (hp p (by simp)) with h | ⟨e, e1, e2, e3⟩
      · rw [h]; exact ⟨hf, by omega⟩
      · rw [e1]
        refine ⟨fun x hx => (List.mem_append.1 hx).elim (hf x) (fun hx => by rw [List.mem_singleton.1 hx]; exact e2), ?_⟩
        rw [encL_app, List.length_append]
        have : encL [e] = bytesE e := by simp [encL]
        rw [this]; omega
    obtain ⟨h2, h3⟩ := again_fine r (doneS t (opOf p)) ((done_on t (opOf p)).1.trans hon) (fun q hq => hp q (by simp [hq])) h1.1
    refine ⟨h2, ?_⟩
    have e : againS t (p :: r) = againS (doneS t (opOf p)) r := rfl
    have ew : WS (p :: r) = (opOf p).wt + WS r := by simp [WS]
    rw [e, ew, List.length_cons]
    omega
theorem rp_again : ∀ (l : List PE) (s0 t : PS), Rp s0 t → Rp s0 (againS t l)
  | [], s0, t, h => h
  | p :: r, s0, t, h => rp_again r s0 _ (rp_done h (opOf p) (done_on t (opOf p)).1)
/-- Of what was noted since a mark: it may all be, it is read back, and done on a like space it makes the same list and count. -/
theorem replay_law {s0 : PS} (h0 : s0.on = false) (l : List PE) (hl : ∀ p ∈ l, Tame p) :
    Eqv (againS s0 (againS (markS s0) l).ch) (againS (markS s0) l) ∧ (∀ e ∈ (againS (markS s0) l).ch, Fine e) ∧ (encL (againS (markS s0) l).ch).length ≤ WS l + l.length := by
  have hm : (markS s0).on = true ∧ (markS s0).ch = [] := by unfold markS; rw [h0]; exact ⟨rfl, rfl⟩
  have h1 := rp_again l _ _ (rp_mark h0).1
  obtain ⟨h2, h3⟩ := again_fine l (markS s0) hm.1 hl (by rw [hm.2]; exact fun e he => by cases he)
  refine ⟨h1.eqv, h2, ?_⟩
  rw [hm.2] at h3
  simpa [encL] using h3
theorem all_may {l : List PE} (h : ∀ e ∈ l, Fine e) : l.all mayP = true := List.all_eq_true.2 (fun e he => (h e he).may)
/-- Bounds of what Load made. -/
theorem bo_load {l : List (ByteArray × PH)} (h : SpU.Good l) : Bo (ldS l false) l.length l.length (bytesL l).length := by
  have hm : mxV l ≤ 4611686018427387904 := by
    unfold mxV
    suffices hh : ∀ (l : List (ByteArray × PH)) (a : Nat), a ≤ 4611686018427387904 → (∀ e ∈ l, e.2.ver ≤ 4611686018427387904) → l.foldl (fun a e => max a e.2.ver) a ≤ 4611686018427387904 from hh l 0 (by omega) (fun e he => (h.ver e he).2)
    intro l
    induction l with
    | nil => intro a h _; exact h
    | cons y r ih => intro a ha hv; exact ih _ (by have := hv y (by simp); show max a y.2.ver ≤ _; omega) (fun e he => hv e (by simp [he]))
  exact ⟨by show l.length + l.length ≤ _; omega, by show mxV l + l.length ≤ _; omega, by show (0 : Nat) ≤ _; omega, Nat.le_refl _⟩
theorem bo_0 : Bo ps0 0 0 0 := ⟨Nat.le_refl _, by show (0 : Nat) + 0 ≤ _; omega, Nat.le_refl _, Nat.le_refl _⟩
/-- Bounds of a marked space are those of the space. -/
theorem bo_mark {s : PS} {N j Z : Nat} (h : Bo s N j Z) : Bo (markS s) N j Z := by
  unfold markS
  split
  · exact h
  · exact ⟨h.n, h.c, Nat.zero_le _, h.z⟩
theorem bo_up {s : PS} {N j j' Z : Nat} (h : Bo s N j Z) (hj : j ≤ j') : Bo s N j' Z := ⟨by have := h.n; omega, by have := h.c; omega, by have := h.h; omega, h.z⟩
/-- What the bytes tell of an entry. -/
def core (e : ByteArray × PH) : ByteArray × PV × Int := (e.1, e.2.v, e.2.due)
theorem ent_core {a b : ByteArray × PH} (h : core a = core b) : entB a = entB b := by
  unfold core at h
  injection h with h1 h; injection h with h2 h3
  unfold entB
  rw [h1, h2, h3]
theorem bytes_core : ∀ {a b : List (ByteArray × PH)}, a.map core = b.map core → bytesL a = bytesL b
  | [], [], _ => rfl
  | [], _ :: _, h => by cases h
  | _ :: _, [], h => by cases h
  | x :: r, y :: q, h => by
    rw [List.map_cons, List.map_cons] at h
    injection h with h1 h2
    show entB x ++ bytesL r = entB y ++ bytesL q
    rw [ent_core h1, bytes_core h2]
/-- The whole of a space, told as effects and done on a new one. -/
theorem snap_law {s : PS} (hi : Inv s) : ∀ (k : Nat), k ≤ s.l.length → ∃ l', againS ps0 (snapP (s.l.take k)) = { ps0 with l := l', cnt := k } ∧ l'.map core = (s.l.take k).map core
  | 0, _ => ⟨[], rfl, rfl⟩
  | k + 1, hk => by
    obtain ⟨l', h1, h2⟩ := snap_law hi k (by omega)
    obtain ⟨e, he⟩ : ∃ e, s.l[k]? = some e := ⟨_, List.getElem?_eq_getElem (by omega)⟩
    have hm : e ∈ s.l := List.mem_of_getElem? he
    have e1 : snapP (s.l.take (k + 1)) = snapP (s.l.take k) ++ [⟨1, e.1, e.2.v, e.2.due⟩] := by
      rw [List.take_add_one, he, Option.toList_some]; unfold snapP; rw [List.map_append, List.map_singleton]
    have hp : putE e.2.v e.2.due = 0 := by
      unfold putE
      rw [if_neg (by simp [hi.chk e hm]), if_pos (show tickB e.2.due = true from decide_eq_true (hi.due e hm))]
    have hlt : ∀ x ∈ l', lt x.1 e.1 = true := by
      intro x hx
      obtain ⟨i, hi2, rfl⟩ := List.mem_iff_getElem.1 hx
      have hll : l'.length = (s.l.take k).length := by have := congrArg List.length h2; simpa using this
      have hc : core l'[i] = core ((s.l.take k)[i]'(by omega)) := by
        have := congrArg (fun l => l[i]?) h2
        simp only [List.getElem?_map] at this
        rw [List.getElem?_eq_getElem hi2, List.getElem?_eq_getElem (by omega)] at this
        simpa using this
      have hk1 : l'[i].1 = ((s.l.take k)[i]'(by omega)).1 := congrArg (·.1) hc
      rw [hk1, List.getElem_take]
      have hik : i < k := by rw [hll, List.length_take] at hi2; omega
      have := List.pairwise_iff_getElem.1 hi.ris i k (by omega) (by omega) hik
      rw [(List.getElem?_eq_some_iff.1 he).2] at this
      exact this
    refine ⟨l' ++ [(e.1, ⟨e.2.v, e.2.due, k + 1⟩)], ?_, ?_⟩
    · rw [e1, again_snoc, h1, dn1 rfl]
      dsimp only
      unfold putS
      rw [if_pos hp]
      unfold putP noteP touchP
      dsimp only
      rw [SpU.set_snoc hlt]
      rfl
    · rw [List.map_append, h2, List.take_add_one, he, Option.toList_some, List.map_append]
      rfl
theorem snap_may {s : PS} (hi : Inv s) : (snapP s.l).all mayP = true := by
  refine List.all_eq_true.2 (fun p hp => ?_)
  obtain ⟨e, he, rfl⟩ := List.mem_map.1 hp
  have h1 := hi.chk e he
  have h2 := hi.due e he
  unfold mayP
  simp [h1, tickB, h2.1, h2.2]
theorem snap_all {s : PS} (hi : Inv s) : (againS ps0 (snapP s.l)).l.map core = s.l.map core := by
  obtain ⟨l', h1, h2⟩ := snap_law hi s.l.length (Nat.le_refl _)
  rw [List.take_length] at h1 h2
  rw [h1]; exact h2
end Go.Proofs.YtgmnnpbbiejbnaaGreat.EfT
