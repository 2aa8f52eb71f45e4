/-
  What effects done again make (plain). Conditions: as stated.
-/
import Derived.Test.YtjofbagaobdmoaaGreatSqH
set_option maxRecDepth 100000
set_option linter.unusedSimpArgs false
set_option linter.unusedVariables false
namespace Go.Proofs.YtjofbagaobdmoaaGreat.SrC
open Go.RowKit Go.Proofs.YtjofbagaobdmoaaGreat.Mem Go.Proofs.YtjofbagaobdmoaaGreat.VaC Go.Proofs.YtjofbagaobdmoaaGreat.VaE Go.Proofs.YtjofbagaobdmoaaGreat.VaH Go.Proofs.YtjofbagaobdmoaaGreat.VaI Go.Proofs.YtjofbagaobdmoaaGreat.VaX Go.Proofs.YtjofbagaobdmoaaGreat.DuA Go.Proofs.YtjofbagaobdmoaaGreat.SpA Go.Proofs.YtjofbagaobdmoaaGreat.SpB Go.Proofs.YtjofbagaobdmoaaGreat.SpC Go.Proofs.YtjofbagaobdmoaaGreat.SpD Go.Proofs.YtjofbagaobdmoaaGreat.SpE Go.Proofs.YtjofbagaobdmoaaGreat.SpF Go.Proofs.YtjofbagaobdmoaaGreat.SpG Go.Proofs.YtjofbagaobdmoaaGreat.SpH Go.Proofs.YtjofbagaobdmoaaGreat.SpI Go.Proofs.YtjofbagaobdmoaaGreat.SpJ Go.Proofs.YtjofbagaobdmoaaGreat.SpK Go.Proofs.YtjofbagaobdmoaaGreat.SpL Go.Proofs.YtjofbagaobdmoaaGreat.SpM Go.Proofs.YtjofbagaobdmoaaGreat.SpN Go.Proofs.YtjofbagaobdmoaaGreat.SpO Go.Proofs.YtjofbagaobdmoaaGreat.SpP Go.Proofs.YtjofbagaobdmoaaGreat.SpQ Go.Proofs.YtjofbagaobdmoaaGreat.SpR Go.Proofs.YtjofbagaobdmoaaGreat.SpS Go.Proofs.YtjofbagaobdmoaaGreat.SpT Go.Proofs.YtjofbagaobdmoaaGreat.SpU Go.Proofs.YtjofbagaobdmoaaGreat.SpV Go.Proofs.YtjofbagaobdmoaaGreat.SpW Go.Proofs.YtjofbagaobdmoaaGreat.SpY Go.Proofs.YtjofbagaobdmoaaGreat.SpZ
open Go.Proofs.YtjofbagaobdmoaaGreat.DsH (Ix IxS okk keyed key_of)
open Go.Proofs.YtjofbagaobdmoaaGreat.DsK (OwnKs RdKs keysV keysV_one elKs)



def opOf (e : PE) : PO := ⟨if e.kind = 1 then 0 else if e.kind = 2 then 1 else if e.kind = 3 then 2 else if e.kind = 4 then 3 else 9, e.key, e.v, e.due⟩
def againS (s : PS) (ch : List PE) : PS := ch.foldl (fun s e => doneS s (opOf e)) s
theorem again_snoc (s : PS) (ch : List PE) (e : PE) : againS s (ch ++ [e]) = doneS (againS s ch) (opOf e) := by simp [againS]
/-- Two contents of one list and one counter. -/
def Eqv (a b : PS) : Prop := a.l = b.l ∧ a.cnt = b.cnt
theorem eqv_put {a b : PS} (h : Eqv a b) (k : ByteArray) (v : PV) (d : Int) : Eqv (putS a k v d) (putS b k v d) := by
  unfold putS
  split
  · exact ⟨by show setK lt a.l k ⟨v, d, a.cnt + 1⟩ = setK lt b.l k ⟨v, d, b.cnt + 1⟩; rw [h.1, h.2], by show a.cnt + 1 = b.cnt + 1; rw [h.2]⟩
  · exact h
theorem eqv_drop {a b : PS} (h : Eqv a b) (k : ByteArray) : Eqv (dropS a k) (dropS b k) := by
  unfold dropS
  rw [h.1]
  split
  · exact ⟨by show dropK a.l k = dropK b.l k; rw [h.1], by show a.cnt + 1 = b.cnt + 1; rw [h.2]⟩
  · exact h
theorem eqv_due {a b : PS} (h : Eqv a b) (k : ByteArray) (d : Int) : Eqv (dueS a k d) (dueS b k d) := by
  unfold dueS
  split
  · rw [h.1]
    split
    · exact h
    · rename_i p _
      exact ⟨by show setK lt a.l k ⟨p.v, d, a.cnt + 1⟩ = setK lt b.l k ⟨p.v, d, b.cnt + 1⟩; rw [h.1, h.2], by show a.cnt + 1 = b.cnt + 1; rw [h.2]⟩
  · exact h
theorem eqv_clear {a b : PS} (h : Eqv a b) : Eqv (clearS a) (clearS b) := by
  refine ⟨by rw [clear_l, clear_l], by rw [clear_cnt, clear_cnt, h.1, h.2]⟩
theorem eqv_done {a b : PS} (h : Eqv a b) (o : PO) : Eqv (doneS a o) (doneS b o) := by
  unfold doneS
  split
  · exact eqv_put h _ _ _
  split
  · exact eqv_drop h _
  split
  · exact eqv_due h _ _
  split
  · exact eqv_clear h
  · exact h
theorem bft_ne {t : PS} (hon : t.on = true) : ∀ k, bfT t k ≠ [] := by
  intro k hn
  unfold bfT at hn
  split at hn
  · unfold setK at hn
    have := SpA.ins_len (lt := lt) (k, (getK t.l k).getD ph0) (dropK t.bf k)
    rw [hn] at this; simp at this
  · rename_i h
    rw [hn] at h
    exact h ⟨hon, by simp [getK]⟩
theorem gone_on : ∀ (ks : List ByteArray) (t : PS), t.on = true → (ks.foldl goneP t).on = true ∧ (ks ≠ [] ∨ t.bf ≠ [] → (ks.foldl goneP t).bf ≠ [])
  | [], t, h => ⟨h, fun h => h.elim (fun h => absurd rfl h) id⟩
  | k :: r, t, h => by
    rw [List.foldl_cons]
    obtain ⟨h1, h2⟩ := gone_on r (goneP t k) h
    exact ⟨h1, fun _ => h2 (.inr (bft_ne h k))⟩
/-- A change behind a mark: it is none, or it is told by one effect. -/
theorem step_ch {t : PS} (hon : t.on = true) (o : PO) : doneS t o = t ∨ ∃ e, (doneS t o).ch = t.ch ++ [e] ∧ (1 ≤ e.kind ∧ e.kind ≤ 4) ∧ Eqv (doneS t (opOf e)) (doneS t o) ∧ t.cnt < (doneS t o).cnt ∧ (doneS t o).bf ≠ [] := by
  have hbf := bft_ne hon
  obtain ⟨kind, key, v, due⟩ := o
  by_cases k0 : kind = 0
  · subst k0
    show putS t key v due = t ∨ _
    by_cases hp : putE v due = 0
    · refine .inr ⟨⟨1, key, v, due⟩, ?_, (by constructor <;> (dsimp only; decide)), ⟨rfl, rfl⟩, ?_, ?_⟩
      · show (putS t key v due).ch = _; unfold putS; rw [if_pos hp]; unfold putP noteP; simp [touchP, hon]
      · show t.cnt < (putS t key v due).cnt; unfold putS; rw [if_pos hp]; exact Nat.lt_succ_self _
      · show (putS t key v due).bf ≠ []; unfold putS; rw [if_pos hp]; exact hbf key
    · left; unfold putS; rw [if_neg hp]
  by_cases k1 : kind = 1
  · subst k1
    show dropS t key = t ∨ _
    by_cases hp : (getK t.l key).isSome
    · refine .inr ⟨⟨2, key, pv0, 0⟩, ?_, (by constructor <;> (dsimp only; decide)), ⟨rfl, rfl⟩, ?_, ?_⟩
      · show (dropS t key).ch = _; unfold dropS; rw [if_pos hp]; unfold dropP noteP; simp [touchP, hon]
      · show t.cnt < (dropS t key).cnt; unfold dropS; rw [if_pos hp]; exact Nat.lt_succ_self _
      · show (dropS t key).bf ≠ []; unfold dropS; rw [if_pos hp]; exact hbf key
    · left; unfold dropS; rw [if_neg hp]
  by_cases k2 : kind = 2
  · subst k2
    show dueS t key due = t ∨ _
    by_cases ht : tickB due
    · cases hg : getK t.l key with
      | none => left; unfold dueS; rw [if_pos ht, hg]
      | some p =>
        have e1 : dueS t key due = dueP t key p due := by unfold dueS; rw [if_pos ht, hg]
        refine .inr ⟨⟨3, key, pv0, due⟩, ?_, (by constructor <;> (dsimp only; decide)), ⟨rfl, rfl⟩, ?_, ?_⟩
        · show (dueS t key due).ch = _; rw [e1]; unfold dueP noteP; simp [touchP, hon]
        · show t.cnt < (dueS t key due).cnt; rw [e1]; exact Nat.lt_succ_self _
        · show (dueS t key due).bf ≠ []; rw [e1]; exact hbf key
    · left; unfold dueS; rw [if_neg ht]
  by_cases k3 : kind = 3
  · subst k3
    show clearS t = t ∨ _
    by_cases hl : t.l = []
    · left; unfold clearS; rw [if_pos hl]
    · have hg := gone_on (t.l.map (·.1)) t hon
      refine .inr ⟨⟨4, ⟨#[]⟩, pv0, 0⟩, ?_, (by constructor <;> (dsimp only; decide)), ⟨rfl, rfl⟩, ?_, ?_⟩
      · show (clearS t).ch = _
        unfold clearS noteP
        rw [if_neg hl]
        dsimp only
        rw [if_pos hg.1, gone_ch]
      · show t.cnt < (clearS t).cnt
        rw [clear_cnt]
        have : 0 < t.l.length := List.length_pos_iff.2 hl
        omega
      · show (clearS t).bf ≠ []
        unfold clearS
        rw [if_neg hl]
        exact hg.2 (.inl (fun h => hl (List.map_eq_nil_iff.1 h)))
  · left
    unfold doneS
    dsimp only
    rw [if_neg k0, if_neg k1, if_neg k2, if_neg k3]
/-- What is behind a mark, told by its effects. -/
structure Rp (s0 t : PS) : Prop where
  on : t.on = true
  eqv : Eqv (againS s0 t.ch) t
  kinds : ∀ e ∈ t.ch, 1 ≤ e.kind ∧ e.kind ≤ 4
  none : t.ch = [] → t.cnt = s0.cnt ∧ t.bf = []
  some : t.ch ≠ [] → s0.cnt < t.cnt ∧ t.bf ≠ []
theorem rp_done {s0 t : PS} (h : Rp s0 t) (o : PO) (hd : (doneS t o).on = t.on) : Rp s0 (doneS t o) := by
  rcases step_ch h.on o with e | ⟨e, e1, e2, e3, e4, e5⟩
  · rw [e]; exact h
  · have hc : s0.cnt ≤ t.cnt := by
      by_cases hn : t.ch = []
      · rw [(h.none hn).1]; exact Nat.le_refl _
      · exact Nat.le_of_lt (h.some hn).1
    refine ⟨hd.trans h.on, ?_, ?_, fun hn => absurd hn (by rw [e1]; simp), fun _ => ⟨Nat.lt_of_le_of_lt hc e4, e5⟩⟩
    · rw [e1, again_snoc]
      have a := eqv_done h.eqv (opOf e)
      exact ⟨a.1.trans e3.1, a.2.trans e3.2⟩
    · rw [e1]
      intro x hx
      rcases List.mem_append.1 hx with hx | hx
      · exact h.kinds x hx
      · rw [List.mem_singleton.1 hx]; exact e2
/-- What was touched is newer than the mark. -/
def Tv (t : PS) : Prop := ∀ k, (getK t.bf k).isSome = true → ∀ p, getK t.l k = some p → t.at_ < p.ver
theorem tv_turn {t : PS} (h : Tv t) (k : ByteArray) (l' : List BH) (c : List PE) (hl : ∀ k', k' ≠ k → getK l' k' = getK t.l k') (hk : ∀ p, getK l' k = some p → t.at_ < p.ver) : Tv { touchP t k with l := l', ch := c } := by
  intro k' hb p hp
  show t.at_ < p.ver
  have hp : getK l' k' = some p := hp
  by_cases e : k' = k
  · subst e; exact hk p hp
  · rw [hl k' e] at hp
    refine h k' ?_ p hp
    have hb : (getK (bfT t k) k').isSome = true := hb
    unfold bfT at hb
    split at hb
    · rw [get_set, if_neg e] at hb; exact hb
    · exact hb
theorem tv_gone : ∀ (ks : List ByteArray) (t : PS), Tv t → Tv (ks.foldl goneP t)
  | [], t, h => h
  | k :: r, t, h => tv_gone r _ (tv_turn h k (dropK t.l k) t.ch (fun k' e => by rw [SpA.get_drop, if_neg e]) (fun p hp => by rw [SpA.get_drop, if_pos rfl] at hp; cases hp))
theorem tv_done {t : PS} (h : Tv t) (hi : Inv t) (hon : t.on = true) (o : PO) : Tv (doneS t o) := by
  have hat := hi.atc hon
  unfold doneS
  split
  · unfold putS
    split
    · exact tv_turn h o.key _ _ (fun k' e => by rw [get_set, if_neg e]) (fun p hp => by
        rw [get_set, if_pos rfl] at hp
        injection hp with hp
        rw [← hp]; show t.at_ < t.cnt + 1; omega)
    · exact h
  split
  · unfold dropS
    split
    · exact tv_turn h o.key _ _ (fun k' e => by rw [SpA.get_drop, if_neg e]) (fun p hp => by rw [SpA.get_drop, if_pos rfl] at hp; cases hp)
    · exact h
  split
  · unfold dueS
    split
    · split
      · exact h
      · exact tv_turn h o.key _ _ (fun k' e => by rw [get_set, if_neg e]) (fun p hp => by
          rw [get_set, if_pos rfl] at hp
          injection hp with hp
          rw [← hp]; show t.at_ < t.cnt + 1; omega)
    · exact h
  split
  · unfold clearS
    split
    · exact h
    · exact tv_gone _ _ h
  · exact h
theorem tv_iff {t : PS} (h : Tv t) (hi : Inv t) (hon : t.on = true) {e : BH} (he : e ∈ t.l) : (getK t.bf e.1).isSome = decide (t.at_ < e.2.ver) := by
  have hg : getK t.l e.1 = some e.2 := (mem_getR DuB.linS hi.ris).2 he
  cases hb : (getK t.bf e.1).isSome
  · have := hi.unt hon e he hb
    exact (decide_eq_false (by omega)).symm
  · exact (decide_eq_true (h _ hb _ hg)).symm
theorem rp_mark {s : PS} (h : s.on = false) : Rp s (markS s) ∧ Tv (markS s) := by
  unfold markS
  rw [h]
  exact ⟨⟨rfl, ⟨rfl, rfl⟩, (fun e he => by cases he), fun _ => ⟨rfl, rfl⟩, fun hn => absurd rfl hn⟩, fun k hb => by cases hb⟩
end Go.Proofs.YtjofbagaobdmoaaGreat.SrC
