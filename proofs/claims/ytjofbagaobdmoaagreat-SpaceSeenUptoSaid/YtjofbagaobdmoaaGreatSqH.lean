/-
  What a row of changes makes of a space's content; done. Conditions: as stated.
-/
import Derived.Test.YtjofbagaobdmoaaGreatSqG
set_option maxRecDepth 100000
set_option linter.unusedSimpArgs false
set_option linter.unusedVariables false
namespace Go.Proofs.YtjofbagaobdmoaaGreat.SpZ
open Go.RowKit Go.Proofs.YtjofbagaobdmoaaGreat.Mem Go.Proofs.YtjofbagaobdmoaaGreat.VaC Go.Proofs.YtjofbagaobdmoaaGreat.VaE Go.Proofs.YtjofbagaobdmoaaGreat.VaH Go.Proofs.YtjofbagaobdmoaaGreat.VaI Go.Proofs.YtjofbagaobdmoaaGreat.VaX Go.Proofs.YtjofbagaobdmoaaGreat.DuA Go.Proofs.YtjofbagaobdmoaaGreat.SpA Go.Proofs.YtjofbagaobdmoaaGreat.SpB Go.Proofs.YtjofbagaobdmoaaGreat.SpC Go.Proofs.YtjofbagaobdmoaaGreat.SpD Go.Proofs.YtjofbagaobdmoaaGreat.SpE Go.Proofs.YtjofbagaobdmoaaGreat.SpF Go.Proofs.YtjofbagaobdmoaaGreat.SpG Go.Proofs.YtjofbagaobdmoaaGreat.SpH Go.Proofs.YtjofbagaobdmoaaGreat.SpI Go.Proofs.YtjofbagaobdmoaaGreat.SpJ Go.Proofs.YtjofbagaobdmoaaGreat.SpK Go.Proofs.YtjofbagaobdmoaaGreat.SpL Go.Proofs.YtjofbagaobdmoaaGreat.SpM Go.Proofs.YtjofbagaobdmoaaGreat.SpN Go.Proofs.YtjofbagaobdmoaaGreat.SpO Go.Proofs.YtjofbagaobdmoaaGreat.SpP Go.Proofs.YtjofbagaobdmoaaGreat.SpQ Go.Proofs.YtjofbagaobdmoaaGreat.SpR Go.Proofs.YtjofbagaobdmoaaGreat.SpS Go.Proofs.YtjofbagaobdmoaaGreat.SpT Go.Proofs.YtjofbagaobdmoaaGreat.SpU Go.Proofs.YtjofbagaobdmoaaGreat.SpV Go.Proofs.YtjofbagaobdmoaaGreat.SpW Go.Proofs.YtjofbagaobdmoaaGreat.SpY
open Go.Proofs.YtjofbagaobdmoaaGreat.DsH (Ix IxS okk keyed key_of)
open Go.Proofs.YtjofbagaobdmoaaGreat.DsK (OwnKs RdKs keysV keysV_one elKs)



abbrev BH : Type := ByteArray × PH
theorem gone_l : ∀ (ks : List ByteArray) (s : PS), (ks.foldl goneP s).l = ks.foldl dropK s.l
  | [], s => rfl
  | k :: r, s => by rw [List.foldl_cons, List.foldl_cons, gone_l r]; rfl
theorem mem_drops : ∀ (ks : List ByteArray) (l : List BH) (e : BH), e ∈ ks.foldl dropK l → e ∈ l ∧ e.1 ∉ ks
  | [], l, e, h => ⟨h, by simp⟩
  | k :: r, l, e, h => by
    obtain ⟨h1, h2⟩ := mem_drops r _ e h
    obtain ⟨h3, h4⟩ := mem_drop.1 h1
    exact ⟨h3, by simp [h4, h2]⟩
theorem clear_l (s : PS) : (clearS s).l = [] := by
  unfold clearS
  split
  · assumption
  · show ((s.l.map (·.1)).foldl goneP s).l = []
    rw [gone_l]
    refine List.eq_nil_iff_forall_not_mem.2 (fun e he => ?_)
    obtain ⟨h1, h2⟩ := mem_drops _ _ e he
    exact h2 (List.mem_map_of_mem (f := (·.1)) h1)
theorem clear_cnt (s : PS) : (clearS s).cnt = s.cnt + s.l.length := by
  unfold clearS
  split
  · rename_i h; rw [h]; rfl
  · show ((s.l.map (·.1)).foldl goneP s).cnt = _
    rw [gone_cnt, List.length_map]
theorem clear_ch (s : PS) : (clearS s).ch.length ≤ s.ch.length + 1 := by
  unfold clearS
  split
  · omega
  · unfold noteP
    simp only [gone_ch]
    split <;> simp
/-- A change. -/
structure PO where
  kind : Int
  key : ByteArray
  v : PV
  due : Int
def doneS (s : PS) (o : PO) : PS := if o.kind = 0 then putS s o.key o.v o.due else if o.kind = 1 then dropS s o.key else if o.kind = 2 then dueS s o.key o.due else if o.kind = 3 then clearS s else s
def doneN (s : PS) (N : Nat) (o : PO) : Nat := if o.kind = 0 then N + 2 else if o.kind = 1 then N + 1 else if o.kind = 2 then N + 2 else if o.kind = 3 then N + s.l.length else N
theorem ent_len (e : BH) : (entB e).length = 16 + e.1.size + (encP e.2.v).length := by
  have : e.1.data.toList.length = e.1.size := by rw [Array.length_toList]; rfl
  unfold entB
  simp only [List.length_append, VaA.le_len]
  omega
theorem bl_cons (e : BH) (l : List BH) : (bytesL (e :: l)).length = (entB e).length + (bytesL l).length := by simp [bytesL]
theorem bl_ins (e : BH) : ∀ l : List BH, (bytesL (insK lt e l)).length = (entB e).length + (bytesL l).length
  | [] => by simp [insK, bytesL]
  | y :: r => by
    unfold insK
    split
    · rw [bl_cons]
    · rw [bl_cons, bl_cons, bl_ins e r]; omega
theorem bl_drop (k : ByteArray) : ∀ l : List BH, (bytesL (dropK l k)).length ≤ (bytesL l).length
  | [] => by simp [dropK]
  | y :: r => by
    have ih := bl_drop k r
    unfold dropK at ih ⊢
    rw [List.filter_cons]
    split
    · rw [bl_cons, bl_cons]; omega
    · rw [bl_cons]; omega
theorem bl_drop_some (k : ByteArray) (p : PH) : ∀ l : List BH, getK l k = some p → (bytesL (dropK l k)).length + (entB (k, p)).length ≤ (bytesL l).length
  | [], h => by simp [getK] at h
  | y :: r, h => by
    rw [get_cons] at h
    have hd := bl_drop k r
    have ih := bl_drop_some k p r
    unfold dropK at ih hd ⊢
    rw [List.filter_cons, bl_cons]
    by_cases e : y.1 = k
    · rw [if_pos e] at h
      injection h with h
      have hy : y = (k, p) := by rw [← e, ← h]
      rw [if_neg (by simp [e]), hy]; omega
    · rw [if_neg e] at h
      have := ih h
      rw [if_pos (by simpa using e), bl_cons]; omega
theorem bl_set (k : ByteArray) (p : PH) (l : List BH) : (bytesL (setK lt l k p)).length ≤ (entB (k, p)).length + (bytesL l).length := by
  unfold setK
  rw [bl_ins]
  have := bl_drop k l
  omega
theorem drop_le (k : ByteArray) (l : List BH) : (dropK l k).length ≤ l.length := List.length_filter_le _ _
theorem set_le (k : ByteArray) (p : PH) (l : List BH) : (setK lt l k p).length ≤ l.length + 1 := by
  unfold setK
  rw [SpA.ins_len]
  have := drop_le k l
  omega
/-- Bounds behind j changes. -/
structure Bo (s : PS) (N j Z : Nat) : Prop where
  n : N + s.l.length ≤ 3 * j
  c : s.cnt + s.l.length ≤ 2 * j
  h : s.ch.length ≤ j
  z : (bytesL s.l).length ≤ Z
def PO.wt (o : PO) : Nat := 16 + o.key.size + (encP o.v).length
theorem note_ch (s : PS) (e : PE) : (noteP s e).ch.length ≤ s.ch.length + 1 := by
  unfold noteP
  dsimp only
  split <;> simp
theorem bo_done {s : PS} {N j Z : Nat} (h : Bo s N j Z) (hi : Inv s) (o : PO) : Bo (doneS s o) (doneN s N o) (j + 1) (Z + o.wt) := by
  obtain ⟨h1, h2, h3, h4⟩ := h
  unfold doneS doneN
  by_cases k0 : o.kind = 0
  · rw [if_pos k0, if_pos k0]
    unfold putS
    split
    · have a := set_le o.key ⟨o.v, o.due, s.cnt + 1⟩ s.l
      have b := bl_set o.key ⟨o.v, o.due, s.cnt + 1⟩ s.l
      rw [ent_len] at b
      refine ⟨?_, ?_, Nat.le_trans (note_ch _ _) (by show s.ch.length + 1 ≤ j + 1; omega), ?_⟩
      · show N + 2 + (setK lt s.l o.key ⟨o.v, o.due, s.cnt + 1⟩).length ≤ _; omega
      · show s.cnt + 1 + (setK lt s.l o.key ⟨o.v, o.due, s.cnt + 1⟩).length ≤ _; omega
      · show (bytesL (setK lt s.l o.key ⟨o.v, o.due, s.cnt + 1⟩)).length ≤ _
        unfold PO.wt; dsimp only at b; omega
    · exact ⟨by omega, by omega, by omega, by omega⟩
  rw [if_neg k0, if_neg k0]
  by_cases k1 : o.kind = 1
  · rw [if_pos k1, if_pos k1]
    unfold dropS
    split
    · rename_i hs
      have a := SpA.drop_len (hi.ris.nodup DuB.linS) o.key
      rw [if_pos hs] at a
      have b := bl_drop o.key s.l
      have hp : 0 < s.l.length := by
        cases hl : s.l with
        | nil => rw [hl] at hs; simp [getK] at hs
        | cons _ _ => simp
      refine ⟨?_, ?_, Nat.le_trans (note_ch _ _) (by show s.ch.length + 1 ≤ j + 1; omega), ?_⟩
      · show N + 1 + (dropK s.l o.key).length ≤ _; omega
      · show s.cnt + 1 + (dropK s.l o.key).length ≤ _; omega
      · show (bytesL (dropK s.l o.key)).length ≤ _; omega
    · exact ⟨by omega, by omega, by omega, by omega⟩
  rw [if_neg k1, if_neg k1]
  by_cases k2 : o.kind = 2
  · rw [if_pos k2, if_pos k2]
    unfold dueS
    split
    · split
      · exact ⟨by omega, by omega, by omega, by omega⟩
      · rename_i p hp
        have a := SpA.set_len (lt := lt) (hi.ris.nodup DuB.linS) o.key ⟨p.v, o.due, s.cnt + 1⟩
        rw [if_pos (by rw [hp]; rfl)] at a
        have b := bl_drop_some o.key p s.l hp
        have b2 := bl_ins (o.key, ⟨p.v, o.due, s.cnt + 1⟩) (dropK s.l o.key)
        rw [ent_len] at b b2
        refine ⟨?_, ?_, Nat.le_trans (note_ch _ _) (by show s.ch.length + 1 ≤ j + 1; omega), ?_⟩
        · show N + 2 + (setK lt s.l o.key ⟨p.v, o.due, s.cnt + 1⟩).length ≤ _; omega
        · show s.cnt + 1 + (setK lt s.l o.key ⟨p.v, o.due, s.cnt + 1⟩).length ≤ _; omega
        · show (bytesL (insK lt (o.key, ⟨p.v, o.due, s.cnt + 1⟩) (dropK s.l o.key))).length ≤ _
          dsimp only at b b2; omega
    · exact ⟨by omega, by omega, by omega, by omega⟩
  rw [if_neg k2, if_neg k2]
  by_cases k3 : o.kind = 3
  · rw [if_pos k3, if_pos k3]
    have a := clear_ch s
    refine ⟨?_, ?_, by omega, ?_⟩
    · rw [clear_l]; simp; omega
    · rw [clear_l, clear_cnt]; simp; omega
    · rw [clear_l]; simp [bytesL]
  rw [if_neg k3, if_neg k3]
  exact ⟨by omega, by omega, by omega, by omega⟩

/-- What is behind a mark at s0. -/
structure On (s0 t : PS) : Prop where
  on : t.on = true
  at_ : t.at_ = s0.cnt
  back : ∀ k, (match getK t.bf k with | none => getK t.l k | some p => if p.ver = 0 then none else some p) = getK s0.l k
theorem on_turn {s0 t : PS} (h : On s0 t) (hi : Inv t) (k : ByteArray) (l' : List BH) (c : List PE) (hl : ∀ k', k' ≠ k → getK l' k' = getK t.l k') : On s0 { touchP t k with l := l', ch := c } := by
  refine ⟨h.on, h.at_, fun k' => ?_⟩
  have hb := h.back k'
  show (match getK (bfT t k) k' with | none => getK l' k' | some p => if p.ver = 0 then none else some p) = _
  unfold bfT
  by_cases hk : t.on = true ∧ (getK t.bf k).isSome = false
  · rw [if_pos hk, get_set]
    by_cases e : k' = k
    · subst e
      rw [if_pos rfl]
      have hn : getK t.bf k' = none := by
        have := hk.2
        cases hg : getK t.bf k' with
        | none => rfl
        | some p => rw [hg] at this; cases this
      rw [hn] at hb
      dsimp only at hb ⊢
      rw [← hb]
      cases hg : getK t.l k' with
      | none => rfl
      | some p =>
        have hm := (mem_getR DuB.linS hi.ris).1 hg
        have : 1 ≤ p.ver := (hi.ver _ hm).1
        dsimp only [Option.getD_some]
        rw [if_neg (by omega)]
    · rw [if_neg e, hl k' e]; exact hb
  · rw [if_neg hk]
    by_cases e : k' = k
    · subst e
      cases hg : getK t.bf k' with
      | none => exact absurd ⟨h.on, by rw [hg]; rfl⟩ hk
      | some p => rw [hg] at hb; exact hb
    · rw [hl k' e]; exact hb
theorem on_gone {s0 : PS} : ∀ (ks : List ByteArray) (t : PS), On s0 t → Inv t → (∀ k ∈ ks, k.size ≤ 100000000) → On s0 (ks.foldl goneP t)
  | [], t, h, _, _ => h
  | k :: r, t, h, hi, hk => on_gone r _ (on_turn h hi k (dropK t.l k) t.ch (fun k' e => by rw [SpA.get_drop, if_neg e])) (inv_gone hi k (hk k (by simp))) (fun k' h' => hk k' (by simp [h']))
theorem on_ch {s0 t : PS} (h : On s0 t) (c : List PE) : On s0 { t with ch := c } := ⟨h.on, h.at_, h.back⟩
theorem on_done {s0 t : PS} (h : On s0 t) (hi : Inv t) (o : PO) : On s0 (doneS t o) := by
  unfold doneS
  split
  · unfold putS
    split
    · exact on_turn h hi o.key _ _ (fun k' e => by rw [get_set, if_neg e])
    · exact h
  split
  · unfold dropS
    split
    · exact on_turn h hi o.key _ _ (fun k' e => by rw [SpA.get_drop, if_neg e])
    · exact h
  split
  · unfold dueS
    split
    · split
      · exact h
      · exact on_turn h hi o.key _ _ (fun k' e => by rw [get_set, if_neg e])
    · exact h
  split
  · unfold clearS
    split
    · exact h
    · exact on_ch (on_gone _ _ h hi (fun k hk => by
        obtain ⟨e, he, rfl⟩ := List.mem_map.1 hk
        exact hi.key e he)) _
  · exact h
theorem on_mark {s : PS} (h : s.on = false) : On s (markS s) := by
  unfold markS
  rw [h]
  exact ⟨rfl, rfl, fun k => rfl⟩
theorem back_law {s0 t : PS} (h : On s0 t) (hi : Inv t) (h0 : Inv s0) : (backS t).l = s0.l ∧ (backS t).cnt = s0.cnt ∧ (backS t).ch = [] ∧ (backS t).bf = [] := by
  unfold backS
  rw [if_pos h.on]
  refine ⟨?_, h.at_, rfl, rfl⟩
  show t.bf.foldl backK t.l = s0.l
  refine ris_ext DuB.linS (ris_back _ _ hi.ris) h0.ris (fun k => ?_)
  rw [get_back _ _ (hi.risb.nodup DuB.linS), ← h.back k]
  rfl
end Go.Proofs.YtjofbagaobdmoaaGreat.SpZ
