/-
  SameEntries of what reads alike; done; again. Conditions: as stated.
  What a row of changes makes of a space's content; done. Conditions: as stated.
  What effects done again make (plain). Conditions: as stated.
-/
import Derived.Test.YtgmnnpbbiejbnaaGreatSqF
import Derived.Test.YtgmnnpbbiejbnaaGreatLawR
set_option maxRecDepth 100000
set_option linter.unusedSimpArgs false
set_option linter.unusedVariables false
namespace Go.Proofs.YtgmnnpbbiejbnaaGreat.SpY
open Go.RowKit Go.Proofs.YtgmnnpbbiejbnaaGreat.Mem Go.Proofs.YtgmnnpbbiejbnaaGreat.VaC Go.Proofs.YtgmnnpbbiejbnaaGreat.VaE Go.Proofs.YtgmnnpbbiejbnaaGreat.VaH Go.Proofs.YtgmnnpbbiejbnaaGreat.VaI Go.Proofs.YtgmnnpbbiejbnaaGreat.VaX Go.Proofs.YtgmnnpbbiejbnaaGreat.DuA Go.Proofs.YtgmnnpbbiejbnaaGreat.SpA Go.Proofs.YtgmnnpbbiejbnaaGreat.SpB Go.Proofs.YtgmnnpbbiejbnaaGreat.SpC Go.Proofs.YtgmnnpbbiejbnaaGreat.SpD Go.Proofs.YtgmnnpbbiejbnaaGreat.SpE Go.Proofs.YtgmnnpbbiejbnaaGreat.SpF Go.Proofs.YtgmnnpbbiejbnaaGreat.SpG Go.Proofs.YtgmnnpbbiejbnaaGreat.SpH Go.Proofs.YtgmnnpbbiejbnaaGreat.SpI Go.Proofs.YtgmnnpbbiejbnaaGreat.SpJ Go.Proofs.YtgmnnpbbiejbnaaGreat.SpK Go.Proofs.YtgmnnpbbiejbnaaGreat.SpL Go.Proofs.YtgmnnpbbiejbnaaGreat.SpM Go.Proofs.YtgmnnpbbiejbnaaGreat.SpN Go.Proofs.YtgmnnpbbiejbnaaGreat.SpO Go.Proofs.YtgmnnpbbiejbnaaGreat.SpP Go.Proofs.YtgmnnpbbiejbnaaGreat.SpQ Go.Proofs.YtgmnnpbbiejbnaaGreat.SpR Go.Proofs.YtgmnnpbbiejbnaaGreat.SpS Go.Proofs.YtgmnnpbbiejbnaaGreat.SpT Go.Proofs.YtgmnnpbbiejbnaaGreat.SpU Go.Proofs.YtgmnnpbbiejbnaaGreat.SpV Go.Proofs.YtgmnnpbbiejbnaaGreat.SpW
open Go.Proofs.YtgmnnpbbiejbnaaGreat.DsH (Ix IxS okk keyed key_of)
open Go.Proofs.YtgmnnpbbiejbnaaGreat.DsK (OwnKs RdKs keysV elKs)



/-- An element of a row of entries. -/
abbrev SE (q : Addr) (ky : ByteArray) (x : VV) (due : Int) (ver : Nat) (w : World) : Prop := w.cell? q = some (.string ky) ∧ w.cell? ⟨q.block, q.off + 1, none⟩ = some (.int .i64 x.kind) ∧ w.cell? ⟨q.block, q.off + 2, none⟩ = some (.string x.text) ∧ w.cell? ⟨q.block, q.off + 3, none⟩ = some (.slice x.LA x.ln x.lc) ∧ w.cell? ⟨q.block, q.off + 4, none⟩ = some (.slice x.FA x.fn x.fc) ∧ w.cell? ⟨q.block, q.off + 5, none⟩ = some (.slice x.KA x.kn x.kc) ∧ w.cell? ⟨q.block, q.off + 6, none⟩ = some (.int .i64 due) ∧ w.cell? ⟨q.block, q.off + 7, none⟩ = some (.int .u64 ver)
theorem se_below {q q2 : Addr} {ky ky2 : ByteArray} {x x2 : VV} {due due2 : Int} {ver ver2 : Nat} {w w' : World} (h : SE q ky x due ver w ∧ SE q2 ky2 x2 due2 ver2 w) (hb : Below w.heap.size w w') : SE q ky x due ver w' ∧ SE q2 ky2 x2 due2 ver2 w' := by
  obtain ⟨⟨a0, a1, a2, a3, a4, a5, a6, a7⟩, b0, b1, b2, b3, b4, b5, b6, b7⟩ := h
  exact ⟨⟨below_c a0 hb, below_c a1 hb, below_c a2 hb, below_c a3 hb, below_c a4 hb, below_c a5 hb, below_c a6 hb, below_c a7 hb⟩, below_c b0 hb, below_c b1 hb, below_c b2 hb, below_c b3 hb, below_c b4 hb, below_c b5 hb, below_c b6 hb, below_c b7 hb⟩
set_option maxHeartbeats 8000000 in
theorem sameEntries_eq (A B : Option Addr) (n c d : Nat) (es es' : List EN) (l : List (ByteArray × PH)) {S S' : Nat → Prop} (w : World) (ha : Rd w 8 A n c (rows EN.cells es)) (hb0 : Rd w 8 B n d (rows EN.cells es')) (h1 : ENs w S es l) (h2 : ENs w S' es' l) :
    Calls Tryz.prog 19 #[.slice A n c, .slice B n d] w fun e w' => e = .returned (.bool true) ∧ Below w.heap.size w w' := by
  have hen : es.length = n := rd_rows_len en_len (by decide) ha
  have hen' : es'.length = n := rd_rows_len en_len (by decide) hb0
  have hln : l.length = n := by rw [← h1.1]; exact hen
  have hnn : ((n : Int) != (n : Int)) = false := by simp
  have hcap := ha.cap
  have hbig := ha.big
  unfold maxLen at hbig
  have H := Lib.hid (And.intro ha (And.intro hb0 (And.intro h1 (And.intro h2 (And.intro hen (And.intro hen' hln))))))
  clear ha hb0 h1 h2 hen hen' hln
  go_enter Tryz.func19, Tryz.ntmps19
  go_wp2_with fail
  go_loopw [5] (fun i wr => ∃ (k : Nat), k ≤ n ∧ i = .int .i64 k ∧ Below w.heap.size w wr) (fun i _ => n - (intOf i).toNat)
  case atStart => exact ⟨0, Nat.zero_le _, rfl, Below.refl _ _⟩
  case round =>
    obtain ⟨k, hk, rfl, hb⟩ := hrel
    by_cases hlt : k < n
    · obtain ⟨ha, hb0, h1, h2, hen, hen', hln⟩ := H.out
      obtain ⟨e0, he0⟩ : ∃ e0, es[k]? = some e0 := ⟨_, List.getElem?_eq_getElem (by omega)⟩
      obtain ⟨e1, he1⟩ : ∃ e1, es'[k]? = some e1 := ⟨_, List.getElem?_eq_getElem (by omega)⟩
      obtain ⟨p0, hp0⟩ : ∃ p0, l[k]? = some p0 := ⟨_, List.getElem?_eq_getElem (by omega)⟩
      obtain ⟨r1, r2, r3, r4⟩ := h1.2 k e0 p0 he0 hp0
      obtain ⟨q1, q2, q3, q4⟩ := h2.2 k e1 p0 he1 hp0
      obtain ⟨pa, rfl, cx⟩ := rd_rows_get en_len ha he0 (by decide)
      obtain ⟨pb, rfl, cy⟩ := rd_rows_get en_len hb0 he1 (by decide)
      obtain ⟨ky, hky⟩ : ∃ ky, p0.1 = ky := ⟨_, rfl⟩
      obtain ⟨dd, hdd⟩ : ∃ dd, p0.2.due = dd := ⟨_, rfl⟩
      obtain ⟨vv, hvv⟩ : ∃ vv, p0.2.ver = vv := ⟨_, rfl⟩
      rw [hky] at r1 q1
      rw [hdd] at r2 q2
      rw [hvv] at r3 q3
      obtain ⟨key0, x0, due0, ver0⟩ := e0
      obtain ⟨key1, x1, due1, ver1⟩ := e1
      simp only at r1 r2 r3 q1 q2 q3
      subst r1 r2 r3
      subst q1 q2 q3
      have g0 : wr.cell? (pa.add (k * 8)) = some (.string key1) := below_c (cx 0 _ rfl) hb
      have g1 : wr.cell? ⟨(pa.add (k * 8)).block, (pa.add (k * 8)).off + 1, none⟩ = some (.int .i64 x0.kind) := below_c (cx 1 _ rfl) hb
      have g2 : wr.cell? ⟨(pa.add (k * 8)).block, (pa.add (k * 8)).off + 2, none⟩ = some (.string x0.text) := below_c (cx 2 _ rfl) hb
      have g3 : wr.cell? ⟨(pa.add (k * 8)).block, (pa.add (k * 8)).off + 3, none⟩ = some (.slice x0.LA x0.ln x0.lc) := below_c (cx 3 _ rfl) hb
      have g4 : wr.cell? ⟨(pa.add (k * 8)).block, (pa.add (k * 8)).off + 4, none⟩ = some (.slice x0.FA x0.fn x0.fc) := below_c (cx 4 _ rfl) hb
      have g5 : wr.cell? ⟨(pa.add (k * 8)).block, (pa.add (k * 8)).off + 5, none⟩ = some (.slice x0.KA x0.kn x0.kc) := below_c (cx 5 _ rfl) hb
      have g6 : wr.cell? ⟨(pa.add (k * 8)).block, (pa.add (k * 8)).off + 6, none⟩ = some (.int .i64 due1) := below_c (cx 6 _ rfl) hb
      have g7 : wr.cell? ⟨(pa.add (k * 8)).block, (pa.add (k * 8)).off + 7, none⟩ = some (.int .u64 ver1) := below_c (cx 7 _ rfl) hb
      have f0 : wr.cell? (pb.add (k * 8)) = some (.string key1) := below_c (cy 0 _ rfl) hb
      have f1 : wr.cell? ⟨(pb.add (k * 8)).block, (pb.add (k * 8)).off + 1, none⟩ = some (.int .i64 x1.kind) := below_c (cy 1 _ rfl) hb
      have f2 : wr.cell? ⟨(pb.add (k * 8)).block, (pb.add (k * 8)).off + 2, none⟩ = some (.string x1.text) := below_c (cy 2 _ rfl) hb
      have f3 : wr.cell? ⟨(pb.add (k * 8)).block, (pb.add (k * 8)).off + 3, none⟩ = some (.slice x1.LA x1.ln x1.lc) := below_c (cy 3 _ rfl) hb
      have f4 : wr.cell? ⟨(pb.add (k * 8)).block, (pb.add (k * 8)).off + 4, none⟩ = some (.slice x1.FA x1.fn x1.fc) := below_c (cy 4 _ rfl) hb
      have f5 : wr.cell? ⟨(pb.add (k * 8)).block, (pb.add (k * 8)).off + 5, none⟩ = some (.slice x1.KA x1.kn x1.kc) := below_c (cy 5 _ rfl) hb
      have f6 : wr.cell? ⟨(pb.add (k * 8)).block, (pb.add (k * 8)).off + 6, none⟩ = some (.int .i64 due1) := below_c (cy 6 _ rfl) hb
      have f7 : wr.cell? ⟨(pb.add (k * 8)).block, (pb.add (k * 8)).off + 7, none⟩ = some (.int .u64 ver1) := below_c (cy 7 _ rfl) hb

      have hs := sameR_calls x0 x1 wr.drew (((r4.below hb).below ((Below.refl _ _).drew)).rd) (((q4.below hb).below ((Below.refl _ _).drew)).rd)
      have hsv : sameV x0 x1 = true := by rw [pv_same]; exact decide_eq_true (by rw [r4.pv, q4.pv])
      rw [hsv] at hs
      unfold VV.val at hs
      have hkq : (key1.toList == key1.toList) = true := by simp
      have hdq : (due1 != due1) = false := by simp
      have hvq : ((ver1 : Int) != (ver1 : Int)) = false := by simp
      have hkn : ((k : Nat) : Int) < (n : Int) := by omega
      have HB := Lib.hid hb
      clear ha hb0 h1 h2 he0 he1 hp0 r4 q4 cx cy hb hky hdd hvv
      go_upto_region 6 with fail
      go_region_held3 (fun w' => SE (pa.add (k * 8)) key1 x0 due1 ver1 w' ∧ SE (pb.add (k * 8)) key1 x1 due1 ver1 w')
        (first | exact ⟨⟨g0, g1, g2, g3, g4, g5, g6, g7⟩, f0, f1, f2, f3, f4, f5, f6, f7⟩ | exact se_below (by assumption) (by assumption))
        (first
          | (go_at_call 35; refine hs.mono ?_; rintro e w4 ⟨rfl, b4⟩))
      all_goals (
        have b9 : Below w.heap.size w w4 := HB.out.trans ((((Below.refl _ _).drew).trans b4).mono HB.out.size)
        go_wp2_with fail
        exact ⟨⟨k + 1, by omega, by go_num, b9⟩, by simp [intOf]; omega⟩)
    · obtain rfl : k = n := by omega
      go_wp2_with fail
      go_ret
      exact ⟨rfl, hb⟩
end Go.Proofs.YtgmnnpbbiejbnaaGreat.SpY
set_option maxRecDepth 100000
set_option linter.unusedSimpArgs false
set_option linter.unusedVariables false
namespace Go.Proofs.YtgmnnpbbiejbnaaGreat.SpZ
open Go.RowKit Go.Proofs.YtgmnnpbbiejbnaaGreat.Mem Go.Proofs.YtgmnnpbbiejbnaaGreat.VaC Go.Proofs.YtgmnnpbbiejbnaaGreat.VaE Go.Proofs.YtgmnnpbbiejbnaaGreat.VaH Go.Proofs.YtgmnnpbbiejbnaaGreat.VaI Go.Proofs.YtgmnnpbbiejbnaaGreat.VaX Go.Proofs.YtgmnnpbbiejbnaaGreat.DuA Go.Proofs.YtgmnnpbbiejbnaaGreat.SpA Go.Proofs.YtgmnnpbbiejbnaaGreat.SpB Go.Proofs.YtgmnnpbbiejbnaaGreat.SpC Go.Proofs.YtgmnnpbbiejbnaaGreat.SpD Go.Proofs.YtgmnnpbbiejbnaaGreat.SpE Go.Proofs.YtgmnnpbbiejbnaaGreat.SpF Go.Proofs.YtgmnnpbbiejbnaaGreat.SpG Go.Proofs.YtgmnnpbbiejbnaaGreat.SpH Go.Proofs.YtgmnnpbbiejbnaaGreat.SpI Go.Proofs.YtgmnnpbbiejbnaaGreat.SpJ Go.Proofs.YtgmnnpbbiejbnaaGreat.SpK Go.Proofs.YtgmnnpbbiejbnaaGreat.SpL Go.Proofs.YtgmnnpbbiejbnaaGreat.SpM Go.Proofs.YtgmnnpbbiejbnaaGreat.SpN Go.Proofs.YtgmnnpbbiejbnaaGreat.SpO Go.Proofs.YtgmnnpbbiejbnaaGreat.SpP Go.Proofs.YtgmnnpbbiejbnaaGreat.SpQ Go.Proofs.YtgmnnpbbiejbnaaGreat.SpR Go.Proofs.YtgmnnpbbiejbnaaGreat.SpS Go.Proofs.YtgmnnpbbiejbnaaGreat.SpT Go.Proofs.YtgmnnpbbiejbnaaGreat.SpU Go.Proofs.YtgmnnpbbiejbnaaGreat.SpV Go.Proofs.YtgmnnpbbiejbnaaGreat.SpW Go.Proofs.YtgmnnpbbiejbnaaGreat.SpY
open Go.Proofs.YtgmnnpbbiejbnaaGreat.DsH (Ix IxS okk keyed key_of)
open Go.Proofs.YtgmnnpbbiejbnaaGreat.DsK (OwnKs RdKs keysV elKs)



abbrev BH : Type := ByteArray × PH
theorem gone_l : ∀ (ks : List ByteArray) (s : PS), (ks.foldl goneP s).l = ks.foldl dropK s.l
  | [], s => rfl
  | k :: r, s => by rw [List.foldl_cons, List.foldl_cons, gone_l r]; rfl
theorem mem_drops : ∀ (ks : List ByteArray) (l : List BH) (e : BH), e ∈ ks.foldl dropK l → e ∈ l ∧ e.1 ∉ ks
  | [], l, e, h => ⟨h, by simp⟩
  | k :: r, l, e, h => by
    obtain ⟨h1, h2⟩ := mem_drops r _ e h
    obtain ⟨h3, h4⟩ := mem_drop.1 h1
    exact ⟨h3, by simp [h4, h2]⟩
theorem clear_l (s : PS) : (clearS s).l = [] := by
  unfold clearS
  split
  · assumption
  · show ((s.l.map (·.1)).foldl goneP s).l = []
    rw [gone_l]
    refine List.eq_nil_iff_forall_not_mem.2 (fun e he => ?_)
    obtain ⟨h1, h2⟩ := mem_drops _ _ e he
    exact h2 (List.mem_map_of_mem (f := (·.1)) h1)
theorem clear_cnt (s : PS) : (clearS s).cnt = s.cnt + s.l.length := by
  unfold clearS
  split
  · rename_i h; rw [h]; rfl
  · show ((s.l.map (·.1)).foldl goneP s).cnt = _
    rw [gone_cnt, List.length_map]
theorem clear_ch (s : PS) : (clearS s).ch.length ≤ s.ch.length + 1 := by
  unfold clearS
  split
  · omega
  · unfold noteP
    simp only [gone_ch]
    split <;> simp
/-- A change. -/
structure PO where
  kind : Int
  key : ByteArray
  v : PV
  due : Int
def doneS (s : PS) (o : PO) : PS := if o.kind = 0 then putS s o.key o.v o.due else if o.kind = 1 then dropS s o.key else if o.kind = 2 then dueS s o.key o.due else if o.kind = 3 then clearS s else s
def doneN (s : PS) (N : Nat) (o : PO) : Nat := if o.kind = 0 then N + 2 else if o.kind = 1 then N + 1 else if o.kind = 2 then N + 2 else if o.kind = 3 then N + s.l.length else N
theorem ent_len (e : BH) : (entB e).length = 16 + e.1.size + (encP e.2.v).length := by
  have : e.1.data.toList.length = e.1.size := by rw [Array.length_toList]; rfl
  unfold entB
  simp only [List.length_append, VaA.le_len]
  omega
theorem bl_cons (e : BH) (l : List BH) : (bytesL (e :: l)).length = (entB e).length + (bytesL l).length := by simp [bytesL]
theorem bl_ins (e : BH) : ∀ l : List BH, (bytesL (insK lt e l)).length = (entB e).length + (bytesL l).length
  | [] => by simp [insK, bytesL]
  | y :: r => by
    unfold insK
    split
    · rw [bl_cons]
    · rw [bl_cons, bl_cons, bl_ins e r]; omega
theorem bl_drop (k : ByteArray) : ∀ l : List BH, (bytesL (dropK l k)).length ≤ (bytesL l).length
  | [] => by simp [dropK]
  | y :: r => by
    have ih := bl_drop k r
    unfold dropK at ih ⊢
    rw [List.filter_cons]
    split
    · rw [bl_cons, bl_cons]; omega
    · rw [bl_cons]; omega
theorem bl_drop_some (k : ByteArray) (p : PH) : ∀ l : List BH, getK l k = some p → (bytesL (dropK l k)).length + (entB (k, p)).length ≤ (bytesL l).length
  | [], h => by simp [getK] at h
  | y :: r, h => by
    rw [get_cons] at h
    have hd := bl_drop k r
    have ih := bl_drop_some k p r
    unfold dropK at ih hd ⊢
    rw [List.filter_cons, bl_cons]
    by_cases e : y.1 = k
    · rw [if_pos e] at h
      injection h with h
      have hy : y = (k, p) := by rw [← e, ← h]
      rw [if_neg (by simp [e]), hy]; omega
    · rw [if_neg e] at h
      have := ih h
      rw [if_pos (by simpa using e), bl_cons]; omega
theorem bl_set (k : ByteArray) (p : PH) (l : List BH) : (bytesL (setK lt l k p)).length ≤ (entB (k, p)).length + (bytesL l).length := by
  unfold setK
  rw [bl_ins]
  have := bl_drop k l
  omega
theorem drop_le (k : ByteArray) (l : List BH) : (dropK l k).length ≤ l.length := List.length_filter_le _ _
theorem set_le (k : ByteArray) (p : PH) (l : List BH) : (setK lt l k p).length ≤ l.length + 1 := by
  unfold setK
  rw [SpA.ins_len]
  have := drop_le k l
  omega
/-- Bounds behind j changes. -/
structure Bo (s : PS) (N j Z : Nat) : Prop where
  n : N + s.l.length ≤ 3 * j
  c : s.cnt + s.l.length ≤ 4611686018427387904 + 2 * j
  h : s.ch.length ≤ j
  z : (bytesL s.l).length ≤ Z
def PO.wt (o : PO) : Nat := 16 + o.key.size + (encP o.v).length
theorem note_ch (s : PS) (e : PE) : (noteP s e).ch.length ≤ s.ch.length + 1 := by
  unfold noteP
  dsimp only
  split <;> simp
theorem bo_done {s : PS} {N j Z : Nat} (h : Bo s N j Z) (hi : Inv s) (o : PO) : Bo (doneS s o) (doneN s N o) (j + 1) (Z + o.wt) := by
  obtain ⟨h1, h2, h3, h4⟩ := h
  unfold doneS doneN
  by_cases k0 : o.kind = 0
  · rw [if_pos k0, if_pos k0]
    unfold putS
    split
    · have a := set_le o.key ⟨o.v, o.due, s.cnt + 1⟩ s.l
      have b := bl_set o.key ⟨o.v, o.due, s.cnt + 1⟩ s.l
      rw [ent_len] at b
      refine ⟨?_, ?_, Nat.le_trans (note_ch _ _) (by show s.ch.length + 1 ≤ j + 1; omega), ?_⟩
      · show N + 2 + (setK lt s.l o.key ⟨o.v, o.due, s.cnt + 1⟩).length ≤ _; omega
      · show s.cnt + 1 + (setK lt s.l o.key ⟨o.v, o.due, s.cnt + 1⟩).length ≤ _; omega
      · show (bytesL (setK lt s.l o.key ⟨o.v, o.due, s.cnt + 1⟩)).length ≤ _
        unfold PO.wt; dsimp only at b; omega
    · exact ⟨by omega, by omega, by omega, by omega⟩
  rw [if_neg k0, if_neg k0]
  by_cases k1 : o.kind = 1
  · rw [if_pos k1, if_pos k1]
    unfold dropS
    split
    · rename_i hs
      have a := SpA.drop_len (hi.ris.nodup DuB.linS) o.key
      rw [if_pos hs] at a
      have b := bl_drop o.key s.l
      have hp : 0 < s.l.length := by
        cases hl : s.l with
        | nil => rw [hl] at hs; simp [getK] at hs
        | cons _ _ => simp
      refine ⟨?_, ?_, Nat.le_trans (note_ch _ _) (by show s.ch.length + 1 ≤ j + 1; omega), ?_⟩
      · show N + 1 + (dropK s.l o.key).length ≤ _; omega
      · show s.cnt + 1 + (dropK s.l o.key).length ≤ _; omega
      · show (bytesL (dropK s.l o.key)).length ≤ _; omega
    · exact ⟨by omega, by omega, by omega, by omega⟩
  rw [if_neg k1, if_neg k1]
  by_cases k2 : o.kind = 2
  · rw [if_pos k2, if_pos k2]
    unfold dueS
    split
    · split
      · exact ⟨by omega, by omega, by omega, by omega⟩
      · rename_i p hp
        have a := SpA.set_len (lt := lt) (hi.ris.nodup DuB.linS) o.key ⟨p.v, o.due, s.cnt + 1⟩
        rw [if_pos (by rw [hp]; rfl)] at a
        have b := bl_drop_some o.key p s.l hp
        have b2 := bl_ins (o.key, ⟨p.v, o.due, s.cnt + 1⟩) (dropK s.l o.key)
        rw [ent_len] at b b2
        refine ⟨?_, ?_, Nat.le_trans (note_ch _ _) (by show s.ch.length + 1 ≤ j + 1; omega), ?_⟩
        · show N + 2 + (setK lt s.l o.key ⟨p.v, o.due, s.cnt + 1⟩).length ≤ _; omega
        · show s.cnt + 1 + (setK lt s.l o.key ⟨p.v, o.due, s.cnt + 1⟩).length ≤ _; omega
        · show (bytesL (insK lt (o.key, ⟨p.v, o.due, s.cnt + 1⟩) (dropK s.l o.key))).length ≤ _
          dsimp only at b b2; omega
    · exact ⟨by omega, by omega, by omega, by omega⟩
  rw [if_neg k2, if_neg k2]
  by_cases k3 : o.kind = 3
  · rw [if_pos k3, if_pos k3]
    have a := clear_ch s
    refine ⟨?_, ?_, by omega, ?_⟩
    · rw [clear_l]; simp; omega
    · rw [clear_l, clear_cnt]; simp; omega
    · rw [clear_l]; simp [bytesL]
  rw [if_neg k3, if_neg k3]
  exact ⟨by omega, by omega, by omega, by omega⟩

/-- What is behind a mark at s0. -/
structure On (s0 t : PS) : Prop where
  on : t.on = true
  at_ : t.at_ = s0.cnt
  back : ∀ k, (match getK t.bf k with | none => getK t.l k | some p => if p.ver = 0 then none else some p) = getK s0.l k
theorem on_turn {s0 t : PS} (h : On s0 t) (hi : Inv t) (k : ByteArray) (l' : List BH) (c : List PE) (hl : ∀ k', k' ≠ k → getK l' k' = getK t.l k') : On s0 { touchP t k with l := l', ch := c } := by
  refine ⟨h.on, h.at_, fun k' => ?_⟩
  have hb := h.back k'
  show (match getK (bfT t k) k' with | none => getK l' k' | some p => if p.ver = 0 then none else some p) = _
  unfold bfT
  by_cases hk : t.on = true ∧ (getK t.bf k).isSome = false
  · rw [if_pos hk, get_set]
    by_cases e : k' = k
    · subst e
      rw [if_pos rfl]
      have hn : getK t.bf k' = none := by
        have := hk.2
        cases hg : getK t.bf k' with
        | none => rfl
        | some p => rw [hg] at this; cases this
      rw [hn] at hb
      dsimp only at hb ⊢
      rw [← hb]
      cases hg : getK t.l k' with
      | none => rfl
      | some p =>
        have hm := (mem_getR DuB.linS hi.ris).1 hg
        have : 1 ≤ p.ver := (hi.ver _ hm).1
        dsimp only [Option.getD_some]
        rw [if_neg (by omega)]
    · rw [if_neg e, hl k' e]; exact hb
  · rw [if_neg hk]
    by_cases e : k' = k
    · subst e
      cases hg : getK t.bf k' with
      | none => exact absurd ⟨h.on, by rw [hg]; rfl⟩ hk
      | some p => rw [hg] at hb; exact hb
    · rw [hl k' e]; exact hb
theorem on_gone {s0 : PS} : ∀ (ks : List ByteArray) (t : PS), On s0 t → Inv t → (∀ k ∈ ks, k.size ≤ 100000000) → On s0 (ks.foldl goneP t)
  | [], t, h, _, _ => h
  | k :: r, t, h, hi, hk => on_gone r _ (on_turn h hi k (dropK t.l k) t.ch (fun k' e => by rw [SpA.get_drop, if_neg e])) (inv_gone hi k (hk k (by simp))) (fun k' h' => hk k' (by simp [h']))
theorem on_ch {s0 t : PS} (h : On s0 t) (c : List PE) : On s0 { t with ch := c } := ⟨h.on, h.at_, h.back⟩
theorem on_done {s0 t : PS} (h : On s0 t) (hi : Inv t) (o : PO) : On s0 (doneS t o) := by
  unfold doneS
  split
  · unfold putS
    split
    · exact on_turn h hi o.key _ _ (fun k' e => by rw [get_set, if_neg e])
    · exact h
  split
  · unfold dropS
    split
    · exact on_turn h hi o.key _ _ (fun k' e => by rw [SpA.get_drop, if_neg e])
    · exact h
  split
  · unfold dueS
    split
    · split
      · exact h
      · exact on_turn h hi o.key _ _ (fun k' e => by rw [get_set, if_neg e])
    · exact h
  split
  · unfold clearS
    split
    · exact h
    · exact on_ch (on_gone _ _ h hi (fun k hk => by
        obtain ⟨e, he, rfl⟩ := List.mem_map.1 hk
        exact hi.key e he)) _
  · exact h
theorem on_mark {s : PS} (h : s.on = false) : On s (markS s) := by
  unfold markS
  rw [h]
  exact ⟨rfl, rfl, fun k => rfl⟩
theorem back_law {s0 t : PS} (h : On s0 t) (hi : Inv t) (h0 : Inv s0) : (backS t).l = s0.l ∧ (backS t).cnt = s0.cnt ∧ (backS t).ch = [] ∧ (backS t).bf = [] := by
  unfold backS
  rw [if_pos h.on]
  refine ⟨?_, h.at_, rfl, rfl⟩
  show t.bf.foldl backK t.l = s0.l
  refine ris_ext DuB.linS (ris_back _ _ hi.ris) h0.ris (fun k => ?_)
  rw [get_back _ _ (hi.risb.nodup DuB.linS), ← h.back k]
  rfl
end Go.Proofs.YtgmnnpbbiejbnaaGreat.SpZ
set_option maxRecDepth 100000
set_option linter.unusedSimpArgs false
set_option linter.unusedVariables false
namespace Go.Proofs.YtgmnnpbbiejbnaaGreat.SrC
open Go.RowKit Go.Proofs.YtgmnnpbbiejbnaaGreat.Mem Go.Proofs.YtgmnnpbbiejbnaaGreat.VaC Go.Proofs.YtgmnnpbbiejbnaaGreat.VaE Go.Proofs.YtgmnnpbbiejbnaaGreat.VaH Go.Proofs.YtgmnnpbbiejbnaaGreat.VaI Go.Proofs.YtgmnnpbbiejbnaaGreat.VaX Go.Proofs.YtgmnnpbbiejbnaaGreat.DuA Go.Proofs.YtgmnnpbbiejbnaaGreat.SpA Go.Proofs.YtgmnnpbbiejbnaaGreat.SpB Go.Proofs.YtgmnnpbbiejbnaaGreat.SpC Go.Proofs.YtgmnnpbbiejbnaaGreat.SpD Go.Proofs.YtgmnnpbbiejbnaaGreat.SpE Go.Proofs.YtgmnnpbbiejbnaaGreat.SpF Go.Proofs.YtgmnnpbbiejbnaaGreat.SpG Go.Proofs.YtgmnnpbbiejbnaaGreat.SpH Go.Proofs.YtgmnnpbbiejbnaaGreat.SpI Go.Proofs.YtgmnnpbbiejbnaaGreat.SpJ Go.Proofs.YtgmnnpbbiejbnaaGreat.SpK Go.Proofs.YtgmnnpbbiejbnaaGreat.SpL Go.Proofs.YtgmnnpbbiejbnaaGreat.SpM Go.Proofs.YtgmnnpbbiejbnaaGreat.SpN Go.Proofs.YtgmnnpbbiejbnaaGreat.SpO Go.Proofs.YtgmnnpbbiejbnaaGreat.SpP Go.Proofs.YtgmnnpbbiejbnaaGreat.SpQ Go.Proofs.YtgmnnpbbiejbnaaGreat.SpR Go.Proofs.YtgmnnpbbiejbnaaGreat.SpS Go.Proofs.YtgmnnpbbiejbnaaGreat.SpT Go.Proofs.YtgmnnpbbiejbnaaGreat.SpU Go.Proofs.YtgmnnpbbiejbnaaGreat.SpV Go.Proofs.YtgmnnpbbiejbnaaGreat.SpW Go.Proofs.YtgmnnpbbiejbnaaGreat.SpY Go.Proofs.YtgmnnpbbiejbnaaGreat.SpZ
open Go.Proofs.YtgmnnpbbiejbnaaGreat.DsH (Ix IxS okk keyed key_of)
open Go.Proofs.YtgmnnpbbiejbnaaGreat.DsK (OwnKs RdKs keysV elKs)



def opOf (e : PE) : PO := ⟨if e.kind = 1 then 0 else if e.kind = 2 then 1 else if e.kind = 3 then 2 else if e.kind = 4 then 3 else 9, e.key, e.v, e.due⟩
def againS (s : PS) (ch : List PE) : PS := ch.foldl (fun s e => doneS s (opOf e)) s
theorem again_snoc (s : PS) (ch : List PE) (e : PE) : againS s (ch ++ [e]) = doneS (againS s ch) (opOf e) := by simp [againS]
/-- Two contents of one list and one counter. -/
def Eqv (a b : PS) : Prop := a.l = b.l ∧ a.cnt = b.cnt
theorem eqv_put {a b : PS} (h : Eqv a b) (k : ByteArray) (v : PV) (d : Int) : Eqv (putS a k v d) (putS b k v d) := by
  unfold putS
  split
  · exact ⟨by show setK lt a.l k ⟨v, d, a.cnt + 1⟩ = setK lt b.l k ⟨v, d, b.cnt + 1⟩; rw [h.1, h.2], by show a.cnt + 1 = b.cnt + 1; rw [h.2]⟩
  · exact h
theorem eqv_drop {a b : PS} (h : Eqv a b) (k : ByteArray) : Eqv (dropS a k) (dropS b k) := by
  unfold dropS
  rw [h.1]
  split
  · exact ⟨by show dropK a.l k = dropK b.l k; rw [h.1], by show a.cnt + 1 = b.cnt + 1; rw [h.2]⟩
  · exact h
theorem eqv_due {a b : PS} (h : Eqv a b) (k : ByteArray) (d : Int) : Eqv (dueS a k d) (dueS b k d) := by
  unfold dueS
  split
  · rw [h.1]
    split
    · exact h
    · rename_i p _
      exact ⟨by show setK lt a.l k ⟨p.v, d, a.cnt + 1⟩ = setK lt b.l k ⟨p.v, d, b.cnt + 1⟩; rw [h.1, h.2], by show a.cnt + 1 = b.cnt + 1; rw [h.2]⟩
  · exact h
theorem eqv_clear {a b : PS} (h : Eqv a b) : Eqv (clearS a) (clearS b) := by
  refine ⟨by rw [clear_l, clear_l], by rw [clear_cnt, clear_cnt, h.1, h.2]⟩
theorem eqv_done {a b : PS} (h : Eqv a b) (o : PO) : Eqv (doneS a o) (doneS b o) := by
  unfold doneS
  split
  · exact eqv_put h _ _ _
  split
  · exact eqv_drop h _
  split
  · exact eqv_due h _ _
  split
  · exact eqv_clear h
  · exact h
theorem bft_ne {t : PS} (hon : t.on = true) : ∀ k, bfT t k ≠ [] := by
  intro k hn
  unfold bfT at hn
  split at hn
  · unfold setK at hn
    have := SpA.ins_len (lt := lt) (k, (getK t.l k).getD ph0) (dropK t.bf k)
    rw [hn] at this; simp at this
  · rename_i h
    rw [hn] at h
    exact h ⟨hon, by simp [getK]⟩
theorem gone_on : ∀ (ks : List ByteArray) (t : PS), t.on = true → (ks.foldl goneP t).on = true ∧ (ks ≠ [] ∨ t.bf ≠ [] → (ks.foldl goneP t).bf ≠ [])
  | [], t, h => ⟨h, fun h => h.elim (fun h => absurd rfl h) id⟩
  | k :: r, t, h => by
    rw [List.foldl_cons]
    obtain ⟨h1, h2⟩ := gone_on r (goneP t k) h
    exact ⟨h1, fun _ => h2 (.inr (bft_ne h k))⟩
/-- A change behind a mark: it is none, or it is told by one effect. -/
theorem step_ch {t : PS} (hon : t.on = true) (o : PO) : doneS t o = t ∨ ∃ e, (doneS t o).ch = t.ch ++ [e] ∧ (1 ≤ e.kind ∧ e.kind ≤ 4) ∧ Eqv (doneS t (opOf e)) (doneS t o) ∧ t.cnt < (doneS t o).cnt ∧ (doneS t o).bf ≠ [] := by
  have hbf := bft_ne hon
  obtain ⟨kind, key, v, due⟩ := o
  by_cases k0 : kind = 0
  · subst k0
    show putS t key v due = t ∨ _
    by_cases hp : putE v due = 0
    · refine .inr ⟨⟨1, key, v, due⟩, ?_, (by constructor <;> (dsimp only; decide)), ⟨rfl, rfl⟩, ?_, ?_⟩
      · show (putS t key v due).ch = _; unfold putS; rw [if_pos hp]; unfold putP noteP; simp [touchP, hon]
      · show t.cnt < (putS t key v due).cnt; unfold putS; rw [if_pos hp]; exact Nat.lt_succ_self _
      · show (putS t key v due).bf ≠ []; unfold putS; rw [if_pos hp]; exact hbf key
    · left; unfold putS; rw [if_neg hp]
  by_cases k1 : kind = 1
  · subst k1
    show dropS t key = t ∨ _
    by_cases hp : (getK t.l key).isSome
    · refine .inr ⟨⟨2, key, pv0, 0⟩, ?_, (by constructor <;> (dsimp only; decide)), ⟨rfl, rfl⟩, ?_, ?_⟩
      · show (dropS t key).ch = _; unfold dropS; rw [if_pos hp]; unfold dropP noteP; simp [touchP, hon]
      · show t.cnt < (dropS t key).cnt; unfold dropS; rw [if_pos hp]; exact Nat.lt_succ_self _
      · show (dropS t key).bf ≠ []; unfold dropS; rw [if_pos hp]; exact hbf key
    · left; unfold dropS; rw [if_neg hp]
  by_cases k2 : kind = 2
  · subst k2
    show dueS t key due = t ∨ _
    by_cases ht : tickB due
    · cases hg : getK t.l key with
      | none => left; unfold dueS; rw [if_pos ht, hg]
      | some p =>
        have e1 : dueS t key due = dueP t key p due := by unfold dueS; rw [if_pos ht, hg]
        refine .inr ⟨⟨3, key, pv0, due⟩, ?_, (by constructor <;> (dsimp only; decide)), ⟨rfl, rfl⟩, ?_, ?_⟩
        · show (dueS t key due).ch = _; rw [e1]; unfold dueP noteP; simp [touchP, hon]
        · show t.cnt < (dueS t key due).cnt; rw [e1]; exact Nat.lt_succ_self _
        · show (dueS t key due).bf ≠ []; rw [e1]; exact hbf key
    · left; unfold dueS; rw [if_neg ht]
  by_cases k3 : kind = 3
  · subst k3
    show clearS t = t ∨ _
    by_cases hl : t.l = []
    · left; unfold clearS; rw [if_pos hl]
    · have hg := gone_on (t.l.map (·.1)) t hon
      refine .inr ⟨⟨4, ⟨#[]⟩, pv0, 0⟩, ?_, (by constructor <;> (dsimp only; decide)), ⟨rfl, rfl⟩, ?_, ?_⟩
      · show (clearS t).ch = _
        unfold clearS noteP
        rw [if_neg hl]
        dsimp only
        rw [if_pos hg.1, gone_ch]
      · show t.cnt < (clearS t).cnt
        rw [clear_cnt]
        have : 0 < t.l.length := List.length_pos_iff.2 hl
        omega
      · show (clearS t).bf ≠ []
        unfold clearS
        rw [if_neg hl]
        exact hg.2 (.inl (fun h => hl (List.map_eq_nil_iff.1 h)))
  · left
    unfold doneS
    dsimp only
    rw [if_neg k0, if_neg k1, if_neg k2, if_neg k3]
/-- What is behind a mark, told by its effects. -/
structure Rp (s0 t : PS) : Prop where
  on : t.on = true
  eqv : Eqv (againS s0 t.ch) t
  kinds : ∀ e ∈ t.ch, 1 ≤ e.kind ∧ e.kind ≤ 4
  none : t.ch = [] → t.cnt = s0.cnt ∧ t.bf = []
  some : t.ch ≠ [] → s0.cnt < t.cnt ∧ t.bf ≠ []
theorem rp_done {s0 t : PS} (h : Rp s0 t) (o : PO) (hd : (doneS t o).on = t.on) : Rp s0 (doneS t o) := by
  rcases step_ch h.on o with e | ⟨e, e1, e2, e3, e4, e5⟩
  · rw [e]; exact h
  · have hc : s0.cnt ≤ t.cnt := by
      by_cases hn : t.ch = []
      · rw [(h.none hn).1]; exact Nat.le_refl _
      · exact Nat.le_of_lt (h.some hn).1
    refine ⟨hd.trans h.on, ?_, ?_, fun hn => absurd hn (by rw [e1]; simp), fun _ => ⟨Nat.lt_of_le_of_lt hc e4, e5⟩⟩
    · rw [e1, again_snoc]
      have a := eqv_done h.eqv (opOf e)
      exact ⟨a.1.trans e3.1, a.2.trans e3.2⟩
    · rw [e1]
      intro x hx
      rcases List.mem_append.1 hx with hx | hx
      · exact h.kinds x hx
      · rw [List.mem_singleton.1 hx]; exact e2
/-- What was touched is newer than the mark. -/
def Tv (t : PS) : Prop := ∀ k, (getK t.bf k).isSome = true → ∀ p, getK t.l k = some p → t.at_ < p.ver
theorem tv_turn {t : PS} (h : Tv t) (k : ByteArray) (l' : List BH) (c : List PE) (hl : ∀ k', k' ≠ k → getK l' k' = getK t.l k') (hk : ∀ p, getK l' k = some p → t.at_ < p.ver) : Tv { touchP t k with l := l', ch := c } := by
  intro k' hb p hp
  show t.at_ < p.ver
  have hp : getK l' k' = some p := hp
  by_cases e : k' = k
  · subst e; exact hk p hp
  · rw [hl k' e] at hp
    refine h k' ?_ p hp
    have hb : (getK (bfT t k) k').isSome = true := hb
    unfold bfT at hb
    split at hb
    · rw [get_set, if_neg e] at hb; exact hb
    · exact hb
theorem tv_gone : ∀ (ks : List ByteArray) (t : PS), Tv t → Tv (ks.foldl goneP t)
  | [], t, h => h
  | k :: r, t, h => tv_gone r _ (tv_turn h k (dropK t.l k) t.ch (fun k' e => by rw [SpA.get_drop, if_neg e]) (fun p hp => by rw [SpA.get_drop, if_pos rfl] at hp; cases hp))
theorem tv_done {t : PS} (h : Tv t) (hi : Inv t) (hon : t.on = true) (o : PO) : Tv (doneS t o) := by
  have hat := hi.atc hon
  unfold doneS
  split
  · unfold putS
    split
    · exact tv_turn h o.key _ _ (fun k' e => by rw [get_set, if_neg e]) (fun p hp => by
        rw [get_set, if_pos rfl] at hp
        injection hp with hp
        rw [← hp]; show t.at_ < t.cnt + 1; omega)
    · exact h
  split
  · unfold dropS
    split
    · exact tv_turn h o.key _ _ (fun k' e => by rw [SpA.get_drop, if_neg e]) (fun p hp => by rw [SpA.get_drop, if_pos rfl] at hp; cases hp)
    · exact h
  split
  · unfold dueS
    split
    · split
      · exact h
      · exact tv_turn h o.key _ _ (fun k' e => by rw [get_set, if_neg e]) (fun p hp => by
          rw [get_set, if_pos rfl] at hp
          injection hp with hp
          rw [← hp]; show t.at_ < t.cnt + 1; omega)
    · exact h
  split
  · unfold clearS
    split
    · exact h
    · exact tv_gone _ _ h
  · exact h
theorem tv_iff {t : PS} (h : Tv t) (hi : Inv t) (hon : t.on = true) {e : BH} (he : e ∈ t.l) : (getK t.bf e.1).isSome = decide (t.at_ < e.2.ver) := by
  have hg : getK t.l e.1 = some e.2 := (mem_getR DuB.linS hi.ris).2 he
  cases hb : (getK t.bf e.1).isSome
  · have := hi.unt hon e he hb
    exact (decide_eq_false (by omega)).symm
  · exact (decide_eq_true (h _ hb _ hg)).symm
theorem rp_mark {s : PS} (h : s.on = false) : Rp s (markS s) ∧ Tv (markS s) := by
  unfold markS
  rw [h]
  exact ⟨⟨rfl, ⟨rfl, rfl⟩, (fun e he => by cases he), fun _ => ⟨rfl, rfl⟩, fun hn => absurd rfl hn⟩, fun k hb => by cases hb⟩
end Go.Proofs.YtgmnnpbbiejbnaaGreat.SrC
