/-
  What the document's remove and Remove hand back. Conditions: as stated.
-/
import Derived.Test.YtadjgbhbeamdbaaDqV
import Derived.Test.YtadjgbhbeamdbaaDqF
set_option maxRecDepth 100000
set_option linter.unusedSimpArgs false
set_option linter.unusedVariables false
namespace Go.Proofs.Ytadjgbhbeamdbaa.DqX
open Go.RowKit Go.Proofs.Ytadjgbhbeamdbaa.Mem Go.Proofs.Ytadjgbhbeamdbaa.DqA Go.Proofs.Ytadjgbhbeamdbaa.DqB Go.Proofs.Ytadjgbhbeamdbaa.DqC Go.Proofs.Ytadjgbhbeamdbaa.DqD Go.Proofs.Ytadjgbhbeamdbaa.DqF Go.Proofs.Ytadjgbhbeamdbaa.DqI Go.Proofs.Ytadjgbhbeamdbaa.DqO Go.Proofs.Ytadjgbhbeamdbaa.DqU Go.Proofs.Ytadjgbhbeamdbaa.DqV

/-- No more than all are removed. -/
theorem rm_min (v : Int) : ∀ (l : List Int) (m : Int), rmF v l m = rmF v l (min l.length m)
  | [], m => by unfold rmF; rfl
  | x :: r, m => by
    unfold rmF
    have hlen : (((x :: r).length : Nat) : Int) = (r.length : Int) + 1 := by simp
    rw [hlen]
    by_cases hx : x = v ∧ 0 < m
    · rw [if_pos hx, if_pos ⟨hx.1, by omega⟩]
      exact (rm_min v r (m - 1)).trans ((congrArg (rmF v r) (by omega)).trans (rm_min v r (min ((r.length : Int) + 1) m - 1)).symm)
    · rw [if_neg hx]
      by_cases hm : m ≤ 0
      · rw [if_neg (by omega), show min ((r.length : Int) + 1) m = m by omega]
      · rw [if_neg (fun c => hx ⟨c.1, by omega⟩)]
        exact congrArg (x :: ·) ((rm_min v r m).trans ((congrArg (rmF v r) (by omega)).trans (rm_min v r (min ((r.length : Int) + 1) m)).symm))
def mDoc (n : Nat) (count : Int) : Int := if count = 0 then n else -count
/-- The document's Remove is the program's. -/
theorem remove_doc (l : List Int) (count v : Int) (c1 : -9223372036854775808 ≤ count) (hl : l.length ≤ 4194304) :
    removeL l count v = if count < 0 then (rmF v l.reverse (mDoc l.length count)).reverse else rmF v l (mDoc l.length (-count)) := by
  unfold removeL
  by_cases h : count < 0
  · rw [if_pos h, if_pos h]
    congr 1
    rw [rm_min v _ (mDoc l.length count), rm_min v _ (mostN l.length count)]
    congr 1
    unfold mDoc mostN
    simp only [List.length_reverse]
    grind
  · rw [if_neg h, if_neg h]
    rw [rm_min v _ (mDoc l.length (-count)), rm_min v _ (mostN l.length count)]
    congr 1
    unfold mDoc mostN
    grind

def RmPost (w : World) (l l' : List Int) (e : Ending) (w' : World) : Prop :=
  ∃ s, e = .returned (.tuple #[s, .int .i64 ((l.length : Int) - l'.length)]) ∧ OwnI w' w.heap.size s l' ∧ Below w.heap.size w w'
theorem ret_t {s : Value} {a b : Int} (h : a = b) : Ending.returned (.tuple #[s, .int .i64 a]) = .returned (.tuple #[s, .int .i64 b]) := by rw [h]

set_option maxHeartbeats 2000000 in
theorem rm_calls (A : Option Addr) (n c : Nat) (l : List Int) (count x : Int) (w : World) (hr : RdI w A n c l) (hn : n ≤ 4194304) (c1 : -9223372036854775808 ≤ count) (c2 : count ≤ 0) :
    Calls Try.prog 38 #[.slice A n c, .int .i64 count, .int .i64 x] w (RmPost w l (rmF x l (mDoc n count))) := by
  obtain rfl := rdi_len hr
  obtain ⟨M, hM⟩ : ∃ M, M = mDoc l.length count := ⟨_, rfl⟩
  have hMc : (count = 0 ∧ M = l.length) ∨ (count < 0 ∧ M = -count) := by unfold mDoc at hM; grind
  rw [← hM]
  clear hM
  obtain ⟨R, hR⟩ : ∃ R, R = rmF x l M := ⟨_, rfl⟩
  rw [← hR]
  have HR := Lib.hid hR
  clear hR
  rcases hMc with ⟨rfl, hM⟩ | ⟨hneg, hM⟩
  all_goals
    have HM := Lib.hid hM
    try (have hc0 : (count == 0) = false := by simpa using (show count ≠ 0 by omega))
    clear hM
    go_enter Try.func38, Try.ntmps38
    go_wp2_with fail
    go_loopw [8, 9, 10] (fun o gn i wr => ∃ (k G : Nat) (out : List Int), k ≤ l.length ∧ out.length + G = k ∧ gn = .int .i64 G ∧ i = .int .i64 k ∧ OwnI wr w.heap.size o out ∧ Below w.heap.size w wr ∧ Hid (R = out ++ rmF x (l.drop k) (M - G))) (fun _ _ i _ => l.length - (intOf i).toNat)
    case atStart => exact ⟨0, 0, [], Nat.zero_le _, rfl, rfl, rfl, World.ownsRow_nil _ _ _ _, ⟨rfl, rfl, rfl, Nat.le_refl _, fun _ _ => rfl⟩, by show R = _; rw [HR.out]; simp⟩
    case round =>
      obtain ⟨k, G, out, h1, h2, rfl, rfl, ho, hb, he⟩ := hrel
      obtain ⟨A', c', rfl⟩ := own_form ho
      have hsz := hb.size
      have H2 := Lib.hid h2
      have h2' : out.length ≤ k := by omega
      have h2g : G ≤ k := by omega
      clear h2
      by_cases hlt : k < l.length
      · obtain ⟨y, hy⟩ : ∃ y, l[k]? = some y := ⟨_, List.getElem?_eq_getElem hlt⟩
        obtain ⟨p, rfl, cy⟩ := (hr.below hb).get k (.int .i64 y) (ints_get hy)
        have Hy := Lib.hid hy
        clear hy
        go_wp2_with (at_builtin; refine wpList_app1 rfl (.tmp 35) (.tmp 40) elI rfl w.heap.size _ _ _ rfl ho (.int .i64 _) rfl rfl (by unfold maxLen; omega) (by omega) hsz ?_; intro v1 w1 o1 b1 f1)
        all_goals
          have hq := H2.out
          have hM := HM.out
        all_goals first
          | (have C : y = x ∧ 0 < M - (G : Int) := by (try simp only [beq_iff_eq, beq_eq_false_iff_ne, ne_eq] at *); exact ⟨by assumption, by omega⟩
             exact ⟨⟨k + 1, G + 1, out, by omega, by omega, by go_num, by go_num, ho, hb, he.out.trans (by rw [rm_gone Hy.out C.1 C.2]; congr 2; omega)⟩, by simp [intOf]; omega⟩)
          | (have C : ¬ (y = x ∧ 0 < M - (G : Int)) := by (try simp only [beq_iff_eq, beq_eq_false_iff_ne, ne_eq] at *); rintro ⟨e1, e2⟩; first | contradiction | omega
             exact ⟨⟨k + 1, G, out ++ [y], by omega, by simp; omega, rfl, by go_num, (by first | exact own_snoc o1 | (rw [(by assumption : y = x)]; exact own_snoc o1)), b1.after hb (Nat.le_refl _) (fun b hb => (ho.lt b hb).1), he.out.trans (rm_keep Hy.out C)⟩, by simp [intOf]; omega⟩)
      · obtain rfl : k = l.length := by omega
        have hR2 : R = out := by rw [he.out, List.drop_of_length_le (by omega)]; simp [rmF]
        have HR2 := Lib.hid hR2
        clear hR2
        go_wp2_with fail
        go_ret2
        have hq := H2.out
        refine ⟨.slice A' out.length c', ?_, by rw [HR2.out]; exact ho, hb⟩
        rw [HR2.out]
        exact ret_t (by omega)

set_option maxHeartbeats 1000000 in
theorem rRemove_calls (A : Option Addr) (n c : Nat) (l : List Int) (count x : Int) (w : World) (hr : RdI w A n c l) (hn : n ≤ 4194304) (c1 : -9223372036854775808 ≤ count) (c2 : count ≤ 9223372036854775807) :
    Calls Try.prog 16 #[.slice A n c, .int .i64 count, .int .i64 x] w (RmPost w l (removeL l count x)) := by
  obtain rfl := rdi_len hr
  have hdoc := remove_doc l count x c1 hn
  by_cases hneg : count < 0
  · rw [if_pos hneg] at hdoc
    have HD := Lib.hid hdoc
    clear hdoc
    go_enter Try.func16, Try.ntmps16
    go_wp2_with fail
    refine (turned_calls A _ c l w hr (by omega)).mono ?_
    rintro e w1 ⟨s1, rfl, o1, b1⟩
    obtain ⟨A1, c1', rfl⟩ := own_form o1
    have r1 := Rd.of_own o1
    rw [List.length_reverse] at r1
    go_wp2_with fail
    refine (rm_calls A1 _ c1' l.reverse count x w1 r1 hn c1 (by omega)).mono ?_
    rintro e w2 ⟨s2, rfl, o2, b2⟩
    obtain ⟨T, hT⟩ : ∃ T, T = rmF x l.reverse (mDoc l.length count) := ⟨_, rfl⟩
    have hTl : T.length ≤ l.length := by rw [hT]; have := rm_len x l.reverse (mDoc l.length count); simpa using this
    rw [List.length_reverse, ← hT]
    rw [← hT] at o2
    rw [← hT] at HD
    clear hT
    obtain ⟨A2, c2', rfl⟩ := own_form o2
    go_wp2_with fail
    refine (turned_calls A2 _ c2' T w2 (Rd.of_own o2) (by omega)).mono ?_
    rintro e w3 ⟨s3, rfl, o3, b3⟩
    obtain ⟨U, hU⟩ : ∃ U, U = T.reverse := ⟨_, rfl⟩
    rw [← hU] at o3
    have hUl : T.length = U.length := by rw [hU]; simp
    have HU := Lib.hid hU
    have HUl := Lib.hid hUl
    clear hU hUl
    obtain ⟨A3, c3', rfl⟩ := own_form o3
    go_wp2_with fail
    go_ret2
    refine ⟨.slice A3 U.length c3', ?_, ?_, below_new (below_new b1 b2) b3⟩
    · rw [HD.out, ← HU.out]
      exact ret_t (by have := HUl.out; omega)
    · rw [HD.out, ← HU.out]
      exact own_less o3 (Nat.le_trans b1.size b2.size)
  · rw [if_neg hneg] at hdoc
    have HD := Lib.hid hdoc
    clear hdoc
    go_enter Try.func16, Try.ntmps16
    go_wp2_with fail
    refine (rm_calls A _ c l (-count) x w hr hn (by omega) (by omega)).mono ?_
    rintro e w2 ⟨s2, rfl, o2, b2⟩
    rw [← HD.out] at o2
    rw [← HD.out]
    obtain ⟨T, hT⟩ : ∃ T, T = removeL l count x := ⟨_, rfl⟩
    rw [← hT] at o2
    rw [← hT]
    have HT := Lib.hid hT
    clear hT HD
    obtain ⟨A2, c2', rfl⟩ := own_form o2
    go_wp2_with fail
    go_ret2
    exact ⟨.slice A2 T.length c2', by rw [← HT.out]; rfl, by rw [← HT.out]; exact o2, b2⟩
end Go.Proofs.Ytadjgbhbeamdbaa.DqX
