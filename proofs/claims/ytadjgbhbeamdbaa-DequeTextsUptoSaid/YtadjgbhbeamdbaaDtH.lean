/-
  What a Deque's Insert hands back and leaves. Conditions: as stated.
-/
import Derived.Test.YtadjgbhbeamdbaaDtG
set_option maxRecDepth 100000
set_option linter.unusedSimpArgs false
set_option linter.unusedVariables false
namespace Go.Proofs.Ytadjgbhbeamdbaa.DtH
open Go.RowKit Go.Proofs.Ytadjgbhbeamdbaa.Mem Go.Proofs.Ytadjgbhbeamdbaa.DtA Go.Proofs.Ytadjgbhbeamdbaa.DtB Go.Proofs.Ytadjgbhbeamdbaa.DtD Go.Proofs.Ytadjgbhbeamdbaa.DtF Go.Proofs.Ytadjgbhbeamdbaa.DtG

/-- The list with x at place i. -/
def insAt (l : List ByteArray) (i : Nat) (x : ByteArray) : List ByteArray := l.take i ++ x :: l.drop i
/-- Where Insert puts it: beside the first pivot. -/
def InsPost (B g : Nat) (v : Value) (l : List ByteArray) (before : Bool) (p x : ByteArray) (w : World) (e : Ending) (w' : World) : Prop :=
  (p ∉ l ∧ e = .returned (.int .i64 (-1)) ∧ ∃ nd, w' = w.drewN nd) ∨
  ∃ (i : Nat) (v' : Value), l[i]? = some p ∧ p ∉ l.take i ∧ e = .returned (.int .i64 ((l.length : Int) + 1)) ∧ Dq w' B g v' (insAt l (if before then i else i + 1) x) ∧ Only (fun k => k = g) w w' ∧ (∀ k, v'.ownBlock = some k → w.heap.size ≤ k) ∧ Fresh w' B g v' (insAt l (if before then i else i + 1) x)

set_option maxHeartbeats 400000 in
theorem insert_calls (B g : Nat) (v : Value) (l : List ByteArray) (before : Bool) (p x : ByteArray) (w : World) (hd : Dq w B g v l) (hlt : l.length < 8796093022208) :
    Calls Try.prog 20 #[.pointer (some ⟨g, 0, none⟩), .bool before, .string p, .string x] w (InsPost B g v l before p x w) := by
  go_enter Try.func20, Try.ntmps20
  go_wp2_with fail
  refine (all_calls B g v l _ hd).mono ?_
  rintro e w1 ⟨A, n, c, nd, rfl, hr, hn, hA, rfl⟩
  obtain rfl := hn
  go_wp2_with fail
  refine (index_calls A l.length c l p _ (hr.drawn nd)).mono ?_
  rintro e w1 ⟨r, rfl, hi, rfl⟩
  rcases hi with ⟨hno, rfl⟩ | ⟨i, hi, hno, rfl⟩
  · go_wp2_with fail
    go_ret
    exact .inl ⟨hno, rfl, _, rfl⟩
  · have hil : i < l.length := (List.getElem?_eq_some_iff.1 hi).1
    have Hi := Lib.hid hi
    clear hi
    obtain ⟨k, hk, hki⟩ : ∃ k, k = (if before then i else i + 1) ∧ k ≤ l.length := ⟨_, rfl, by split <;> omega⟩
    have Hk : Hid (k = (if before = true then i else i + 1)) := hk
    clear hk
    cases before
    all_goals
      go_wp2_with fail
      refine (all_calls B g v l _ (hd.drawn nd)).mono ?_
      rintro e w1 ⟨A2, n2, c2, nd2, rfl, hr2, hn2, hA2, rfl⟩
      obtain rfl := hn2
      go_wp2_with fail
      refine (clone_calls A2 l.length c2 l (w.drewN (nd + nd2)) ⟨hr2.len, hr2.cap, hr2.big, hr2.get⟩ (by omega)).mono ?_
      rintro e w1 ⟨v1, rfl, ho, hb⟩
      obtain ⟨A1, c1, rfl⟩ := own_form ho
      have hb0 : Below w.heap.size w w1 := ⟨hb.os, hb.tape, hb.output, hb.size, hb.block⟩
      have ho0 : OwnI w1 w.heap.size (.slice A1 l.length c1) l := ho
      clear hb ho
      go_wp2_with fail
      simp only [Bool.false_eq_true, if_false, if_true] at Hk
      have hke := Hk.out
      obtain rfl := hke
      have hz := hb0.size
      have hl3 := ins_len l _ x hki
      refine (insert_one A1 c1 l _ x w1 w.heap.size ho0 hki hlt hz).mono ?_
      rintro e w3 ⟨v3, rfl, ho3, hb3⟩
      generalize hLL : l.take _ ++ x :: l.drop _ = L at ho3 hl3
      have HL := Lib.hid hLL
      clear hLL
      obtain ⟨A3, c3, rfl⟩ := own_form ho3
      have hb4 : Below w.heap.size w w3 := hb0.trans hb3
      obtain ⟨c0, ⟨f0, cc1⟩, fz0, fz1⟩ := dq_cells hd hb4
      have hN := dq_new hd hb4 ho3 (by rw [hl3]; omega) rfl
      have Hl3 := Lib.hid hl3
      clear hl3
      go_wp2_with fail
      refine (len_calls _ _ _ _ _ hN.1).mono ?_
      rintro e w5 ⟨rfl, nd5, rfl⟩
      go_wp2_with fail
      go_ret
      refine .inr ⟨_, _, Hi.out, hno, by rw [Hl3.out]; rfl, ?_, hN.2.1.drawn nd5, hN.2.2.1, ?_⟩
      · have hfin := hN.1.drawn nd5
        rw [← HL.out] at hfin
        unfold insAt
        simp only [Bool.false_eq_true, if_false, if_true]
        rw [HL.out]
        rw [HL.out] at hfin
        exact hfin
      · have hfin := hN.2.2.2
        unfold insAt
        simp only [Bool.false_eq_true, if_false, if_true]
        rw [HL.out]
        exact ⟨hfin.1, hfin.2.1, hfin.2.2.1, hfin.2.2.2⟩
end Go.Proofs.Ytadjgbhbeamdbaa.DtH
