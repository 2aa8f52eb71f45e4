/-
  The document's Find. Conditions: as stated.
-/
import Derived.Test.YtiffdkagmnpjiaaTbI
import Derived.Test.YtiffdkagmnpjiaaTbC
import Derived.Deep.RegionHeld3
import Derived.Laws.ResultCell
set_option maxRecDepth 100000
set_option linter.unusedSimpArgs false
set_option linter.unusedVariables false
namespace Go.Proofs.Ytiffdkagmnpjiaa.TbJ
open Go.RowKit Go.Proofs.Ytiffdkagmnpjiaa.Mem Go.Proofs.Ytiffdkagmnpjiaa.TbA Go.Proofs.Ytiffdkagmnpjiaa.TbB Go.Proofs.Ytiffdkagmnpjiaa.Bytes Go.Proofs.Ytiffdkagmnpjiaa.TbI

def Hq (w w' : World) (p : Addr) (c k : Nat) (xn : ByteArray) : Prop :=
  RdP w' (some p) 118 c rowsL ∧ w'.heap[w.heap.size]? = some (.cells #[.string ⟨#[]⟩, .int .i64 0, .bool false, .bool false, .int .i64 0, .int .i64 0, .int .i64 0] 23 (0, 0)) ∧ Below w.heap.size w w' ∧ w'.cell? (p.add (k * 7)) = some (.string xn)
variable {w w' w'' : World} {p : Addr} {c k : Nat} {xn : ByteArray}
theorem hq_drew (h : Hq w w' p c k xn) : Hq w w'.drew p c k xn := ⟨⟨h.1.len, h.1.cap, h.1.big, h.1.get⟩, h.2.1, h.2.2.1.drew, h.2.2.2⟩
theorem hq_drawn (h : Hq w w' p c k xn) (n : Nat) : Hq w (w'.drewN n) p c k xn := ⟨h.1.drawn n, h.2.1, h.2.2.1.trans ⟨rfl, rfl, rfl, Nat.le_refl _, fun _ _ => rfl⟩, h.2.2.2⟩
theorem hq_below (h : Hq w w' p c k xn) (hb : Below w'.heap.size w' w'') : Hq w w'' p c k xn := by
  refine ⟨h.1.below hb, ?_, h.2.2.1.trans (hb.mono h.2.2.1.size), ?_⟩
  · rw [hb.block _ (Array.getElem?_eq_some_iff.1 h.2.1).1]; exact h.2.1
  · have hlt : (p.add (k * 7)).block < w'.heap.size := by
      rcases Nat.lt_or_ge (p.add (k * 7)).block w'.heap.size with hlt | hge
      · exact hlt
      · have := h.2.2.2
        simp [World.cell?, Array.getElem?_eq_none hge] at this
    exact (hb.cell hlt).trans h.2.2.2
set_option maxHeartbeats 2000000 in
theorem findR_calls (s : ByteArray) (w : World) (hs : s.size ≤ 281474976710656) :
    Calls Try.prog 9 #[.string s] w fun e w' => e = .returned (findV (findD s)) ∧ Below w.heap.size w w' := by
  go_enter Try.func9, Try.ntmps9
  go_wp2_with fail
  refine (TbC.rows_calls _).mono ?_
  rintro e w2 ⟨v, rfl, ho, b2⟩
  obtain ⟨A, c, rfl⟩ := own_form ho
  rw [TbG.rowsL_len] at ho ⊢
  have hr := Rd.of_own ho
  have B2 : Below w.heap.size w w2 := (al w _).trans (b2.mono (al w _).size)
  have hz2 : w2.heap[w.heap.size]? = some (.cells #[.string ⟨#[]⟩, .int .i64 0, .bool false, .bool false, .int .i64 0, .int .i64 0, .int .i64 0] 23 (0, 0)) := by rw [b2.block _ (by simp)]; exact heap_alloc_new w _
  clear ho b2
  obtain ⟨L, hL⟩ : ∃ L, L = low s := ⟨_, rfl⟩
  have HL := Lib.hid hL
  have hF : Hid (findD s = (rowsL.drop 0).find? fun r => r.name.toList == L.toList) := by show _ = _; rw [hL]; rfl
  clear hL
  have hlen := Lib.hid TbG.rowsL_len
  have hcap := hr.cap
  have hlow : Hid (∀ W, Calls Try.prog 11 #[.string s] W fun e w' => e = .returned (.string L) ∧ Below W.heap.size W w') := fun W => by rw [HL.out]; exact TbH.lowerR_calls s W hs
  clear HL
  go_wp2_with fail
  go_loopw [5] (fun i wr => ∃ k : Nat, k ≤ 118 ∧ i = .int .i64 k ∧ Hid (findD s = (rowsL.drop k).find? fun r => r.name.toList == L.toList) ∧ RdP wr A 118 c rowsL ∧ wr.heap[w.heap.size]? = some (.cells #[.string ⟨#[]⟩, .int .i64 0, .bool false, .bool false, .int .i64 0, .int .i64 0, .int .i64 0] 23 (0, 0)) ∧ Below w.heap.size w wr) (fun i _ => 118 - (intOf i).toNat)
  case atStart => exact ⟨0, Nat.zero_le _, rfl, hF, hr, hz2, B2⟩
  case round =>
    clear hF hr hz2 B2
    obtain ⟨k, hk, rfl, hF, hr, hz, hb⟩ := hrel
    by_cases hlt : k < 118
    · obtain ⟨x, hx⟩ : ∃ x, rowsL[k]? = some x := ⟨_, List.getElem?_eq_getElem (by rw [hlen.out]; exact hlt)⟩
      obtain ⟨p, rfl, x0, -⟩ := rdp_get hr hx
      have Hx := Lib.hid hx
      have hd : Hid (rowsL.drop k = x :: rowsL.drop (k + 1)) := by
        obtain ⟨h1, h2⟩ := List.getElem?_eq_some_iff.1 hx
        show _ = _; rw [← h2]; exact List.drop_eq_getElem_cons h1
      clear hx
      obtain ⟨xn, xa, xw, xc, xf, xl, xs⟩ := x
      have S14 : Hq w wr p c k xn := ⟨hr, hz, hb, x0⟩
      clear hr hz hb
      go_upto_region 5 with fail
      go_region_held3 (fun w' => Hq w w' p c k xn ∧ w'.cell? (p.add (k * 7)) = some (.string xn))
        (first
          | exact ⟨hq_drew S14, (hq_drew S14).2.2.2⟩
          | exact ⟨hq_below (And.left (by assumption)) (by assumption), (hq_below (And.left (by assumption)) (by assumption)).2.2.2⟩
          | exact ⟨hq_drawn (And.left (by assumption)) _, (hq_drawn (And.left (by assumption)) _).2.2.2⟩
          | assumption)
        (first
          | (go_at_call 11; refine (hlow.out _).mono ?_; rintro e w15 ⟨rfl, hb15⟩))
      obtain ⟨⟨hr, hz, hb, -⟩, -⟩ := ‹Hq w w15 p c k xn ∧ _›
      obtain ⟨p', e', x0, x1, x2, x3, x4, x5, x6⟩ := rdp_get hr Hx.out
      injection e' with e'; subst e'
      simp only at x0 x1 x2 x3 x4 x5 x6
      clear S14 hb15 Hx
      by_cases he : xn.toList = L.toList
      · have hq : (xn.toList == L.toList) = true := by simpa using he
        have hv : Hid (findD s = some ⟨xn, xa, xw, xc, xf, xl, xs⟩) := by
          show _ = _
          rw [hF.out, hd.out, List.find?_cons_of_pos (by simpa using he)]
        have z0 : w15.cell? ⟨w.heap.size, 0, none⟩ = some (.string ⟨#[]⟩) := by simp [World.cell?, hz]
        have y0 : w15.frozen? ⟨w.heap.size, 0, none⟩ = false := by simp [World.frozen?, hz]
        have z1 : w15.cell? ⟨w.heap.size, 1, none⟩ = some (.int .i64 0) := by simp [World.cell?, hz]
        have y1 : w15.frozen? ⟨w.heap.size, 1, none⟩ = false := by simp [World.frozen?, hz]
        have z2 : w15.cell? ⟨w.heap.size, 2, none⟩ = some (.bool false) := by simp [World.cell?, hz]
        have y2 : w15.frozen? ⟨w.heap.size, 2, none⟩ = false := by simp [World.frozen?, hz]
        have z3 : w15.cell? ⟨w.heap.size, 3, none⟩ = some (.bool false) := by simp [World.cell?, hz]
        have y3 : w15.frozen? ⟨w.heap.size, 3, none⟩ = false := by simp [World.frozen?, hz]
        have z4 : w15.cell? ⟨w.heap.size, 4, none⟩ = some (.int .i64 0) := by simp [World.cell?, hz]
        have y4 : w15.frozen? ⟨w.heap.size, 4, none⟩ = false := by simp [World.frozen?, hz]
        have z5 : w15.cell? ⟨w.heap.size, 5, none⟩ = some (.int .i64 0) := by simp [World.cell?, hz]
        have y5 : w15.frozen? ⟨w.heap.size, 5, none⟩ = false := by simp [World.frozen?, hz]
        have z6 : w15.cell? ⟨w.heap.size, 6, none⟩ = some (.int .i64 0) := by simp [World.cell?, hz]
        have y6 : w15.frozen? ⟨w.heap.size, 6, none⟩ = false := by simp [World.frozen?, hz]
        have h7 := Lib.hid (set7 (.string xn) (.int .i64 xa) (.bool xw) (.bool xc) (.int .i64 xf) (.int .i64 xl) (.int .i64 xs) hz hb (Nat.le_refl _))
        clear hF hd hz
        rw [hq]
        go_wp2_with fail
        obtain ⟨W7, hW7, hb7, q0, q1, q2, q3, q4, q5, q6⟩ := h7.out
        clear h7
        rw [← hW7]
        clear hW7
        (try simp only [Exit.inBlock, Exit.then])
        refine bodyPost_ret (v := .tuple #[.agg #[.string xn, .int .i64 xa, .bool xw, .bool xc, .int .i64 xf, .int .i64 xl, .int .i64 xs], .bool true]) ?_ rfl ⟨by rw [hv.out]; rfl, hb7⟩
        rw [results_cell_tmp rfl]
        go_simp
      · have hq : (xn.toList == L.toList) = false := by simpa using he
        have hF2 : Hid (findD s = (rowsL.drop (k + 1)).find? fun r => r.name.toList == L.toList) := by
          show _ = _
          rw [hF.out, hd.out, List.find?_cons_of_neg (by simpa using he)]
        clear hF hd
        rw [hq]
        go_wp2_with fail
        exact ⟨⟨k + 1, by omega, by go_num, hF2, hr, hz, hb⟩, by simp [intOf]; omega⟩
    · obtain rfl : k = 118 := by omega
      have hv : findD s = none := by rw [hF.out, List.drop_of_length_le (by rw [hlen.out]; exact Nat.le_refl _)]; rfl
      have Hv := Lib.hid hv
      have z0 : wr.cell? ⟨w.heap.size, 0, none⟩ = some (.string ⟨#[]⟩) := by simp [World.cell?, hz]
      have y0 : wr.frozen? ⟨w.heap.size, 0, none⟩ = false := by simp [World.frozen?, hz]
      have z1 : wr.cell? ⟨w.heap.size, 1, none⟩ = some (.int .i64 0) := by simp [World.cell?, hz]
      have y1 : wr.frozen? ⟨w.heap.size, 1, none⟩ = false := by simp [World.frozen?, hz]
      have z2 : wr.cell? ⟨w.heap.size, 2, none⟩ = some (.bool false) := by simp [World.cell?, hz]
      have y2 : wr.frozen? ⟨w.heap.size, 2, none⟩ = false := by simp [World.frozen?, hz]
      have z3 : wr.cell? ⟨w.heap.size, 3, none⟩ = some (.bool false) := by simp [World.cell?, hz]
      have y3 : wr.frozen? ⟨w.heap.size, 3, none⟩ = false := by simp [World.frozen?, hz]
      have z4 : wr.cell? ⟨w.heap.size, 4, none⟩ = some (.int .i64 0) := by simp [World.cell?, hz]
      have y4 : wr.frozen? ⟨w.heap.size, 4, none⟩ = false := by simp [World.frozen?, hz]
      have z5 : wr.cell? ⟨w.heap.size, 5, none⟩ = some (.int .i64 0) := by simp [World.cell?, hz]
      have y5 : wr.frozen? ⟨w.heap.size, 5, none⟩ = false := by simp [World.frozen?, hz]
      have z6 : wr.cell? ⟨w.heap.size, 6, none⟩ = some (.int .i64 0) := by simp [World.cell?, hz]
      have y6 : wr.frozen? ⟨w.heap.size, 6, none⟩ = false := by simp [World.frozen?, hz]
      clear hv hF
      have h7 := Lib.hid (set7 (.string ⟨#[]⟩) (.int .i64 0) (.bool false) (.bool false) (.int .i64 0) (.int .i64 0) (.int .i64 0) hz hb (Nat.le_refl _))
      clear hz
      go_wp2_with fail
      obtain ⟨W7, hW7, hb7, q0, q1, q2, q3, q4, q5, q6⟩ := h7.out
      clear h7
      rw [← hW7]
      clear hW7
      (try simp only [Exit.inBlock, Exit.then])
      refine bodyPost_ret (v := .tuple #[.agg #[.string ⟨#[]⟩, .int .i64 0, .bool false, .bool false, .int .i64 0, .int .i64 0, .int .i64 0], .bool false]) ?_ rfl ⟨by rw [Hv.out]; rfl, hb7⟩
      rw [results_cell_tmp rfl]
      go_simp
end Go.Proofs.Ytiffdkagmnpjiaa.TbJ
