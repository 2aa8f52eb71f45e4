/-
  table.Find: the first row of a name. Conditions: as stated.
-/
import Derived.Test.YtiffdkagmnpjiaaTbH
import Derived.Laws.ResultCell
set_option maxRecDepth 100000
set_option linter.unusedSimpArgs false
set_option linter.unusedVariables false
namespace Go.Proofs.Ytiffdkagmnpjiaa.TbI
open Go.RowKit Go.Proofs.Ytiffdkagmnpjiaa.Mem Go.Proofs.Ytiffdkagmnpjiaa.TbA Go.Proofs.Ytiffdkagmnpjiaa.TbB Go.Proofs.Ytiffdkagmnpjiaa.Bytes

abbrev low (s : ByteArray) : ByteArray := ⟨(lowL s.data.toList).toArray⟩
def findD (s : ByteArray) : Option Sp := rowsL.find? fun r => r.name.toList == (low s).toList
def findV (o : Option Sp) : Value := match o with
  | some x => .tuple #[.agg (spV x).toArray, .bool true]
  | none => .tuple #[.agg (spV default).toArray, .bool false]
theorem rdp_get {w : World} {A : Option Addr} {n c : Nat} {l : List Sp} (h : RdP w A n c l) {k : Nat} {x : Sp} (hx : l[k]? = some x) :
    ∃ p, A = some p ∧ w.cell? (p.add (k * 7)) = some (.string x.name) ∧ w.cell? ⟨(p.add (k * 7)).block, (p.add (k * 7)).off + 1, none⟩ = some (.int .i64 x.ar) ∧ w.cell? ⟨(p.add (k * 7)).block, (p.add (k * 7)).off + 2, none⟩ = some (.bool x.wr) ∧ w.cell? ⟨(p.add (k * 7)).block, (p.add (k * 7)).off + 3, none⟩ = some (.bool x.ct) ∧ w.cell? ⟨(p.add (k * 7)).block, (p.add (k * 7)).off + 4, none⟩ = some (.int .i64 x.fi) ∧ w.cell? ⟨(p.add (k * 7)).block, (p.add (k * 7)).off + 5, none⟩ = some (.int .i64 x.la) ∧ w.cell? ⟨(p.add (k * 7)).block, (p.add (k * 7)).off + 6, none⟩ = some (.int .i64 x.st) := by
  have g := fun c (hc : c < 7) => TbF.sps_get l k c x hx hc
  obtain ⟨p, e, h0⟩ := h.get (k * 7) _ (by have := g 0 (by omega); simpa [spV] using this)
  subst e
  have f : ∀ c u, 0 < c → c < 7 → (spV x)[c]? = some u → w.cell? ⟨(p.add (k * 7)).block, (p.add (k * 7)).off + c, none⟩ = some u := fun c u h0 hc hu => by
    obtain ⟨q, e, h1⟩ := h.get (k * 7 + c) u (by rw [g c hc, hu])
    injection e with e; subst e
    rw [← h1, ← add_add]
    congr 1
    generalize p.add (k * 7) = r
    unfold Addr.add
    rw [if_neg (by omega)]
  exact ⟨p, rfl, h0, f 1 _ (by omega) (by omega) rfl, f 2 _ (by omega) (by omega) rfl, f 3 _ (by omega) (by omega) rfl, f 4 _ (by omega) (by omega) rfl, f 5 _ (by omega) (by omega) rfl, f 6 _ (by omega) (by omega) rfl⟩
theorem set7 {w0 w : World} {g B : Nat} {t : TypeId} {a0 a1 a2 a3 a4 a5 a6 : Value} (b0 b1 b2 b3 b4 b5 b6 : Value) (h : w.heap[g]? = some (.cells #[a0, a1, a2, a3, a4, a5, a6] t (0, 0))) (hb : Below B w0 w) (hB : B ≤ g) :
    ∃ w', w' = (((((((w.setCell ⟨g, 0, none⟩ b0).setCell ⟨g, 1, none⟩ b1).setCell ⟨g, 2, none⟩ b2).setCell ⟨g, 3, none⟩ b3).setCell ⟨g, 4, none⟩ b4).setCell ⟨g, 5, none⟩ b5).setCell ⟨g, 6, none⟩ b6) ∧ Below B w0 w' ∧ w'.cell? ⟨g, 0, none⟩ = some b0 ∧ w'.cell? ⟨g, 1, none⟩ = some b1 ∧ w'.cell? ⟨g, 2, none⟩ = some b2 ∧ w'.cell? ⟨g, 3, none⟩ = some b3 ∧ w'.cell? ⟨g, 4, none⟩ = some b4 ∧ w'.cell? ⟨g, 5, none⟩ = some b5 ∧ w'.cell? ⟨g, 6, none⟩ = some b6 := by
  refine ⟨_, rfl, ((((((hb.setCell (p := ⟨g, 0, none⟩) hB b0).setCell (p := ⟨g, 1, none⟩) hB b1).setCell (p := ⟨g, 2, none⟩) hB b2).setCell (p := ⟨g, 3, none⟩) hB b3).setCell (p := ⟨g, 4, none⟩) hB b4).setCell (p := ⟨g, 5, none⟩) hB b5).setCell (p := ⟨g, 6, none⟩) hB b6, ?_⟩
  simp [World.cell?, World.setCell, Array.getElem?_modify, h]
set_option maxHeartbeats 2000000 in
theorem find_calls (s : ByteArray) (w : World) (hs : s.size ≤ 281474976710656) :
    Calls Try.prog 8 #[.string s] w fun e w' => e = .returned (findV (findD s)) ∧ Below w.heap.size w w' := by
  go_enter Try.func8, Try.ntmps8
  go_wp2_with fail
  refine (TbH.lower_calls s _ hs).mono ?_
  rintro e w1 ⟨rfl, b1⟩
  obtain ⟨L, hL⟩ : ∃ L, L = low s := ⟨_, rfl⟩
  rw [show (⟨(lowL s.data.toList).toArray⟩ : ByteArray) = L from hL.symm]
  have HL := Lib.hid hL
  clear hL
  go_wp2_with fail
  refine (TbG.all_calls _).mono ?_
  rintro e w2 ⟨A, rfl, hr, hA, b2⟩
  obtain ⟨Z, hZ⟩ : ∃ Z : Obj, Z = (.cells #[.string ⟨#[]⟩, .int .i64 0, .bool false, .bool false, .int .i64 0, .int .i64 0, .int .i64 0] 23 (0, 0) : Obj) := ⟨_, rfl⟩
  have B1 : Below w.heap.size w w1 := (al w _).trans (b1.mono (al w _).size)
  have hz1 : w1.heap[w.heap.size]? = some Z := by rw [b1.block _ (by simp), hZ]; exact heap_alloc_new w _
  have hz2 : w2.heap[w.heap.size]? = some Z := by rw [b2.block _ (Array.getElem?_eq_some_iff.1 hz1).1]; exact hz1
  have B2 : Below w.heap.size w w2 := B1.trans (b2.mono B1.size)
  have hF : Hid (findD s = (rowsL.drop 0).find? fun r => r.name.toList == L.toList) := by show _ = _; rw [HL.out]; rfl
  have hlen := Lib.hid TbG.rowsL_len
  clear b1 b2 B1 hz1 hA
  go_wp2_with fail
  go_loopw [10] (fun i wr => ∃ k : Nat, k ≤ 118 ∧ i = .int .i64 k ∧ Hid (findD s = (rowsL.drop k).find? fun r => r.name.toList == L.toList) ∧ RdP wr A 118 118 rowsL ∧ wr.heap[w.heap.size]? = some Z ∧ Below w.heap.size w wr) (fun i _ => 118 - (intOf i).toNat)
  case atStart => exact ⟨0, Nat.zero_le _, rfl, hF, hr, hz2, B2⟩
  case round =>
    clear hF hr hz2 B2
    obtain ⟨k, hk, rfl, hF, hr, hz, hb⟩ := hrel
    subst hZ
    have z0 : wr.cell? ⟨w.heap.size, 0, none⟩ = some (.string ⟨#[]⟩) := by simp [World.cell?, hz]
    have y0 : wr.frozen? ⟨w.heap.size, 0, none⟩ = false := by simp [World.frozen?, hz]
    have z1 : wr.cell? ⟨w.heap.size, 1, none⟩ = some (.int .i64 0) := by simp [World.cell?, hz]
    have y1 : wr.frozen? ⟨w.heap.size, 1, none⟩ = false := by simp [World.frozen?, hz]
    have z2 : wr.cell? ⟨w.heap.size, 2, none⟩ = some (.bool false) := by simp [World.cell?, hz]
    have y2 : wr.frozen? ⟨w.heap.size, 2, none⟩ = false := by simp [World.frozen?, hz]
    have z3 : wr.cell? ⟨w.heap.size, 3, none⟩ = some (.bool false) := by simp [World.cell?, hz]
    have y3 : wr.frozen? ⟨w.heap.size, 3, none⟩ = false := by simp [World.frozen?, hz]
    have z4 : wr.cell? ⟨w.heap.size, 4, none⟩ = some (.int .i64 0) := by simp [World.cell?, hz]
    have y4 : wr.frozen? ⟨w.heap.size, 4, none⟩ = false := by simp [World.frozen?, hz]
    have z5 : wr.cell? ⟨w.heap.size, 5, none⟩ = some (.int .i64 0) := by simp [World.cell?, hz]
    have y5 : wr.frozen? ⟨w.heap.size, 5, none⟩ = false := by simp [World.frozen?, hz]
    have z6 : wr.cell? ⟨w.heap.size, 6, none⟩ = some (.int .i64 0) := by simp [World.cell?, hz]
    have y6 : wr.frozen? ⟨w.heap.size, 6, none⟩ = false := by simp [World.frozen?, hz]
    by_cases hlt : k < 118
    · obtain ⟨x, hx⟩ : ∃ x, rowsL[k]? = some x := ⟨_, List.getElem?_eq_getElem (by rw [hlen.out]; exact hlt)⟩
      obtain ⟨p, rfl, x0, x1, x2, x3, x4, x5, x6⟩ := rdp_get hr hx
      have hd : Hid (rowsL.drop k = x :: rowsL.drop (k + 1)) := by
        obtain ⟨h1, h2⟩ := List.getElem?_eq_some_iff.1 hx
        show _ = _; rw [← h2]; exact List.drop_eq_getElem_cons h1
      clear hx
      obtain ⟨xn, xa, xw, xc, xf, xl, xs⟩ := x
      simp only at x0 x1 x2 x3 x4 x5 x6
      by_cases he : xn.toList = L.toList
      · have hq : (xn.toList == L.toList) = true := by simpa using he
        have hv : Hid (findD s = some ⟨xn, xa, xw, xc, xf, xl, xs⟩) := by
          show _ = _
          rw [hF.out, hd.out, List.find?_cons_of_pos (by simpa using he)]
        have hz2 : (wr.alloc (.cells #[.string xn, .int .i64 xa, .bool xw, .bool xc, .int .i64 xf, .int .i64 xl, .int .i64 xs] 23)).heap[w.heap.size]? = some (.cells #[.string ⟨#[]⟩, .int .i64 0, .bool false, .bool false, .int .i64 0, .int .i64 0, .int .i64 0] 23 (0, 0)) := by
          rw [RowKit.Below.heap_alloc _ _ _ (Array.getElem?_eq_some_iff.1 hz).1]; exact hz
        have z0 : (wr.alloc (.cells #[.string xn, .int .i64 xa, .bool xw, .bool xc, .int .i64 xf, .int .i64 xl, .int .i64 xs] 23)).cell? ⟨w.heap.size, 0, none⟩ = some (.string ⟨#[]⟩) := by simp [World.cell?, hz2]
        have y0 : (wr.alloc (.cells #[.string xn, .int .i64 xa, .bool xw, .bool xc, .int .i64 xf, .int .i64 xl, .int .i64 xs] 23)).frozen? ⟨w.heap.size, 0, none⟩ = false := by simp [World.frozen?, hz2]
        have z1 : (wr.alloc (.cells #[.string xn, .int .i64 xa, .bool xw, .bool xc, .int .i64 xf, .int .i64 xl, .int .i64 xs] 23)).cell? ⟨w.heap.size, 1, none⟩ = some (.int .i64 0) := by simp [World.cell?, hz2]
        have y1 : (wr.alloc (.cells #[.string xn, .int .i64 xa, .bool xw, .bool xc, .int .i64 xf, .int .i64 xl, .int .i64 xs] 23)).frozen? ⟨w.heap.size, 1, none⟩ = false := by simp [World.frozen?, hz2]
        have z2 : (wr.alloc (.cells #[.string xn, .int .i64 xa, .bool xw, .bool xc, .int .i64 xf, .int .i64 xl, .int .i64 xs] 23)).cell? ⟨w.heap.size, 2, none⟩ = some (.bool false) := by simp [World.cell?, hz2]
        have y2 : (wr.alloc (.cells #[.string xn, .int .i64 xa, .bool xw, .bool xc, .int .i64 xf, .int .i64 xl, .int .i64 xs] 23)).frozen? ⟨w.heap.size, 2, none⟩ = false := by simp [World.frozen?, hz2]
        have z3 : (wr.alloc (.cells #[.string xn, .int .i64 xa, .bool xw, .bool xc, .int .i64 xf, .int .i64 xl, .int .i64 xs] 23)).cell? ⟨w.heap.size, 3, none⟩ = some (.bool false) := by simp [World.cell?, hz2]
        have y3 : (wr.alloc (.cells #[.string xn, .int .i64 xa, .bool xw, .bool xc, .int .i64 xf, .int .i64 xl, .int .i64 xs] 23)).frozen? ⟨w.heap.size, 3, none⟩ = false := by simp [World.frozen?, hz2]
        have z4 : (wr.alloc (.cells #[.string xn, .int .i64 xa, .bool xw, .bool xc, .int .i64 xf, .int .i64 xl, .int .i64 xs] 23)).cell? ⟨w.heap.size, 4, none⟩ = some (.int .i64 0) := by simp [World.cell?, hz2]
        have y4 : (wr.alloc (.cells #[.string xn, .int .i64 xa, .bool xw, .bool xc, .int .i64 xf, .int .i64 xl, .int .i64 xs] 23)).frozen? ⟨w.heap.size, 4, none⟩ = false := by simp [World.frozen?, hz2]
        have z5 : (wr.alloc (.cells #[.string xn, .int .i64 xa, .bool xw, .bool xc, .int .i64 xf, .int .i64 xl, .int .i64 xs] 23)).cell? ⟨w.heap.size, 5, none⟩ = some (.int .i64 0) := by simp [World.cell?, hz2]
        have y5 : (wr.alloc (.cells #[.string xn, .int .i64 xa, .bool xw, .bool xc, .int .i64 xf, .int .i64 xl, .int .i64 xs] 23)).frozen? ⟨w.heap.size, 5, none⟩ = false := by simp [World.frozen?, hz2]
        have z6 : (wr.alloc (.cells #[.string xn, .int .i64 xa, .bool xw, .bool xc, .int .i64 xf, .int .i64 xl, .int .i64 xs] 23)).cell? ⟨w.heap.size, 6, none⟩ = some (.int .i64 0) := by simp [World.cell?, hz2]
        have y6 : (wr.alloc (.cells #[.string xn, .int .i64 xa, .bool xw, .bool xc, .int .i64 xf, .int .i64 xl, .int .i64 xs] 23)).frozen? ⟨w.heap.size, 6, none⟩ = false := by simp [World.frozen?, hz2]
        have h7 := Lib.hid (set7 (.string xn) (.int .i64 xa) (.bool xw) (.bool xc) (.int .i64 xf) (.int .i64 xl) (.int .i64 xs) hz2 (hb.alloc hb.size _) (Nat.le_refl _))
        clear hF hd hz2
        go_wp2_with fail
        obtain ⟨W7, hW7, hb7, q0, q1, q2, q3, q4, q5, q6⟩ := h7.out
        clear h7
        rw [← hW7]
        clear hW7
        (try simp only [Exit.inBlock, Exit.then])
        refine bodyPost_ret (v := .tuple #[.agg #[.string xn, .int .i64 xa, .bool xw, .bool xc, .int .i64 xf, .int .i64 xl, .int .i64 xs], .bool true]) ?_ rfl ⟨by rw [hv.out]; rfl, hb7⟩
        rw [results_cell_tmp rfl]
        go_simp
      · have hF2 : Hid (findD s = (rowsL.drop (k + 1)).find? fun r => r.name.toList == L.toList) := by
          show _ = _
          rw [hF.out, hd.out, List.find?_cons_of_neg (by simpa using he)]
        have hq : (xn.toList == L.toList) = false := by simpa using he
        clear hF hd
        go_wp2_with fail
        refine ⟨⟨k + 1, by omega, by go_num, hF2, hr.below (al _ _), ?_, hb.alloc hb.size _⟩, by simp [intOf]; omega⟩
        rw [RowKit.Below.heap_alloc _ _ _ (Array.getElem?_eq_some_iff.1 hz).1]; exact hz
    · obtain rfl : k = 118 := by omega
      have hv : findD s = none := by rw [hF.out, List.drop_of_length_le (by rw [hlen.out]; exact Nat.le_refl _)]; rfl
      have Hv := Lib.hid hv
      clear hv hF
      have h7 := Lib.hid (set7 (.string ⟨#[]⟩) (.int .i64 0) (.bool false) (.bool false) (.int .i64 0) (.int .i64 0) (.int .i64 0) hz hb (Nat.le_refl _))
      clear hz
      go_wp2_with fail
      obtain ⟨W7, hW7, hb7, q0, q1, q2, q3, q4, q5, q6⟩ := h7.out
      clear h7
      rw [← hW7]
      clear hW7
      (try simp only [Exit.inBlock, Exit.then])
      refine bodyPost_ret (v := .tuple #[.agg #[.string ⟨#[]⟩, .int .i64 0, .bool false, .bool false, .int .i64 0, .int .i64 0, .int .i64 0], .bool false]) ?_ rfl ⟨by rw [Hv.out]; rfl, hb7⟩
      rw [results_cell_tmp rfl]
      go_simp
end Go.Proofs.Ytiffdkagmnpjiaa.TbI
