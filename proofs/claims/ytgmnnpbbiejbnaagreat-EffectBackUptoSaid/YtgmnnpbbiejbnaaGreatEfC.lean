/-
  The bytes of effects: the document's answer. Conditions: as stated.
-/
import Derived.Test.YtgmnnpbbiejbnaaGreatEfB
import Derived.Test.YtgmnnpbbiejbnaaGreatVaZ
set_option maxRecDepth 100000
set_option linter.unusedSimpArgs false
set_option linter.unusedVariables false
namespace Go.Proofs.YtgmnnpbbiejbnaaGreat.EfC
open Go.RowKit Go.Proofs.YtgmnnpbbiejbnaaGreat.Mem Go.Proofs.YtgmnnpbbiejbnaaGreat.VaA Go.Proofs.YtgmnnpbbiejbnaaGreat.VaC Go.Proofs.YtgmnnpbbiejbnaaGreat.VaE Go.Proofs.YtgmnnpbbiejbnaaGreat.VaH Go.Proofs.YtgmnnpbbiejbnaaGreat.VaI Go.Proofs.YtgmnnpbbiejbnaaGreat.VaX Go.Proofs.YtgmnnpbbiejbnaaGreat.DuA Go.Proofs.YtgmnnpbbiejbnaaGreat.SpA Go.Proofs.YtgmnnpbbiejbnaaGreat.SpB Go.Proofs.YtgmnnpbbiejbnaaGreat.SpC Go.Proofs.YtgmnnpbbiejbnaaGreat.SpD Go.Proofs.YtgmnnpbbiejbnaaGreat.SpE Go.Proofs.YtgmnnpbbiejbnaaGreat.SpF Go.Proofs.YtgmnnpbbiejbnaaGreat.SpG Go.Proofs.YtgmnnpbbiejbnaaGreat.EfA Go.Proofs.YtgmnnpbbiejbnaaGreat.EfB
open Go.Proofs.YtgmnnpbbiejbnaaGreat.SpS (writeString bText bFresh)
open Go.Proofs.YtgmnnpbbiejbnaaGreat.Builder (writeByte)
open Go.Proofs.YtgmnnpbbiejbnaaGreat.VaB (wpList_appS Fr fixr_calls)
theorem ba_eq {s t : ByteArray} (h : s.data.toList = t.data.toList) : s = t := ByteArray.ext (Array.toList_inj.1 h)
theorem enc_le {x : VV} (hs : Sm x) : (encV x).length ≤ 1000000000 := by
  have h : (encV x).length ≤ 5 + x.text.size + (VaC.encS x.list).length + (VaC.encF x.flds).length + (VaC.encK x.rank).length := by
    unfold encV bodyV
    have ht : x.text.data.toList.length = x.text.size := by rw [Array.length_toList]; rfl
    repeat' split
    all_goals (simp only [List.length_cons, List.length_append, VaA.le_len, putL_len, List.length_nil]; omega)
  have h1 := hs.t
  have h2 := hs.s
  have h3 := hs.f
  have h4 := hs.k
  omega
theorem one_str (w : World) (x : Int) (y : UInt8) (h : x = y.toNat) : (convert 63 9 (.slice (some ⟨w.heap.size, 0, none⟩) 1 1)).run Tryz.prog (w.alloc (.cells #[.int .u8 x] 5)) = .ok (.string ⟨#[y]⟩) (w.alloc (.cells #[.int .u8 x] 5)) := by
  subst h
  have ho := World.ownsRow_lit (base := w.heap.size) (e := 5) (size := 1) w #[.int .u8 y.toNat] 1 (Nat.le_refl _) (by unfold maxLen; omega) rfl
  exact Base.convert_own (P := Tryz.prog) (l := [y]) Tryz.underlying63 Tryz.underlying5 Tryz.underlying9 ho
set_option maxHeartbeats 4000000 in
theorem bytes_4 (key : ByteArray) (x : VV) (due : Int) (w : World) (hr : RdV w x) (hs : Sm x) (hk : key.size ≤ 100000000) :
    Calls Tryz.prog 34 #[evV ⟨4, key, x, due⟩] w fun r w' => r = .returned (.string ⟨(bytesE (peOf ⟨4, key, x, due⟩)).toArray⟩) ∧ Below w.heap.size w w' := by
  have hbe : bytesE (peOf ⟨4, key, x, due⟩) = [4] := by unfold bytesE peOf; simp
  rw [hbe]
  obtain ⟨W1, hW1⟩ : ∃ W1, w.alloc (.cells #[.int .i64 4, .string key, .int .i64 x.kind, .string x.text, .slice x.LA x.ln x.lc, .slice x.FA x.fn x.fc, .slice x.KA x.kn x.kc, .int .i64 due] 44) = W1 := ⟨_, rfl⟩
  have b1 : Below w.heap.size w W1 := by rw [← hW1]; exact (Below.refl _ _).alloc (Nat.le_refl _) _
  have hbx := heap_alloc_new w (.cells #[.int .i64 4, .string key, .int .i64 x.kind, .string x.text, .slice x.LA x.ln x.lc, .slice x.FA x.fn x.fc, .slice x.KA x.kn x.kc, .int .i64 due] 44)
  rw [hW1] at hbx
  have z0 : W1.cell? ⟨w.heap.size, 0, none⟩ = some (.int .i64 4) := by simp [World.cell?, hbx]
  have z1 : W1.cell? ⟨w.heap.size, 1, none⟩ = some (.string key) := by simp [World.cell?, hbx]
  have z2 : W1.cell? ⟨w.heap.size, 2, none⟩ = some (.int .i64 x.kind) := by simp [World.cell?, hbx]
  have z3 : W1.cell? ⟨w.heap.size, 3, none⟩ = some (.string x.text) := by simp [World.cell?, hbx]
  have z4 : W1.cell? ⟨w.heap.size, 4, none⟩ = some (.slice x.LA x.ln x.lc) := by simp [World.cell?, hbx]
  have z5 : W1.cell? ⟨w.heap.size, 5, none⟩ = some (.slice x.FA x.fn x.fc) := by simp [World.cell?, hbx]
  have z6 : W1.cell? ⟨w.heap.size, 6, none⟩ = some (.slice x.KA x.kn x.kc) := by simp [World.cell?, hbx]
  have z7 : W1.cell? ⟨w.heap.size, 7, none⟩ = some (.int .i64 due) := by simp [World.cell?, hbx]
  have hcv := one_str W1 4 4 (by decide)
  obtain ⟨S0, hS0⟩ : ∃ S0 : ByteArray, (⟨#[4]⟩ : ByteArray) = S0 := ⟨_, rfl⟩
  have zz0 : S0.size = 1 := by rw [← hS0]; rfl
  rw [hS0] at hcv
  unfold evV
  dsimp only
  have HW := Lib.hid hW1
  have HS0 := Lib.hid hS0
  have HB1 := Lib.hid b1
  clear hbx hW1 hS0 hbe
  go_enter Tryz.func34, Tryz.ntmps34
  go_upto_region 1 with fail
  rw [HW.out]
  go_upto_region 2 with fail
  generalize hW2 : W1.alloc _ = W2
  have b2 : Below W1.heap.size W1 W2 := by rw [← hW2]; exact (Below.refl _ _).alloc (Nat.le_refl _) _
  have y0 := below_c z0 b2
  have y1 := below_c z1 b2
  have y2 := below_c z2 b2
  have y3 := below_c z3 b2
  have y4 := below_c z4 b2
  have y5 := below_c z5 b2
  have y6 := below_c z6 b2
  have y7 := below_c z7 b2
  have b12 := EfA.bb b1 b2
  have HB2 := Lib.hid b12
  clear hW2 b1 b2 b12 z0 z1 z2 z3 z4 z5 z6 z7 hcv
  go_wp2_with fail
  go_ret
  exact ⟨by rw [← HS0.out]; rfl, HB2.out⟩
set_option maxHeartbeats 4000000 in
theorem bytes_2 (key : ByteArray) (x : VV) (due : Int) (w : World) (hr : RdV w x) (hs : Sm x) (hk : key.size ≤ 100000000) :
    Calls Tryz.prog 34 #[evV ⟨2, key, x, due⟩] w fun r w' => r = .returned (.string ⟨(bytesE (peOf ⟨2, key, x, due⟩)).toArray⟩) ∧ Below w.heap.size w w' := by
  have hbe : bytesE (peOf ⟨2, key, x, due⟩) = 2 :: (le key.size 8 ++ key.data.toList) := by unfold bytesE peOf; simp
  rw [hbe]
  obtain ⟨W1, hW1⟩ : ∃ W1, w.alloc (.cells #[.int .i64 2, .string key, .int .i64 x.kind, .string x.text, .slice x.LA x.ln x.lc, .slice x.FA x.fn x.fc, .slice x.KA x.kn x.kc, .int .i64 due] 44) = W1 := ⟨_, rfl⟩
  have b1 : Below w.heap.size w W1 := by rw [← hW1]; exact (Below.refl _ _).alloc (Nat.le_refl _) _
  have hbx := heap_alloc_new w (.cells #[.int .i64 2, .string key, .int .i64 x.kind, .string x.text, .slice x.LA x.ln x.lc, .slice x.FA x.fn x.fc, .slice x.KA x.kn x.kc, .int .i64 due] 44)
  rw [hW1] at hbx
  have z0 : W1.cell? ⟨w.heap.size, 0, none⟩ = some (.int .i64 2) := by simp [World.cell?, hbx]
  have z1 : W1.cell? ⟨w.heap.size, 1, none⟩ = some (.string key) := by simp [World.cell?, hbx]
  have z2 : W1.cell? ⟨w.heap.size, 2, none⟩ = some (.int .i64 x.kind) := by simp [World.cell?, hbx]
  have z3 : W1.cell? ⟨w.heap.size, 3, none⟩ = some (.string x.text) := by simp [World.cell?, hbx]
  have z4 : W1.cell? ⟨w.heap.size, 4, none⟩ = some (.slice x.LA x.ln x.lc) := by simp [World.cell?, hbx]
  have z5 : W1.cell? ⟨w.heap.size, 5, none⟩ = some (.slice x.FA x.fn x.fc) := by simp [World.cell?, hbx]
  have z6 : W1.cell? ⟨w.heap.size, 6, none⟩ = some (.slice x.KA x.kn x.kc) := by simp [World.cell?, hbx]
  have z7 : W1.cell? ⟨w.heap.size, 7, none⟩ = some (.int .i64 due) := by simp [World.cell?, hbx]
  have hcv := one_str W1 2 2 (by decide)
  obtain ⟨S0, hS0⟩ : ∃ S0 : ByteArray, (⟨#[2]⟩ : ByteArray) = S0 := ⟨_, rfl⟩
  have zz0 : S0.size = 1 := by rw [← hS0]; rfl
  rw [hS0] at hcv
  unfold evV
  dsimp only
  have HW := Lib.hid hW1
  have HS0 := Lib.hid hS0
  have HB1 := Lib.hid b1
  clear hbx hW1 hS0 hbe
  go_enter Tryz.func34, Tryz.ntmps34
  go_upto_region 1 with fail
  rw [HW.out]
  go_upto_region 2 with fail
  generalize hW2 : W1.alloc _ = W2
  have b2 : Below W1.heap.size W1 W2 := by rw [← hW2]; exact (Below.refl _ _).alloc (Nat.le_refl _) _
  have y0 := below_c z0 b2
  have y1 := below_c z1 b2
  have y2 := below_c z2 b2
  have y3 := below_c z3 b2
  have y4 := below_c z4 b2
  have y5 := below_c z5 b2
  have y6 := below_c z6 b2
  have y7 := below_c z7 b2
  have b12 := EfA.bb b1 b2
  have HB2 := Lib.hid b12
  clear hW2 b1 b2 b12 z0 z1 z2 z3 z4 z5 z6 z7 hcv
  obtain ⟨S1, hS1⟩ : ∃ S1 : ByteArray, (⟨(le key.size 8).toArray⟩ : ByteArray) = S1 := ⟨_, rfl⟩
  have z1 : S1.size = 8 := by rw [← hS1, bytes_sz, le_len]
  have hf := fixr_calls key.size 8 W2 (by decide) (by decide) (Nat.lt_of_le_of_lt hk (by decide))
  rw [hS1] at hf
  have HS1 := Lib.hid hS1
  have a1 : ¬ 9223372036854775807 < 1 + 8 + key.size := by omega
  have a2 : ¬ 9223372036854775807 < 9 + key.size := by omega
  have hk0 : ((key.size : Nat) : Int) ≤ 100000000 := by omega
  clear hS1
  go_wp2_with fail
  refine hf.mono ?_
  clear hf
  rintro e w3 ⟨rfl, b3⟩
  have x0 := below_c y0 b3
  have x1 := below_c y1 b3
  have x2 := below_c y2 b3
  have x3 := below_c y3 b3
  have x4 := below_c y4 b3
  have x5 := below_c y5 b3
  have x6 := below_c y6 b3
  have x7 := below_c y7 b3
  have HB3 := Lib.hid (EfA.bb HB2.out b3)
  clear b3 y0 y1 y2 y3 y4 y5 y6 y7
  go_wp2_with fail
  go_ret
  refine ⟨?_, HB3.out⟩
  show Ending.returned (.string (S0 ++ S1 ++ key)) = _
  rw [← HS0.out, ← HS1.out]
  exact congrArg (fun z => Ending.returned (Value.string z)) (ba_eq (by simp [ByteArray.data_append]))
set_option maxHeartbeats 4000000 in
theorem bytes_3 (key : ByteArray) (x : VV) (due : Int) (w : World) (hr : RdV w x) (hs : Sm x) (hk : key.size ≤ 100000000) (hd : 0 ≤ due ∧ due ≤ 9007199254740992) :
    Calls Tryz.prog 34 #[evV ⟨3, key, x, due⟩] w fun r w' => r = .returned (.string ⟨(bytesE (peOf ⟨3, key, x, due⟩)).toArray⟩) ∧ Below w.heap.size w w' := by
  have hbe : bytesE (peOf ⟨3, key, x, due⟩) = 3 :: (le key.size 8 ++ key.data.toList ++ le due.toNat 8) := by unfold bytesE peOf; simp
  rw [hbe]
  obtain ⟨dn, rfl⟩ : ∃ dn : Nat, due = (dn : Int) := ⟨due.toNat, by omega⟩
  have hdn : dn ≤ 9007199254740992 := by omega
  rw [Int.toNat_natCast]
  obtain ⟨W1, hW1⟩ : ∃ W1, w.alloc (.cells #[.int .i64 3, .string key, .int .i64 x.kind, .string x.text, .slice x.LA x.ln x.lc, .slice x.FA x.fn x.fc, .slice x.KA x.kn x.kc, .int .i64 (dn : Int)] 44) = W1 := ⟨_, rfl⟩
  have b1 : Below w.heap.size w W1 := by rw [← hW1]; exact (Below.refl _ _).alloc (Nat.le_refl _) _
  have hbx := heap_alloc_new w (.cells #[.int .i64 3, .string key, .int .i64 x.kind, .string x.text, .slice x.LA x.ln x.lc, .slice x.FA x.fn x.fc, .slice x.KA x.kn x.kc, .int .i64 (dn : Int)] 44)
  rw [hW1] at hbx
  have z0 : W1.cell? ⟨w.heap.size, 0, none⟩ = some (.int .i64 3) := by simp [World.cell?, hbx]
  have z1 : W1.cell? ⟨w.heap.size, 1, none⟩ = some (.string key) := by simp [World.cell?, hbx]
  have z2 : W1.cell? ⟨w.heap.size, 2, none⟩ = some (.int .i64 x.kind) := by simp [World.cell?, hbx]
  have z3 : W1.cell? ⟨w.heap.size, 3, none⟩ = some (.string x.text) := by simp [World.cell?, hbx]
  have z4 : W1.cell? ⟨w.heap.size, 4, none⟩ = some (.slice x.LA x.ln x.lc) := by simp [World.cell?, hbx]
  have z5 : W1.cell? ⟨w.heap.size, 5, none⟩ = some (.slice x.FA x.fn x.fc) := by simp [World.cell?, hbx]
  have z6 : W1.cell? ⟨w.heap.size, 6, none⟩ = some (.slice x.KA x.kn x.kc) := by simp [World.cell?, hbx]
  have z7 : W1.cell? ⟨w.heap.size, 7, none⟩ = some (.int .i64 (dn : Int)) := by simp [World.cell?, hbx]
  have hcv := one_str W1 3 3 (by decide)
  obtain ⟨S0, hS0⟩ : ∃ S0 : ByteArray, (⟨#[3]⟩ : ByteArray) = S0 := ⟨_, rfl⟩
  have zz0 : S0.size = 1 := by rw [← hS0]; rfl
  rw [hS0] at hcv
  unfold evV
  dsimp only
  have HW := Lib.hid hW1
  have HS0 := Lib.hid hS0
  have HB1 := Lib.hid b1
  clear hbx hW1 hS0 hbe
  go_enter Tryz.func34, Tryz.ntmps34
  go_upto_region 1 with fail
  rw [HW.out]
  go_upto_region 2 with fail
  generalize hW2 : W1.alloc _ = W2
  have b2 : Below W1.heap.size W1 W2 := by rw [← hW2]; exact (Below.refl _ _).alloc (Nat.le_refl _) _
  have y0 := below_c z0 b2
  have y1 := below_c z1 b2
  have y2 := below_c z2 b2
  have y3 := below_c z3 b2
  have y4 := below_c z4 b2
  have y5 := below_c z5 b2
  have y6 := below_c z6 b2
  have y7 := below_c z7 b2
  have b12 := EfA.bb b1 b2
  have HB2 := Lib.hid b12
  clear hW2 b1 b2 b12 z0 z1 z2 z3 z4 z5 z6 z7 hcv
  obtain ⟨S1, hS1⟩ : ∃ S1 : ByteArray, (⟨(le key.size 8).toArray⟩ : ByteArray) = S1 := ⟨_, rfl⟩
  have z1 : S1.size = 8 := by rw [← hS1, bytes_sz, le_len]
  have hf := fixr_calls key.size 8 W2 (by decide) (by decide) (Nat.lt_of_le_of_lt hk (by decide))
  rw [hS1] at hf
  have HS1 := Lib.hid hS1
  have a1 : ¬ 9223372036854775807 < 1 + 8 + key.size := by omega
  have a2 : ¬ 9223372036854775807 < 9 + key.size := by omega
  have hk0 : ((key.size : Nat) : Int) ≤ 100000000 := by omega
  clear hS1
  go_wp2_with fail
  refine hf.mono ?_
  clear hf
  rintro e w3 ⟨rfl, b3⟩
  have x0 := below_c y0 b3
  have x1 := below_c y1 b3
  have x2 := below_c y2 b3
  have x3 := below_c y3 b3
  have x4 := below_c y4 b3
  have x5 := below_c y5 b3
  have x6 := below_c y6 b3
  have x7 := below_c y7 b3
  have HB3 := Lib.hid (EfA.bb HB2.out b3)
  clear b3 y0 y1 y2 y3 y4 y5 y6 y7
  go_wp2_with fail
  obtain ⟨S2, hS2⟩ : ∃ S2 : ByteArray, (⟨(le dn 8).toArray⟩ : ByteArray) = S2 := ⟨_, rfl⟩
  have z2 : S2.size = 8 := by rw [← hS2, bytes_sz, le_len]
  have hf := fixr_calls dn 8 w3 (by decide) (by decide) (Nat.lt_of_le_of_lt hdn (by decide))
  rw [hS2] at hf
  have HS2 := Lib.hid hS2
  have a3 : ¬ 9223372036854775807 < 9 + key.size + 8 := by omega
  have a4 : ¬ 9223372036854775807 < 1 + 8 + key.size + 8 := by omega
  clear hS2
  refine hf.mono ?_
  clear hf
  rintro e w4 ⟨rfl, b4⟩
  have y0 := below_c x0 b4
  have y1 := below_c x1 b4
  have y2 := below_c x2 b4
  have y3 := below_c x3 b4
  have y4 := below_c x4 b4
  have y5 := below_c x5 b4
  have y6 := below_c x6 b4
  have y7 := below_c x7 b4
  have HB4 := Lib.hid (EfA.bb HB3.out b4)
  clear b4 x0 x1 x2 x3 x4 x5 x6 x7
  go_wp2_with fail
  go_ret
  refine ⟨?_, HB4.out⟩
  show Ending.returned (.string (S0 ++ S1 ++ key ++ S2)) = _
  rw [← HS0.out, ← HS1.out, ← HS2.out]
  exact congrArg (fun z => Ending.returned (Value.string z)) (ba_eq (by simp [ByteArray.data_append]))
set_option maxHeartbeats 4000000 in
theorem bytes_1 (key : ByteArray) (x : VV) (due : Int) (w : World) (hr : RdV w x) (hs : Sm x) (hk : key.size ≤ 100000000) (hd : 0 ≤ due ∧ due ≤ 9007199254740992) :
    Calls Tryz.prog 34 #[evV ⟨1, key, x, due⟩] w fun r w' => r = .returned (.string ⟨(bytesE (peOf ⟨1, key, x, due⟩)).toArray⟩) ∧ Below w.heap.size w w' := by
  have hbe : bytesE (peOf ⟨1, key, x, due⟩) = 1 :: (le key.size 8 ++ key.data.toList ++ le due.toNat 8 ++ encP (pvOf x)) := by unfold bytesE peOf; simp
  rw [hbe]
  obtain ⟨dn, rfl⟩ : ∃ dn : Nat, due = (dn : Int) := ⟨due.toNat, by omega⟩
  have hdn : dn ≤ 9007199254740992 := by omega
  rw [Int.toNat_natCast]
  obtain ⟨W1, hW1⟩ : ∃ W1, w.alloc (.cells #[.int .i64 1, .string key, .int .i64 x.kind, .string x.text, .slice x.LA x.ln x.lc, .slice x.FA x.fn x.fc, .slice x.KA x.kn x.kc, .int .i64 (dn : Int)] 44) = W1 := ⟨_, rfl⟩
  have b1 : Below w.heap.size w W1 := by rw [← hW1]; exact (Below.refl _ _).alloc (Nat.le_refl _) _
  have hbx := heap_alloc_new w (.cells #[.int .i64 1, .string key, .int .i64 x.kind, .string x.text, .slice x.LA x.ln x.lc, .slice x.FA x.fn x.fc, .slice x.KA x.kn x.kc, .int .i64 (dn : Int)] 44)
  rw [hW1] at hbx
  have z0 : W1.cell? ⟨w.heap.size, 0, none⟩ = some (.int .i64 1) := by simp [World.cell?, hbx]
  have z1 : W1.cell? ⟨w.heap.size, 1, none⟩ = some (.string key) := by simp [World.cell?, hbx]
  have z2 : W1.cell? ⟨w.heap.size, 2, none⟩ = some (.int .i64 x.kind) := by simp [World.cell?, hbx]
  have z3 : W1.cell? ⟨w.heap.size, 3, none⟩ = some (.string x.text) := by simp [World.cell?, hbx]
  have z4 : W1.cell? ⟨w.heap.size, 4, none⟩ = some (.slice x.LA x.ln x.lc) := by simp [World.cell?, hbx]
  have z5 : W1.cell? ⟨w.heap.size, 5, none⟩ = some (.slice x.FA x.fn x.fc) := by simp [World.cell?, hbx]
  have z6 : W1.cell? ⟨w.heap.size, 6, none⟩ = some (.slice x.KA x.kn x.kc) := by simp [World.cell?, hbx]
  have z7 : W1.cell? ⟨w.heap.size, 7, none⟩ = some (.int .i64 (dn : Int)) := by simp [World.cell?, hbx]
  have hcv := one_str W1 1 1 (by decide)
  obtain ⟨S0, hS0⟩ : ∃ S0 : ByteArray, (⟨#[1]⟩ : ByteArray) = S0 := ⟨_, rfl⟩
  have zz0 : S0.size = 1 := by rw [← hS0]; rfl
  rw [hS0] at hcv
  unfold evV
  dsimp only
  have HW := Lib.hid hW1
  have HS0 := Lib.hid hS0
  have HB1 := Lib.hid b1
  clear hbx hW1 hS0 hbe
  go_enter Tryz.func34, Tryz.ntmps34
  go_upto_region 1 with fail
  rw [HW.out]
  go_upto_region 2 with fail
  generalize hW2 : W1.alloc _ = W2
  have b2 : Below W1.heap.size W1 W2 := by rw [← hW2]; exact (Below.refl _ _).alloc (Nat.le_refl _) _
  have y0 := below_c z0 b2
  have y1 := below_c z1 b2
  have y2 := below_c z2 b2
  have y3 := below_c z3 b2
  have y4 := below_c z4 b2
  have y5 := below_c z5 b2
  have y6 := below_c z6 b2
  have y7 := below_c z7 b2
  have b12 := EfA.bb b1 b2
  have HB2 := Lib.hid b12
  clear hW2 b1 b2 b12 z0 z1 z2 z3 z4 z5 z6 z7 hcv
  obtain ⟨S1, hS1⟩ : ∃ S1 : ByteArray, (⟨(le key.size 8).toArray⟩ : ByteArray) = S1 := ⟨_, rfl⟩
  have z1 : S1.size = 8 := by rw [← hS1, bytes_sz, le_len]
  have hf := fixr_calls key.size 8 W2 (by decide) (by decide) (Nat.lt_of_le_of_lt hk (by decide))
  rw [hS1] at hf
  have HS1 := Lib.hid hS1
  have a1 : ¬ 9223372036854775807 < 1 + 8 + key.size := by omega
  have a2 : ¬ 9223372036854775807 < 9 + key.size := by omega
  have hk0 : ((key.size : Nat) : Int) ≤ 100000000 := by omega
  clear hS1
  go_wp2_with fail
  refine hf.mono ?_
  clear hf
  rintro e w3 ⟨rfl, b3⟩
  have x0 := below_c y0 b3
  have x1 := below_c y1 b3
  have x2 := below_c y2 b3
  have x3 := below_c y3 b3
  have x4 := below_c y4 b3
  have x5 := below_c y5 b3
  have x6 := below_c y6 b3
  have x7 := below_c y7 b3
  have HB3 := Lib.hid (EfA.bb HB2.out b3)
  clear b3 y0 y1 y2 y3 y4 y5 y6 y7
  go_wp2_with fail
  obtain ⟨S2, hS2⟩ : ∃ S2 : ByteArray, (⟨(le dn 8).toArray⟩ : ByteArray) = S2 := ⟨_, rfl⟩
  have z2 : S2.size = 8 := by rw [← hS2, bytes_sz, le_len]
  have hf := fixr_calls dn 8 w3 (by decide) (by decide) (Nat.lt_of_le_of_lt hdn (by decide))
  rw [hS2] at hf
  have HS2 := Lib.hid hS2
  have a3 : ¬ 9223372036854775807 < 9 + key.size + 8 := by omega
  have a4 : ¬ 9223372036854775807 < 1 + 8 + key.size + 8 := by omega
  clear hS2
  refine hf.mono ?_
  clear hf
  rintro e w4 ⟨rfl, b4⟩
  have y0 := below_c x0 b4
  have y1 := below_c x1 b4
  have y2 := below_c x2 b4
  have y3 := below_c x3 b4
  have y4 := below_c x4 b4
  have y5 := below_c x5 b4
  have y6 := below_c x6 b4
  have y7 := below_c x7 b4
  have HB4 := Lib.hid (EfA.bb HB3.out b4)
  clear b4 x0 x1 x2 x3 x4 x5 x6 x7
  go_wp2_with fail
  have hec := VaZ.encR_calls x w4 (hr.below HB4.out) hs
  obtain ⟨S3, hS3⟩ : ∃ S3 : ByteArray, (⟨(encV x).toArray⟩ : ByteArray) = S3 := ⟨_, rfl⟩
  have hel := enc_le hs
  rw [hS3] at hec
  have hs3l : S3.size ≤ 1000000000 := by rw [← hS3, bytes_sz]; exact hel
  have a5 : ¬ 9223372036854775807 < 9 + key.size + 8 + S3.size := by omega
  have a6 : ¬ 9223372036854775807 < 1 + 8 + key.size + 8 + S3.size := by omega
  unfold VV.val at hec
  have HS3 := Lib.hid hS3
  have HR := Lib.hid hr
  clear hS3 hr hs hel
  refine hec.mono ?_
  clear hec
  rintro e w5 ⟨rfl, b5⟩
  have HB5 := Lib.hid (EfA.bb HB4.out b5)
  clear b5 y0 y1 y2 y3 y4 y5 y6 y7
  go_wp2_with fail
  go_ret
  refine ⟨?_, HB5.out⟩
  show Ending.returned (.string (S0 ++ S1 ++ key ++ S2 ++ S3)) = _
  rw [← HS0.out, ← HS1.out, ← HS2.out, ← HS3.out, enc_pv HR.out]
  exact congrArg (fun z => Ending.returned (Value.string z)) (ba_eq (by simp [ByteArray.data_append]))
theorem bytes_calls (e : EV) (w : World) (hr : RdV w e.x) (hs : Sm e.x) (hk : e.key.size ≤ 100000000) (hm : mayP (peOf e) = true) :
    Calls Tryz.prog 34 #[evV e] w fun r w' => r = .returned (.string ⟨(bytesE (peOf e)).toArray⟩) ∧ Below w.heap.size w w' := by
  obtain ⟨kd, key, x, due⟩ := e
  unfold mayP peOf at hm
  dsimp only at hm hr hs hk
  by_cases k1 : kd = 1
  · subst k1
    simp at hm
    exact bytes_1 key x due w hr hs hk ((tick_iff due).1 hm.2)
  by_cases k2 : kd = 2
  · subst k2; exact bytes_2 key x due w hr hs hk
  by_cases k3 : kd = 3
  · subst k3
    simp at hm
    exact bytes_3 key x due w hr hs hk ((tick_iff due).1 hm.2)
  by_cases k4 : kd = 4
  · subst k4; exact bytes_4 key x due w hr hs hk
  rw [if_neg k1, if_neg k2, if_neg k3, if_neg k4] at hm; cases hm
set_option maxHeartbeats 8000000 in
theorem encodeR_calls (A : Option Addr) (n c : Nat) (es : List EV) (w : World) (hr : Rd w 8 A n c (rows EV.cells es)) (hok : ∀ e ∈ es, RdV w e.x ∧ Sm e.x ∧ e.key.size ≤ 100000000) (hsz : (encL (es.map peOf)).length ≤ 1000000000000) :
    Calls Tryz.prog 10 #[.slice A n c] w fun e w' => e = .returned (.tuple #[.string (EfB.encR (es.map peOf)).1, .int .i64 (EfB.encR (es.map peOf)).2]) ∧ Below w.heap.size w w' := by
  have hln := row_len hr
  have hcap := hr.cap
  have hbig := hr.big
  unfold maxLen at hbig
  obtain ⟨ps, hps⟩ : ∃ ps, es.map peOf = ps := ⟨_, rfl⟩
  have hpl : ps.length = n := by rw [← hps, List.length_map]; exact hln
  rw [hps] at hsz ⊢
  have H := Lib.hid (And.intro hr (And.intro hok (And.intro hln (And.intro hps (And.intro hpl hsz)))))
  clear hr hok hln hps hpl hsz
  go_enter Tryz.func10, Tryz.ntmps10
  go_wp2_with fail
  go_loopw [4, 5] (fun v i wr => ∃ k : Nat, k ≤ n ∧ i = .int .i64 k ∧ VaA.OwnY wr w.heap.size v (encL (ps.take k)) ∧ (ps.take k).all mayP = true ∧ Below w.heap.size w wr) (fun _ i _ => n - (intOf i).toNat)
  case atStart => exact ⟨0, Nat.zero_le _, rfl, World.ownsRow_nil .., rfl, Below.refl _ _⟩
  case round =>
    obtain ⟨k, hk, rfl, ho, hal, hb⟩ := hrel
    by_cases hlt : k < n
    · obtain ⟨hr, hok, hln, hps, hpl, hsz⟩ := H.out
      obtain ⟨e0, he0⟩ : ∃ e0, es[k]? = some e0 := ⟨_, List.getElem?_eq_getElem (by omega)⟩
      obtain ⟨rv, sm, hks⟩ := hok e0 (List.mem_of_getElem? he0)
      have hp0 : ps[k]? = some (peOf e0) := by rw [← hps, List.getElem?_map, he0]; rfl
      obtain ⟨pa, rfl, cx⟩ := rd_rows_get ev_len hr he0 (by decide)
      have htk := List.take_succ_eq_append_getElem (List.getElem?_eq_some_iff.1 hp0).1
      rw [(List.getElem?_eq_some_iff.1 hp0).2] at htk
      have hlen : (encL (ps.take k)).length + (bytesE (peOf e0)).length ≤ 1000000000000 := by
        have := encL_take ps (k + 1)
        rw [htk, encL_snoc, List.length_append] at this; omega
      have hmy := mayR_calls e0 wr (rv.below hb) sm
      obtain ⟨mb, hmb⟩ : ∃ mb, mayP (peOf e0) = mb := ⟨_, rfl⟩
      rw [hmb] at hmy
      have hby := fun (wz : World) (hz : Below wr.heap.size wr wz) (hm : mayP (peOf e0) = true) => bytes_calls e0 wz ((rv.below hb).below hz) sm hks hm
      have henc : encL (ps.take (k + 1)) = encL (ps.take k) ++ bytesE (peOf e0) := by rw [htk, encL_snoc]
      have hal2 : mb = true → (ps.take (k + 1)).all mayP = true := fun h => by rw [htk, List.all_append, hal]; simp [hmb, h]
      obtain ⟨S1, hS1⟩ : ∃ S1 : ByteArray, (⟨(bytesE (peOf e0)).toArray⟩ : ByteArray) = S1 := ⟨_, rfl⟩
      rw [hS1] at hby
      have hs1 : S1.data.toList = bytesE (peOf e0) := by rw [← hS1]
      have hs1z : S1.size = (bytesE (peOf e0)).length := by rw [← hS1, bytes_sz]
      have g0 : wr.cell? (pa.add (k * 8)) = some (.int .i64 e0.kind) := below_c (cx 0 _ rfl) hb
      have g1 : wr.cell? ⟨(pa.add (k * 8)).block, (pa.add (k * 8)).off + 1, none⟩ = some (.string e0.key) := below_c (cx 1 _ rfl) hb
      have g2 : wr.cell? ⟨(pa.add (k * 8)).block, (pa.add (k * 8)).off + 2, none⟩ = some (.int .i64 e0.x.kind) := below_c (cx 2 _ rfl) hb
      have g3 : wr.cell? ⟨(pa.add (k * 8)).block, (pa.add (k * 8)).off + 3, none⟩ = some (.string e0.x.text) := below_c (cx 3 _ rfl) hb
      have g4 : wr.cell? ⟨(pa.add (k * 8)).block, (pa.add (k * 8)).off + 4, none⟩ = some (.slice e0.x.LA e0.x.ln e0.x.lc) := below_c (cx 4 _ rfl) hb
      have g5 : wr.cell? ⟨(pa.add (k * 8)).block, (pa.add (k * 8)).off + 5, none⟩ = some (.slice e0.x.FA e0.x.fn e0.x.fc) := below_c (cx 5 _ rfl) hb
      have g6 : wr.cell? ⟨(pa.add (k * 8)).block, (pa.add (k * 8)).off + 6, none⟩ = some (.slice e0.x.KA e0.x.kn e0.x.kc) := below_c (cx 6 _ rfl) hb
      have g7 : wr.cell? ⟨(pa.add (k * 8)).block, (pa.add (k * 8)).off + 7, none⟩ = some (.int .i64 e0.due) := below_c (cx 7 _ rfl) hb
      have HQ := Lib.hid (And.intro ho (And.intro hb (And.intro hp0 (And.intro hmb (And.intro henc (And.intro hal2 (And.intro hs1 hlen)))))))
      have HBY := Lib.hid hby
      have hkn : ((k : Nat) : Int) < (n : Int) := by omega
      unfold evV at hmy
      obtain ⟨A4, c4, rfl⟩ := own_form ho
      clear hr hok hln hps hpl hsz he0 rv sm hks hp0 cx htk hlen hby henc hal2 hS1 hs1 hmb ho hb hal
      cases mb with
      | false =>
        go_wp2_with fail
        refine hmy.mono ?_
        clear hmy
        rintro e w4 ⟨rfl, b4⟩
        clear g0 g1 g2 g3 g4 g5 g6 g7
        go_wp2_with fail
        go_ret2
        obtain ⟨ho, hb, hp0, hmb, -⟩ := HQ.out
        have : EfB.encR ps = (⟨#[]⟩, 160) := by unfold EfB.encR; rw [may_all hp0 hmb]; rfl
        rw [this]
        exact ⟨rfl, EfA.bb hb b4⟩
      | true =>
        go_wp2_with fail
        refine hmy.mono ?_
        clear hmy
        rintro e w4 ⟨rfl, b4⟩
        have f0 := below_c g0 b4
        have f1 := below_c g1 b4
        have f2 := below_c g2 b4
        have f3 := below_c g3 b4
        have f4 := below_c g4 b4
        have f5 := below_c g5 b4
        have f6 := below_c g6 b4
        have f7 := below_c g7 b4
        have hby := HBY.out w4 b4 HQ.out.2.2.2.1
        have HB4 := Lib.hid b4
        unfold evV at hby
        clear b4 g0 g1 g2 g3 g4 g5 g6 g7
        go_wp2_with fail
        refine hby.mono ?_
        clear hby
        rintro e w5 ⟨rfl, b5⟩
        obtain ⟨ho, hb, hp0, hmb, henc, hal2, hs1, hlen⟩ := HQ.out
        have b45 := EfA.bb HB4.out b5
        have o5 := own_only ho (Only.of_below b45) (fun q hq e => by have := (ho.lt q hq).2; omega)
        have hB5 : w.heap.size ≤ w5.heap.size := Nat.le_trans hb.size b45.size
        have hl5 : (encL (ps.take k)).length + S1.size ≤ 140737488355328 := by omega
        have hb5 := EfA.bb hb b45
        have HX := Lib.hid (And.intro henc (And.intro (hal2 (by simp)) (And.intro hs1 hb5)))
        clear ho hb hp0 hmb henc hal2 hs1 hlen b45 b5 HB4 hb5 f0 f1 f2 f3 f4 f5 f6 f7
        go_wp2_with (at_builtin; refine wpList_appS rfl (.tmp 18) (.tmp 23) rfl w.heap.size _ _ rfl o5 S1 rfl hl5 hB5 ?_; intro v' w' o' b')
        obtain ⟨henc, hal2, hs1, hb5⟩ := HX.out
        exact ⟨⟨k + 1, by omega, by go_num, by rw [henc, ← hs1]; exact o', hal2, hb5.trans (VaB.Fr.below b' hB5)⟩, by simp [intOf]; omega⟩
    · obtain rfl : k = n := by omega
      obtain ⟨hr, hok, hln, hps, hpl, hsz⟩ := H.out
      rw [List.take_of_length_le (Nat.le_of_eq hpl)] at ho hal
      have hcv := Base.convert_own (P := Tryz.prog) (dst := 9) Tryz.underlying63 Tryz.underlying5 Tryz.underlying9 ho
      have HB := Lib.hid (And.intro hb hal)
      clear ho hb hal hr hok hln hps hpl hsz
      go_wp2_with fail
      go_ret2
      have : EfB.encR ps = (⟨(encL ps).toArray⟩, 0) := by unfold EfB.encR; rw [HB.out.2]; rfl
      rw [this]
      exact ⟨rfl, HB.out.1⟩
end Go.Proofs.YtgmnnpbbiejbnaaGreat.EfC
