/-
  What a value has, laid down: lists, sets, hashes, ranks. Conditions: as stated.
-/
import Derived.Test.YtgmnnpbbiejbnaaGreatMgB
import Derived.Deep.RegionHeld3
import Derived.Deep.RegionWith
import Derived.Sort.AtCall
set_option maxRecDepth 100000
set_option linter.unusedSimpArgs false
set_option linter.unusedVariables false
namespace Go.Proofs.YtgmnnpbbiejbnaaGreat.VaD
open Go.RowKit Go.Proofs.YtgmnnpbbiejbnaaGreat.Mem Go.Proofs.YtgmnnpbbiejbnaaGreat.VaA Go.Proofs.YtgmnnpbbiejbnaaGreat.VaB Go.Proofs.YtgmnnpbbiejbnaaGreat.VaC

theorem w64_wrap (n : Int) : IntKind.u64.wrap n = ((w64 n : Nat) : Int) := by rw [IntKind.wrap_u64]; unfold w64; omega
theorem pow4 {n : Nat} (h : n ≤ 100000000) : n < 2 ^ (8 * 4) := by have : (2 : Nat) ^ (8 * 4) = 4294967296 := rfl; omega

/-- A block of two cells, no bytes. -/
abbrev HS (T : TypeId) (B : Nat) (w0 : World) (g : Nat) (u0 u1 : Value) (w : World) : Prop := w.heap[g]? = some (.cells #[u0, u1] T (0, 0)) ∧ Fr B w0 w ∧ w.cell? ⟨g, 0, none⟩ = some u0 ∧ w.cell? ⟨g, 1, none⟩ = some u1
section
variable {T : TypeId} {B g : Nat} {w0 w w' : World} {u0 u1 : Value}
theorem hs_mk (h : w.heap[g]? = some (.cells #[u0, u1] T (0, 0))) (k : Fr B w0 w) : HS T B w0 g u0 u1 w := ⟨h, k, by simp [World.cell?, h], by simp [World.cell?, h]⟩
theorem hs_start (w : World) (T : TypeId) (B : Nat) (u0 u1 : Value) : HS T B w w.heap.size u0 u1 (w.alloc (.cells #[u0, u1] T)).drew :=
  hs_mk (show (w.alloc (.cells #[u0, u1] T)).heap[w.heap.size]? = _ from heap_alloc_new w _) (show Only _ _ _ from ((Only.refl _ w).alloc _).drew)
theorem hs_fr (hT : T ≠ 5) (h : HS T B w0 g u0 u1 w) (k : Fr B w w') : HS T B w0 g u0 u1 w' := hs_mk (k.heap h.1 (.inr (fun cs fr e => by injection e with _ e _; exact hT e))) (h.2.1.trans k)
theorem Fr.drawn {B : Nat} {w w' : World} (h : Fr B w w') (n : Nat) : Fr B w (w'.drewN n) := Only.drawn h n
end
set_option maxHeartbeats 1000000 in
theorem writeT_calls (B : Nat) (v : Value) (l : List UInt8) (s : ByteArray) (w : World) (ho : OwnY w B v l) (hB : B ≤ w.heap.size) (hs : s.size ≤ 100000000) (hl : l.length ≤ 10000000000) :
    Calls Tryz.prog 149 #[.string s, v] w fun e w' => ∃ v', e = .returned v' ∧ OwnY w' B v' (l ++ putL s) ∧ Fr B w w' := by
  go_enter Tryz.func149, Tryz.ntmps149
  go_wp2_with fail
  refine (put_calls B v l s w ho hB hs hl).mono ?_
  rintro e w1 ⟨v1, rfl, o1, b1⟩
  go_wp2_with fail
  go_ret
  exact ⟨_, rfl, o1, b1⟩

set_option maxHeartbeats 1000000 in
theorem writeL_calls (W : World) (A : Option Addr) (n c : Nat) (l : List ByteArray) (v : Value) (b : List UInt8) (w : World) (hr : RdS W A n c l) (hW : Below W.heap.size W w) (ho : OwnY w W.heap.size v b) (hb : b.length ≤ 100000000) (hn : n ≤ 100000000) (hE : (encS l).length ≤ 100000000) :
    Calls Tryz.prog 155 #[.slice A n c, v] w fun e w' => ∃ v', e = .returned v' ∧ OwnY w' W.heap.size v' (b ++ (le n 4 ++ encS l)) ∧ Fr W.heap.size w w' := by
  obtain rfl := rds_len hr
  go_enter Tryz.func155, Tryz.ntmps155
  go_wp2_with fail
  refine (number_calls W.heap.size v b l.length 4 w ho (by decide) (by decide) (pow4 hn) hW.size (by omega)).mono ?_
  rintro e w1 ⟨v1, rfl, o1, b1⟩
  go_wp2_with fail
  go_loopw [1, 14] (fun u i wr => ∃ k : Nat, k ≤ l.length ∧ i = .int .i64 k ∧ OwnY wr W.heap.size u (b ++ (le l.length 4 ++ encS (l.take k))) ∧ Fr W.heap.size w wr) (fun _ i _ => l.length - (intOf i).toNat)
  case atStart => exact ⟨0, Nat.zero_le _, rfl, by simpa [encS] using o1, b1⟩
  case round =>
    obtain ⟨k, hk, rfl, ok, bk⟩ := hrel
    by_cases hlt : k < l.length
    · obtain ⟨s, hs⟩ : ∃ s, l[k]? = some s := ⟨_, List.getElem?_eq_getElem hlt⟩
      have hbw := below_new' hW (bk.below hW.size)
      obtain ⟨p, rfl, cp⟩ := rds_get (hr.below hbw) hs
      have hle := flat_le putL l (k + 1)
      have hle' : (encS (l.take (k + 1))).length ≤ (encS l).length := hle
      rw [encS_take hs, List.length_append, putL_len] at hle'
      have hsz : s.size ≤ 100000000 := by omega
      have hlen : (b ++ (le l.length 4 ++ encS (l.take k))).length ≤ 10000000000 := by simp only [List.length_append, le_len]; omega
      have Hs := Lib.hid hs
      clear hs hle hle' hE
      go_wp2_with fail
      refine (put_calls W.heap.size _ _ s wr ok (Nat.le_trans hW.size bk.size) hsz hlen).mono ?_
      rintro e w2 ⟨v2, rfl, o2, b2⟩
      go_wp2_with fail
      refine ⟨⟨k + 1, by omega, by go_num, ?_, bk.trans b2⟩, by simp [intOf]; omega⟩
      rw [encS_take Hs.out]
      simpa [List.append_assoc] using o2
    · obtain rfl : k = l.length := by omega
      go_wp2_with fail
      go_ret
      exact ⟨_, rfl, by rw [List.take_length] at ok; exact ok, bk⟩

set_option maxHeartbeats 1000000 in
theorem writeS_calls (W : World) (A : Option Addr) (n c : Nat) (l : List ByteArray) (v : Value) (b : List UInt8) (w : World) (hr : RdS W A n c l) (hW : Below W.heap.size W w) (ho : OwnY w W.heap.size v b) (hb : b.length ≤ 100000000) (hn : n ≤ 100000000) (hE : (encS l).length ≤ 100000000) :
    Calls Tryz.prog 164 #[.slice A n c, v] w fun e w' => ∃ v', e = .returned v' ∧ OwnY w' W.heap.size v' (b ++ (le n 4 ++ encS l)) ∧ Fr W.heap.size w w' := by
  go_enter Tryz.func164, Tryz.ntmps164
  go_wp2_with fail
  refine (writeL_calls W A n c l v b w hr hW ho hb hn hE).mono ?_
  rintro e w1 ⟨v1, rfl, o1, b1⟩
  go_wp2_with fail
  go_ret
  exact ⟨_, rfl, o1, b1⟩

set_option maxHeartbeats 2000000 in
theorem writeH_calls (W : World) (A : Option Addr) (n c : Nat) (l : List (ByteArray × ByteArray)) (v : Value) (b : List UInt8) (w : World) (hr : RdF W A n c l) (hW : Below W.heap.size W w) (ho : OwnY w W.heap.size v b) (hb : b.length ≤ 100000000) (hn : n ≤ 100000000) (hE : (encF l).length ≤ 100000000) :
    Calls Tryz.prog 161 #[.slice A n c, v] w fun e w' => ∃ v', e = .returned v' ∧ OwnY w' W.heap.size v' (b ++ (le n 4 ++ encF l)) ∧ Fr W.heap.size w w' := by
  obtain rfl := rdf_len hr
  go_enter Tryz.func161, Tryz.ntmps161
  go_wp2_with fail
  refine (number_calls W.heap.size v b l.length 4 w ho (by decide) (by decide) (pow4 hn) hW.size (by omega)).mono ?_
  rintro e w1 ⟨v1, rfl, o1, b1⟩
  go_wp2_with fail
  go_loopw [1, 14] (fun u i wr => ∃ k : Nat, k ≤ l.length ∧ i = .int .i64 k ∧ OwnY wr W.heap.size u (b ++ (le l.length 4 ++ encF (l.take k))) ∧ Fr W.heap.size w wr) (fun _ i _ => l.length - (intOf i).toNat)
  case atStart => exact ⟨0, Nat.zero_le _, rfl, by simpa [encF] using o1, b1⟩
  case round =>
    obtain ⟨k, hk, rfl, ok, bk⟩ := hrel
    by_cases hlt : k < l.length
    · obtain ⟨f, hf⟩ : ∃ f, l[k]? = some f := ⟨_, List.getElem?_eq_getElem hlt⟩
      have hbw := below_new' hW (bk.below hW.size)
      obtain ⟨p, rfl, cp0, cp1⟩ := rdf_get (hr.below hbw) hf
      have k0 : wr.cell? (p.add (k * 2)) = some (.string f.1) := cp0
      have k1 : wr.cell? ⟨(p.add (k * 2)).block, (p.add (k * 2)).off + 1, none⟩ = some (.string f.2) := cp1
      have hle := flat_le (fun f : ByteArray × ByteArray => putL f.1 ++ putL f.2) l (k + 1)
      have hle' : (encF (l.take (k + 1))).length ≤ (encF l).length := hle
      rw [encF_take hf, List.length_append, List.length_append, putL_len, putL_len] at hle'
      have hsz : f.1.size ≤ 100000000 ∧ f.2.size ≤ 100000000 := by omega
      have hlen : (b ++ (le l.length 4 ++ encF (l.take k))).length ≤ 10000000000 := by simp only [List.length_append, le_len]; omega
      have hlen2 : (b ++ (le l.length 4 ++ encF (l.take k)) ++ putL f.1).length ≤ 10000000000 := by simp only [List.length_append, le_len, putL_len]; omega
      have Hs := Lib.hid hf
      clear hf hle hle' hE cp0 cp1
      have hWr := Nat.le_trans hW.size bk.size
      have okd : OwnY (wr.alloc (.cells #[.string f.1, .string f.2] 113)).drew W.heap.size u1 (b ++ (le l.length 4 ++ encF (l.take k))) := (ok.alloc _).drew
      have hWd : W.heap.size ≤ (wr.alloc (.cells #[.string f.1, .string f.2] 113)).drew.heap.size := Nat.le_trans hWr (hs_start wr 113 W.heap.size (.string f.1) (.string f.2)).2.1.size
      go_wp2_with fail
      have hs0 := hs_start wr 113 W.heap.size (.string f.1) (.string f.2)
      go_region_with (first
          | (go_at_call_has 151 (f.1); refine (put_calls W.heap.size _ _ f.1 _ okd hWd hsz.1 hlen).mono ?_; rintro e w2 ⟨v2, rfl, o2, b2⟩; have hs2 := hs_fr (by decide) hs0 b2; have c20 := hs2.2.2.1; have c21 := hs2.2.2.2)
          | (go_at_call_has 151 (f.2); refine (put_calls W.heap.size _ _ f.2 _ o2 (Nat.le_trans hWd b2.size) hsz.2 hlen2).mono ?_; rintro e w3 ⟨v3, rfl, o3, b3⟩))
      all_goals (
        have hF := hs2.2.1.trans b3
        clear hs0 hs2 c20 c21 okd hWd b2 o2 hbw hr
        go_wp2_with fail
        refine ⟨⟨k + 1, by omega, by go_num, ?_, bk.trans hF⟩, by simp [intOf]; omega⟩
        rw [encF_take Hs.out]
        simpa [List.append_assoc] using o3)
    · obtain rfl : k = l.length := by omega
      go_wp2_with fail
      go_ret
      exact ⟨_, rfl, by rw [List.take_length] at ok; exact ok, bk⟩

set_option maxHeartbeats 2000000 in
theorem writeK_calls (W : World) (A : Option Addr) (n c : Nat) (l : List (ByteArray × Int)) (v : Value) (b : List UInt8) (w : World) (hr : RdK W A n c l) (hW : Below W.heap.size W w) (ho : OwnY w W.heap.size v b) (hb : b.length ≤ 100000000) (hn : n ≤ 100000000) (hE : (encK l).length ≤ 100000000) :
    Calls Tryz.prog 168 #[.slice A n c, v] w fun e w' => ∃ v', e = .returned v' ∧ OwnY w' W.heap.size v' (b ++ (le n 4 ++ encK l)) ∧ Fr W.heap.size w w' := by
  obtain rfl := rdk_len hr
  go_enter Tryz.func168, Tryz.ntmps168
  go_wp2_with fail
  refine (number_calls W.heap.size v b l.length 4 w ho (by decide) (by decide) (pow4 hn) hW.size (by omega)).mono ?_
  rintro e w1 ⟨v1, rfl, o1, b1⟩
  go_wp2_with fail
  go_loopw [1, 14] (fun u i wr => ∃ k : Nat, k ≤ l.length ∧ i = .int .i64 k ∧ OwnY wr W.heap.size u (b ++ (le l.length 4 ++ encK (l.take k))) ∧ Fr W.heap.size w wr) (fun _ i _ => l.length - (intOf i).toNat)
  case atStart => exact ⟨0, Nat.zero_le _, rfl, by simpa [encK] using o1, b1⟩
  case round =>
    obtain ⟨k, hk, rfl, ok, bk⟩ := hrel
    by_cases hlt : k < l.length
    · obtain ⟨f, hf⟩ : ∃ f, l[k]? = some f := ⟨_, List.getElem?_eq_getElem hlt⟩
      have hbw := below_new' hW (bk.below hW.size)
      obtain ⟨p, rfl, cp0, cp1⟩ := rdk_get (hr.below hbw) hf
      have k0 : wr.cell? (p.add (k * 2)) = some (.string f.1) := cp0
      have k1 : wr.cell? ⟨(p.add (k * 2)).block, (p.add (k * 2)).off + 1, none⟩ = some (.int .i64 f.2) := cp1
      have hle := flat_le (fun f : ByteArray × Int => le (w64 f.2) 8 ++ putL f.1) l (k + 1)
      have hle' : (encK (l.take (k + 1))).length ≤ (encK l).length := hle
      rw [encK_take hf, List.length_append, List.length_append, putL_len, le_len] at hle'
      have hsz : f.1.size ≤ 100000000 := by omega
      have hlen : (b ++ (le l.length 4 ++ encK (l.take k))).length ≤ 10000000000 := by simp only [List.length_append, le_len]; omega
      have hlen2 : (b ++ (le l.length 4 ++ encK (l.take k)) ++ le (w64 f.2) 8).length ≤ 10000000000 := by simp only [List.length_append, le_len]; omega
      have Hs := Lib.hid hf
      clear hf hle hle' hE cp0 cp1
      have hlen' := Nat.le_trans hlen (show 10000000000 ≤ 100000000000000 by omega)
      have hWr := Nat.le_trans hW.size bk.size
      have okd : OwnY (wr.alloc (.cells #[.string f.1, .int .i64 f.2] 115)).drew W.heap.size u1 (b ++ (le l.length 4 ++ encK (l.take k))) := (ok.alloc _).drew
      have hWd : W.heap.size ≤ (wr.alloc (.cells #[.string f.1, .int .i64 f.2] 115)).drew.heap.size := Nat.le_trans hWr (hs_start wr 115 W.heap.size (.string f.1) (.int .i64 f.2)).2.1.size
      go_wp2_with fail
      have hs0 := hs_start wr 115 W.heap.size (.string f.1) (.int .i64 f.2)
      go_region_with (first
          | (go_at_call 152; rw [w64_wrap]; refine (number_calls W.heap.size _ _ (w64 f.2) 8 _ okd (by decide) (by decide) (w64_lt _) hWd hlen').mono ?_; rintro e w2 ⟨v2, rfl, o2, b2⟩; have hs2 := hs_fr (by decide) hs0 b2; have c20 := hs2.2.2.1; have c21 := hs2.2.2.2)
          | (go_at_call 151; refine (put_calls W.heap.size _ _ f.1 _ o2 (Nat.le_trans hWd b2.size) hsz hlen2).mono ?_; rintro e w3 ⟨v3, rfl, o3, b3⟩))
      all_goals (
        have hF := hs2.2.1.trans b3
        clear hs0 hs2 c20 c21 okd hWd b2 o2 hbw hr
        go_wp2_with fail
        refine ⟨⟨k + 1, by omega, by go_num, ?_, bk.trans hF⟩, by simp [intOf]; omega⟩
        rw [encK_take Hs.out]
        simpa [List.append_assoc] using o3)
    · obtain rfl : k = l.length := by omega
      go_wp2_with fail
      go_ret
      exact ⟨_, rfl, by rw [List.take_length] at ok; exact ok, bk⟩
end Go.Proofs.YtgmnnpbbiejbnaaGreat.VaD
