/-
  Numbers out of bytes. Conditions: as stated.
  The reader's numbers. Conditions: as stated.
  The readers' texts. Conditions: as stated.
  A value read off the beginning of bytes, as a plain function; both readers' contracts by it. Conditions: as stated.
-/
import Derived.Test.YtgmnnpbbiejbnaaGreatMgB
import Derived.IntWalk
import Derived.Test.YtgmnnpbbiejbnaaGreatVaI
import Derived.Test.YtgmnnpbbiejbnaaGreatVaT
set_option maxRecDepth 100000
set_option linter.unusedSimpArgs false
set_option linter.unusedVariables false
namespace Go.Proofs.YtgmnnpbbiejbnaaGreat.VaP
open Go.RowKit Go.Proofs.YtgmnnpbbiejbnaaGreat.Mem Go.Proofs.YtgmnnpbbiejbnaaGreat.VaA

/-- The number whose bytes they are, the lowest first. -/
def unle : List UInt8 → Nat
  | [] => 0
  | b :: r => b.toNat + 256 * unle r
theorem unle_lt : ∀ l : List UInt8, unle l < 256 ^ l.length
  | [] => by simp [unle]
  | b :: r => by
    have h := unle_lt r
    have hb := b.toNat_lt
    rw [List.length_cons, Nat.pow_succ]
    simp only [unle]
    omega
theorem drop_get {l : List UInt8} {i : Nat} {b : UInt8} (h : l[i]? = some b) : unle (l.drop i) = b.toNat + 256 * unle (l.drop (i + 1)) := by
  obtain ⟨hi, e⟩ := List.getElem?_eq_some_iff.1 h
  rw [List.drop_eq_getElem_cons hi, e]; rfl

set_option maxHeartbeats 1000000 in
theorem unfixR_calls (s : ByteArray) (w : World) (h1 : 1 ≤ s.size) (h8 : s.size ≤ 8) :
    Calls Tryz.prog 89 #[.string s] w fun e w' => e = .returned (.tuple #[.int .u64 (unle s.data.toList), .int .i64 0]) ∧ w' = w := by
  go_enter Tryz.func89, Tryz.ntmps89
  go_wp2_with fail
  go_loopw [4, 5] (fun m i wr => ∃ k : Nat, k ≤ s.size ∧ i = .int .i64 ((k : Int) - 1) ∧ m = .int .u64 (unle (s.data.toList.drop k)) ∧ wr = w) (fun _ i _ => (intOf i + 1).toNat)
  case atStart => exact ⟨s.size, Nat.le_refl _, rfl, by rw [List.drop_eq_nil_of_le (by simp)]; rfl, rfl⟩
  case round =>
    obtain ⟨k, hk, rfl, rfl, rfl⟩ := hrel
    rcases Nat.eq_zero_or_pos k with h0 | hpos
    · subst h0
      go_wp2_with fail
      go_ret2
      exact ⟨rfl, rfl⟩
    · obtain ⟨j, rfl⟩ : ∃ j, k = j + 1 := ⟨k - 1, by omega⟩
      have hj : j < s.size := by omega
      have hb : s.data.toList[j]? = some s[j] := by rw [List.getElem?_eq_getElem (by simpa using hj)]; rfl
      have hd := drop_get hb
      have hu := unle_lt (s.data.toList.drop (j + 1))
      have hp : 256 ^ (s.data.toList.drop (j + 1)).length ≤ 256 ^ 7 := Nat.pow_le_pow_right (by decide) (by simp; omega)
      have h7 : (256 : Nat) ^ 7 = 72057594037927936 := rfl
      have hbt := s[j].toNat_lt
      have HD := Lib.hid (And.intro hd (And.intro hu (And.intro hp (And.intro h7 hbt))))
      clear hd hu hp h7 hbt hb
      go_wp2_with fail
      refine ⟨⟨j, by omega, rfl, ?_, by first | rfl | trivial⟩, by simp [intOf] <;> omega⟩
      obtain ⟨hd, hu, hp, h7, hbt⟩ := HD.out
      rw [hd]
      congr 1
      rw [Go.IntWalk.u64_in (256 * _) (by omega), Go.IntWalk.u64_in ((s[j].toNat : Nat) : Int) (by omega), Go.IntWalk.u64_in _ (by omega)]
      omega
theorem unle_snoc (l : List UInt8) (b : UInt8) : unle (l ++ [b]) = unle l + b.toNat * 256 ^ l.length := by
  induction l with
  | nil => simp [unle]
  | cons x r ih =>
    rw [List.cons_append, unle, ih, unle, List.length_cons, Nat.pow_succ]
    rw [Nat.mul_add, Nat.add_assoc]
    congr 2
    rw [Nat.mul_comm (256 ^ r.length) 256, ← Nat.mul_assoc, ← Nat.mul_assoc, Nat.mul_comm 256 b.toNat]

theorem bits_or64 (a b : Nat) (ha : a < 2 ^ 64) (hb : b < 2 ^ 64) : bits .or .u64 (a : Int) (b : Int) = ((a ||| b : Nat) : Int) := by
  have hab := Nat.or_lt_two_pow ha hb
  have e : ((BitVec.ofInt IntKind.u64.bits (a : Int)) ||| (BitVec.ofInt IntKind.u64.bits (b : Int))).toNat = a ||| b := by
    show ((BitVec.ofInt 64 (a : Int)) ||| (BitVec.ofInt 64 (b : Int))).toNat = a ||| b
    rw [BitVec.toNat_or, BitVec.ofInt_natCast, BitVec.ofInt_natCast, BitVec.toNat_ofNat, BitVec.toNat_ofNat, Nat.mod_eq_of_lt ha, Nat.mod_eq_of_lt hb]
  have h64 : (2 : Nat) ^ 64 = 18446744073709551616 := rfl
  unfold bits
  simp only [e]
  exact Go.IntWalk.u64_in _ (by omega)
theorem or_add {m k : Nat} (h : m < 2 ^ k) (q : Nat) : m ||| (q * 2 ^ k) = m + q * 2 ^ k := by
  have := Nat.two_pow_add_eq_or_of_lt h q
  rw [Nat.or_comm, Nat.mul_comm q, ← this, Nat.add_comm]
set_option maxHeartbeats 1000000 in
theorem unfix_calls (s : ByteArray) (w : World) (h1 : 1 ≤ s.size) (h8 : s.size ≤ 8) :
    Calls Tryz.prog 86 #[.string s] w fun e w' => e = .returned (.tuple #[.int .u64 (unle s.data.toList), .int .i64 0]) ∧ w' = w := by
  go_enter Tryz.func86, Tryz.ntmps86
  go_wp2_with fail
  go_loopw [4, 16] (fun m i wr => ∃ k : Nat, k ≤ s.size ∧ i = .int .i64 k ∧ m = .int .u64 (unle (s.data.toList.take k)) ∧ wr = w) (fun _ i _ => s.size - (intOf i).toNat)
  case atStart => exact ⟨0, Nat.zero_le _, rfl, rfl, rfl⟩
  case round =>
    obtain ⟨k, hk, rfl, rfl, rfl⟩ := hrel
    by_cases hlt : k < s.size
    · have hb : s.data.toList[k]? = some s[k] := by rw [List.getElem?_eq_getElem (by simpa using hlt)]; rfl
      have Hb := Lib.hid hb
      clear hb
      go_wp2_with fail
      refine ⟨⟨k + 1, by omega, by go_num, ?_, by first | rfl | trivial⟩, by simp [intOf]; omega⟩
      obtain ⟨hk', e'⟩ := List.getElem?_eq_some_iff.1 Hb.out
      have hlen : (s.data.toList.take k).length = k := by simp; omega
      have hu := unle_lt (s.data.toList.take k)
      rw [hlen] at hu
      have hpw : (256 : Nat) ^ k = 2 ^ (8 * k) := by rw [Nat.pow_mul]
      rw [hpw] at hu
      have hbt := s[k].toNat_lt
      have hq : s[k].toNat * 2 ^ (8 * k) + 2 ^ (8 * k) ≤ 2 ^ 64 := by
        have h1 : s[k].toNat * 2 ^ (8 * k) + 2 ^ (8 * k) = (s[k].toNat + 1) * 2 ^ (8 * k) := by rw [Nat.add_mul, Nat.one_mul]
        have h2 : (s[k].toNat + 1) * 2 ^ (8 * k) ≤ 2 ^ 8 * 2 ^ (8 * k) := Nat.mul_le_mul_right _ (by omega)
        have h3 : 2 ^ 8 * 2 ^ (8 * k) = 2 ^ (8 + 8 * k) := (Nat.pow_add _ _ _).symm
        have h4 : 2 ^ (8 + 8 * k) ≤ 2 ^ 64 := Nat.pow_le_pow_right (by decide) (by omega)
        omega
      have h64 : (2 : Nat) ^ 64 = 18446744073709551616 := rfl
      have hpos : 0 < 2 ^ (8 * k) := Nat.pow_pos (by decide)
      have hx : ((s[k].toNat : Int) * 2 ^ (8 * k)) = ((s[k].toNat * 2 ^ (8 * k) : Nat) : Int) := by simp
      rw [Go.IntWalk.u64_in ((s[k].toNat : Nat) : Int) (by omega), hx, Go.IntWalk.u64_in _ (by omega), bits_or64 _ _ (by omega) (by omega), or_add hu]
      rw [List.take_succ_eq_append_getElem hk', e', unle_snoc, hlen, hpw]
    · obtain rfl : k = s.size := by omega
      rw [List.take_of_length_le (by simp)]
      go_wp2_with fail
      go_ret2
      exact ⟨rfl, rfl⟩
end Go.Proofs.YtgmnnpbbiejbnaaGreat.VaP
set_option maxRecDepth 100000
set_option linter.unusedSimpArgs false
set_option linter.unusedVariables false
namespace Go.Proofs.YtgmnnpbbiejbnaaGreat.VaQ
open Go.RowKit Go.Proofs.YtgmnnpbbiejbnaaGreat.Mem Go.Proofs.YtgmnnpbbiejbnaaGreat.VaA Go.Proofs.YtgmnnpbbiejbnaaGreat.VaP

/-- A reader at block g: its text, how far it is, whether it has failed. -/
def Rdr (T : TypeId) (w : World) (g : Nat) (s : ByteArray) (k : Nat) (bad : Bool) : Prop := w.heap[g]? = some (.cells #[.string s, .int .i64 k, .bool bad] T (0, 0))
section
variable {T : TypeId} {w : World} {g k : Nat} {s : ByteArray} {bad : Bool}
theorem Rdr.c0 (h : Rdr T w g s k bad) : w.cell? ⟨g, 0, none⟩ = some (.string s) := by simp [World.cell?, show w.heap[g]? = _ from h]
theorem Rdr.c1 (h : Rdr T w g s k bad) : w.cell? ⟨g, 1, none⟩ = some (.int .i64 k) := by simp [World.cell?, show w.heap[g]? = _ from h]
theorem Rdr.c2 (h : Rdr T w g s k bad) : w.cell? ⟨g, 2, none⟩ = some (.bool bad) := by simp [World.cell?, show w.heap[g]? = _ from h]
theorem Rdr.f1 (h : Rdr T w g s k bad) : w.frozen? ⟨g, 1, none⟩ = false := by simp [World.frozen?, show w.heap[g]? = _ from h]
theorem Rdr.f2 (h : Rdr T w g s k bad) : w.frozen? ⟨g, 2, none⟩ = false := by simp [World.frozen?, show w.heap[g]? = _ from h]
theorem Rdr.bad_ (h : Rdr T w g s k bad) : Rdr T (w.setCell ⟨g, 2, none⟩ (.bool true)) g s k true := by
  unfold Rdr at h ⊢
  simp [World.setCell, Array.getElem?_modify, h]
theorem Rdr.on (h : Rdr T w g s k bad) (j : Nat) : Rdr T (w.setCell ⟨g, 1, none⟩ (.int .i64 j)) g s j bad := by
  unfold Rdr at h ⊢
  simp [World.setCell, Array.getElem?_modify, h]
theorem Rdr.drawn (h : Rdr T w g s k bad) (n : Nat) : Rdr T (w.drewN n) g s k bad := h
end

theorem unfix_q (s : ByteArray) (h1 : 1 ≤ s.size) (h8 : s.size ≤ 8) (w : World) : Calls Tryz.prog 86 #[.string s] w fun e w' => e = .returned (.tuple #[.int .u64 (unle s.data.toList), .int .i64 0]) ∧ ∃ n, w' = w.drewN n :=
  (unfix_calls s w h1 h8).mono (fun e w' h => ⟨h.1, 0, h.2⟩)
/-- What a number taken up leaves and hands back. -/
def NumPost (T : TypeId) (g : Nat) (s : ByteArray) (k W : Nat) (bad : Bool) (w : World) (e : Ending) (w' : World) : Prop :=
  ((bad = true ∨ s.size - k < W) → e = .returned (.int .u64 0) ∧ Rdr T w' g s k true) ∧ (¬ (bad = true ∨ s.size - k < W) → e = .returned (.int .u64 (unle ((s.data.toList.drop k).take W))) ∧ Rdr T w' g s (k + W) false) ∧ Only (fun b => b = g) w w'

set_option maxHeartbeats 1000000 in
theorem number_calls (g : Nat) (s : ByteArray) (k W : Nat) (bad : Bool) (w : World) (h : Rdr 153 w g s k bad) (hk : k ≤ s.size) (hs : s.size ≤ 1000000000000) (h1 : 1 ≤ W) (h8 : W ≤ 8) :
    Calls Tryz.prog 87 #[.pointer (some ⟨g, 0, none⟩), .int .i64 W] w (NumPost 153 g s k W bad w) := by
  have c0 := h.c0
  have c1 := h.c1
  have c2 := h.c2
  have f1 := h.f1
  have f2 := h.f2
  have HR := Lib.hid h
  clear h
  cases bad
  · by_cases hlt : s.size - k < W
    · have hq : decide ((s.size : Int) - (k : Int) < (W : Int)) = true := by simp; omega
      go_enter Tryz.func87, Tryz.ntmps87
      go_wp2_with fail
      go_quiet (fail)
      go_wp2_with fail
      go_ret
      exact ⟨fun _ => ⟨rfl, (HR.out.drawn _).bad_⟩, fun h => absurd (.inr hlt) h, ((Only.refl (fun b => b = g) w).drawn _).put (p := ⟨g, 2, none⟩) (.inl rfl) _⟩
    · have hq : decide ((s.size : Int) - (k : Int) < (W : Int)) = false := by simp; omega
      have hsz : (s.extract k (k + W)).size = W := by rw [ByteArray.size_extract]; omega
      have hun := fun w' => unfix_q (s.extract k (k + W)) (by omega) (by omega) w'
      have hwp : IntKind.i64.wrap ((k : Int) + (W : Int)) = ((k + W : Nat) : Int) := by rw [Go.IntWalk.i64_in _ (by omega)]; simp
      have hkw : (k : Int) + (W : Int) ≤ (s.size : Int) := by omega
      have hkt : ((k : Int) + (W : Int)).toNat = k + W := by omega
      have hk0 : (0 : Int) ≤ (k : Int) + (W : Int) := by omega
      have hkk : (k : Int) ≤ (k : Int) + (W : Int) := by omega
      go_enter Tryz.func87, Tryz.ntmps87
      go_wp2_with fail
      go_quiet (fail)
      go_wp2_with fail
      go_quiet (first | (refine (hun _).mono ?_; rintro e w9 ⟨rfl, n9, rfl⟩; exact ⟨rfl, _, by rw [VaE.drew2, Nat.add_assoc]⟩))
      go_wp2_with fail
      go_ret
      refine ⟨fun h => absurd h (by simp; omega), fun _ => ⟨rfl, ?_⟩, ((Only.refl (fun b => b = g) w).drawn _).put (p := ⟨g, 1, none⟩) (.inl rfl) _⟩
      have h := (HR.out.drawn (0 + 0)).on (k + W)
      rw [show ((k + W : Nat) : Int) = (k : Int) + (W : Int) by simp] at h
      exact h
  · go_enter Tryz.func87, Tryz.ntmps87
    go_wp2_with fail
    go_quiet (fail)
    go_wp2_with fail
    go_ret
    exact ⟨fun _ => ⟨rfl, (HR.out.drawn _).bad_⟩, fun h => absurd (.inl rfl) h, ((Only.refl (fun b => b = g) w).drawn _).put (p := ⟨g, 2, none⟩) (.inl rfl) _⟩
theorem unfixR_q (s : ByteArray) (h1 : 1 ≤ s.size) (h8 : s.size ≤ 8) (w : World) : Calls Tryz.prog 89 #[.string s] w fun e w' => e = .returned (.tuple #[.int .u64 (unle s.data.toList), .int .i64 0]) ∧ ∃ n, w' = w.drewN n :=
  (unfixR_calls s w h1 h8).mono (fun e w' h => ⟨h.1, 0, h.2⟩)
set_option maxHeartbeats 1000000 in
theorem numberR_calls (g : Nat) (s : ByteArray) (k W : Nat) (bad : Bool) (w : World) (h : Rdr 159 w g s k bad) (hk : k ≤ s.size) (hs : s.size ≤ 1000000000000) (h1 : 1 ≤ W) (h8 : W ≤ 8) :
    Calls Tryz.prog 90 #[.pointer (some ⟨g, 0, none⟩), .int .i64 W] w (NumPost 159 g s k W bad w) := by
  have c0 := h.c0
  have c1 := h.c1
  have c2 := h.c2
  have f1 := h.f1
  have f2 := h.f2
  have HR := Lib.hid h
  clear h
  cases bad
  · by_cases hlt : s.size - k < W
    · have hq : decide ((s.size : Int) - (k : Int) < (W : Int)) = true := by simp; omega
      go_enter Tryz.func90, Tryz.ntmps90
      go_wp2_with fail
      go_quiet (fail)
      go_wp2_with fail
      go_ret
      exact ⟨fun _ => ⟨rfl, (HR.out.drawn _).bad_⟩, fun h => absurd (.inr hlt) h, ((Only.refl (fun b => b = g) w).drawn _).put (p := ⟨g, 2, none⟩) (.inl rfl) _⟩
    · have hq : decide ((s.size : Int) - (k : Int) < (W : Int)) = false := by simp; omega
      have hsz : (s.extract k (k + W)).size = W := by rw [ByteArray.size_extract]; omega
      have hun := fun w' => unfixR_q (s.extract k (k + W)) (by omega) (by omega) w'
      have hwp : IntKind.i64.wrap ((k : Int) + (W : Int)) = ((k + W : Nat) : Int) := by rw [Go.IntWalk.i64_in _ (by omega)]; simp
      have hkw : (k : Int) + (W : Int) ≤ (s.size : Int) := by omega
      have hkt : ((k : Int) + (W : Int)).toNat = k + W := by omega
      have hk0 : (0 : Int) ≤ (k : Int) + (W : Int) := by omega
      have hkk : (k : Int) ≤ (k : Int) + (W : Int) := by omega
      go_enter Tryz.func90, Tryz.ntmps90
      go_wp2_with fail
      go_quiet (fail)
      go_wp2_with fail
      go_quiet (first | (refine (hun _).mono ?_; rintro e w9 ⟨rfl, n9, rfl⟩; exact ⟨rfl, _, by rw [VaE.drew2, Nat.add_assoc]⟩))
      go_wp2_with fail
      go_ret
      refine ⟨fun h => absurd h (by simp; omega), fun _ => ⟨rfl, ?_⟩, ((Only.refl (fun b => b = g) w).drawn _).put (p := ⟨g, 1, none⟩) (.inl rfl) _⟩
      have h := (HR.out.drawn (0 + 0)).on (k + W)
      rw [show ((k + W : Nat) : Int) = (k : Int) + (W : Int) by simp] at h
      exact h
  · go_enter Tryz.func90, Tryz.ntmps90
    go_wp2_with fail
    go_quiet (fail)
    go_wp2_with fail
    go_ret
    exact ⟨fun _ => ⟨rfl, (HR.out.drawn _).bad_⟩, fun h => absurd (.inl rfl) h, ((Only.refl (fun b => b = g) w).drawn _).put (p := ⟨g, 2, none⟩) (.inl rfl) _⟩
/-- What a text taken up leaves and hands back. -/
def TextPost (T : TypeId) (g : Nat) (s : ByteArray) (k : Nat) (bad : Bool) (w : World) (e : Ending) (w' : World) : Prop :=
  ∃ n k1 bad1, (if bad = true ∨ s.size - k < 4 then n = 0 ∧ k1 = k ∧ bad1 = true else n = unle ((s.data.toList.drop k).take 4) ∧ k1 = k + 4 ∧ bad1 = false) ∧
    ((bad1 = true ∨ s.size - k1 < n) → e = .returned (.string ⟨#[]⟩) ∧ Rdr T w' g s k1 true) ∧ (¬ (bad1 = true ∨ s.size - k1 < n) → e = .returned (.string (s.extract k1 (k1 + n))) ∧ Rdr T w' g s (k1 + n) false) ∧ Only (fun b => b = g) w w'
end Go.Proofs.YtgmnnpbbiejbnaaGreat.VaQ
set_option maxRecDepth 100000
set_option linter.unusedSimpArgs false
set_option linter.unusedVariables false
namespace Go.Proofs.YtgmnnpbbiejbnaaGreat.VaR
open Go.RowKit Go.Proofs.YtgmnnpbbiejbnaaGreat.Mem Go.Proofs.YtgmnnpbbiejbnaaGreat.VaA Go.Proofs.YtgmnnpbbiejbnaaGreat.VaP Go.Proofs.YtgmnnpbbiejbnaaGreat.VaQ

theorem unle4 (l : List UInt8) : unle (l.take 4) ≤ 4294967295 := by
  have h := unle_lt (l.take 4)
  have h2 : (256 : Nat) ^ (l.take 4).length ≤ 256 ^ 4 := Nat.pow_le_pow_right (by decide) (by simp; omega)
  have h3 : (256 : Nat) ^ 4 = 4294967296 := rfl
  omega

set_option maxHeartbeats 1000000 in
theorem text_calls (g : Nat) (s : ByteArray) (k : Nat) (bad : Bool) (w : World) (h : Rdr 153 w g s k bad) (hk : k ≤ s.size) (hs : s.size ≤ 1000000000000) :
    Calls Tryz.prog 88 #[.pointer (some ⟨g, 0, none⟩)] w (TextPost 153 g s k bad w) := by
  go_enter Tryz.func88, Tryz.ntmps88
  go_wp2_with fail
  refine (number_calls g s k 4 bad w h hk hs (by decide) (by decide)).mono ?_
  rintro e w1 ⟨p1, p2, p3⟩
  by_cases hc : bad = true ∨ s.size - k < 4
  · obtain ⟨rfl, hR⟩ := p1 hc
    clear p1 p2
    have c0 := hR.c0
    have c1 := hR.c1
    have c2 := hR.c2
    have f1 := hR.f1
    have f2 := hR.f2
    have HR := Lib.hid (And.intro hR (And.intro p3 hc))
    clear hR p3 hc h
    go_wp2_with fail
    go_quiet (fail)
    go_wp2_with fail
    go_ret
    exact ⟨0, k, true, by rw [if_pos HR.out.2.2]; exact ⟨rfl, rfl, rfl⟩, fun _ => ⟨rfl, (HR.out.1.drawn _).bad_⟩, fun h => absurd (.inl rfl) h, (HR.out.2.1.drawn _).put (p := ⟨g, 2, none⟩) (.inl rfl) _⟩
  · obtain ⟨rfl, hR⟩ := p2 hc
    clear p1 p2
    obtain ⟨n, hn⟩ : ∃ n, n = unle ((s.data.toList.drop k).take 4) := ⟨_, rfl⟩
    have hn4 : (n : Int) ≤ 4294967295 := by rw [hn]; have := unle4 (s.data.toList.drop k); omega
    rw [← hn]
    have hk4 : k + 4 ≤ s.size := by
      rcases Nat.lt_or_ge (s.size - k) 4 with h' | h'
      · exact absurd (.inr h') hc
      · omega
    obtain ⟨q, hq⟩ : ∃ q, q = k + 4 := ⟨_, rfl⟩
    rw [← hq] at hR hk4
    have c0 := hR.c0
    have c1 := hR.c1
    have c2 := hR.c2
    have f1 := hR.f1
    have f2 := hR.f2
    have HR := Lib.hid (And.intro hR (And.intro p3 (And.intro hc (And.intro hn hq))))
    clear hR p3 hc h hn hq
    have hn0 : (0 : Int) ≤ (n : Int) := Int.natCast_nonneg _
    by_cases hlt : s.size - q < n
    · have hd : decide ((s.size : Int) - (q : Int) < (n : Int)) = true := by simp; omega
      go_wp2_with fail
      go_quiet (fail)
      go_wp2_with fail
      go_ret
      exact ⟨n, q, false, by rw [if_neg HR.out.2.2.1]; exact ⟨HR.out.2.2.2.1, HR.out.2.2.2.2, rfl⟩, fun _ => ⟨rfl, (HR.out.1.drawn _).bad_⟩, fun h => absurd (.inr hlt) h, (HR.out.2.1.drawn _).put (p := ⟨g, 2, none⟩) (.inl rfl) _⟩
    · have hd : decide ((s.size : Int) - (q : Int) < (n : Int)) = false := by simp; omega
      have hqn : (q : Int) + (n : Int) ≤ (s.size : Int) := by omega
      go_wp2_with fail
      go_quiet (fail)
      go_wp2_with fail
      obtain ⟨w3, hw3⟩ : ∃ w3, (w1.drewN nq).setCell ⟨g, 1, none⟩ (.int .i64 ((q : Int) + (n : Int))) = w3 := ⟨_, rfl⟩
      obtain ⟨z, hz⟩ : ∃ z, z = q + n := ⟨_, rfl⟩
      have R3 : Rdr 153 w3 g s z false := by
        have h := (HR.out.1.drawn nq).on (q + n)
        rw [show ((q + n : Nat) : Int) = (q : Int) + (n : Int) by simp, hw3] at h
        unfold Rdr at h ⊢
        rw [hz]
        simpa using h
      have O3 : Only (fun b => b = g) w1 w3 := by rw [← hw3]; exact ((Only.refl (fun b => b = g) w1).drawn _).put (p := ⟨g, 1, none⟩) (.inl rfl) _
      rw [hw3]
      clear hw3 c0 c1 c2 f1 f2 hd
      have c0 := R3.c0
      have c1 := R3.c1
      have hzs : z ≤ s.size := by omega
      have hqz : q ≤ z := by omega
      have hwz : IntKind.i64.wrap ((z : Int) - (n : Int)) = (q : Int) := by rw [Go.IntWalk.i64_in _ (by omega)]; omega
      have H3 := Lib.hid (And.intro R3 (And.intro O3 hz))
      clear R3 O3 hz hqn
      go_quiet (fail)
      go_wp2_with fail
      go_ret
      refine ⟨n, q, false, by rw [if_neg HR.out.2.2.1]; exact ⟨HR.out.2.2.2.1, HR.out.2.2.2.2, rfl⟩, fun h => absurd h (by simp; omega), fun _ => ⟨?_, ?_⟩, (HR.out.2.1.trans H3.out.2.1 (fun b e => .inl e)).drawn _⟩
      · rw [← H3.out.2.2]; rfl
      · rw [← H3.out.2.2]; exact H3.out.1.drawn _
set_option maxHeartbeats 1000000 in
theorem textR_calls (g : Nat) (s : ByteArray) (k : Nat) (bad : Bool) (w : World) (h : Rdr 159 w g s k bad) (hk : k ≤ s.size) (hs : s.size ≤ 1000000000000) :
    Calls Tryz.prog 91 #[.pointer (some ⟨g, 0, none⟩)] w (TextPost 159 g s k bad w) := by
  go_enter Tryz.func91, Tryz.ntmps91
  go_wp2_with fail
  refine (numberR_calls g s k 4 bad w h hk hs (by decide) (by decide)).mono ?_
  rintro e w1 ⟨p1, p2, p3⟩
  by_cases hc : bad = true ∨ s.size - k < 4
  · obtain ⟨rfl, hR⟩ := p1 hc
    clear p1 p2
    have c0 := hR.c0
    have c1 := hR.c1
    have c2 := hR.c2
    have f1 := hR.f1
    have f2 := hR.f2
    have HR := Lib.hid (And.intro hR (And.intro p3 hc))
    clear hR p3 hc h
    go_wp2_with fail
    go_quiet (fail)
    go_wp2_with fail
    go_ret
    exact ⟨0, k, true, by rw [if_pos HR.out.2.2]; exact ⟨rfl, rfl, rfl⟩, fun _ => ⟨rfl, (HR.out.1.drawn _).bad_⟩, fun h => absurd (.inl rfl) h, (HR.out.2.1.drawn _).put (p := ⟨g, 2, none⟩) (.inl rfl) _⟩
  · obtain ⟨rfl, hR⟩ := p2 hc
    clear p1 p2
    obtain ⟨n, hn⟩ : ∃ n, n = unle ((s.data.toList.drop k).take 4) := ⟨_, rfl⟩
    have hn4 : (n : Int) ≤ 4294967295 := by rw [hn]; have := unle4 (s.data.toList.drop k); omega
    rw [← hn]
    have hk4 : k + 4 ≤ s.size := by
      rcases Nat.lt_or_ge (s.size - k) 4 with h' | h'
      · exact absurd (.inr h') hc
      · omega
    obtain ⟨q, hq⟩ : ∃ q, q = k + 4 := ⟨_, rfl⟩
    rw [← hq] at hR hk4
    have c0 := hR.c0
    have c1 := hR.c1
    have c2 := hR.c2
    have f1 := hR.f1
    have f2 := hR.f2
    have HR := Lib.hid (And.intro hR (And.intro p3 (And.intro hc (And.intro hn hq))))
    clear hR p3 hc h hn hq
    have hn0 : (0 : Int) ≤ (n : Int) := Int.natCast_nonneg _
    by_cases hlt : s.size - q < n
    · have hd : decide ((s.size : Int) - (q : Int) < (n : Int)) = true := by simp; omega
      go_wp2_with fail
      go_quiet (fail)
      go_wp2_with fail
      go_ret
      exact ⟨n, q, false, by rw [if_neg HR.out.2.2.1]; exact ⟨HR.out.2.2.2.1, HR.out.2.2.2.2, rfl⟩, fun _ => ⟨rfl, (HR.out.1.drawn _).bad_⟩, fun h => absurd (.inr hlt) h, (HR.out.2.1.drawn _).put (p := ⟨g, 2, none⟩) (.inl rfl) _⟩
    · have hd : decide ((s.size : Int) - (q : Int) < (n : Int)) = false := by simp; omega
      have hqn : (q : Int) + (n : Int) ≤ (s.size : Int) := by omega
      go_wp2_with fail
      go_quiet (fail)
      go_wp2_with fail
      obtain ⟨w3, hw3⟩ : ∃ w3, (w1.drewN nq).setCell ⟨g, 1, none⟩ (.int .i64 ((q : Int) + (n : Int))) = w3 := ⟨_, rfl⟩
      obtain ⟨z, hz⟩ : ∃ z, z = q + n := ⟨_, rfl⟩
      have R3 : Rdr 159 w3 g s z false := by
        have h := (HR.out.1.drawn nq).on (q + n)
        rw [show ((q + n : Nat) : Int) = (q : Int) + (n : Int) by simp, hw3] at h
        unfold Rdr at h ⊢
        rw [hz]
        simpa using h
      have O3 : Only (fun b => b = g) w1 w3 := by rw [← hw3]; exact ((Only.refl (fun b => b = g) w1).drawn _).put (p := ⟨g, 1, none⟩) (.inl rfl) _
      rw [hw3]
      clear hw3 c0 c1 c2 f1 f2 hd
      have c0 := R3.c0
      have c1 := R3.c1
      have hzs : z ≤ s.size := by omega
      have hqz : q ≤ z := by omega
      have hwz : IntKind.i64.wrap ((z : Int) - (n : Int)) = (q : Int) := by rw [Go.IntWalk.i64_in _ (by omega)]; omega
      have H3 := Lib.hid (And.intro R3 (And.intro O3 hz))
      clear R3 O3 hz hqn
      go_quiet (fail)
      go_wp2_with fail
      go_ret
      refine ⟨n, q, false, by rw [if_neg HR.out.2.2.1]; exact ⟨HR.out.2.2.2.1, HR.out.2.2.2.2, rfl⟩, fun h => absurd h (by simp; omega), fun _ => ⟨?_, ?_⟩, (HR.out.2.1.trans H3.out.2.1 (fun b e => .inl e)).drawn _⟩
      · rw [← H3.out.2.2]; rfl
      · rw [← H3.out.2.2]; exact H3.out.1.drawn _
end Go.Proofs.YtgmnnpbbiejbnaaGreat.VaR
set_option maxRecDepth 100000
set_option linter.unusedSimpArgs false
set_option linter.unusedVariables false
namespace Go.Proofs.YtgmnnpbbiejbnaaGreat.VbA
open Go.RowKit Go.Proofs.YtgmnnpbbiejbnaaGreat.Mem Go.Proofs.YtgmnnpbbiejbnaaGreat.VaA Go.Proofs.YtgmnnpbbiejbnaaGreat.VaC Go.Proofs.YtgmnnpbbiejbnaaGreat.VaH Go.Proofs.YtgmnnpbbiejbnaaGreat.VaP Go.Proofs.YtgmnnpbbiejbnaaGreat.VaQ Go.Proofs.YtgmnnpbbiejbnaaGreat.VaR

/-- A number taken up: it, how far, bad? -/
def rnum (s : ByteArray) (W : Nat) (p : Nat × Bool) : Nat × (Nat × Bool) :=
  if p.2 = true ∨ s.size - p.1 < W then (0, (p.1, true)) else (unle ((s.data.toList.drop p.1).take W), (p.1 + W, false))
/-- A text taken up. -/
def rtxt (s : ByteArray) (p : Nat × Bool) : ByteArray × (Nat × Bool) :=
  if (rnum s 4 p).2.2 = true ∨ s.size - (rnum s 4 p).2.1 < (rnum s 4 p).1 then (⟨#[]⟩, ((rnum s 4 p).2.1, true))
  else (s.extract (rnum s 4 p).2.1 ((rnum s 4 p).2.1 + (rnum s 4 p).1), ((rnum s 4 p).2.1 + (rnum s 4 p).1, false))
theorem rnum_le (s : ByteArray) (W : Nat) (p : Nat × Bool) (h : p.1 ≤ s.size) : (rnum s W p).2.1 ≤ s.size := by
  unfold rnum; split
  · exact h
  · rename_i hn
    have : ¬ s.size - p.1 < W := fun h => hn (.inr h)
    show p.1 + W ≤ s.size
    omega
theorem rtxt_le (s : ByteArray) (p : Nat × Bool) (h : p.1 ≤ s.size) : (rtxt s p).2.1 ≤ s.size := by
  have h1 := rnum_le s 4 p h
  unfold rtxt; split
  · exact h1
  · rename_i hn
    have : ¬ s.size - (rnum s 4 p).2.1 < (rnum s 4 p).1 := fun h => hn (.inr h)
    show _ + _ ≤ s.size
    omega
theorem rnum_grow (s : ByteArray) (W : Nat) (p : Nat × Bool) (h : (rnum s W p).2.2 = false) : (rnum s W p).2.1 = p.1 + W ∧ p.2 = false := by
  unfold rnum at h ⊢; split at h
  · cases h
  · rename_i hn
    rw [if_neg hn]
    exact ⟨rfl, by cases hp : p.2 <;> simp_all⟩
theorem rtxt_grow (s : ByteArray) (p : Nat × Bool) (h : (rtxt s p).2.2 = false) : p.1 + 4 ≤ (rtxt s p).2.1 ∧ p.2 = false := by
  unfold rtxt at h ⊢; split at h
  · cases h
  · rename_i hn
    rw [if_neg hn]
    have h1 : (rnum s 4 p).2.2 = false := by cases hh : (rnum s 4 p).2.2 <;> simp_all
    have := rnum_grow s 4 p h1
    exact ⟨by show _ ≤ (rnum s 4 p).2.1 + _; omega, this.2⟩
theorem rtxt_size (s : ByteArray) (p : Nat × Bool) : (rtxt s p).1.size ≤ s.size := by
  unfold rtxt; split
  · exact Nat.zero_le _
  · show (s.extract _ _).size ≤ _
    rw [ByteArray.size_extract]; omega

/-- What has been read. -/
structure DS where
  k : Nat
  bad : Bool
  l : List ByteArray
  f : List (ByteArray × ByteArray)
  r : List (ByteArray × Int)
/-- One round. -/
def rd1 (s : ByteArray) (kind : Nat) (st : DS) : DS :=
  if kind = 2 ∨ kind = 4 then ⟨(rtxt s (st.k, st.bad)).2.1, (rtxt s (st.k, st.bad)).2.2, st.l ++ [(rtxt s (st.k, st.bad)).1], st.f, st.r⟩
  else if kind = 3 then ⟨(rtxt s (rtxt s (st.k, st.bad)).2).2.1, (rtxt s (rtxt s (st.k, st.bad)).2).2.2, st.l, st.f ++ [((rtxt s (st.k, st.bad)).1, (rtxt s (rtxt s (st.k, st.bad)).2).1)], st.r⟩
  else if kind = 5 then ⟨(rtxt s (rnum s 8 (st.k, st.bad)).2).2.1, (rtxt s (rnum s 8 (st.k, st.bad)).2).2.2, st.l, st.f, st.r ++ [((rtxt s (rnum s 8 (st.k, st.bad)).2).1, IntKind.i64.wrap ((rnum s 8 (st.k, st.bad)).1 : Int))]⟩
  else { st with bad := true }
def rdN (s : ByteArray) (kind : Nat) : Nat → DS → DS
  | 0, st => st
  | n + 1, st => if st.bad = true then st else rdN s kind n (rd1 s kind st)
theorem rdN_bad {s : ByteArray} {kind n : Nat} {st : DS} (h : st.bad = true) : rdN s kind n st = st := by
  cases n with
  | zero => rfl
  | succ n => unfold rdN; rw [if_pos h]
/-- All that is read: the kind, the text, the lists, how far, bad? -/
structure Dc where
  kind : Nat
  text : ByteArray
  st : DS
def decD (s : ByteArray) : Dc :=
  if (rnum s 1 (0, false)).1 = 1 then ⟨1, (rtxt s (rnum s 1 (0, false)).2).1, ⟨(rtxt s (rnum s 1 (0, false)).2).2.1, (rtxt s (rnum s 1 (0, false)).2).2.2, [], [], []⟩⟩
  else ⟨(rnum s 1 (0, false)).1, ⟨#[]⟩, rdN s (rnum s 1 (0, false)).1 (rnum s 4 (rnum s 1 (0, false)).2).1 ⟨(rnum s 4 (rnum s 1 (0, false)).2).2.1, (rnum s 4 (rnum s 1 (0, false)).2).2.2, [], [], []⟩⟩
/-- A value without its places. -/
def bare (k : Int) (t : ByteArray) (l : List ByteArray) (f : List (ByteArray × ByteArray)) (r : List (ByteArray × Int)) : VV := ⟨k, t, none, l.length, l.length, l, none, f.length, f.length, f, none, r.length, r.length, r⟩
def Dc.v (d : Dc) : VV := bare d.kind d.text d.st.l d.st.f d.st.r
/-- Is it a value? -/
def Dc.ok (d : Dc) : Bool := !d.st.bad && decide (chk d.v = 0)

section
variable (g : Nat) (s : ByteArray) (k W : Nat) (bad : Bool) (w : World) {n k' : Nat} {b' : Bool} {t : ByteArray}
theorem num_eq {T : TypeId} {e : Ending} {w' : World} (h : NumPost T g s k W bad w e w') (hn : rnum s W (k, bad) = (n, (k', b'))) : e = .returned (.int .u64 n) ∧ Rdr T w' g s k' b' ∧ Only (fun b => b = g) w w' := by
  unfold rnum at hn
  obtain ⟨h1, h2, h3⟩ := h
  split at hn
  · rename_i hc
    injection hn with e1 e2; injection e2 with e2 e3; subst e1 e2 e3
    exact ⟨(h1 hc).1, (h1 hc).2, h3⟩
  · rename_i hc
    injection hn with e1 e2; injection e2 with e2 e3; subst e1 e2 e3
    exact ⟨(h2 hc).1, (h2 hc).2, h3⟩
theorem txt_eq {T : TypeId} {e : Ending} {w' : World} (h : TextPost T g s k bad w e w') (ht : rtxt s (k, bad) = (t, (k', b'))) : e = .returned (.string t) ∧ Rdr T w' g s k' b' ∧ Only (fun b => b = g) w w' := by
  obtain ⟨n, k1, bad1, h0, h1, h2, h3⟩ := h
  have hr : rnum s 4 (k, bad) = (n, (k1, bad1)) := by
    unfold rnum
    split at h0
    · rename_i hc
      rw [if_pos hc]; obtain ⟨rfl, rfl, rfl⟩ := h0; rfl
    · rename_i hc
      rw [if_neg hc]; obtain ⟨rfl, rfl, rfl⟩ := h0; rfl
  unfold rtxt at ht
  rw [hr] at ht
  dsimp only at ht
  split at ht
  · rename_i hc
    injection ht with e1 e2; injection e2 with e2 e3; subst e1 e2 e3
    exact ⟨(h1 hc).1, (h1 hc).2, h3⟩
  · rename_i hc
    injection ht with e1 e2; injection e2 with e2 e3; subst e1 e2 e3
    exact ⟨(h2 hc).1, (h2 hc).2, h3⟩
theorem num_p (h : Rdr 153 w g s k bad) (hk : k ≤ s.size) (hs : s.size ≤ 1000000000000) (h1 : 1 ≤ W) (h8 : W ≤ 8) (hn : rnum s W (k, bad) = (n, (k', b'))) :
    Calls Tryz.prog 87 #[.pointer (some ⟨g, 0, none⟩), .int .i64 W] w fun e w' => e = .returned (.int .u64 n) ∧ Rdr 153 w' g s k' b' ∧ Only (fun b => b = g) w w' :=
  (number_calls g s k W bad w h hk hs h1 h8).mono fun e w' h => num_eq g s k W bad w h hn
theorem num_r (h : Rdr 159 w g s k bad) (hk : k ≤ s.size) (hs : s.size ≤ 1000000000000) (h1 : 1 ≤ W) (h8 : W ≤ 8) (hn : rnum s W (k, bad) = (n, (k', b'))) :
    Calls Tryz.prog 90 #[.pointer (some ⟨g, 0, none⟩), .int .i64 W] w fun e w' => e = .returned (.int .u64 n) ∧ Rdr 159 w' g s k' b' ∧ Only (fun b => b = g) w w' :=
  (numberR_calls g s k W bad w h hk hs h1 h8).mono fun e w' h => num_eq g s k W bad w h hn
theorem txt_p (h : Rdr 153 w g s k bad) (hk : k ≤ s.size) (hs : s.size ≤ 1000000000000) (ht : rtxt s (k, bad) = (t, (k', b'))) :
    Calls Tryz.prog 88 #[.pointer (some ⟨g, 0, none⟩)] w fun e w' => e = .returned (.string t) ∧ Rdr 153 w' g s k' b' ∧ Only (fun b => b = g) w w' :=
  (text_calls g s k bad w h hk hs).mono fun e w' h => txt_eq g s k bad w h ht
theorem txt_r (h : Rdr 159 w g s k bad) (hk : k ≤ s.size) (hs : s.size ≤ 1000000000000) (ht : rtxt s (k, bad) = (t, (k', b'))) :
    Calls Tryz.prog 91 #[.pointer (some ⟨g, 0, none⟩)] w fun e w' => e = .returned (.string t) ∧ Rdr 159 w' g s k' b' ∧ Only (fun b => b = g) w w' :=
  (textR_calls g s k bad w h hk hs).mono fun e w' h => txt_eq g s k bad w h ht
end
end Go.Proofs.YtgmnnpbbiejbnaaGreat.VbA
