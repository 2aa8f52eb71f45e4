/-
  texts; both indexes beside each other; the law's example. Conditions: as stated.
-/
import Derived.Test.YtabgngdimbflkaaDuU
set_option maxRecDepth 100000
set_option linter.unusedSimpArgs false
set_option linter.unusedVariables false
namespace Go.Proofs.Ytabgngdimbflkaa.DuV
open Go.RowKit Go.Shelf Go.Proofs.Ytabgngdimbflkaa.Mem Go.Proofs.Ytabgngdimbflkaa.DuA Go.Proofs.Ytabgngdimbflkaa.DuM Go.Proofs.Ytabgngdimbflkaa.DuN Go.Proofs.Ytabgngdimbflkaa.DuB Go.Proofs.Ytabgngdimbflkaa.DuO Go.Proofs.Ytabgngdimbflkaa.DsC Go.Proofs.Ytabgngdimbflkaa.DsH Go.Proofs.Ytabgngdimbflkaa.DsI Go.Proofs.Ytabgngdimbflkaa.DsJ Go.Proofs.Ytabgngdimbflkaa.DsK Go.Proofs.Ytabgngdimbflkaa.DsL Go.Proofs.Ytabgngdimbflkaa.DuR Go.Proofs.Ytabgngdimbflkaa.DuS Go.Proofs.Ytabgngdimbflkaa.DuT Go.Proofs.Ytabgngdimbflkaa.DuU

theorem drew2 (w : World) (a b : Nat) : (w.drewN a).drewN b = w.drewN (a + b) := by
  unfold World.drewN; simp [Nat.add_assoc]
theorem rdk_len {w : World} {A : Option Addr} {n c : Nat} {l : List ByteArray} (h : RdKs w A n c l) : l.length = n := by have := h.len; simp [keysV] at this; omega
theorem rdk_get {w : World} {A : Option Addr} {n c : Nat} {l : List ByteArray} (h : RdKs w A n c l) {i : Nat} {s : ByteArray} (hs : l[i]? = some s) : ∃ p, A = some p ∧ w.cell? (p.add i) = some (.string s) := h.get i (.string s) (by simp [keysV, hs])

set_option maxHeartbeats 1000000 in
theorem texts_calls (A : Option Addr) (n c : Nat) (l : List ByteArray) (B : Option Addr) (m d : Nat) (k : List ByteArray) (w : World) (ha : RdKs w A n c l) (hb : RdKs w B m d k) :
    Calls Try.prog 12 #[.slice A n c, .slice B m d] w fun e w' => e = .returned (.bool (decide (l = k))) ∧ ∃ nd, w' = w.drewN nd := by
  obtain rfl := rdk_len ha
  obtain rfl := rdk_len hb
  have h1 := ha.cap
  have h2 : c ≤ 9223372036854775807 := ha.big
  have h3 := hb.cap
  have h4 : d ≤ 9223372036854775807 := hb.big
  go_enter Try.func12, Try.ntmps12
  by_cases hl : l.length = k.length
  · have HL := Lib.hid hl
    have hbq : ((l.length : Int) == (k.length : Int)) = true := by simp [hl]
    clear hl
    go_wp2_with fail
    go_loopw [5] (fun i wr => ∃ j : Nat, j ≤ l.length ∧ i = .int .i64 j ∧ (∀ i x y, i < j → l[i]? = some x → k[i]? = some y → x = y) ∧ ∃ nd, wr = w.drewN nd) (fun i _ => l.length - (intOf i).toNat)
    case atStart => exact ⟨0, Nat.zero_le _, rfl, fun i x y h => by omega, 0, rfl⟩
    case round =>
      obtain ⟨j, hj, rfl, hin, nd, rfl⟩ := hrel
      have Hin := Lib.hid hin
      clear hin
      by_cases hlt : j < l.length
      · obtain ⟨s, hs⟩ : ∃ s, l[j]? = some s := ⟨_, List.getElem?_eq_getElem hlt⟩
        have hlt2 : j < k.length := by have := HL.out; omega
        obtain ⟨t, ht⟩ : ∃ t, k[j]? = some t := ⟨_, List.getElem?_eq_getElem hlt2⟩
        obtain ⟨p, rfl, cp⟩ := rdk_get ha hs
        obtain ⟨q, rfl, cq⟩ := rdk_get hb ht
        have Hs := Lib.hid (And.intro hs ht)
        clear hs ht
        by_cases he : s = t
        · have hne : (s.toList == t.toList) = true := by simp [he]
          have HE := Lib.hid he
          clear he
          go_wp2_with fail
          go_quiet (fail)
          go_wp2_with fail
          refine ⟨⟨j + 1, by omega, by go_num, fun i x y hi hx hy => ?_, nd + nq, by first | rfl | exact drew2 _ _ _⟩, by simp [intOf]; omega⟩
          by_cases h : i < j
          · exact Hin.out i x y h hx hy
          · obtain rfl : i = j := by omega
            rw [Hs.out.1] at hx; injection hx with hx; subst hx
            rw [Hs.out.2] at hy; injection hy with hy; subst hy
            exact HE.out
        · have hne : (s.toList == t.toList) = false := by rw [toL_beq]; simp [he]
          have HE := Lib.hid he
          clear he
          go_wp2_with fail
          go_quiet (fail)
          go_wp2_with fail
          go_ret
          refine ⟨?_, nd + nq, by first | rfl | exact drew2 _ _ _⟩
          have : l ≠ k := fun e => HE.out (by have h1 := Hs.out.1; have h2 := Hs.out.2; rw [e] at h1; exact Option.some.inj (h1.symm.trans h2))
          simp [this]
      · obtain rfl : j = l.length := by omega
        have hlk : l = k := List.ext_getElem HL.out (fun i h1 h2 => Hin.out i _ _ h1 (List.getElem?_eq_getElem h1) (List.getElem?_eq_getElem h2))
        have HK := Lib.hid hlk
        clear hlk
        go_wp2_with fail
        go_ret
        exact ⟨by rw [decide_eq_true HK.out] <;> rfl, nd, rfl⟩
  · have hbq : ((l.length : Int) == (k.length : Int)) = false := by simp; omega
    have HL := Lib.hid hl
    clear hl
    go_wp2_with fail
    go_ret
    refine ⟨?_, 0, rfl⟩
    have : l ≠ k := fun e => HL.out (by rw [e])
    simp [this]

/-- Both indexes, apart from each other. -/
structure Bo (w : World) (B g m : Nat) (v : Value) (lx : List (Int × ByteArray)) (h : Nat) (A : Option Addr) (c : Nat) (ly : List (Int × ByteArray)) (N : Nat) : Prop where
  x : Ix w B g m v lx N
  y : Yx w B h A c ly
  ap : ¬ IxS g m v h
  ar : ∀ ad, A = some ad → ¬ IxS g m v ad.block
section
variable {w w' : World} {B g m h c N N' : Nat} {v : Value} {A : Option Addr} {lx ly l' : List (Int × ByteArray)}
theorem Bo.below (b : Bo w B g m v lx h A c ly N) (hb : Below w.heap.size w w') : Bo w' B g m v lx h A c ly N := ⟨b.x.below hb, b.y.below hb, b.ap, b.ar⟩
theorem ixs_new {g m : Nat} {v v' : Value} {k n : Nat} (hv : v'.ownBlock = v.ownBlock ∨ ∃ k, v'.ownBlock = some k ∧ n ≤ k) (hk : k < n) (hn : ¬ IxS g m v k) : ¬ IxS g m v' k := by
  rintro (rfl | rfl | h)
  · exact hn (.inl rfl)
  · exact hn (.inr (.inl rfl))
  · rcases hv with e | ⟨k', e, h'⟩
    · exact hn (.inr (.inr (by rw [← e]; exact h)))
    · rw [e] at h; injection h with h; omega
theorem Bo.turn (b : Bo w B g m v lx h A c ly N) (t : Turn B g m v l' N' w w') : ∃ v', Bo w' B g m v' l' h A c ly N' ∧ (v'.ownBlock = v.ownBlock ∨ ∃ k, v'.ownBlock = some k ∧ w.heap.size ≤ k) ∧ Only (IxS g m v) w w' := by
  obtain ⟨v', hx, ho, hv⟩ := t
  exact ⟨v', ⟨hx, b.y.only ho b.ap b.ar, ixs_new hv b.y.lt b.ap, fun ad e => ixs_new hv (b.y.nh ad e).2 (b.ar ad e)⟩, hv, ho⟩
theorem Bo.dturn (b : Bo w B g m v lx h A c ly N) (t : DTurn B h A l' w w') : ∃ A' c', Bo w' B g m v lx h A' c' l' N ∧ Only (fun k => k = h) w w' := by
  obtain ⟨A', c', hy, ho, ha⟩ := t
  refine ⟨A', c', ⟨b.x.only ho (fun k hk e => b.ap (by rw [← e]; exact hk)), hy, b.ap, fun ad e => ?_⟩, ho⟩
  rcases ha ad e with ⟨a0, e0, hb⟩ | hb
  · rw [hb]; exact b.ar a0 e0
  · intro hx; have := (b.x.lt _ hx).2; omega
theorem Bo.belT (b : Bo w B g m v lx h A c ly N) (hB : B ≤ w.heap.size) (ho : Only (IxS g m v) w w') : Below B w w' := ho.below hB (fun k hk => (b.x.lt k hk).1)
theorem Bo.belD (b : Bo w B g m v lx h A c ly N) (hB : B ≤ w.heap.size) (ho : Only (fun k => k = h) w w') : Below B w w' := ho.below hB (fun k hk => by subst hk; exact b.y.hB)
end

abbrev bA : ByteArray := ⟨#[97]⟩
abbrev bB : ByteArray := ⟨#[98]⟩
abbrev bC : ByteArray := ⟨#[99]⟩
theorem e_b : setL [] bB 5 = [(5, bB)] := by decide +kernel
theorem e_a : setL [(5, bB)] bA 5 = [(5, bA), (5, bB)] := by decide +kernel
theorem e_c : setL [(5, bA), (5, bB)] bC 2 = [(2, bC), (5, bA), (5, bB)] := by decide +kernel
theorem e_p : peekL [(2, bC), (5, bA), (5, bB)] 5 2 = [bC, bA] := by decide +kernel
end Go.Proofs.Ytabgngdimbflkaa.DuV
