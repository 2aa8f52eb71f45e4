/-
  Small ones: the document's Same of texts; Empty, Weight. Conditions: as stated.
-/
import Derived.Test.YtgmnnpbbiejbnaaGreatVaM
import Derived.Test.YtgmnnpbbiejbnaaGreatVaI
set_option maxRecDepth 100000
set_option linter.unusedSimpArgs false
set_option linter.unusedVariables false
namespace Go.Proofs.YtgmnnpbbiejbnaaGreat.VaN
open Go.RowKit Go.Proofs.YtgmnnpbbiejbnaaGreat.Mem Go.Proofs.YtgmnnpbbiejbnaaGreat.VaA Go.Proofs.YtgmnnpbbiejbnaaGreat.VaB Go.Proofs.YtgmnnpbbiejbnaaGreat.VaC Go.Proofs.YtgmnnpbbiejbnaaGreat.VaD Go.Proofs.YtgmnnpbbiejbnaaGreat.VaE Go.Proofs.YtgmnnpbbiejbnaaGreat.VaF Go.Proofs.YtgmnnpbbiejbnaaGreat.VaG Go.Proofs.YtgmnnpbbiejbnaaGreat.VaH Go.Proofs.YtgmnnpbbiejbnaaGreat.VaI Go.Proofs.YtgmnnpbbiejbnaaGreat.VaJ Go.Proofs.YtgmnnpbbiejbnaaGreat.VaK Go.Proofs.YtgmnnpbbiejbnaaGreat.VaL
attribute [local go_sem] m_text_empty m_list_empty m_hash_empty m_set_empty m_ranked_empty

theorem list_eq_of {α : Type} {a b : List α} (hl : a.length = b.length) (h : ∀ (i : Nat) (x y : α), a[i]? = some x → b[i]? = some y → x = y) : a = b := by
  apply List.ext_getElem hl
  intro i h1 h2
  exact h i _ _ (List.getElem?_eq_getElem h1) (List.getElem?_eq_getElem h2)

set_option maxHeartbeats 1000000 in
theorem sameS_calls (A : Option Addr) (n c : Nat) (l : List ByteArray) (B : Option Addr) (m d : Nat) (k : List ByteArray) (w : World) (ha : RdS w A n c l) (hb : RdS w B m d k) :
    Calls Tryz.prog 59 #[.slice A n c, .slice B m d] w fun e w' => e = .returned (.bool (decide (l = k))) ∧ ∃ nd, w' = w.drewN nd := by
  obtain rfl := rds_len ha
  obtain rfl := rds_len hb
  have h1 := ha.cap
  have h2 : c ≤ 9223372036854775807 := ha.big
  have h3 := hb.cap
  have h4 : d ≤ 9223372036854775807 := hb.big
  go_enter Tryz.func59, Tryz.ntmps59
  by_cases hl : l.length = k.length
  · have HL := Lib.hid hl
    have hbq : ((l.length : Int) == (k.length : Int)) = true := by simp [hl]
    clear hl
    go_wp2_with fail
    go_loopw [5] (fun i wr => ∃ j : Nat, j ≤ l.length ∧ i = .int .i64 j ∧ (∀ i x y, i < j → l[i]? = some x → k[i]? = some y → x = y) ∧ ∃ nd, wr = w.drewN nd) (fun i _ => l.length - (intOf i).toNat)
    case atStart => exact ⟨0, Nat.zero_le _, rfl, fun i x y h => by omega, 0, rfl⟩
    case round =>
      obtain ⟨j, hj, rfl, hin, nd, rfl⟩ := hrel
      have Hin := Lib.hid hin
      clear hin
      by_cases hlt : j < l.length
      · obtain ⟨s, hs⟩ : ∃ s, l[j]? = some s := ⟨_, List.getElem?_eq_getElem hlt⟩
        have hlt2 : j < k.length := by have := HL.out; omega
        obtain ⟨t, ht⟩ : ∃ t, k[j]? = some t := ⟨_, List.getElem?_eq_getElem hlt2⟩
        obtain ⟨p, rfl, cp⟩ := rds_get ha hs
        obtain ⟨q, rfl, cq⟩ := rds_get hb ht
        have Hs := Lib.hid (And.intro hs ht)
        clear hs ht
        cases he : (s.toList == t.toList)
        · have HE := Lib.hid he
          go_wp2_with fail
          go_quiet (fail)
          go_wp2_with fail
          go_ret
          exact ⟨by rw [decide_eq_false (fun e => by rw [e, Hs.out.2] at Hs; have h := Hs.out.1; injection h with h; have := HE.out; rw [h] at this; simp at this)]; rfl, nd + nq, by first | rfl | exact drew2 _ _ _⟩
        · have HE := Lib.hid he
          go_wp2_with fail
          go_quiet (fail)
          go_wp2_with fail
          refine ⟨⟨j + 1, by omega, by go_num, fun i x y hi hx hy => ?_, nd + nq, by first | rfl | exact drew2 _ _ _⟩, by simp [intOf]; omega⟩
          by_cases h : i < j
          · exact Hin.out i x y h hx hy
          · obtain rfl : i = j := by omega
            rw [Hs.out.1] at hx; injection hx with hx; subst hx
            rw [Hs.out.2] at hy; injection hy with hy; subst hy
            have := HE.out
            rw [beq_iff_eq] at this
            exact toL_inj this
      · obtain rfl : j = l.length := by omega
        go_wp2_with fail
        go_ret
        exact ⟨by rw [decide_eq_true (list_eq_of HL.out (fun i x y hx hy => Hin.out i x y (List.getElem?_eq_some_iff.1 hx).1 hx hy))]; rfl, nd, rfl⟩
  · have HL := Lib.hid hl
    have hbq : ((l.length : Int) == (k.length : Int)) = false := by simp; omega
    go_wp2_with fail
    go_ret
    exact ⟨by rw [decide_eq_false (fun e => HL.out (by rw [e]))]; rfl, 0, rfl⟩

end Go.Proofs.YtgmnnpbbiejbnaaGreat.VaN
