/-
  Whether what a value has may be: sets and hashes. Conditions: as stated.
-/
import Derived.Test.YtjofbagaobdmoaaGreatVaE
import Derived.Deep.RegionWith
import Derived.Sort.AtCall
set_option maxRecDepth 100000
set_option linter.unusedSimpArgs false
set_option linter.unusedVariables false
namespace Go.Proofs.YtjofbagaobdmoaaGreat.VaF
open Go.RowKit Go.Proofs.YtjofbagaobdmoaaGreat.Mem Go.Proofs.YtjofbagaobdmoaaGreat.VaA Go.Proofs.YtjofbagaobdmoaaGreat.VaB Go.Proofs.YtjofbagaobdmoaaGreat.VaC Go.Proofs.YtjofbagaobdmoaaGreat.VaE

theorem short_q {s : ByteArray} {b : Bool} (h : shortB s = b) (w : World) : Calls Tryz.prog 147 #[.string s] w fun e w' => e = .returned (.bool b) ∧ ∃ n, w' = w.drewN n := by
  subst h
  exact (short_calls s w).mono (fun e w' h => ⟨h.1, 0, h.2⟩)

theorem rightS_calls (A : Option Addr) (n c : Nat) (l : List ByteArray) (w : World) (hr : RdS w A n c l) :
    Calls Tryz.prog 160 #[.slice A n c] w fun e w' => e = .returned (.bool (l.all shortB && ris ltS l)) ∧ ∃ nd, w' = w.drewN nd := by
  go_enter Tryz.func160, Tryz.ntmps160
  go_wp2_with fail
  refine (rightL_calls A n c l w hr).mono ?_
  rintro e w1 ⟨rfl, rfl⟩
  cases hb : l.all shortB
  · go_wp2_with fail
    go_ret
    exact ⟨by rw [show (l.all shortB && ris ltS l) = false by rw [hb]; rfl]; rfl, 0, rfl⟩
  · go_wp2_with fail
    refine (valid_calls A n c l _ hr).mono ?_
    rintro e w2 ⟨rfl, nd, rfl⟩
    go_wp2_with fail
    go_ret
    exact ⟨by rw [show (l.all shortB && ris ltS l) = ris ltS l by rw [hb]; rfl]; rfl, nd, rfl⟩

theorem below_drawn_ {B : Nat} {w w' : World} (h : Below B w w') (n : Nat) : Below B w (w'.drewN n) := h.trans ⟨rfl, rfl, rfl, Nat.le_refl _, fun _ _ => rfl⟩
/-- A hash's entries: short, and rising by their names. -/
def okH (l : List (ByteArray × ByteArray)) : Bool := l.all (fun f => shortB f.1 && shortB f.2) && ris (fun a b => ltS a.1 b.1) l

set_option maxHeartbeats 2000000 in
theorem rightH_calls (A : Option Addr) (n c : Nat) (l : List (ByteArray × ByteArray)) (w : World) (hr : RdF w A n c l) :
    Calls Tryz.prog 157 #[.slice A n c] w fun e w' => e = .returned (.bool (okH l)) ∧ Below w.heap.size w w' := by
  obtain rfl := rdf_len hr
  have hcap := hr.cap
  have hbig : c ≤ 9223372036854775807 := hr.big
  go_enter Tryz.func157, Tryz.ntmps157
  go_wp2_with fail
  go_loopw [7] (fun i wr => ∃ k : Nat, k ≤ l.length ∧ i = .int .i64 k ∧ ((l.take k).all (fun f => shortB f.1 && shortB f.2) = true ∧ ∀ j a b, j + 1 < k → l[j]? = some a → l[j + 1]? = some b → ltS a.1 b.1 = true) ∧ Below w.heap.size w wr) (fun i _ => l.length - (intOf i).toNat)
  case atStart => exact ⟨0, Nat.zero_le _, rfl, ⟨rfl, fun j a b h => by omega⟩, Below.refl _ _⟩
  case round =>
    obtain ⟨k, hk, rfl, hin, hb⟩ := hrel
    have Hin := Lib.hid hin
    clear hin
    by_cases hlt : k < l.length
    · obtain ⟨f, hf⟩ : ∃ f, l[k]? = some f := ⟨_, List.getElem?_eq_getElem hlt⟩
      have hrw := hr.below hb
      obtain ⟨p, rfl, cp0, cp1⟩ := rdf_get hrw hf
      have k0 : wr.cell? (p.add (k * 2)) = some (.string f.1) := cp0
      have k1 : wr.cell? ⟨(p.add (k * 2)).block, (p.add (k * 2)).off + 1, none⟩ = some (.string f.2) := cp1
      have hpb : (p.add (k * 2)).block ≠ wr.heap.size := fun e => by
        have := cell_lt k0; omega
      obtain ⟨b1, h1⟩ : ∃ b1, shortB f.1 = b1 := ⟨_, rfl⟩
      obtain ⟨b2, h2⟩ : ∃ b2, shortB f.2 = b2 := ⟨_, rfl⟩
      have Hf := Lib.hid hf
      have Hb := Lib.hid hb
      clear cp0 cp1 hf hb hrw
      have S1 := fun w => short_q h1 w
      have S2 := fun w => short_q h2 w
      have H1 := Lib.hid h1
      have H2 := Lib.hid h2
      clear h1 h2
      cases b1
      · go_wp2_with fail
        go_quiet (first
          | (go_at_call_has 147 (f.1); exact Calls.quiet_of (S1 _))
          | (go_at_call_has 147 (f.2); exact Calls.quiet_of (S2 _)))
        go_wp2_with fail
        go_ret
        exact ⟨by rw [show okH l = false by unfold okH; rw [not_all Hf.out (by rw [H1.out]; rfl)]; rfl]; rfl, below_drawn_ ((Hb.out).alloc Hb.out.size _) _⟩
      cases b2
      · go_wp2_with fail
        go_quiet (first
          | (go_at_call_has 147 (f.1); exact Calls.quiet_of (S1 _))
          | (go_at_call_has 147 (f.2); exact Calls.quiet_of (S2 _)))
        go_wp2_with fail
        go_ret
        exact ⟨by rw [show okH l = false by unfold okH; rw [not_all Hf.out (by rw [H1.out, H2.out]; rfl)]; rfl]; rfl, below_drawn_ ((Hb.out).alloc Hb.out.size _) _⟩
      rcases Nat.eq_zero_or_pos k with h0 | hpos
      · have hdec : decide (0 < k) = false := by rw [h0]; rfl
        have H0 := Lib.hid h0
        clear h0
        go_wp2_with fail
        go_quiet (first
          | (go_at_call_has 147 (f.1); exact Calls.quiet_of (S1 _))
          | (go_at_call_has 147 (f.2); exact Calls.quiet_of (S2 _)))
        go_wp2_with fail
        refine ⟨⟨k + 1, by omega, by go_num, ⟨take_all Hf.out Hin.out.1 (by rw [H1.out, H2.out]; rfl), ?_⟩, below_drawn_ ((Hb.out).alloc Hb.out.size _) _⟩, by simp [intOf]; omega⟩
        intro i a b hi; have := H0.out; omega
      · obtain ⟨j, hj⟩ : ∃ j, j = k - 1 := ⟨_, rfl⟩
        obtain ⟨t, ht⟩ : ∃ t, l[j]? = some t := ⟨_, List.getElem?_eq_getElem (by omega)⟩
        obtain ⟨q, e, cq0, -⟩ := rdf_get (hr.below Hb.out) ht
        injection e with e; subst e
        have q0 : wr.cell? (p.add (j * 2)) = some (.string t.1) := cq0
        have q1 : (wr.alloc (.cells #[.string f.1, .string f.2] 108)).cell? (p.add (j * 2)) = some (.string t.1) := ((Only.refl (fun _ => False) wr).alloc _).cell q0 id
        have hqb : (p.add (j * 2)).block ≠ wr.heap.size := fun e => by
          have := cell_lt q0; omega
        have hj2 : j < l.length := by omega
        have hp' : (0 : Int) < (k : Int) := by omega
        have hw1 : IntKind.i64.wrap ((k : Int) - 1) = (j : Int) := by rw [Go.IntWalk.i64_in _ (by omega)]; omega
        have Hj := Lib.hid hj
        have Ht := Lib.hid ht
        clear cq0 hj ht
        cases hlt' : Op.bytesLess t.1.toList f.1.toList
        · go_wp2_with fail
          go_quiet (first
            | (go_at_call_has 147 (f.1); exact Calls.quiet_of (S1 _))
            | (go_at_call_has 147 (f.2); exact Calls.quiet_of (S2 _)))
          go_wp2_with fail
          go_ret
          exact ⟨by rw [show okH l = false by unfold okH; rw [ris_not Ht.out (by rw [Hj.out, Nat.sub_add_cancel hpos]; exact Hf.out) hlt', Bool.and_false]]; rfl, below_drawn_ ((Hb.out).alloc Hb.out.size _) _⟩
        · go_wp2_with fail
          go_quiet (first
            | (go_at_call_has 147 (f.1); exact Calls.quiet_of (S1 _))
            | (go_at_call_has 147 (f.2); exact Calls.quiet_of (S2 _)))
          go_wp2_with fail
          refine ⟨⟨k + 1, by omega, by go_num, ⟨take_all Hf.out Hin.out.1 (by rw [H1.out, H2.out]; rfl), ?_⟩, below_drawn_ ((Hb.out).alloc Hb.out.size _) _⟩, by simp [intOf]; omega⟩
          intro i a b hi ha hb'
          by_cases h : i + 1 < k
          · exact Hin.out.2 i a b h ha hb'
          · obtain rfl : i = j := by have := Hj.out; omega
            rw [Ht.out] at ha; injection ha with ha; subst ha
            rw [show i + 1 = k by have := Hj.out; omega, Hf.out] at hb'; injection hb' with hb'; subst hb'
            exact hlt'
    · obtain rfl : k = l.length := by omega
      obtain ⟨h1, h2⟩ := Hin.out
      rw [List.take_length] at h1
      go_wp2_with fail
      go_ret
      refine ⟨?_, hb⟩
      have : okH l = true := by
        unfold okH
        rw [h1, (ris_iff _ l).2 (fun j a b ha hb => h2 j a b (by have := (List.getElem?_eq_some_iff.1 hb).1; omega) ha hb)]; rfl
      rw [this]; rfl
end Go.Proofs.YtjofbagaobdmoaaGreat.VaF
