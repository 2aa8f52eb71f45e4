/-
  The bytes of a value. Conditions: as stated.
-/
import Derived.Test.YtgmnnpbbiejbnaaGreatVaH
set_option maxRecDepth 100000
set_option linter.unusedSimpArgs false
set_option linter.unusedVariables false
namespace Go.Proofs.YtgmnnpbbiejbnaaGreat.VaI
open Go.RowKit Go.Proofs.YtgmnnpbbiejbnaaGreat.Mem Go.Proofs.YtgmnnpbbiejbnaaGreat.VaA Go.Proofs.YtgmnnpbbiejbnaaGreat.VaB Go.Proofs.YtgmnnpbbiejbnaaGreat.VaC Go.Proofs.YtgmnnpbbiejbnaaGreat.VaD Go.Proofs.YtgmnnpbbiejbnaaGreat.VaE Go.Proofs.YtgmnnpbbiejbnaaGreat.VaF Go.Proofs.YtgmnnpbbiejbnaaGreat.VaG Go.Proofs.YtgmnnpbbiejbnaaGreat.VaH
attribute [local go_sem] m_text_write m_list_write m_hash_write m_set_write m_ranked_write

/-- Nothing in it is too much for this machine. -/
structure Sm (x : VV) : Prop where
  t : x.text.size ≤ 100000000
  ln : x.ln ≤ 100000000
  fn : x.fn ≤ 100000000
  kn : x.kn ≤ 100000000
  s : (encS x.list).length ≤ 100000000
  f : (encF x.flds).length ≤ 100000000
  k : (encK x.rank).length ≤ 100000000
  z : ∀ y ∈ x.rank, y.1.size ≤ maxLen
/-- Its bytes behind its kind's byte. -/
def bodyV (x : VV) : List UInt8 :=
  if x.kind = 1 then putL x.text else if x.kind = 2 then le x.ln 4 ++ encS x.list else if x.kind = 3 then le x.fn 4 ++ encF x.flds else if x.kind = 4 then le x.ln 4 ++ encS x.list else le x.kn 4 ++ encK x.rank
def kindB (x : VV) : UInt8 := if x.kind = 1 then 1 else if x.kind = 2 then 2 else if x.kind = 3 then 3 else if x.kind = 4 then 4 else 5
def encV (x : VV) : List UInt8 := if chk x = 0 then kindB x :: bodyV x else []

theorem own_one (w : World) (y : UInt8) : OwnY (w.alloc (.cells #[.int .u8 y.toNat] 5)) w.heap.size (.slice (some ⟨w.heap.size, 0, none⟩) 1 1) [y] :=
  ⟨rfl, .inr ⟨w.heap.size, 1, #[.int .u8 y.toNat], rfl, Nat.le_refl _, heap_alloc_new w _, Nat.le_refl 1, by decide, rfl, rfl⟩⟩
theorem isK_of {x : VV} (h : chk x = 0) : x.kind = 1 ∨ x.kind = 2 ∨ x.kind = 3 ∨ x.kind = 4 ∨ x.kind = 5 := by
  unfold chk at h
  split at h
  · rename_i hk
    unfold isK at hk
    simp at hk; omega
  · cases h

set_option maxHeartbeats 4000000 in
theorem encode_calls (x : VV) (w : World) (hr : RdV w x) (hs : Sm x) :
    Calls Tryz.prog 32 #[x.val] w fun e w' => e = .returned (.tuple #[.string ⟨(encV x).toArray⟩, .int .i64 (chk x)]) ∧ Below w.heap.size w w' := by
  have hv : x.val = .agg #[.int .i64 x.kind, .string x.text, .slice x.LA x.ln x.lc, .slice x.FA x.fn x.fc, .slice x.KA x.kn x.kc] := rfl
  have hck := fun w' (h : RdV w' x) => check_calls x w' h hs.kn hs.z
  have hof := fun w' => of_calls x w'
  rw [hv] at hof hck ⊢
  unfold VV.cells at hof
  have b0 : Below w.heap.size w (w.alloc (.cells #[.int .i64 x.kind, .string x.text, .slice x.LA x.ln x.lc, .slice x.FA x.fn x.fc, .slice x.KA x.kn x.kc] 42)) := (Below.refl _ w).alloc (Nat.le_refl _) _
  have hb0 : (w.alloc (.cells #[.int .i64 x.kind, .string x.text, .slice x.LA x.ln x.lc, .slice x.FA x.fn x.fc, .slice x.KA x.kn x.kc] 42)).heap[w.heap.size]? = some (.cells #[.int .i64 x.kind, .string x.text, .slice x.LA x.ln x.lc, .slice x.FA x.fn x.fc, .slice x.KA x.kn x.kc] 42 (0, 0)) := heap_alloc_new w _
  go_enter Tryz.func32, Tryz.ntmps32
  go_wp2_with fail
  refine (hck _ (hr.below b0)).mono ?_
  rintro e w1 ⟨rfl, b1⟩
  have hb1 := (b1.block _ (Array.getElem?_eq_some_iff.1 hb0).1).trans hb0
  have B1 := b0.trans (b1.mono b0.size)
  clear hb0 b0 b1 hck
  have c0 : w1.cell? ⟨w.heap.size, 0, none⟩ = some (.int .i64 x.kind) := by simp [World.cell?, hb1]
  have c1 : w1.cell? ⟨w.heap.size, 1, none⟩ = some (.string x.text) := by simp [World.cell?, hb1]
  have c2 : w1.cell? ⟨w.heap.size, 2, none⟩ = some (.slice x.LA x.ln x.lc) := by simp [World.cell?, hb1]
  have c3 : w1.cell? ⟨w.heap.size, 3, none⟩ = some (.slice x.FA x.fn x.fc) := by simp [World.cell?, hb1]
  have c4 : w1.cell? ⟨w.heap.size, 4, none⟩ = some (.slice x.KA x.kn x.kc) := by simp [World.cell?, hb1]
  have HB := Lib.hid hb1
  clear hb1
  by_cases hc : chk x = 0
  · have HC := Lib.hid hc
    rw [hc]
    clear hc
    go_wp2_with fail
    refine (hof _).mono ?_
    rintro e w2 ⟨rfl, rfl⟩
    rcases isK_of HC.out with hk | hk | hk | hk | hk
    · have e1 : heldV x = .iface 141 (.string x.text) := by unfold heldV; simp [hk]
      have e2 : isK x = true := by unfold isK; simp [hk]
      have e3 : bodyV x = putL x.text := by unfold bodyV; simp [hk]
      have e4 : kindB x = 1 := by unfold kindB; simp [hk]
      rw [e1, e2]
      clear e1 e2
      have HK := Lib.hid (And.intro e3 e4)
      clear e3 e4
      rw [hk] at c0 ⊢
      have o1 : OwnY ((w1.alloc (.cells #[.int .i64 1, .string x.text, .slice x.LA x.ln x.lc, .slice x.FA x.fn x.fc, .slice x.KA x.kn x.kc] 42)).alloc (.cells #[.int .u8 1] 5)) (w1.alloc (.cells #[.int .i64 1, .string x.text, .slice x.LA x.ln x.lc, .slice x.FA x.fn x.fc, .slice x.KA x.kn x.kc] 42)).heap.size (.slice (some ⟨w1.heap.size + 1, 0, none⟩) 1 1) [1] := by
        have h := own_one (w1.alloc (.cells #[.int .i64 1, .string x.text, .slice x.LA x.ln x.lc, .slice x.FA x.fn x.fc, .slice x.KA x.kn x.kc] 42)) 1
        rw [World.size_alloc] at h ⊢
        exact h
      have b2 : Below (w1.alloc (.cells #[.int .i64 1, .string x.text, .slice x.LA x.ln x.lc, .slice x.FA x.fn x.fc, .slice x.KA x.kn x.kc] 42)).heap.size (w1.alloc (.cells #[.int .i64 1, .string x.text, .slice x.LA x.ln x.lc, .slice x.FA x.fn x.fc, .slice x.KA x.kn x.kc] 42)) ((w1.alloc (.cells #[.int .i64 1, .string x.text, .slice x.LA x.ln x.lc, .slice x.FA x.fn x.fc, .slice x.KA x.kn x.kc] 42)).alloc (.cells #[.int .u8 1] 5)) := (Below.refl _ _).alloc (Nat.le_refl _) _
      have bW : Below w.heap.size w (w1.alloc (.cells #[.int .i64 1, .string x.text, .slice x.LA x.ln x.lc, .slice x.FA x.fn x.fc, .slice x.KA x.kn x.kc] 42)) := B1.alloc B1.size _
      have d0 : (w1.alloc (.cells #[.int .i64 1, .string x.text, .slice x.LA x.ln x.lc, .slice x.FA x.fn x.fc, .slice x.KA x.kn x.kc] 42)).cell? ⟨w.heap.size, 0, none⟩ = some (.int .i64 1) := ((Only.refl (fun _ => False) w1).alloc _).cell c0 id
      go_wp2_with (go_at_call 149; refine (writeT_calls (w1.alloc (.cells #[.int .i64 1, .string x.text, .slice x.LA x.ln x.lc, .slice x.FA x.fn x.fc, .slice x.KA x.kn x.kc] 42)).heap.size _ [1] x.text _ o1 b2.size hs.t (by decide)).mono ?_; rintro e w3 ⟨v3, rfl, o3, b3⟩; have hcv := Base.convert_own (P := Tryz.prog) (dst := 9) elY.ht Tryz.underlying5 Tryz.underlying9 o3)
      go_ret2
      refine ⟨by rw [show encV x = 1 :: bodyV x by unfold encV; rw [if_pos HC.out, HK.out.2], HK.out.1, HC.out]; rfl, ?_⟩
      exact (bW.trans (b2.mono bW.size)).trans ((b3.below b2.size).mono bW.size)
    · have e1 : heldV x = .iface 142 (.slice x.LA x.ln x.lc) := by unfold heldV; simp [hk]
      have e2 : isK x = true := by unfold isK; simp [hk]
      have e3 : bodyV x = le x.ln 4 ++ encS x.list := by unfold bodyV; simp [hk]
      have e4 : kindB x = 2 := by unfold kindB; simp [hk]
      rw [e1, e2]
      clear e1 e2
      have HK := Lib.hid (And.intro e3 e4)
      clear e3 e4
      rw [hk] at c0 ⊢
      have o1 : OwnY ((w1.alloc (.cells #[.int .i64 2, .string x.text, .slice x.LA x.ln x.lc, .slice x.FA x.fn x.fc, .slice x.KA x.kn x.kc] 42)).alloc (.cells #[.int .u8 2] 5)) (w1.alloc (.cells #[.int .i64 2, .string x.text, .slice x.LA x.ln x.lc, .slice x.FA x.fn x.fc, .slice x.KA x.kn x.kc] 42)).heap.size (.slice (some ⟨w1.heap.size + 1, 0, none⟩) 1 1) [2] := by
        have h := own_one (w1.alloc (.cells #[.int .i64 2, .string x.text, .slice x.LA x.ln x.lc, .slice x.FA x.fn x.fc, .slice x.KA x.kn x.kc] 42)) 2
        rw [World.size_alloc] at h ⊢
        exact h
      have b2 : Below (w1.alloc (.cells #[.int .i64 2, .string x.text, .slice x.LA x.ln x.lc, .slice x.FA x.fn x.fc, .slice x.KA x.kn x.kc] 42)).heap.size (w1.alloc (.cells #[.int .i64 2, .string x.text, .slice x.LA x.ln x.lc, .slice x.FA x.fn x.fc, .slice x.KA x.kn x.kc] 42)) ((w1.alloc (.cells #[.int .i64 2, .string x.text, .slice x.LA x.ln x.lc, .slice x.FA x.fn x.fc, .slice x.KA x.kn x.kc] 42)).alloc (.cells #[.int .u8 2] 5)) := (Below.refl _ _).alloc (Nat.le_refl _) _
      have bW : Below w.heap.size w (w1.alloc (.cells #[.int .i64 2, .string x.text, .slice x.LA x.ln x.lc, .slice x.FA x.fn x.fc, .slice x.KA x.kn x.kc] 42)) := B1.alloc B1.size _
      have d0 : (w1.alloc (.cells #[.int .i64 2, .string x.text, .slice x.LA x.ln x.lc, .slice x.FA x.fn x.fc, .slice x.KA x.kn x.kc] 42)).cell? ⟨w.heap.size, 0, none⟩ = some (.int .i64 2) := ((Only.refl (fun _ => False) w1).alloc _).cell c0 id
      go_wp2_with (go_at_call 155; refine (writeL_calls (w1.alloc (.cells #[.int .i64 2, .string x.text, .slice x.LA x.ln x.lc, .slice x.FA x.fn x.fc, .slice x.KA x.kn x.kc] 42)) x.LA x.ln x.lc x.list _ [2] _ ((hr.below bW).l) b2 o1 (by decide) hs.ln hs.s).mono ?_; rintro e w3 ⟨v3, rfl, o3, b3⟩; have hcv := Base.convert_own (P := Tryz.prog) (dst := 9) elY.ht Tryz.underlying5 Tryz.underlying9 o3)
      go_ret2
      refine ⟨by rw [show encV x = 2 :: bodyV x by unfold encV; rw [if_pos HC.out, HK.out.2], HK.out.1, HC.out]; rfl, ?_⟩
      exact (bW.trans (b2.mono bW.size)).trans ((b3.below b2.size).mono bW.size)
    · have e1 : heldV x = .iface 143 (.slice x.FA x.fn x.fc) := by unfold heldV; simp [hk]
      have e2 : isK x = true := by unfold isK; simp [hk]
      have e3 : bodyV x = le x.fn 4 ++ encF x.flds := by unfold bodyV; simp [hk]
      have e4 : kindB x = 3 := by unfold kindB; simp [hk]
      rw [e1, e2]
      clear e1 e2
      have HK := Lib.hid (And.intro e3 e4)
      clear e3 e4
      rw [hk] at c0 ⊢
      have o1 : OwnY ((w1.alloc (.cells #[.int .i64 3, .string x.text, .slice x.LA x.ln x.lc, .slice x.FA x.fn x.fc, .slice x.KA x.kn x.kc] 42)).alloc (.cells #[.int .u8 3] 5)) (w1.alloc (.cells #[.int .i64 3, .string x.text, .slice x.LA x.ln x.lc, .slice x.FA x.fn x.fc, .slice x.KA x.kn x.kc] 42)).heap.size (.slice (some ⟨w1.heap.size + 1, 0, none⟩) 1 1) [3] := by
        have h := own_one (w1.alloc (.cells #[.int .i64 3, .string x.text, .slice x.LA x.ln x.lc, .slice x.FA x.fn x.fc, .slice x.KA x.kn x.kc] 42)) 3
        rw [World.size_alloc] at h ⊢
        exact h
      have b2 : Below (w1.alloc (.cells #[.int .i64 3, .string x.text, .slice x.LA x.ln x.lc, .slice x.FA x.fn x.fc, .slice x.KA x.kn x.kc] 42)).heap.size (w1.alloc (.cells #[.int .i64 3, .string x.text, .slice x.LA x.ln x.lc, .slice x.FA x.fn x.fc, .slice x.KA x.kn x.kc] 42)) ((w1.alloc (.cells #[.int .i64 3, .string x.text, .slice x.LA x.ln x.lc, .slice x.FA x.fn x.fc, .slice x.KA x.kn x.kc] 42)).alloc (.cells #[.int .u8 3] 5)) := (Below.refl _ _).alloc (Nat.le_refl _) _
      have bW : Below w.heap.size w (w1.alloc (.cells #[.int .i64 3, .string x.text, .slice x.LA x.ln x.lc, .slice x.FA x.fn x.fc, .slice x.KA x.kn x.kc] 42)) := B1.alloc B1.size _
      have d0 : (w1.alloc (.cells #[.int .i64 3, .string x.text, .slice x.LA x.ln x.lc, .slice x.FA x.fn x.fc, .slice x.KA x.kn x.kc] 42)).cell? ⟨w.heap.size, 0, none⟩ = some (.int .i64 3) := ((Only.refl (fun _ => False) w1).alloc _).cell c0 id
      go_wp2_with (go_at_call 161; refine (writeH_calls (w1.alloc (.cells #[.int .i64 3, .string x.text, .slice x.LA x.ln x.lc, .slice x.FA x.fn x.fc, .slice x.KA x.kn x.kc] 42)) x.FA x.fn x.fc x.flds _ [3] _ ((hr.below bW).f) b2 o1 (by decide) hs.fn hs.f).mono ?_; rintro e w3 ⟨v3, rfl, o3, b3⟩; have hcv := Base.convert_own (P := Tryz.prog) (dst := 9) elY.ht Tryz.underlying5 Tryz.underlying9 o3)
      go_ret2
      refine ⟨by rw [show encV x = 3 :: bodyV x by unfold encV; rw [if_pos HC.out, HK.out.2], HK.out.1, HC.out]; rfl, ?_⟩
      exact (bW.trans (b2.mono bW.size)).trans ((b3.below b2.size).mono bW.size)
    · have e1 : heldV x = .iface 144 (.slice x.LA x.ln x.lc) := by unfold heldV; simp [hk]
      have e2 : isK x = true := by unfold isK; simp [hk]
      have e3 : bodyV x = le x.ln 4 ++ encS x.list := by unfold bodyV; simp [hk]
      have e4 : kindB x = 4 := by unfold kindB; simp [hk]
      rw [e1, e2]
      clear e1 e2
      have HK := Lib.hid (And.intro e3 e4)
      clear e3 e4
      rw [hk] at c0 ⊢
      have o1 : OwnY ((w1.alloc (.cells #[.int .i64 4, .string x.text, .slice x.LA x.ln x.lc, .slice x.FA x.fn x.fc, .slice x.KA x.kn x.kc] 42)).alloc (.cells #[.int .u8 4] 5)) (w1.alloc (.cells #[.int .i64 4, .string x.text, .slice x.LA x.ln x.lc, .slice x.FA x.fn x.fc, .slice x.KA x.kn x.kc] 42)).heap.size (.slice (some ⟨w1.heap.size + 1, 0, none⟩) 1 1) [4] := by
        have h := own_one (w1.alloc (.cells #[.int .i64 4, .string x.text, .slice x.LA x.ln x.lc, .slice x.FA x.fn x.fc, .slice x.KA x.kn x.kc] 42)) 4
        rw [World.size_alloc] at h ⊢
        exact h
      have b2 : Below (w1.alloc (.cells #[.int .i64 4, .string x.text, .slice x.LA x.ln x.lc, .slice x.FA x.fn x.fc, .slice x.KA x.kn x.kc] 42)).heap.size (w1.alloc (.cells #[.int .i64 4, .string x.text, .slice x.LA x.ln x.lc, .slice x.FA x.fn x.fc, .slice x.KA x.kn x.kc] 42)) ((w1.alloc (.cells #[.int .i64 4, .string x.text, .slice x.LA x.ln x.lc, .slice x.FA x.fn x.fc, .slice x.KA x.kn x.kc] 42)).alloc (.cells #[.int .u8 4] 5)) := (Below.refl _ _).alloc (Nat.le_refl _) _
      have bW : Below w.heap.size w (w1.alloc (.cells #[.int .i64 4, .string x.text, .slice x.LA x.ln x.lc, .slice x.FA x.fn x.fc, .slice x.KA x.kn x.kc] 42)) := B1.alloc B1.size _
      have d0 : (w1.alloc (.cells #[.int .i64 4, .string x.text, .slice x.LA x.ln x.lc, .slice x.FA x.fn x.fc, .slice x.KA x.kn x.kc] 42)).cell? ⟨w.heap.size, 0, none⟩ = some (.int .i64 4) := ((Only.refl (fun _ => False) w1).alloc _).cell c0 id
      go_wp2_with (go_at_call 164; refine (writeS_calls (w1.alloc (.cells #[.int .i64 4, .string x.text, .slice x.LA x.ln x.lc, .slice x.FA x.fn x.fc, .slice x.KA x.kn x.kc] 42)) x.LA x.ln x.lc x.list _ [4] _ ((hr.below bW).l) b2 o1 (by decide) hs.ln hs.s).mono ?_; rintro e w3 ⟨v3, rfl, o3, b3⟩; have hcv := Base.convert_own (P := Tryz.prog) (dst := 9) elY.ht Tryz.underlying5 Tryz.underlying9 o3)
      go_ret2
      refine ⟨by rw [show encV x = 4 :: bodyV x by unfold encV; rw [if_pos HC.out, HK.out.2], HK.out.1, HC.out]; rfl, ?_⟩
      exact (bW.trans (b2.mono bW.size)).trans ((b3.below b2.size).mono bW.size)
    · have e1 : heldV x = .iface 145 (.slice x.KA x.kn x.kc) := by unfold heldV; simp [hk]
      have e2 : isK x = true := by unfold isK; simp [hk]
      have e3 : bodyV x = le x.kn 4 ++ encK x.rank := by unfold bodyV; simp [hk]
      have e4 : kindB x = 5 := by unfold kindB; simp [hk]
      rw [e1, e2]
      clear e1 e2
      have HK := Lib.hid (And.intro e3 e4)
      clear e3 e4
      rw [hk] at c0 ⊢
      have o1 : OwnY ((w1.alloc (.cells #[.int .i64 5, .string x.text, .slice x.LA x.ln x.lc, .slice x.FA x.fn x.fc, .slice x.KA x.kn x.kc] 42)).alloc (.cells #[.int .u8 5] 5)) (w1.alloc (.cells #[.int .i64 5, .string x.text, .slice x.LA x.ln x.lc, .slice x.FA x.fn x.fc, .slice x.KA x.kn x.kc] 42)).heap.size (.slice (some ⟨w1.heap.size + 1, 0, none⟩) 1 1) [5] := by
        have h := own_one (w1.alloc (.cells #[.int .i64 5, .string x.text, .slice x.LA x.ln x.lc, .slice x.FA x.fn x.fc, .slice x.KA x.kn x.kc] 42)) 5
        rw [World.size_alloc] at h ⊢
        exact h
      have b2 : Below (w1.alloc (.cells #[.int .i64 5, .string x.text, .slice x.LA x.ln x.lc, .slice x.FA x.fn x.fc, .slice x.KA x.kn x.kc] 42)).heap.size (w1.alloc (.cells #[.int .i64 5, .string x.text, .slice x.LA x.ln x.lc, .slice x.FA x.fn x.fc, .slice x.KA x.kn x.kc] 42)) ((w1.alloc (.cells #[.int .i64 5, .string x.text, .slice x.LA x.ln x.lc, .slice x.FA x.fn x.fc, .slice x.KA x.kn x.kc] 42)).alloc (.cells #[.int .u8 5] 5)) := (Below.refl _ _).alloc (Nat.le_refl _) _
      have bW : Below w.heap.size w (w1.alloc (.cells #[.int .i64 5, .string x.text, .slice x.LA x.ln x.lc, .slice x.FA x.fn x.fc, .slice x.KA x.kn x.kc] 42)) := B1.alloc B1.size _
      have d0 : (w1.alloc (.cells #[.int .i64 5, .string x.text, .slice x.LA x.ln x.lc, .slice x.FA x.fn x.fc, .slice x.KA x.kn x.kc] 42)).cell? ⟨w.heap.size, 0, none⟩ = some (.int .i64 5) := ((Only.refl (fun _ => False) w1).alloc _).cell c0 id
      go_wp2_with (go_at_call 168; refine (writeK_calls (w1.alloc (.cells #[.int .i64 5, .string x.text, .slice x.LA x.ln x.lc, .slice x.FA x.fn x.fc, .slice x.KA x.kn x.kc] 42)) x.KA x.kn x.kc x.rank _ [5] _ ((hr.below bW).k) b2 o1 (by decide) hs.kn hs.k).mono ?_; rintro e w3 ⟨v3, rfl, o3, b3⟩; have hcv := Base.convert_own (P := Tryz.prog) (dst := 9) elY.ht Tryz.underlying5 Tryz.underlying9 o3)
      go_ret2
      refine ⟨by rw [show encV x = 5 :: bodyV x by unfold encV; rw [if_pos HC.out, HK.out.2], HK.out.1, HC.out]; rfl, ?_⟩
      exact (bW.trans (b2.mono bW.size)).trans ((b3.below b2.size).mono bW.size)
  · go_wp2_with fail
    go_ret2
    exact ⟨by rw [show encV x = [] by unfold encV; rw [if_neg hc]]; rfl, B1⟩
end Go.Proofs.YtgmnnpbbiejbnaaGreat.VaI
