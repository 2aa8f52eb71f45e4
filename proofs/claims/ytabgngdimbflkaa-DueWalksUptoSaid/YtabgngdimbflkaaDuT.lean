/-
  The document's index: Peek, Take. Conditions: as stated.
-/
import Derived.Test.YtabgngdimbflkaaDuS
set_option maxRecDepth 100000
set_option linter.unusedSimpArgs false
set_option linter.unusedVariables false
namespace Go.Proofs.Ytabgngdimbflkaa.DuT
open Go.RowKit Go.Shelf Go.Proofs.Ytabgngdimbflkaa.Mem Go.Proofs.Ytabgngdimbflkaa.DuA Go.Proofs.Ytabgngdimbflkaa.DuM Go.Proofs.Ytabgngdimbflkaa.DuN Go.Proofs.Ytabgngdimbflkaa.DuB Go.Proofs.Ytabgngdimbflkaa.DuO Go.Proofs.Ytabgngdimbflkaa.DsC Go.Proofs.Ytabgngdimbflkaa.DsK Go.Proofs.Ytabgngdimbflkaa.DuR Go.Proofs.Ytabgngdimbflkaa.DuS

set_option maxHeartbeats 4000000 in
theorem peekR_calls (B h c : Nat) (A : Option Addr) (l : List (Int × ByteArray)) (now most : Int) (w : World) (y : Yx w B h A c l) (hn : l.length ≤ 1099511627776) :
    Calls Try.prog 13 #[.pointer (some ⟨h, 0, none⟩), .int .i64 now, .int .i64 most] w fun e w' => ∃ v', e = .returned v' ∧ OwnKs w' w.heap.size v' (peekL l now most) ∧ Below w.heap.size w w' := by
  have hcap := y.rd.cap
  go_enter Try.func13, Try.ntmps13
  go_wp2_with fail
  go_loopw [7, 8] (fun ov i wr => ∃ (k : Nat), k ≤ l.length ∧ i = .int .i64 k ∧ OwnKs wr w.heap.size ov ((l.take k).map (·.2)) ∧ Hid (k + peekN now (l.drop k) (most.toNat - k) = peekN now l most.toNat) ∧ Below w.heap.size w wr) (fun _ i _ => l.length - (intOf i).toNat)
  case atStart => exact ⟨0, Nat.zero_le _, rfl, World.ownsRow_nil _ _ _ _, by show _ = _; simp, Below.refl _ _⟩
  case round =>
    obtain ⟨k, hk, rfl, ho, hP, hb⟩ := hrel
    have hkl : ((l.take k).map (·.2)).length = k := by simp; omega
    unfold OwnKs at ho
    rw [hkl] at ho
    obtain ⟨A2, c2, rfl⟩ := own_form ho
    have y' := y.below hb
    obtain ⟨c0, f0⟩ := y'.cell
    by_cases hlt : k < l.length
    · obtain ⟨e, he⟩ : ∃ e, l[k]? = some e := ⟨_, List.getElem?_eq_getElem hlt⟩
      obtain ⟨p, rfl, x0, x1⟩ := rdr_get y'.rd he
      have HY := Lib.hid he
      obtain ⟨t, kk⟩ := e
      clear he
      have hfin : Hid (now < t ∨ most ≤ (k : Int) → peekL l now most = (l.take k).map (·.2)) := fun hh => by
        have e := peek_stop now (m := most.toNat) HY.out (by rcases hh with h1 | h1; exact .inl h1; exact .inr (by omega))
        unfold peekL
        rw [← hP.out, e]; rfl
      by_cases h1 : now < t
      · go_wp2_with fail
        go_ret
        refine ⟨_, rfl, ?_, hb⟩
        unfold OwnKs
        rw [hfin.out (.inl h1), hkl]
        exact ho
      · by_cases h2 : most ≤ (k : Int)
        · go_wp2_with fail
          go_ret
          refine ⟨_, rfl, ?_, hb⟩
          unfold OwnKs
          rw [hfin.out (.inr h2), hkl]
          exact ho
        · have hP2 : Hid (k + 1 + peekN now (l.drop (k + 1)) (most.toNat - (k + 1)) = peekN now l most.toNat) := by
            show _ = _
            rw [← hP.out, peek_go now HY.out (by omega) (by omega)]; omega
          clear hfin hP
          go_wp2_with (at_builtin; refine wpList_app1b rfl (.tmp 36) (.tmp 45) elKs rfl w.heap.size _ k _ rfl ho (.string kk) rfl wr.heap.size rfl rfl (by unfold maxLen; omega) (by omega) hb.size ?_; intro v3 w3 o3 O3 f3)
          refine ⟨⟨k + 1, by omega, by go_num, ?_, hP2, ?_⟩, by simp [intOf]; omega⟩
          · unfold OwnKs
            have e1 : (l.take (k + 1)).map (·.2) = (l.take k).map (·.2) ++ [kk] := by
              rw [List.take_add_one, HY.out]; simp
            have e2 : ((l.take k).map (·.2) ++ [kk]).length = k + 1 := by simp; omega
            rw [e1, e2, show keysV ((l.take k).map (·.2) ++ [kk]) = keysV ((l.take k).map (·.2)) ++ [Value.string kk] by simp [keysV]]
            exact o3
          · exact O3.after hb (Nat.le_refl _) (fun b hb => (ho.lt b hb).1)
    · obtain rfl : k = l.length := by omega
      have hfin : peekL l now most = (l.take l.length).map (·.2) := by
        unfold peekL
        rw [← hP.out, peek_end]; rfl
      have HF := Lib.hid hfin
      clear hfin hP
      go_wp2_with fail
      go_ret
      refine ⟨_, rfl, ?_, hb⟩
      unfold OwnKs
      rw [HF.out, hkl]
      exact ho

set_option maxHeartbeats 4000000 in
theorem takeR_calls (B h c : Nat) (A : Option Addr) (l : List (Int × ByteArray)) (now most : Int) (w : World) (y : Yx w B h A c l) (hn : l.length ≤ 1099511627776) :
    Calls Try.prog 32 #[.pointer (some ⟨h, 0, none⟩), .int .i64 now, .int .i64 most] w fun e w' => ∃ v', e = .returned v' ∧ OwnKs w' w.heap.size v' (peekL l now most) ∧ DTurn B h A (takeL l now most) w w' := by
  have hpk := peekR_calls B h c A l now most w y hn
  have hple := (peek_le now l most.toNat).1
  have hcap := y.rd.cap
  unfold takeL
  unfold peekL at hpk ⊢
  obtain ⟨p, hp⟩ : ∃ p, peekN now l most.toNat = p := ⟨_, rfl⟩
  rw [hp] at hpk hple ⊢
  clear hp
  obtain ⟨out, hout⟩ : ∃ out, (l.take p).map (·.2) = out := ⟨_, rfl⟩
  have hol : out.length = p := by rw [← hout]; simp; omega
  rw [hout] at hpk ⊢
  clear hout
  have HL := Lib.hid hol
  clear hol
  go_enter Try.func32, Try.ntmps32
  go_wp2_with fail
  refine hpk.mono ?_
  rintro e w1 ⟨v1, rfl, o1, b1⟩
  have o1' : w1.ownsRow w.heap.size 9 1 v1 p (keysV out) := by rw [← HL.out]; exact o1
  obtain ⟨A1, c1, rfl⟩ := own_form o1'
  have y1 := y.below b1
  obtain ⟨c0, f0⟩ := y1.cell
  have hlt := y.lt
  obtain ⟨A', hA'⟩ : ∃ A', (if c = p then A else A.map (·.add (p * 2))) = A' := ⟨_, rfl⟩
  have hr' : RdR w1 A' (l.length - p) (c - p) (l.drop p) := by
    have := y1.rd.drop hple
    rw [entsR_drop, hA'] at this
    exact this
  have hAb : ∀ ad, A' = some ad → ∃ a0, A = some a0 ∧ ad.block = a0.block := by
    intro ad e
    rw [← hA'] at e
    split at e
    · exact ⟨ad, e, rfl⟩
    · rcases A with _ | a0
      · cases e
      · simp only [Option.map_some, Option.some.injEq] at e
        exact ⟨a0, rfl, by rw [← e, add_block]⟩
  have hfin : DTurn B h A (l.drop p) w (w1.setCell ⟨h, 0, none⟩ (.slice A' (l.length - p) (c - p))) := by
    have o : Only (fun k => k = h) w1 (w1.setCell ⟨h, 0, none⟩ (.slice A' (l.length - p) (c - p))) := (Only.refl (fun k => k = h) w1).put (p := ⟨h, 0, none⟩) (.inl rfl) _
    have hnh : ∀ ad, A' = some ad → ad.block ≠ h ∧ ad.block < w1.heap.size := fun ad e => by
      obtain ⟨a0, e0, hb0⟩ := hAb ad e
      rw [hb0]; exact y1.nh a0 e0
    have hl : (l.drop p).length = l.length - p := by simp
    refine ⟨A', c - p, ⟨?_, ?_, y.hB, fun ad e => ⟨(hnh ad e).1, Nat.lt_of_lt_of_le (hnh ad e).2 o.size⟩⟩, (DsI.only_b b1).trans o (fun b hb => .inl hb), fun ad e => .inl (hAb ad e)⟩
    · rw [heap_setCell_same w1 h 0 _ _ _ y1.hp, hl]; rfl
    · rw [hl]
      exact hr'.only o (fun ad e => (hnh ad e).1)
  have ho' : OwnKs (w1.setCell ⟨h, 0, none⟩ (.slice A' (l.length - p) (c - p))) w.heap.size (.slice A1 p c1) out := by
    refine own_only o1 ((Only.refl (fun k => k = h) w1).put (p := ⟨h, 0, none⟩) (.inl rfl) _) (fun k hk e => ?_)
    have := (o1.lt k hk).1
    omega
  by_cases hcp : c = p
  · have e1 : A' = A := by rw [← hA', if_pos hcp]
    rw [e1] at hfin ho'
    subst hcp
    rw [Nat.sub_self, show l.length - c = 0 by omega] at hfin ho'
    have HF := Lib.hid (And.intro hfin ho')
    clear hfin ho' hA' hAb hr' o1 o1' y1
    go_wp2_with fail
    go_ret
    exact ⟨_, rfl, HF.out.2, HF.out.1⟩
  · have e1 : A' = A.map (·.add (p * 2)) := by rw [← hA', if_neg hcp]
    rw [e1] at hfin ho'
    have HF := Lib.hid (And.intro hfin ho')
    clear hfin ho' hA' hAb hr' o1 o1' y1
    go_wp2_with fail
    go_ret
    exact ⟨_, rfl, HF.out.2, HF.out.1⟩
end Go.Proofs.Ytabgngdimbflkaa.DuT
