/-
  New; an Index's Peek. Conditions: as stated.
-/
import Derived.Test.YtjofbagaobdmoaaGreatDsJ
set_option maxRecDepth 100000
set_option linter.unusedSimpArgs false
set_option linter.unusedVariables false
namespace Go.Proofs.YtjofbagaobdmoaaGreat.DsK
open Go.RowKit Go.Shelf Go.Proofs.YtjofbagaobdmoaaGreat.Mem Go.Proofs.YtjofbagaobdmoaaGreat.DuA Go.Proofs.YtjofbagaobdmoaaGreat.DuM Go.Proofs.YtjofbagaobdmoaaGreat.DuN Go.Proofs.YtjofbagaobdmoaaGreat.DuB Go.Proofs.YtjofbagaobdmoaaGreat.DsC Go.Proofs.YtjofbagaobdmoaaGreat.DsD Go.Proofs.YtjofbagaobdmoaaGreat.DsE Go.Proofs.YtjofbagaobdmoaaGreat.DsF Go.Proofs.YtjofbagaobdmoaaGreat.DsG Go.Proofs.YtjofbagaobdmoaaGreat.DsH Go.Proofs.YtjofbagaobdmoaaGreat.DsI Go.Proofs.YtjofbagaobdmoaaGreat.DsJ

theorem mk_map (w : World) : (Instr.makeMap 125 none).run Tryz.prog w = .ok (.map (some w.heap.size)) (w.alloc (.map #[] 0)) := by
  simp [Instr.makeMap, run_underlying Tryz.underlying125, Result.andThen]
theorem new_calls (w : World) : Calls Tryz.prog 63 #[] w fun e w' => ∃ g m, e = .returned (.pointer (some ⟨g, 0, none⟩)) ∧ Ix w' w.heap.size g m (.slice none 0 0) [] 0 ∧ Below w.heap.size w w' := by
  have hmk := mk_map w
  go_enter Tryz.func63, Tryz.ntmps63
  go_wp2_with fail
  go_ret
  have hM := World.ownsMap_made (H := TypeId × Value) w Tryz.prog 9 (plainElem Tryz.prog 3)
  have hh := heap_alloc_new (w.alloc (.map #[] 0)) (.cells #[.map (some w.heap.size), .slice none 0 0] 128)
  rw [World.size_alloc] at hh
  refine ⟨_, w.heap.size, rfl, ⟨hh, ⟨_, hM.alloc _, Tells.nil klS⟩, World.ownsRow_nil _ _ _ _, (by omega), Nat.le_refl _, (by omega), (fun h => nomatch h), (fun h => nomatch h), Srt.nil, Nat.le_refl _, (fun e he => nomatch he), (fun e he => nomatch he)⟩, ((al w _).alloc (by simp) _)⟩

def keysV (l : List ByteArray) : List Value := l.map (Value.string)
theorem keysV_one (l : List ByteArray) : ∀ u ∈ keysV l, u.oneCell' = true := by
  intro u hu; simp only [keysV, List.mem_map] at hu; obtain ⟨x, _, rfl⟩ := hu; rfl
theorem elKs : El Tryz.prog 23 9 (.string ⟨#[]⟩) 1 16 := by
  obtain ⟨i, h1, h2, h3, h4⟩ := info_parts (show (Tryz.prog.info? 9).map (fun i => (i.zero, i.size, i.bytes)) = some (some (.string ⟨#[]⟩), 1, 16) by kernel_rfl)
  exact ⟨Tryz.underlying23, ⟨i, h1, h2, h3, h4⟩, rfl, by decide⟩
/-- A row of keys of the call's own. -/
abbrev OwnKs (w : World) (B : Nat) (v : Value) (l : List ByteArray) : Prop := w.ownsRow B 9 1 v l.length (keysV l)
abbrev RdKs (w : World) (A : Option Addr) (n c : Nat) (l : List ByteArray) : Prop := Rd w 1 A n c (keysV l)

set_option maxHeartbeats 4000000 in
theorem peek_calls (B g m : Nat) (v : Value) (l : List (Int × ByteArray)) (N : Nat) (now most : Int) (w : World) (h : Ix w B g m v l N) (hN : N ≤ 1099511627776) :
    Calls Tryz.prog 57 #[.pointer (some ⟨g, 0, none⟩), .int .i64 now, .int .i64 most] w fun e w' => ∃ v', e = .returned v' ∧ OwnKs w' w.heap.size v' (peekL l now most) ∧ Below w.heap.size w w' := by
  obtain ⟨-, c1, -⟩ := h.cells
  obtain ⟨A, c, rfl⟩ := own_form h.own
  have hr : RdE w A l.length c l := Rd.of_own h.own
  have hlen := h.len
  have hcap := hr.cap
  clear h
  go_enter Tryz.func57, Tryz.ntmps57
  go_wp2_with fail
  go_loopw [7, 17] (fun ov i wr => ∃ (k : Nat), k ≤ l.length ∧ i = .int .i64 k ∧ OwnKs wr w.heap.size ov ((l.take k).map (·.2)) ∧ Hid (k + peekN now (l.drop k) (most.toNat - k) = peekN now l most.toNat) ∧ Below w.heap.size w wr) (fun _ i _ => l.length - (intOf i).toNat)
  case atStart => exact ⟨0, Nat.zero_le _, rfl, World.ownsRow_nil _ _ _ _, by show _ = _; simp, Below.refl _ _⟩
  case round =>
    obtain ⟨k, hk, rfl, ho, hP, hb⟩ := hrel
    have hkl : ((l.take k).map (·.2)).length = k := by simp; omega
    unfold OwnKs at ho
    rw [hkl] at ho
    obtain ⟨A2, c2, rfl⟩ := own_form ho
    by_cases hlt : k < l.length
    · obtain ⟨y, hy⟩ : ∃ y, l[k]? = some y := ⟨_, List.getElem?_eq_getElem hlt⟩
      obtain ⟨p, rfl, x0, x1⟩ := rde_get (hr.below hb) hy
      have HY := Lib.hid hy
      obtain ⟨t, kk⟩ := y
      clear hy
      have y0 : (wr.alloc (eo (t, kk))).cell? ⟨wr.heap.size, 0, none⟩ = some (.int .i64 t) := (eo_cells wr (t, kk)).1
      have y1 : (wr.alloc (eo (t, kk))).cell? ⟨wr.heap.size, 1, none⟩ = some (Value.string kk) := (eo_cells wr (t, kk)).2
      have hb2 : Below w.heap.size w (wr.alloc (eo (t, kk))) := hb.alloc hb.size _
      have ho2 : (wr.alloc (eo (t, kk))).ownsRow w.heap.size 9 1 (.slice A2 k c2) k (keysV ((l.take k).map (·.2))) := ho.alloc _
      have hfin : Hid (now < t ∨ most ≤ (k : Int) → peekL l now most = (l.take k).map (·.2)) := fun hh => by
        have e := peek_stop now (m := most.toNat) HY.out (by rcases hh with h1 | h1; exact .inl h1; exact .inr (by omega))
        unfold peekL
        rw [← hP.out, e]; rfl
      clear ho hb
      by_cases h1 : now < t
      · go_wp2_with fail
        go_ret
        refine ⟨_, rfl, ?_, hb2⟩
        unfold OwnKs
        rw [hfin.out (.inl h1), hkl]
        exact ho2
      · by_cases h2 : most ≤ (k : Int)
        · go_wp2_with fail
          go_ret
          refine ⟨_, rfl, ?_, hb2⟩
          unfold OwnKs
          rw [hfin.out (.inr h2), hkl]
          exact ho2
        · have hP2 : Hid (k + 1 + peekN now (l.drop (k + 1)) (most.toNat - (k + 1)) = peekN now l most.toNat) := by
            show _ = _
            rw [← hP.out, peek_go now HY.out (by omega) (by omega)]; omega
          clear hfin hP
          go_wp2_with (at_builtin; refine wpList_app1b rfl (.tmp 31) (.tmp 34) elKs rfl w.heap.size _ k _ rfl ho2 (Value.string kk) rfl (wr.heap.size + 1) (by simp) rfl (by unfold maxLen; omega) (by omega) hb2.size ?_; intro v3 w3 o3 O3 f3)
          refine ⟨⟨k + 1, by omega, by go_num, ?_, hP2, ?_⟩, by simp [intOf]; omega⟩
          · unfold OwnKs
            have e1 : (l.take (k + 1)).map (·.2) = (l.take k).map (·.2) ++ [kk] := by
              rw [List.take_add_one, HY.out]; simp
            have e2 : ((l.take k).map (·.2) ++ [kk]).length = k + 1 := by simp; omega
            rw [e1, e2, show keysV ((l.take k).map (·.2) ++ [kk]) = keysV ((l.take k).map (·.2)) ++ [Value.string kk] by simp [keysV]]
            exact o3
          · exact O3.after hb2 (Nat.le_refl _) (fun b hb => (ho2.lt b hb).1)
    · obtain rfl : k = l.length := by omega
      have hfin : peekL l now most = (l.take l.length).map (·.2) := by
        unfold peekL
        rw [← hP.out, peek_end]; rfl
      have HF := Lib.hid hfin
      clear hfin hP
      go_wp2_with fail
      go_ret
      refine ⟨_, rfl, ?_, hb⟩
      unfold OwnKs
      rw [HF.out, hkl]
      exact ho
end Go.Proofs.YtjofbagaobdmoaaGreat.DsK
