/-
  table.All: the table's rows, sorted. Conditions: as stated.
-/
import Derived.Test.YtiffdkagmnpjiaaTbF
set_option maxRecDepth 100000
set_option linter.unusedSimpArgs false
set_option linter.unusedVariables false
namespace Go.Proofs.Ytiffdkagmnpjiaa.TbG
open Go.RowKit Go.Proofs.Ytiffdkagmnpjiaa.Mem Go.Proofs.Ytiffdkagmnpjiaa.TbA Go.Proofs.Ytiffdkagmnpjiaa.TbB Go.Proofs.Ytiffdkagmnpjiaa.TbE

theorem prt_own {w : World} {B : Nat} {v : Value} {l : List Sp} (h : OwnP w B v l) : Prt w (v, l) := by
  obtain ⟨A, c, rfl⟩ := own_form h
  exact ⟨A, c, rfl, Rd.of_own h⟩
theorem clip_calls (A : Option Addr) (n c : Nat) (w : World) (hn : n ≤ c) :
    Calls Try.prog 32 #[.slice A n c] w fun e w' => e = .returned (.slice A n n) ∧ w' = w := by
  rcases A with _ | ad
  all_goals (
    go_enter Try.func32, Try.ntmps32
    go_wp2_with fail
    go_ret
    exact ⟨by first | rfl | simp, rfl⟩)
theorem allL_len : allL.length = 118 := by kernel_rfl
theorem rowsL_len : rowsL.length = 118 := by kernel_rfl
theorem rd_lit {t : TypeId} (w : World) (cs : Array Value) (n : Nat) (hn : cs.size = n) (hb : n ≤ maxLen) : Rd (w.alloc (.cells cs t)) 1 (some ⟨w.heap.size, 0, none⟩) n n cs.toList :=
  Rd.of_own (World.ownsRow_lit (base := 0) (e := t) (size := 1) w cs n (Nat.zero_le _) hb (by omega))
theorem cat_all (v1 v2 v3 v4 v5 v6 v7 : Value) : cat [(v1, controlL), (v2, textsL), (v3, keysL), (v4, listsL), (v5, hashesL), (v6, setsL), (v7, ranksL)] = allL := by
  unfold cat allL
  simp only [List.flatMap_cons, List.flatMap_nil, List.append_nil, List.append_assoc]
set_option maxHeartbeats 2000000 in
theorem all_own (w : World) : Calls Try.prog 13 #[] w fun e w' => ∃ A c, e = .returned (.slice A 118 118) ∧ OwnP w' w.heap.size (.slice A 118 c) rowsL ∧ Below w.heap.size w w' := by
  go_enter Try.func13, Try.ntmps13
  go_wp2_with fail
  refine (control_calls _).mono ?_
  rintro e w1 ⟨v1, rfl, o1, b1⟩
  obtain ⟨A1, c1, rfl⟩ := own_form o1
  have p1 := prt_own o1
  have B1 : Below w.heap.size w w1 := b1
  clear o1 b1
  go_wp2_with fail
  refine (texts_calls _).mono ?_
  rintro e w2 ⟨v2, rfl, o2, b2⟩
  obtain ⟨A2, c2, rfl⟩ := own_form o2
  have p2 := prt_own o2
  have p1 := p1.below b2
  have B2 : Below w.heap.size w w2 := B1.trans (b2.mono B1.size)
  clear o2 b2 B1
  go_wp2_with fail
  refine (keys_calls _).mono ?_
  rintro e w3 ⟨v3, rfl, o3, b3⟩
  obtain ⟨A3, c3, rfl⟩ := own_form o3
  have p3 := prt_own o3
  have p1 := p1.below b3
  have p2 := p2.below b3
  have B3 : Below w.heap.size w w3 := B2.trans (b3.mono B2.size)
  clear o3 b3 B2
  go_wp2_with fail
  refine (lists_calls _).mono ?_
  rintro e w4 ⟨v4, rfl, o4, b4⟩
  obtain ⟨A4, c4, rfl⟩ := own_form o4
  have p4 := prt_own o4
  have p1 := p1.below b4
  have p2 := p2.below b4
  have p3 := p3.below b4
  have B4 : Below w.heap.size w w4 := B3.trans (b4.mono B3.size)
  clear o4 b4 B3
  go_wp2_with fail
  refine (hashes_calls _).mono ?_
  rintro e w5 ⟨v5, rfl, o5, b5⟩
  obtain ⟨A5, c5, rfl⟩ := own_form o5
  have p5 := prt_own o5
  have p1 := p1.below b5
  have p2 := p2.below b5
  have p3 := p3.below b5
  have p4 := p4.below b5
  have B5 : Below w.heap.size w w5 := B4.trans (b5.mono B4.size)
  clear o5 b5 B4
  go_wp2_with fail
  refine (sets_calls _).mono ?_
  rintro e w6 ⟨v6, rfl, o6, b6⟩
  obtain ⟨A6, c6, rfl⟩ := own_form o6
  have p6 := prt_own o6
  have p1 := p1.below b6
  have p2 := p2.below b6
  have p3 := p3.below b6
  have p4 := p4.below b6
  have p5 := p5.below b6
  have B6 : Below w.heap.size w w6 := B5.trans (b6.mono B5.size)
  clear o6 b6 B5
  go_wp2_with fail
  refine (ranks_calls _).mono ?_
  rintro e w7 ⟨v7, rfl, o7, b7⟩
  obtain ⟨A7, c7, rfl⟩ := own_form o7
  have p7 := prt_own o7
  have p1 := p1.below b7
  have p2 := p2.below b7
  have p3 := p3.below b7
  have p4 := p4.below b7
  have p5 := p5.below b7
  have p6 := p6.below b7
  have B7 : Below w.heap.size w w7 := B6.trans (b7.mono B6.size)
  clear o7 b7 B6
  have q : ∀ p ∈ ([((.slice A1 controlL.length c1 : Value), controlL), ((.slice A2 textsL.length c2 : Value), textsL), ((.slice A3 keysL.length c3 : Value), keysL), ((.slice A4 listsL.length c4 : Value), listsL), ((.slice A5 hashesL.length c5 : Value), hashesL), ((.slice A6 setsL.length c6 : Value), setsL), ((.slice A7 ranksL.length c7 : Value), ranksL)] : List (Value × List Sp)), Prt (w7.alloc (.cells #[.slice A1 controlL.length c1, .slice A2 textsL.length c2, .slice A3 keysL.length c3, .slice A4 listsL.length c4, .slice A5 hashesL.length c5, .slice A6 setsL.length c6, .slice A7 ranksL.length c7] 29)) p := by
    intro p hp
    have hb := al w7 (.cells #[.slice A1 controlL.length c1, .slice A2 textsL.length c2, .slice A3 keysL.length c3, .slice A4 listsL.length c4, .slice A5 hashesL.length c5, .slice A6 setsL.length c6, .slice A7 ranksL.length c7] 29)
    simp only [List.mem_cons, List.not_mem_nil, or_false] at hp
    rcases hp with rfl | rfl | rfl | rfl | rfl | rfl | rfl
    · exact p1.below hb
    · exact p2.below hb
    · exact p3.below hb
    · exact p4.below hb
    · exact p5.below hb
    · exact p6.below hb
    · exact p7.below hb
  have hcat := cat_all (.slice A1 controlL.length c1) (.slice A2 textsL.length c2) (.slice A3 keysL.length c3) (.slice A4 listsL.length c4) (.slice A5 hashesL.length c5) (.slice A6 setsL.length c6) (.slice A7 ranksL.length c7)
  have hcon := concat_calls w7.heap.size [((.slice A1 controlL.length c1 : Value), controlL), ((.slice A2 textsL.length c2 : Value), textsL), ((.slice A3 keysL.length c3 : Value), keysL), ((.slice A4 listsL.length c4 : Value), listsL), ((.slice A5 hashesL.length c5 : Value), hashesL), ((.slice A6 setsL.length c6 : Value), setsL), ((.slice A7 ranksL.length c7 : Value), ranksL)] (w7.alloc (.cells #[.slice A1 controlL.length c1, .slice A2 textsL.length c2, .slice A3 keysL.length c3, .slice A4 listsL.length c4, .slice A5 hashesL.length c5, .slice A6 setsL.length c6, .slice A7 ranksL.length c7] 29)) (rd_lit (t := 29) w7 #[.slice A1 controlL.length c1, .slice A2 textsL.length c2, .slice A3 keysL.length c3, .slice A4 listsL.length c4, .slice A5 hashesL.length c5, .slice A6 setsL.length c6, .slice A7 ranksL.length c7] 7 rfl (by decide)) q (by rw [hcat, allL_len]; decide) (by rw [hcat, allL_len]; decide)
  rw [hcat] at hcon
  have B8 : Below w.heap.size w (w7.alloc (.cells #[.slice A1 controlL.length c1, .slice A2 textsL.length c2, .slice A3 keysL.length c3, .slice A4 listsL.length c4, .slice A5 hashesL.length c5, .slice A6 setsL.length c6, .slice A7 ranksL.length c7] 29)) := B7.alloc B7.size _
  clear q hcat p1 p2 p3 p4 p5 p6 p7 B7
  have Hcon := Lib.hid hcon
  have HB8 := Lib.hid B8
  clear hcon B8
  go_wp2_with fail
  refine (Hcon.out).mono ?_
  rintro e w9 ⟨v, rfl, o9, b9⟩
  have B9 := HB8.out.trans (b9.mono HB8.out.size)
  have o9 := own_less o9 HB8.out.size
  clear HB8 Hcon b9
  obtain ⟨A, c, rfl⟩ := own_form o9
  have hn := Lib.hid allL_len
  go_wp2_with fail
  refine (TbF.sort_calls w.heap.size _ c A allL _ o9 (by rw [hn.out]; decide) (by rw [hn.out]; decide)).mono ?_
  rintro e wa ⟨rfl, d, hp, hs, oa, ba⟩
  obtain rfl := sorted_rows hp hs
  have Ba := B9.trans ba
  rw [hn.out] at oa
  have hr := Rd.of_own (rowsL_len ▸ oa)
  have Oa := Lib.hid oa
  clear hp hs oa ba o9 B9
  have hcap := hr.cap
  rw [hn.out]
  go_wp2_with fail
  refine (clip_calls A 118 c _ hcap).mono ?_
  rintro e wb ⟨rfl, rfl⟩
  go_wp2_with fail
  go_ret
  exact ⟨A, c, rfl, Oa.out, Ba⟩
theorem all_calls (w : World) : Calls Try.prog 13 #[] w fun e w' => ∃ A, e = .returned (.slice A 118 118) ∧ RdP w' A 118 118 rowsL ∧ (∀ ad, A = some ad → w.heap.size ≤ ad.block) ∧ Below w.heap.size w w' := by
  refine (all_own w).mono ?_
  rintro e w' ⟨A, c, rfl, oa, hb⟩
  have hA : ∀ ad, A = some ad → w.heap.size ≤ ad.block := fun ad h => by subst h; exact (oa.lt ad.block rfl).1
  have hr := Rd.of_own (rowsL_len ▸ oa)
  exact ⟨A, rfl, ⟨hr.len, Nat.le_refl _, by decide, hr.get⟩, hA, hb⟩
end Go.Proofs.Ytiffdkagmnpjiaa.TbG
