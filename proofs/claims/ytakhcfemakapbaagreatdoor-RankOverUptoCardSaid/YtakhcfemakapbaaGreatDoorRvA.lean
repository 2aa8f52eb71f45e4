/-
  The law RankOver: entries are gone over as they were when All was called, whatever is done meanwhile. Conditions: as stated.
-/
import Derived.Test.YtakhcfemakapbaaGreatDoorRjY
set_option maxRecDepth 100000
set_option linter.unusedSimpArgs false
set_option linter.unusedVariables false
namespace Go.Proofs.YtakhcfemakapbaaGreatDoor.RvA
open Go Go.RowKit Go.Shelf Go.Sort Go.Proofs.YtakhcfemakapbaaGreatDoor.Mem Go.Proofs.YtakhcfemakapbaaGreatDoor.DuA Go.Proofs.YtakhcfemakapbaaGreatDoor.DuM Go.Proofs.YtakhcfemakapbaaGreatDoor.DuN Go.Proofs.YtakhcfemakapbaaGreatDoor.NumA Go.Proofs.YtakhcfemakapbaaGreatDoor.NumC Go.Proofs.YtakhcfemakapbaaGreatDoor.NumE Go.Proofs.YtakhcfemakapbaaGreatDoor.RkA Go.Proofs.YtakhcfemakapbaaGreatDoor.RkC Go.Proofs.YtakhcfemakapbaaGreatDoor.RkB Go.Proofs.YtakhcfemakapbaaGreatDoor.RkE Go.Proofs.YtakhcfemakapbaaGreatDoor.RkF Go.Proofs.YtakhcfemakapbaaGreatDoor.RkH Go.Proofs.YtakhcfemakapbaaGreatDoor.RkI Go.Proofs.YtakhcfemakapbaaGreatDoor.RkL Go.Proofs.YtakhcfemakapbaaGreatDoor.RkM Go.Proofs.YtakhcfemakapbaaGreatDoor.RkN Go.Proofs.YtakhcfemakapbaaGreatDoor.RkO Go.Proofs.YtakhcfemakapbaaGreatDoor.RkP Go.Proofs.YtakhcfemakapbaaGreatDoor.RkQ Go.Proofs.YtakhcfemakapbaaGreatDoor.RkR Go.Proofs.YtakhcfemakapbaaGreatDoor.RkS Go.Proofs.YtakhcfemakapbaaGreatDoor.RkU Go.Proofs.YtakhcfemakapbaaGreatDoor.RkW Go.Proofs.YtakhcfemakapbaaGreatDoor.RjJ Go.Proofs.YtakhcfemakapbaaGreatDoor.RjK Go.Proofs.YtakhcfemakapbaaGreatDoor.RjL Go.Proofs.YtakhcfemakapbaaGreatDoor.RjM Go.Proofs.YtakhcfemakapbaaGreatDoor.RjN Go.Proofs.YtakhcfemakapbaaGreatDoor.RjO Go.Proofs.YtakhcfemakapbaaGreatDoor.RjQ Go.Proofs.YtakhcfemakapbaaGreatDoor.RjV Go.Proofs.YtakhcfemakapbaaGreatDoor.RjW Go.Proofs.YtakhcfemakapbaaGreatDoor.RjY
attribute [local go_sem] Oper.semAt_some
theorem two_ways {Q : Exit → Act → World → Prop} {e : Exit} {i : Nat} {a : Act} {w : World} (he : e = .normal ∨ e = .exit i) (h1 : Q (.exit i) a w = Q .normal a w) (h : Q .normal a w) : Q e a w := by
  rcases he with rfl | rfl
  · exact h
  · rw [h1]; exact h
theorem rk_not_def {w : World} {B g m N : Nat} {v : Value} {l : List En} (h : Rk w B g m v l N) {D : Nat} {x : Option (List Deferred)} (hk : w.heap[D]? = some (.deferred x)) : ¬ RkS g m v D := fun hs => by
  rcases hs with hs | hs | hs
  · rw [hs, h.hp] at hk; cases hk
  · obtain ⟨D', ⟨es, clock, hb, _⟩, _⟩ := h.mp
    rw [hs, hb] at hk; cases hk
  · have := own_cells h.own D hs _ hk
    cases this
set_option maxHeartbeats 4000000 in
theorem over_stop (A : Option Addr) (c : Nat) (l : List En) (Q : Nat) (hQ1 : 1 ≤ Q) (hQ2' : Q ≤ l.length) (W : World) (hr : RdE W A l.length c l) (hg : Gd l) (hn : l.length ≤ 1048576) (hL : Laid W) :
    Calls Tryz.prog 9 #[.slice A l.length c, .int .i64 Q] W fun e w' => e = .returned (.bool true) ∧ Below W.heap.size W w' := by
  have heq : ∀ (bs : Array Value) (w : World), Sem.run Tryz.prog (binOp BinOp.eql 61 (Value.func (.func 55) #[] bs) Value.nilFunc) w = .ok (.bool false) w := fun _ _ => by kernel_rfl
  have hcap := hr.cap
  have hbig : c ≤ 9223372036854775807 := hr.big
  have x3 := Boxed.new W 3 (.int .i64 Q)
  have bW := al W (.cells #[.int .i64 Q] 3)
  have sW : (W.alloc (.cells #[.int .i64 Q] 3)).heap.size = W.heap.size + 1 := by simp
  obtain ⟨W0, hW0⟩ : ∃ W0, W.alloc (.cells #[.int .i64 Q] 3) = W0 := ⟨_, rfl⟩
  rw [hW0] at x3 bW sW
  have htw := twin_calls A l.length c l W0 (hr.below bW) (sm hn)
  have HR := Lib.hid (And.intro (hr.below bW) (And.intro hg.ok (And.intro (hL.below bW) (And.intro bW hg))))
  have HN := Lib.hid (sm hn)
  clear hr hg hL bW
  refine (callsIn_wide (n := 8)).1 ?_
  refine callsIn_of_wp_marks Tryz.func9 rfl trivial ?_ rfl
  simp only [Tryz.ntmps9, List.size_toArray, List.length_cons, List.length_nil, Nat.reduceAdd, Nat.reduceSub, Array.replicate_succ, Array.replicate_zero, List.push_toArray, List.append_toArray, List.nil_append, List.cons_append]
  refine wpIn_wide.2 ?_
  by_cases hS : allS l
  · by_cases hD : (l.map (·.2)).Nodup
    · have hlm := len_ofL hD
      have hsm := (of_facts hD).1
      have hgM := gd_ofL HR.out.2.2.2.2 hD
      have hof : Hid (∀ (A1 : Option Addr) (c1 : Nat) w, RdE w A1 l.length c1 l → Calls Tryz.prog 11 #[.slice A1 l.length c1] w fun e w' => ∃ g m, e = .returned (.tuple #[.pointer (some ⟨g, 0, none⟩), .int .i64 0]) ∧ Ps w w' g m (ofL l) l.length) := Lib.hid (fun A1 c1 w hr => of_ok A1 l.length c1 l w hr HR.out.2.1 HN.out hS hD)
      have hofR : Hid (∀ w, Below W0.heap.size W0 w → Calls Tryz.prog 12 #[.slice A l.length c] w fun e w' => ∃ v, e = .returned (.tuple #[v, .int .i64 0]) ∧ OwnE w' w.heap.size v (ofL l) ∧ Below w.heap.size w w') := Lib.hid (fun w hb => ofR_ok A l.length c l w HN.out hS hD (HR.out.1.below hb))
      obtain ⟨M, hM⟩ : ∃ M, M = ofL l := ⟨_, rfl⟩
      rw [← hM] at hlm hof hofR hsm hgM
      have HLM := Lib.hid hlm
      have hnM : M.length ≤ 1048576 := by rw [hlm]; exact hn
      have HN2 := Lib.hid hn
      have hQ2 : Q ≤ M.length := by rw [hlm]; exact hQ2'
      have HMM := Lib.hid (And.intro hsm hgM)
      clear hS hD hM hlm hsm hgM hn
      go_wp2_with fail
      refine htw.mono ?_
      clear htw hW0
      rintro e w1 ⟨v1, rfl, o1, b1⟩
      obtain ⟨A1, c1, rfl, r1⟩ := own_rd o1
      have h := hof.out A1 c1 w1 r1
      have HB1 := Lib.hid b1
      clear o1 r1 hof
      go_wp2_with fail
      refine Calls.mono h ?_
      clear h
      rintro e w2 ⟨g, m, rfl, P2⟩
      have P2 := Ps.base P2 HB1.out
      have x3' := bb x3 (show Below W0.heap.size W0 w2 from P2.bel)
      have x5 := Boxed.new w2 24 (.pointer (some ⟨g, 0, none⟩))
      have b23 := al w2 (.cells #[.pointer (some ⟨g, 0, none⟩)] 24)
      have x35 := bb x3' b23
      have s2 : (w2.alloc (.cells #[.pointer (some ⟨g, 0, none⟩)] 24)).heap.size = w2.heap.size + 1 := by simp
      obtain ⟨w3, hw3⟩ : ∃ w3, w2.alloc (.cells #[.pointer (some ⟨g, 0, none⟩)] 24) = w3 := ⟨_, rfl⟩
      obtain ⟨b5, hb5⟩ : ∃ b5, w2.heap.size = b5 := ⟨_, rfl⟩
      obtain ⟨v0, hr2⟩ := P2.rk
      have hlt2 := hr2.lt
      have HP2 := Lib.hid P2
      have hP2s := P2.bel.size
      clear b1 P2
      go_wp2_with fail
      rw [hw3] at x5 b23 x35 s2
      rw [hb5] at x5 s2 hP2s
      have hlt0 : ∀ q, RkS g m v0 q → W0.heap.size ≤ q ∧ q < b5 := fun q hq => by rw [← hb5]; exact hlt2 q hq
      have hr3 := hr2.below b23
      have HP3 := Lib.hid (HP2.out.below b23)
      have h := hofR.out w3 HP3.out.bel
      clear hw3 hofR b23 x3' HP2 hr2 hlt2 hb5
      refine Calls.mono h ?_
      clear h
      rintro e w4 ⟨v4, rfl, o4, b34⟩
      obtain ⟨AM, cM, rfl⟩ := own_form o4
      have x54 := bb x5 b34
      have x34 := bb x35 b34
      have s34 := b34.size
      have P4 := HP3.out.below b34
      have hr4 := hr3.below b34
      have HP4 := Lib.hid P4
      have c5 := x54.cell
      have lt4 := o4.lt
      have cp4 := (Rd.of_own o4).cap
      have bg4 := (Rd.of_own o4).big
      clear x5 x35 b34 HP3 P4 hr3
      go_wp2_with fail
      refine (allIter_calls HP4.out (by have := HN2.out; omega)).mono ?_
      rintro e w5 ⟨A9, c9, Bs, rfl, hBs, xs, o9, hne9, b45⟩
      have x55 := bb x54 b45
      have x35 := bb x34 b45
      have o45 := own_only o4 (only_b (S := fun _ => False) b45) (fun _ _ => id)
      have s45 := b45.size
      have P5 := HP4.out.below b45
      have hr5 := hr4.below b45
      have HP5 := Lib.hid P5
      have lts := xs.lt
      have lt9 := o9.lt
      have hx := heq #[.pointer (some ⟨Bs, 0, none⟩)] w5
      clear x34 x54 o4 b45 HP4 P5 c5 hr4
      have c5 := x55.cell
      have HB5 : Hid (Below w5.heap.size w5 (w5.drewN 1)) := Lib.hid (below_drawn_ (Below.refl w5.heap.size w5) 1)
      have hsl : sliceL M 0 (-1) false = M := slice_all M
      go_wp2_with fail
      go_region_held3 (fun w' => w'.cell? ⟨b5, 0, none⟩ = some (.pointer (some ⟨g, 0, none⟩)))
        (first | exact c5 | assumption)
        (first
          | (go_at_call 16; refine (((HP5.out.below HB5.out)).list HN.out).mono ?_; rintro e w6 ⟨v6, rfl, o6, b56⟩; obtain ⟨A6, c6, rfl⟩ := own_form o6; have b6 := HB5.out.trans (b56.mono HB5.out.size); have q6 : w6.cell? ⟨b5, 0, none⟩ = some (.pointer (some ⟨g, 0, none⟩)) := cell_b c5 b6)
          | (go_at_call 24; refine ((HP5.out.below b6).slice 0 (-1) false HN.out (by unfold inI; omega) (by unfold inI; omega)).mono ?_; rintro e w7 ⟨v7, rfl, o7, b67⟩; rw [hsl] at o7; obtain ⟨A7, c7, rfl⟩ := own_form o7; have b7 := b6.trans (b67.mono b6.size); have q7 : w7.cell? ⟨b5, 0, none⟩ = some (.pointer (some ⟨g, 0, none⟩)) := cell_b c5 b7))
      have o67 := own_only o6 (only_b (S := fun _ => False) b67) (fun _ _ => id)
      have sp6 := spo_of o67
      have sp7 := spo_of o7
      have lt6 := o6.lt
      have lt7 := o7.lt
      have FX : Fx W.heap.size b5 Bs Q g A9 c9 AM cM M w4.heap.size w3.heap.size w7 := ⟨bb x35 b7, bb x55 b7, bb xs b7, own_only o9 (only_b (S := fun _ => False) b7) (fun _ _ => id), own_only o45 (only_b (S := fun _ => False) b7) (fun _ _ => id)⟩
      have P7 := HP5.out.below b7
      have hr7 := hr5.below b7
      have hFBlt : ∀ q, FB W.heap.size b5 Bs A9 AM q → q < w5.heap.size := fun q hq => by
        rcases hq with rfl | rfl | rfl | hq | hq
        · exact x35.lt
        · exact x55.lt
        · exact lts
        · exact (lt9 q (by rw [ob A9 _ c9 0 0]; exact hq)).2
        · have := (lt4 q (by rw [ob AM _ cM 0 0]; exact hq)).2; omega
      have HP7 := Lib.hid P7
      have s57 := b7.size
      have s67 := b67.size
      have s56 : w5.heap.size ≤ w6.heap.size := b6.size
      have cp6 := (Rd.of_own o6).cap
      have cp7 := (Rd.of_own o7).cap
      have bg6 := (Rd.of_own o6).big
      have bg7 := (Rd.of_own o7).big
      clear q6 q7 b6 b7 b56 b67 o6 o67 o7 x35 x55 o9 o45 xs c5 HB5 hsl P7 HP5 hr5
      go_wp2_with fail
      go_loopw [12] (fun i wr => ∃ k : Nat, k ≤ M.length ∧ i = .int .i64 k ∧ Only (fun b => (Value.slice A6 M.length c6).ownBlock = some b ∨ (Value.slice A7 M.length c7).ownBlock = some b) w7 wr ∧ Spo wr A6 M.length c6 ∧ Spo wr A7 M.length c7) (fun i _ => M.length - (intOf i).toNat)
      case atStart => exact ⟨0, Nat.zero_le _, rfl, Only.refl _ _, sp6, sp7⟩
      case round =>
        clear sp6 sp7 hx
        obtain ⟨k, hk, rfl, on, sp6, sp7⟩ := hrel
        by_cases hlt : k < M.length
        · rcases sp6 with sp6 | ⟨b6, cur6, rfl, hb6, hcs6⟩
          · omega
          rcases sp7 with sp7 | ⟨b7, cur7, rfl, hb7, hcs7⟩
          · omega
          have hb67 : b6 < b7 := by
            have h1 := (lt6 b6 rfl).2
            have h2 := (lt7 b7 rfl).1
            omega
          have hne1 : ¬ b6 = b7 := by omega
          have hne2 : ¬ b7 = b6 := by omega
          obtain ⟨u0, q0⟩ : ∃ u0, wr.cell? ⟨b6, k * 2, none⟩ = some u0 := ⟨cur6[k * 2]'(by omega), by simp [World.cell?, hb6]⟩
          obtain ⟨u1, q1⟩ : ∃ u1, wr.cell? ⟨b6, k * 2 + 1, none⟩ = some u1 := ⟨cur6[k * 2 + 1]'(by omega), by simp [World.cell?, hb6]⟩
          obtain ⟨u2, q2⟩ : ∃ u2, wr.cell? ⟨b7, k * 2, none⟩ = some u2 := ⟨cur7[k * 2]'(by omega), by simp [World.cell?, hb7]⟩
          obtain ⟨u3, q3⟩ : ∃ u3, wr.cell? ⟨b7, k * 2 + 1, none⟩ = some u3 := ⟨cur7[k * 2 + 1]'(by omega), by simp [World.cell?, hb7]⟩
          have f0 : wr.frozen? ⟨b6, k * 2, none⟩ = false := by simp [World.frozen?, hb6]
          have f1 : wr.frozen? ⟨b6, k * 2 + 1, none⟩ = false := by simp [World.frozen?, hb6]
          have f2 : wr.frozen? ⟨b7, k * 2, none⟩ = false := by simp [World.frozen?, hb7]
          have f3 : wr.frozen? ⟨b7, k * 2 + 1, none⟩ = false := by simp [World.frozen?, hb7]
          have HB := Lib.hid (And.intro hb6 (And.intro hcs6 (And.intro hb7 (And.intro hcs7 on))))
          clear hb6 hcs6 hb7 hcs7 on hb67
          go_wp2_with fail
          obtain ⟨hb6, hcs6, hb7, hcs7, on⟩ := HB.out
          obtain ⟨e6, e7⟩ := spo_put (k := k) (s := ⟨#[115, 112, 111, 105, 108, 116]⟩) (s' := ⟨#[115, 112, 111, 105, 108, 116, 32, 116, 111, 111]⟩) hb6 hb7 hne1
          exact ⟨⟨k + 1, by omega, by go_num, (((on.put (p := ⟨b6, k * 2, none⟩) (.inl (.inl rfl)) _).put (p := ⟨b6, k * 2 + 1, none⟩) (.inl (.inl rfl)) _).put (p := ⟨b7, k * 2, none⟩) (.inl (.inr rfl)) _).put (p := ⟨b7, k * 2 + 1, none⟩) (.inl (.inr rfl)) _, .inr ⟨b6, _, rfl, e6.1, by rw [e6.2]; exact hcs6⟩, .inr ⟨b7, _, rfl, e7.1, by rw [e7.2]; exact hcs7⟩⟩, by simp [intOf]; omega⟩
        · obtain rfl : k = M.length := by omega
          have hlow : ∀ q, (Value.slice A6 M.length c6).ownBlock = some q ∨ (Value.slice A7 M.length c7).ownBlock = some q → w5.heap.size ≤ q := fun q hq => by
            rcases hq with hq | hq
            · exact Nat.le_trans (Nat.le_refl _) (lt6 q hq).1
            · have := (lt7 q hq).1; omega
          have FX5 := FX.only on (fun q hq e => by have h1 := hlow q e; have h2 := hFBlt q hq; omega)
          have hr8 : Rk wr W0.heap.size g m v0 M l.length := hr7.only on (fun q hq e => by have h1 := hlow q e; have h2 := (hlt0 q hq).2; omega)
          have bel8 : Below W0.heap.size W0 wr := on.after HP7.out.bel (Nat.le_refl _) (fun q e => by have h1 := hlow q e; omega)
          have c5 := FX5.b5.cell
          have s78 := on.size
          have hNB : ∀ q, FB W.heap.size b5 Bs A9 AM q → ¬ RkS g m v0 q := fun q hq hs => by
            have h1 := hlt0 q hs
            rcases hq with hq | hq | hq | hq | hq
            · omega
            · omega
            · omega
            · have := (lt9 q (by rw [ob A9 _ c9 0 0]; exact hq)).1; omega
            · have := (lt4 q (by rw [ob AM _ cM 0 0]; exact hq)).1; omega
          have hpp := pop_calls W0.heap.size g m v0 M l.length 2 true wr hr8 bel8.size HN.out (by unfold inI; omega)
          clear FX sp6 sp7 hr7 on hlow
          go_wp2_with fail
          refine hpp.mono ?_
          clear hpp
          rintro e w10 ⟨v10, w9, rfl, ⟨v1, hr9, on9, hv9⟩, -, b910⟩
          have FX10 := (FX5.only on9 hNB).below b910
          have hr10 := hr9.below b910
          have bel10 : Below W0.heap.size W0 w10 := below_seq (on9.after bel8 (Nat.le_refl _) (fun q hq => (hr8.lt q hq).1)) b910
          have s910 := b910.size
          have s89 := on9.size
          have hlt1 : ∀ q, RkS g m v1 q → (W0.heap.size ≤ q ∧ q < b5) ∨ (wr.heap.size ≤ q) := fun q hq => by
            rcases hq with rfl | rfl | hq
            · exact .inl (hlt0 _ (.inl rfl))
            · exact .inl (hlt0 _ (.inr (.inl rfl)))
            · rcases hv9 with hv | ⟨z, hv, hz⟩
              · exact .inl (hlt0 q (.inr (.inr (by rw [← hv]; exact hq))))
              · rw [hq] at hv; injection hv with hv; exact .inr (by omega)
          have b1011 := al w10 (.cells #[.int .i64 0] 3)
          have xT := Boxed.new w10 3 (.int .i64 0)
          have c10 := xT.cell
          clear FX5 hr8 bel8 on9 hr9 b910 c5 hv9
          go_wp2_with fail
          obtain ⟨a_v, hav⟩ : ∃ v, v = v1 := ⟨_, rfl⟩
          rw [← hav] at hr10 hlt1
          have a_xT7 := xT
          have a_FX7 := FX10.below b1011
          have a_d7 := hr10.below b1011
          have a_bel7 := below_seq bel10 b1011
          have lgm6 := hr10.lt
          obtain ⟨a_BT, hBT⟩ : ∃ BT, w10.heap.size = BT := ⟨_, rfl⟩
          obtain ⟨BT0, hBT0⟩ : ∃ BT0, BT0 = a_BT := ⟨_, rfl⟩
          obtain ⟨a_w7, hw7⟩ : ∃ w7, w10.alloc (.cells #[.int .i64 0] 3) = w7 := ⟨_, rfl⟩
          rw [hw7] at a_xT7 a_FX7 a_d7 a_bel7 ⊢
          rw [hBT] at a_xT7 s910 lgm6 ⊢
          have hFB7 : Hid (∀ k, FB W.heap.size b5 Bs A9 AM k → k < BT0) := Lib.hid (fun k hk => by have := hFBlt k hk; omega)
          have a_NB : Hid (∀ k, FB W.heap.size b5 Bs A9 AM k → ¬ RkS g m a_v k) := Lib.hid (fun k hk hs => by
            have h1 := hFBlt k hk
            rcases hlt1 k hs with h2 | h2
            · rcases hk with hk | hk | hk | hk | hk
              · omega
              · omega
              · omega
              · have := (lt9 k (by rw [ob A9 _ c9 0 0]; exact hk)).1; omega
              · have := (lt4 k (by rw [ob AM _ cM 0 0]; exact hk)).1; omega
            · omega)
          have hWBT : Hid (W0.heap.size ≤ BT0) := Lib.hid (by have := bel10.size; omega)
          have a_BT0 : Hid (BT0 ≤ a_BT) := Lib.hid (by omega)
          have a_NT : Hid (¬ RkS g m a_v a_BT) := Lib.hid (fun h => by have := (lgm6 _ h).2; omega)
          clear hw7 hBT xT b1011 FX10 hr10 bel10 hBT0 lgm6 c10 hav hlt1 hFBlt hlt0 hNB s910 s89 s78 s2 hP2s sW lt4 cp4 bg4 hBs s45 lts lt9 lt6 lt7 s57 s67 s56 cp6 cp7 bg6 bg7 s34 heq x3
          refine wp_loop_rounds 3 ?_
          rw [rounds_succ]
          have a_xG := Boxed.new a_w7 22 (.slice none 0 0)
          have a_b78 := al a_w7 (.cells #[.slice none 0 0] 22)
          have a_xT8 := bb a_xT7 a_b78
          have a_FX8 := a_FX7.below a_b78
          have a_d8 := a_d7.below a_b78
          have a_lt7 := a_d7.lt
          have a_bel8 := below_seq a_bel7 a_b78
          have a_cT7 := a_xT7.cell
          go_wp2_with fail
          obtain ⟨a_w8, a_hw8⟩ : ∃ a_w8, a_w7.alloc (.cells #[.slice none 0 0] 22) = a_w8 := ⟨_, rfl⟩
          have a_s8 : a_w8.heap.size = a_w7.heap.size + 1 := by rw [← a_hw8]; simp
          have a_BTl := a_xT7.lt
          rw [a_hw8] at a_xG a_xT8 a_FX8 a_d8 a_bel8 ⊢
          obtain ⟨a_BG, a_hBG⟩ : ∃ a_BG, a_w7.heap.size = a_BG := ⟨_, rfl⟩
          rw [a_hBG] at a_xG a_s8 a_BTl a_lt7 ⊢
          have a_b78' : Below a_BG a_w7 a_w8 := by rw [← a_hBG, ← a_hw8]; exact a_b78
          have a_PR : Pr a_w8 g m a_BG a_v := ⟨fun k hk => by have := (a_lt7 k hk).2; omega, by omega, fun k hk e => by have := (a_lt7 k hk).2; omega⟩
          have a_R8 : R2 a_w8 W0.heap.size g m l.length a_BG a_v [] (.slice none 0 0) a_w8 := ⟨⟨a_v, _, a_d8, .inl rfl, fun k _ h => (by cases h)⟩, a_xG, World.ownsRow_nil _ _ _ _, Only.refl _ _⟩
          clear a_hw8 a_b78 a_FX7 a_d7 a_bel7 a_xT7 a_cT7 a_hBG
          have a_hFB : ∀ k, FB W.heap.size b5 Bs A9 AM k → ¬ (RkS g m a_v k ∨ k = a_BG) ∧ k < a_w8.heap.size := fun k hk => ⟨fun e => e.elim (a_NB.out k hk) (fun e => by have := hFB7.out k hk; have := a_BT0.out; omega), by have := hFB7.out k hk; have := a_BT0.out; omega⟩
          have a_hBT : ¬ RkS g m a_v a_BT ∧ a_BT ≠ a_BG := ⟨a_NT.out, by omega⟩
          refine (wpIn_wide (n := 8)).1 (wpIn_mono (range_stop a_w8 W.heap.size b5 Bs a_BT a_BG W0.heap.size w4.heap.size w3.heap.size g m l.length (Q : Int) A9 c9 AM cM a_v M hnM HMM.out.2 a_FX8 a_xT8 (.slice none 0 0) a_R8 a_PR a_hFB a_hBT a_bel8.size HN.out Q rfl hQ1 hQ2) ?_)
          rintro e a' a_w9 ⟨he, a_D, gv, a_hD, a_hK, rfl, a_R9⟩
          refine two_ways he rfl ?_
          clear he
          have a_FX9 := a_FX8.only a_R9.on (fun k hk => (a_hFB k hk).1)
          have a_xT9 := boxed_only a_xT8 a_R9.on (fun e => e.elim a_hBT.1 a_hBT.2)
          have a_cT9 := a_xT9.cell
          have a_cG9 := a_R9.bg.cell
          have a_c39 := a_FX9.b3.cell
          obtain ⟨a_A, a_n, a_c, rfl⟩ : ∃ A n c, gv = .slice A n c := by obtain ⟨A, c, h⟩ := own_form a_R9.got; exact ⟨A, _, c, h⟩
          have a_hn := own_n a_R9.got
          have a_rd : RdE a_w9 a_A a_n a_c (M.take Q) := by
            have h := a_R9.got
            unfold OwnE at h
            rw [a_hn] at h
            exact Rd.of_own h
          have a_bel9 : Below W0.heap.size W0 a_w9 := a_R9.on.after a_bel8 (Nat.le_refl _) (fun b e => by
            have := a_bel8.size
            rcases e with e | e
            · exact (a_lt7 b e).1
            · have := a_BT0.out; have := hWBT.out; omega)
          have a_rl : RdE a_w9 AM M.length cM M := Rd.of_own a_FX9.rm
          have a_HR := Lib.hid a_R9
          have a_SZ := Lib.hid (And.intro a_s8 a_BTl)
          have a_HD := Lib.hid (And.intro a_hD (And.intro a_hK (And.intro a_b78' a_R9.on.size)))
          have a_n9 : a_n ≤ 1000000000 := by rw [← a_hn, List.length_take]; omega
          have a_HN := Lib.hid a_hn
          have a_HPR := Lib.hid (And.intro a_PR a_hFB)
          clear a_hn a_s8 a_BTl a_R9 a_R8 a_hD a_hK a_b78' a_FX8 a_d8 a_bel8 a_xG a_xT8 a_PR a_hFB a_hBT a_lt7
          have hq1 : (0 : Int) < (Q : Int) := by omega
          have hq2 : (Q : Int) ≤ (M.length : Int) := by omega
          have hcapM := a_rl.cap
          have hcut := cut_pre AM M.length cM Q (by omega)
          have hQn : Q ≤ 1000000000 := by omega
          have rq9 : RdE a_w9 AM Q cM (M.take Q) := rde_take a_rl hQ2
          have hS : a_w9.cell? ⟨a_BG, 0, none⟩ = some (.slice a_A a_n a_c) ∧ a_w9.cell? ⟨W.heap.size, 0, none⟩ = some (.int .i64 (Q : Int)) := ⟨a_cG9, a_c39⟩
          go_wp2_with fail
          go_region_held3 (fun w' => w'.cell? ⟨a_BG, 0, none⟩ = some (.slice a_A a_n a_c) ∧ w'.cell? ⟨W.heap.size, 0, none⟩ = some (.int .i64 (Q : Int)))
            (first | exact hS | assumption)
            (first
              | (go_at_call 13; refine (same_true a_A AM a_n a_c Q cM _ _ _ (a_rd.below (below_drawn_ (Below.refl _ _) 1)) (rq9.below (below_drawn_ (Below.refl _ _) 1)) a_n9 rfl).mono ?_; rintro e a_w10 ⟨rfl, a_bs0⟩; have hS' : a_w10.cell? ⟨a_BG, 0, none⟩ = some (.slice a_A a_n a_c) ∧ a_w10.cell? ⟨W.heap.size, 0, none⟩ = some (.int .i64 (Q : Int)) := ⟨cell_b (w := a_w9.drewN 1) hS.1 a_bs0, cell_b (w := a_w9.drewN 1) hS.2 a_bs0⟩))
          have a_bs : Below a_w9.heap.size a_w9 a_w10 := (below_drawn_ (Below.refl _ _) 1).trans a_bs0
          clear hS hS' hcut hq1 hq2 a_bs0 rq9 hcapM
          obtain ⟨a_v2, a_cur2, a_dz0, a_hv2, -⟩ := a_HR.out.rk
          have a_FXz := a_FX9.below a_bs
          have a_xTz := bb a_xT9 a_bs
          have a_belz := below_seq a_bel9 a_bs
          have a_Kz : a_w10.heap[a_D]? = some (.deferred (some [])) := (a_bs.block a_D (Array.getElem?_eq_some_iff.1 a_HD.out.2.1).1).trans a_HD.out.2.1
          have a_NB2 : Hid (∀ k, FB W.heap.size b5 Bs A9 AM k → ¬ RkS g m a_v2 k) := Lib.hid (fun k hk hs => by
            rcases a_HR.out.off a_HPR.out.1 a_hv2 k hs with h1 | ⟨_, h1⟩
            · exact a_NB.out k hk h1
            · have := (a_HPR.out.2 k hk).2; omega)
          have a_dz := a_dz0.below a_bs
          have a_ND : Hid (¬ RkS g m a_v2 a_D) := rk_not_def a_dz a_Kz
          have a_HBS := Lib.hid a_bs
          have b_x0 := Boxed.new a_w10 3 (.int .i64 0)
          have b_b0 := al a_w10 (.cells #[.int .i64 0] 3)
          have b_s0 : (a_w10.alloc (.cells #[.int .i64 0] 3)).heap.size = a_w10.heap.size + 1 := by simp
          have b_ca := b_x0.cell
          have b_fa := b_x0.frozen
          have a_cTz := a_xTz.cell
          have a_SS := Lib.hid (And.intro a_bs.size b_s0)
          clear a_bs b_s0 a_cT9 a_cG9 a_c39 a_rd a_rl a_FX9 a_xT9 a_bel9 a_dz0 a_hv2
          go_wp2_with fail
          have b_x7 := Boxed.new a_w10 3 (.int .i64 (1))
          have b_b1 := al a_w10 (.cells #[.int .i64 (1)] 3)
          have b_FX7 := a_FXz.below b_b1
          have b_bel7 := below_seq a_belz b_b1
          have b_d7 := a_dz.below b_b1
          have a_K7 := (b_b1.block a_D (Array.getElem?_eq_some_iff.1 a_Kz).1).trans a_Kz
          have b_BT0 : Hid (BT0 ≤ a_w10.heap.size) := Lib.hid (by have h1 := a_SZ.out; have h2 := a_HD.out.2.2.2; have h3 := a_SS.out; have h4 := a_BT0.out; omega)
          have b_NT : Hid (¬ RkS g m a_v2 a_w10.heap.size) := Lib.hid (fun h => by have := (a_dz.lt _ h).2; omega)
          have a_Dl : Hid (a_D < a_w10.heap.size) := Lib.hid (Array.getElem?_eq_some_iff.1 a_Kz).1
          clear a_FXz a_belz a_dz a_Kz a_xTz a_cTz b_ca b_fa b_x0
          generalize a_w10.alloc (.cells #[.int .i64 (1)] 3) = b_w7 at b_x7 b_b1 b_FX7 b_bel7 b_d7 a_K7 ⊢
          have b_b17 := Lib.hid b_b1
          clear b_b1 b_b0
          obtain ⟨b_BT, b_hBT⟩ : ∃ BT, BT = a_w10.heap.size := ⟨_, rfl⟩
          rw [← b_hBT] at b_x7 b_BT0 b_NT a_Dl b_b17 ⊢
          have b_xT7 := b_x7
          have a_HT := Lib.hid b_hBT
          obtain ⟨b_v, b_hv⟩ : ∃ v, v = a_v2 := ⟨_, rfl⟩
          rw [← b_hv] at b_d7 b_NT a_NB2 a_ND
          have b_NB := a_NB2
          clear b_hBT b_x7 a_SS b_hv a_NB2
          (try rw [rounds_succ])
          have b_xG := Boxed.new b_w7 22 (.slice none 0 0)
          have b_b78 := al b_w7 (.cells #[.slice none 0 0] 22)
          have b_xT8 := bb b_xT7 b_b78
          have b_FX8 := b_FX7.below b_b78
          have b_d8 := b_d7.below b_b78
          have b_lt7 := b_d7.lt
          have b_bel8 := below_seq b_bel7 b_b78
          have b_cT7 := b_xT7.cell
          go_wp2_with fail
          obtain ⟨b_w8, b_hw8⟩ : ∃ b_w8, b_w7.alloc (.cells #[.slice none 0 0] 22) = b_w8 := ⟨_, rfl⟩
          have b_s8 : b_w8.heap.size = b_w7.heap.size + 1 := by rw [← b_hw8]; simp
          have b_BTl := b_xT7.lt
          rw [b_hw8] at b_xG b_xT8 b_FX8 b_d8 b_bel8 ⊢
          obtain ⟨b_BG, b_hBG⟩ : ∃ b_BG, b_w7.heap.size = b_BG := ⟨_, rfl⟩
          rw [b_hBG] at b_xG b_s8 b_BTl b_lt7 ⊢
          have b_b78' : Below b_BG b_w7 b_w8 := by rw [← b_hBG, ← b_hw8]; exact b_b78
          have b_PR : Pr b_w8 g m b_BG b_v := ⟨fun k hk => by have := (b_lt7 k hk).2; omega, by omega, fun k hk e => by have := (b_lt7 k hk).2; omega⟩
          have b_R8 : R2 b_w8 W0.heap.size g m l.length b_BG b_v [] (.slice none 0 0) b_w8 := ⟨⟨b_v, _, b_d8, .inl rfl, fun k _ h => (by cases h)⟩, b_xG, World.ownsRow_nil _ _ _ _, Only.refl _ _⟩
          clear b_hw8 b_b78 b_FX7 b_d7 b_bel7 b_xT7 b_cT7 b_hBG
          have b_hFB : ∀ k, FB W.heap.size b5 Bs A9 AM k → ¬ (RkS g m b_v k ∨ k = b_BG) ∧ k < b_w8.heap.size := fun k hk => ⟨fun e => e.elim (b_NB.out k hk) (fun e => by have := hFB7.out k hk; have := b_BT0.out; omega), by have := hFB7.out k hk; have := b_BT0.out; omega⟩
          have b_hBT : ¬ RkS g m b_v b_BT ∧ b_BT ≠ b_BG := ⟨b_NT.out, by omega⟩
          refine (wpIn_wide (n := 8)).1 (wpIn_mono (range_one b_w8 W.heap.size b5 Bs b_BT b_BG W0.heap.size w4.heap.size w3.heap.size g m l.length (Q : Int) A9 c9 AM cM b_v M hnM HMM.out.2 b_FX8 b_xT8 (.slice none 0 0) b_R8 b_PR b_hFB b_hBT b_bel8.size HN.out ) ?_)
          rintro e a' b_w9 ⟨he, b_D, gv, b_hD, b_hK, rfl, b_R9⟩
          refine two_ways he rfl ?_
          clear he
          have b_FX9 := b_FX8.only b_R9.on (fun k hk => (b_hFB k hk).1)
          have b_xT9 := boxed_only b_xT8 b_R9.on (fun e => e.elim b_hBT.1 b_hBT.2)
          have b_cT9 := b_xT9.cell
          have b_cG9 := b_R9.bg.cell
          have b_c39 := b_FX9.b3.cell
          obtain ⟨b_A, b_n, b_c, rfl⟩ : ∃ A n c, gv = .slice A n c := by obtain ⟨A, c, h⟩ := own_form b_R9.got; exact ⟨A, _, c, h⟩
          have b_hn := own_n b_R9.got
          have b_rd : RdE b_w9 b_A b_n b_c (M.take M.length) := by
            have h := b_R9.got
            unfold OwnE at h
            rw [b_hn] at h
            exact Rd.of_own h
          have b_bel9 : Below W0.heap.size W0 b_w9 := b_R9.on.after b_bel8 (Nat.le_refl _) (fun b e => by
            have := b_bel8.size
            rcases e with e | e
            · exact (b_lt7 b e).1
            · have := b_BT0.out; have := hWBT.out; omega)
          have b_rl : RdE b_w9 AM M.length cM M := Rd.of_own b_FX9.rm
          have b_HR := Lib.hid b_R9
          have b_SZ := Lib.hid (And.intro b_s8 b_BTl)
          have b_HD := Lib.hid (And.intro b_hD (And.intro b_hK (And.intro b_b78' b_R9.on.size)))
          have b_n9 : b_n ≤ 1000000000 := by rw [← b_hn, List.length_take]; omega
          have b_HN := Lib.hid b_hn
          have b_HPR := Lib.hid (And.intro b_PR b_hFB)
          clear b_hn b_s8 b_BTl b_R9 b_R8 b_hD b_hK b_b78' b_FX8 b_d8 b_bel8 b_xG b_xT8 b_PR b_hFB b_hBT b_lt7
          have hsm := same_true b_A AM b_n b_c M.length cM (M.take M.length) M b_w9 b_rd b_rl b_n9 (List.take_length)
          go_wp2_with fail
          refine hsm.mono ?_
          clear hsm
          rintro e b_w10 ⟨rfl, b_bs⟩
          obtain ⟨b_v2, b_cur2, b_dz0, b_hv2, -⟩ := b_HR.out.rk
          have b_FXz := b_FX9.below b_bs
          have b_xTz := bb b_xT9 b_bs
          have b_belz := below_seq b_bel9 b_bs
          have b_Kz : b_w10.heap[b_D]? = some (.deferred (some [])) := (b_bs.block b_D (Array.getElem?_eq_some_iff.1 b_HD.out.2.1).1).trans b_HD.out.2.1
          have b_NB2 : Hid (∀ k, FB W.heap.size b5 Bs A9 AM k → ¬ RkS g m b_v2 k) := Lib.hid (fun k hk hs => by
            rcases b_HR.out.off b_HPR.out.1 b_hv2 k hs with h1 | ⟨_, h1⟩
            · exact b_NB.out k hk h1
            · have := (b_HPR.out.2 k hk).2; omega)
          have b_dz := b_dz0.below b_bs
          have b_ND : Hid (¬ RkS g m b_v2 b_D) := rk_not_def b_dz b_Kz
          have b_HBS := Lib.hid b_bs
          have c_x0 := Boxed.new b_w10 3 (.int .i64 1)
          have c_b0 := al b_w10 (.cells #[.int .i64 1] 3)
          have c_s0 : (b_w10.alloc (.cells #[.int .i64 1] 3)).heap.size = b_w10.heap.size + 1 := by simp
          have c_ca := c_x0.cell
          have c_fa := c_x0.frozen
          have b_cTz := b_xTz.cell
          have b_SS := Lib.hid (And.intro b_bs.size c_s0)
          clear b_bs c_s0 b_cT9 b_cG9 b_c39 b_rd b_rl b_FX9 b_xT9 b_bel9 b_dz0 b_hv2
          go_wp2_with fail
          have c_x7 := Boxed.new b_w10 3 (.int .i64 (2))
          have c_b1 := al b_w10 (.cells #[.int .i64 (2)] 3)
          have c_FX7 := b_FXz.below c_b1
          have c_bel7 := below_seq b_belz c_b1
          have c_d7 := b_dz.below c_b1
          have b_K7 := (c_b1.block b_D (Array.getElem?_eq_some_iff.1 b_Kz).1).trans b_Kz
          have c_BT0 : Hid (BT0 ≤ b_w10.heap.size) := Lib.hid (by have h1 := b_SZ.out; have h2 := b_HD.out.2.2.2; have h3 := b_SS.out; have h4 := b_BT0.out; omega)
          have c_NT : Hid (¬ RkS g m b_v2 b_w10.heap.size) := Lib.hid (fun h => by have := (b_dz.lt _ h).2; omega)
          have b_Dl : Hid (b_D < b_w10.heap.size) := Lib.hid (Array.getElem?_eq_some_iff.1 b_Kz).1
          clear b_FXz b_belz b_dz b_Kz b_xTz b_cTz c_ca c_fa c_x0
          generalize b_w10.alloc (.cells #[.int .i64 (2)] 3) = c_w7 at c_x7 c_b1 c_FX7 c_bel7 c_d7 b_K7 ⊢
          have c_b17 := Lib.hid c_b1
          clear c_b1 c_b0
          obtain ⟨c_BT, c_hBT⟩ : ∃ BT, BT = b_w10.heap.size := ⟨_, rfl⟩
          rw [← c_hBT] at c_x7 c_BT0 c_NT b_Dl c_b17 ⊢
          have c_xT7 := c_x7
          have b_HT := Lib.hid c_hBT
          obtain ⟨c_v, c_hv⟩ : ∃ v, v = b_v2 := ⟨_, rfl⟩
          rw [← c_hv] at c_d7 c_NT b_NB2 b_ND
          have c_NB := b_NB2
          clear c_hBT c_x7 b_SS c_hv b_NB2
          (try rw [rounds_succ])
          have c_cT7 := c_xT7.cell
          have a_D7 := a_HD.out.1
          have b_D7 := b_HD.out.1
          have a_K8 : b_w8.heap[a_D]? = some (.deferred (some [])) := (b_HD.out.2.2.1.block a_D (by have := a_Dl.out; have := b_SZ.out; omega)).trans a_K7
          have a_K9 : b_w9.heap[a_D]? = some (.deferred (some [])) := b_HR.out.on.heap a_K8 (fun e => by
            rcases e with e | e
            · exact a_ND.out e
            · have := b_SZ.out; have := a_Dl.out; omega)
          have a_K10 : b_w10.heap[a_D]? = some (.deferred (some [])) := (b_HBS.out.block a_D (Array.getElem?_eq_some_iff.1 a_K9).1).trans a_K9
          have b_l8 := b_SZ.out
          have h9 := b_HD.out.2.2.2
          have a_Kc := (c_b17.out.block a_D (by have := (Array.getElem?_eq_some_iff.1 a_K10).1; have := b_HT.out; omega)).trans a_K10
          have hsr := sure_calls c_w7 (HR.out.2.2.1.below c_bel7)
          have hDD : W.heap.size ≤ a_D ∧ a_D ≠ b_D ∧ W.heap.size ≤ b_D := by
            have := a_SZ.out; have := a_BT0.out; have := hWBT.out; have := a_Dl.out; have := HR.out.2.2.2.1.size; omega
          have HD := Lib.hid (And.intro a_Kc (And.intro b_K7 (And.intro c_bel7 hDD)))
          clear a_K7 a_K8 a_K9 a_K10 a_Kc b_K7 c_bel7 a_D7 b_D7 b_l8 h9 hDD c_FX7 c_d7 c_xT7
          go_wp2_with fail
          refine hsr.mono ?_
          clear hsr
          rintro e w11 ⟨rfl, b11⟩
          obtain ⟨e1, e2, hbl, hW1, hne, hW2⟩ := HD.out
          have e1' := (b11.block a_D (Array.getElem?_eq_some_iff.1 e1).1).trans e1
          have e2' := (b11.block b_D (Array.getElem?_eq_some_iff.1 e2).1).trans e2
          have BU : Below W.heap.size W w11 := below_seq HR.out.2.2.2.1 (below_seq hbl b11)
          clear e1 e2 hbl b11
          go_wp2_with fail
          refine ⟨by simp, .inl ⟨_, _, rfl, run_takeDeferred e2', ?_⟩⟩
          have e1'' := (World.putObj_heap_other (w := w11) (o := Obj.deferred none) hne).trans e1'
          have C2 := BU.trans (belowK_b (w := W) (Nat.le_refl _) _ b_D _ (.deferred none) hW2 e2' rfl rfl)
          refine ⟨by simp, .inl ⟨_, _, rfl, run_takeDeferred e1'', ?_⟩⟩
          have C1 := C2.trans (belowK_b (w := W) (Nat.le_refl _) _ a_D _ (.deferred none) hW1 e1'' rfl rfl)
          refine ⟨.bool true, ?_, rfl, C1⟩
          simp [results, Tryz.f9, go_sem]
    · have HSD := Lib.hid (And.intro hS hD)
      clear hS hD
      go_wp2_with fail
      refine htw.mono ?_
      clear htw hW0
      rintro e w1 ⟨v1, rfl, o1, b1⟩
      obtain ⟨A1, c1, rfl, r1⟩ := own_rd o1
      have h := of_twice A1 l.length c1 l w1 HR.out.2.1 HN.out HSD.out.1 HSD.out.2 r1
      have HB1 := Lib.hid b1
      clear o1 r1 b1
      go_wp2_with fail
      refine Calls.mono h ?_
      clear h
      rintro e w2 ⟨rfl, b2⟩
      have bx := al w2 (.cells #[.pointer none] 24)
      obtain ⟨w3, hw3⟩ : ∃ w3, w3 = w2.alloc (.cells #[.pointer none] 24) := ⟨_, rfl⟩
      have x5 := (Boxed.new w2 24 (.pointer none)).cell
      rw [← hw3] at bx x5
      have H3 := Lib.hid (below_seq (below_seq HB1.out b2) bx)
      have h := ofR_twice A l.length c l w3 HN.out HSD.out.1 HSD.out.2 (HR.out.1.below H3.out)
      have HW3 := Lib.hid hw3
      clear b2 bx hw3
      go_wp2_with fail
      rw [← HW3.out]
      refine Calls.mono h ?_
      clear h
      rintro e w4 ⟨rfl, b4⟩
      have H4 := Lib.hid (below_seq H3.out b4)
      have h := sure_calls w4 (HR.out.2.2.1.below H4.out)
      clear b4 x5
      go_wp2_with fail
      refine Calls.mono h ?_
      clear h
      rintro e w5 ⟨rfl, b5⟩
      go_wp2_with fail
      refine ⟨.bool true, ?_, rfl, below_seq HR.out.2.2.2.1 (below_seq H4.out b5)⟩
      simp [results, Tryz.f9, go_sem]
  · have HSD := Lib.hid hS
    clear hS
    go_wp2_with fail
    refine htw.mono ?_
    clear htw hW0
    rintro e w1 ⟨v1, rfl, o1, b1⟩
    obtain ⟨A1, c1, rfl, r1⟩ := own_rd o1
    have h := of_bad A1 l.length c1 l w1 r1 HR.out.2.1 HN.out HSD.out
    have HB1 := Lib.hid b1
    clear o1 r1 b1
    go_wp2_with fail
    refine Calls.mono h ?_
    clear h
    rintro e w2 ⟨rfl, b2⟩
    have bx := al w2 (.cells #[.pointer none] 24)
    obtain ⟨w3, hw3⟩ : ∃ w3, w3 = w2.alloc (.cells #[.pointer none] 24) := ⟨_, rfl⟩
    have x5 := (Boxed.new w2 24 (.pointer none)).cell
    rw [← hw3] at bx x5
    have H3 := Lib.hid (below_seq (below_seq HB1.out b2) bx)
    have h := ofR_bad A l.length c l w3 HN.out HSD.out (HR.out.1.below H3.out)
    have HW3 := Lib.hid hw3
    clear b2 bx hw3
    go_wp2_with fail
    rw [← HW3.out]
    refine Calls.mono h ?_
    clear h
    rintro e w4 ⟨rfl, b4⟩
    have H4 := Lib.hid (below_seq H3.out b4)
    have h := sure_calls w4 (HR.out.2.2.1.below H4.out)
    clear b4 x5
    go_wp2_with fail
    refine Calls.mono h ?_
    clear h
    rintro e w5 ⟨rfl, b5⟩
    go_wp2_with fail
    refine ⟨.bool true, ?_, rfl, below_seq HR.out.2.2.2.1 (below_seq H4.out b5)⟩
    simp [results, Tryz.f9, go_sem]
end Go.Proofs.YtakhcfemakapbaaGreatDoor.RvA
