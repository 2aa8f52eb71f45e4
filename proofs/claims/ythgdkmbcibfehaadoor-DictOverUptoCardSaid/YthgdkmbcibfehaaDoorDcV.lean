/-
  The law DictOver: fields are gone over as they were when All was called, whatever is done meanwhile. Conditions: as stated.
-/
import Derived.Test.YthgdkmbcibfehaaDoorDcU
set_option maxRecDepth 100000
set_option linter.unusedSimpArgs false
set_option linter.unusedVariables false
namespace Go.Proofs.YthgdkmbcibfehaaDoor.DcV
open Go Go.RowKit Go.Shelf Go.Proofs.YthgdkmbcibfehaaDoor.Mem Go.Proofs.YthgdkmbcibfehaaDoor.NumA Go.Proofs.YthgdkmbcibfehaaDoor.NumB Go.Proofs.YthgdkmbcibfehaaDoor.NumE Go.Proofs.YthgdkmbcibfehaaDoor.DcA Go.Proofs.YthgdkmbcibfehaaDoor.DcB Go.Proofs.YthgdkmbcibfehaaDoor.DcC Go.Proofs.YthgdkmbcibfehaaDoor.DcD Go.Proofs.YthgdkmbcibfehaaDoor.DcE Go.Proofs.YthgdkmbcibfehaaDoor.DcF Go.Proofs.YthgdkmbcibfehaaDoor.DcG Go.Proofs.YthgdkmbcibfehaaDoor.DcI Go.Proofs.YthgdkmbcibfehaaDoor.DcJ Go.Proofs.YthgdkmbcibfehaaDoor.DcK Go.Proofs.YthgdkmbcibfehaaDoor.DcL Go.Proofs.YthgdkmbcibfehaaDoor.DcM Go.Proofs.YthgdkmbcibfehaaDoor.DcN Go.Proofs.YthgdkmbcibfehaaDoor.DcP Go.Proofs.YthgdkmbcibfehaaDoor.DcQ Go.Proofs.YthgdkmbcibfehaaDoor.DcS Go.Proofs.YthgdkmbcibfehaaDoor.DcU
attribute [local go_sem] Oper.semAt_some
theorem two_ways {Q : Exit → Act → World → Prop} {e : Exit} {i : Nat} {a : Act} {w : World} (he : e = .normal ∨ e = .exit i) (h1 : Q (.exit i) a w = Q .normal a w) (h : Q .normal a w) : Q e a w := by
  rcases he with rfl | rfl
  · exact h
  · rw [h1]; exact h
theorem cut_to (A : Option Addr) (n c T : Nat) (h : T ≤ c) (w : World) :
    (Instr.slice 22 (.slice A n c) none (some (.int .i64 T)) none).run Tryd.prog w = .ok (.slice A T c) w := by
  rw [run_slice_h w 22 A n c (by kernel_rfl) .i64 T (by omega) (by omega)]
  go_simp
set_option maxHeartbeats 16000000 in
theorem over_stop (A : Option Addr) (c : Nat) (l : List Fld) (Q : Nat) (hQ1 : 1 ≤ Q) (hQ2 : Q ≤ l.length) (W : World) (hr : RdF W A l.length c l) (hg : Gd l) (hn : l.length ≤ 1048576) (hL : Laid W) :
    Calls Tryd.prog 7 #[.slice A l.length c, .int .i64 Q] W fun e w' => e = .returned (.bool true) ∧ Below W.heap.size W w' := by
  have heq : ∀ (bs : Array Value) (w : World), Sem.run Tryd.prog (binOp BinOp.eql 56 (Value.func (.func 36) #[] bs) Value.nilFunc) w = .ok (.bool false) w := fun _ _ => by kernel_rfl
  have hcap := hr.cap
  have hbig : c ≤ 9223372036854775807 := hr.big
  have x3 := Boxed.new W 3 (.int .i64 Q)
  have bW := al W (.cells #[.int .i64 Q] 3)
  have sW : (W.alloc (.cells #[.int .i64 Q] 3)).heap.size = W.heap.size + 1 := by simp
  obtain ⟨W0, hW0⟩ : ∃ W0, W.alloc (.cells #[.int .i64 Q] 3) = W0 := ⟨_, rfl⟩
  rw [hW0] at x3 bW sW
  have hof := of_ho A c l W0 (hr.below bW) hg (by omega)
  have HR := Lib.hid (And.intro (hr.below bW) (And.intro hg (And.intro (hL.below bW) bW)))
  clear hr hg hL bW
  refine (callsIn_wide (n := 8)).1 ?_
  refine callsIn_of_wp_marks Tryd.func7 rfl trivial ?_ rfl
  simp only [Tryd.ntmps7, List.size_toArray, List.length_cons, List.length_nil, Nat.reduceAdd, Nat.reduceSub, Array.replicate_succ, Array.replicate_zero, List.push_toArray, List.append_toArray, List.nil_append, List.cons_append]
  refine wpIn_wide.2 ?_
  go_wp2_with fail
  refine hof.mono ?_
  clear hof hW0
  rintro e w1 (⟨hl, g, m, rfl, d1⟩ | ⟨hl, rfl, b1⟩)
  · have Hl := Lib.hid hl
    have lt1 := d1.dc.lt
    have x3' := bb x3 (show Below W0.heap.size W0 w1 from d1.bel)
    have x5 := Boxed.new w1 24 (.pointer (some ⟨g, 0, none⟩))
    have b12 := al w1 (.cells #[.pointer (some ⟨g, 0, none⟩)] 24)
    have x35 := bb x3' b12
    have s2 : (w1.alloc (.cells #[.pointer (some ⟨g, 0, none⟩)] 24)).heap.size = w1.heap.size + 1 := by simp
    have c5 := x5.cell
    go_wp2_with fail
    obtain ⟨w2, hw2⟩ : ∃ w2, w1.alloc (.cells #[.pointer (some ⟨g, 0, none⟩)] 24) = w2 := ⟨_, rfl⟩
    obtain ⟨b5, hb5⟩ : ∃ b5, w1.heap.size = b5 := ⟨_, rfl⟩
    rw [hw2] at x5 b12 x35 s2 ⊢
    rw [hb5] at x5 s2 lt1 ⊢
    have d2 := d1.below b12
    have s1 := d1.bel.size
    rw [hb5] at s1
    clear c5 hw2 d1 b12 x3'
    refine (fields_calls W0.heap.size g m l l.length w2 d2.dc (by omega)).mono ?_
    rintro e w3 ⟨v6, rfl, o6, b23⟩
    obtain ⟨A6, c6, rfl⟩ := own_form o6
    have d3 := d2.below b23
    have x53 := bb x5 b23
    have x33 := bb x35 b23
    have s3 := b23.size
    have c5 := x53.cell
    clear d2 x5 x35 b23
    go_wp2_with fail
    refine (allIter_calls d3 (by omega)).mono ?_
    rintro e w4 ⟨A9, c9, Bs, rfl, hBs, xs, o9, hne9, b34⟩
    have d4 := d3.below b34
    have FX : Fx W.heap.size b5 Bs Q g A9 c9 l w3.heap.size w4 := ⟨bb x33 b34, bb x53 b34, xs, o9⟩
    have o64 := own_only o6 (only_b (S := fun _ => False) b34) (fun _ _ => id)
    have sp := spo_of o64
    have lt6 := o6.lt
    have cp6 := (Rd.of_own o6).cap
    have bg6 := (Rd.of_own o6).big
    have lt9 := o9.lt
    have s4 := b34.size
    have lts := xs.lt
    have hx := heq #[.pointer (some ⟨Bs, 0, none⟩)] w4
    clear x33 x53 xs o9 o6 o64 b34 d3 c5
    go_wp2_with fail
    go_loopw [9] (fun i wr => ∃ k : Nat, k ≤ l.length ∧ i = .int .i64 k ∧ Only (fun b => (Value.slice A6 l.length c6).ownBlock = some b) w4 wr ∧ Spo wr A6 l.length c6) (fun i _ => l.length - (intOf i).toNat)
    case atStart => exact ⟨0, Nat.zero_le _, rfl, Only.refl _ _, sp⟩
    case round =>
      clear sp hx
      obtain ⟨k, hk, rfl, on, sp⟩ := hrel
      by_cases hlt : k < l.length
      · rcases sp with sp | ⟨b6, cur, rfl, hb, hcs⟩
        · omega
        · obtain ⟨u0, q0⟩ : ∃ u0, wr.cell? ⟨b6, k * 2, none⟩ = some u0 := ⟨cur[k * 2]'(by omega), by simp [World.cell?, hb]⟩
          obtain ⟨u1, q1⟩ : ∃ u1, wr.cell? ⟨b6, k * 2 + 1, none⟩ = some u1 := ⟨cur[k * 2 + 1]'(by omega), by simp [World.cell?, hb]⟩
          have f0 : wr.frozen? ⟨b6, k * 2, none⟩ = false := by simp [World.frozen?, hb]
          have f1 : wr.frozen? ⟨b6, k * 2 + 1, none⟩ = false := by simp [World.frozen?, hb]
          have HB := Lib.hid (And.intro hb (And.intro hcs on))
          clear hb hcs on
          go_wp2_with fail
          obtain ⟨hb, hcs, on⟩ := HB.out
          exact ⟨⟨k + 1, by omega, by go_num, (on.put (p := ⟨b6, k * 2, none⟩) (.inl rfl) _).put (p := ⟨b6, k * 2 + 1, none⟩) (.inl rfl) _, .inr ⟨b6, _, rfl, heap_setCell_same _ _ _ _ _ _ (heap_setCell_same _ _ _ _ _ _ hb), by simp [hcs]⟩⟩, by simp [intOf]; omega⟩
      · obtain rfl : k = l.length := by omega
        have hML : ∀ k, FB W.heap.size b5 Bs A9 l.length c9 k → ¬ (Value.slice A6 l.length c6).ownBlock = some k := fun k hk e => by
          have h6 := lt6 k e
          rcases hk with hk | hk | hk | hk
          · omega
          · omega
          · omega
          · have := lt9 k hk; omega
        have FX5 := FX.only on hML
        have d5 : Dc wr W0.heap.size g m l l.length := d4.dc.only on (fun e => by have := lt6 _ e; omega) (fun e => by have := lt6 _ e; omega)
        have bel5 : Below W0.heap.size W0 wr := on.after d4.bel (Nat.le_refl _) (fun b e => by have := lt6 _ e; omega)
        have c5 := FX5.b5.cell
        clear FX d4 sp
        go_wp2_with fail
        have hk1 : okk (⟨#[255, 255, 109, 111, 114, 101]⟩ : ByteArray) := ok_small (by decide)
        have hk2 : okk (⟨#[49]⟩ : ByteArray) := ok_small (by decide)
        have hk3 : l.length ≤ 1099511627775 := Nat.le_trans hn (by decide)
        have hst := set_calls W0.heap.size g m l l.length (⟨#[255, 255, 109, 111, 114, 101]⟩ : ByteArray) (⟨#[49]⟩ : ByteArray) wr d5 hk1 hk2 hk3
        refine hst.mono ?_
        rintro e w6 ⟨rfl, d6, o6⟩
        have hMm : ∀ k, FB W.heap.size b5 Bs A9 l.length c9 k → ¬ k = m := fun k hk e => by
          have hmB := d5.mB
          rcases hk with hk | hk | hk | hk
          · omega
          · omega
          · omega
          · have := lt9 k hk; omega
        have FX6 := FX5.only o6 hMm
        have bel6 : Below W0.heap.size W0 w6 := o6.after bel5 (Nat.le_refl _) (fun b e => by rw [e]; exact d5.mB)
        have s46 : w4.heap.size ≤ w6.heap.size := Nat.le_trans on.size o6.size
        generalize setL l ⟨#[255, 255, 109, 111, 114, 101]⟩ ⟨#[49]⟩ = cur at d6
        have b67 := al w6 (.cells #[.int .i64 0] 3)
        have xT := Boxed.new w6 3 (.int .i64 0)
        have c10 := xT.cell
        clear FX5 d5 bel5 o6 on c5
        go_wp2_with fail
        have a_xT7 := xT
        have a_FX7 := FX6.below b67
        have a_d7 := d6.below b67
        have a_bel7 := below_seq bel6 b67
        have lgm6 := d6.lt
        obtain ⟨a_BT, hBT⟩ : ∃ BT, w6.heap.size = BT := ⟨_, rfl⟩
        obtain ⟨BT0, hBT0⟩ : ∃ BT0, BT0 = a_BT := ⟨_, rfl⟩
        obtain ⟨a_w7, hw7⟩ : ∃ w7, w6.alloc (.cells #[.int .i64 0] 3) = w7 := ⟨_, rfl⟩
        rw [hw7] at a_xT7 a_FX7 a_d7 a_bel7 ⊢
        rw [hBT] at a_xT7 s46 lgm6 ⊢
        have hgW := a_d7.gB
        have hmW := a_d7.mB
        have hFB7 : Hid (∀ k, FB W.heap.size b5 Bs A9 l.length c9 k → ¬ k = m ∧ k < BT0) := Lib.hid (fun k hk => ⟨hMm k hk, by
          rcases hk with hk | hk | hk | hk
          · omega
          · omega
          · omega
          · have := lt9 k hk; omega⟩)
        have hWBT : Hid (W0.heap.size ≤ BT0) := Lib.hid (by omega)
        have a_BT0 : Hid (BT0 ≤ a_BT) := Lib.hid (by omega)
        have a_ltm : Hid (m < a_BT) := Lib.hid lgm6.2
        clear hw7 hBT xT b67 FX6 d6 bel6 hBT0 lgm6 c10 hMm s1 s2 s3 s4 s46 lt6 lt9 lts hBs lt1 heq
        refine wp_loop_rounds 3 ?_
        rw [rounds_succ]
        have a_xG := Boxed.new a_w7 22 (.slice none 0 0)
        have a_b78 := al a_w7 (.cells #[.slice none 0 0] 22)
        have a_xT8 := bb a_xT7 a_b78
        have a_FX8 := a_FX7.below a_b78
        have a_d8 := a_d7.below a_b78
        have a_bel8 := below_seq a_bel7 a_b78
        have a_cT7 := a_xT7.cell
        go_wp2_with fail
        obtain ⟨a_w8, a_hw8⟩ : ∃ a_w8, a_w7.alloc (.cells #[.slice none 0 0] 22) = a_w8 := ⟨_, rfl⟩
        have a_s8 : a_w8.heap.size = a_w7.heap.size + 1 := by rw [← a_hw8]; simp
        have a_lgm := a_d7.lt
        have a_BTl := a_xT7.lt
        rw [a_hw8] at a_xG a_xT8 a_FX8 a_d8 a_bel8 ⊢
        obtain ⟨a_BG, a_hBG⟩ : ∃ a_BG, a_w7.heap.size = a_BG := ⟨_, rfl⟩
        rw [a_hBG] at a_xG a_s8 a_lgm a_BTl ⊢
        have a_b78' : Below a_BG a_w7 a_w8 := by rw [← a_hBG, ← a_hw8]; exact a_b78
        clear a_hw8 a_b78 a_FX7 a_d7 a_bel7 a_xT7 a_cT7
        have a_PR : Pr a_w8 g m a_BG := ⟨by omega, by omega, by omega, by omega, by omega⟩
        have a_R8 : R2 a_w8 W0.heap.size g m (l.length + 1) a_BG l [] (.slice none 0 0) a_w8 := ⟨⟨_, a_d8⟩, a_xG, World.ownsRow_nil _ _ _ _, Only.refl _ _⟩
        have a_hFB : ∀ k, FB W.heap.size b5 Bs A9 l.length c9 k → ¬ (k = m ∨ k = a_BG) ∧ k < a_w8.heap.size := fun k hk => ⟨fun e => e.elim (hFB7.out k hk).1 (fun e => by have := (hFB7.out k hk).2; have := a_BT0.out; omega), by have := (hFB7.out k hk).2; have := a_BT0.out; omega⟩
        have a_hBT : a_BT ≠ m ∧ a_BT ≠ a_BG := ⟨by have := a_BT0.out; have := a_ltm.out; omega, by omega⟩
        refine (wpIn_wide (n := 8)).1 (wpIn_mono (range_stop a_w8 W.heap.size b5 Bs a_BT a_BG W0.heap.size w3.heap.size g m (l.length + 1) (Q : Int) A9 c9 l hn HR.out.2.1 a_FX8 a_xT8 (.slice none 0 0) a_R8 a_PR a_hFB a_hBT Q rfl hQ1 hQ2) ?_)
        rintro e a' a_w9 ⟨he, a_D, gv, a_hD, a_hK, rfl, a_R9⟩
        refine two_ways he rfl ?_
        clear he
        have a_FX9 := a_FX8.only a_R9.on (fun k hk => (a_hFB k hk).1)
        have a_xT9 := boxed_only a_xT8 a_R9.on (fun e => e.elim a_hBT.1 a_hBT.2)
        have a_cT9 := a_xT9.cell
        have a_cG9 := a_R9.bg.cell
        have a_c39 := a_FX9.b3.cell
        obtain ⟨a_A, a_n, a_c, rfl⟩ : ∃ A n c, gv = .slice A n c := by obtain ⟨A, c, h⟩ := own_form a_R9.got; exact ⟨A, _, c, h⟩
        have a_hn := own_n a_R9.got
        have a_rd : RdF a_w9 a_A a_n a_c (l.take Q) := by
          have h := a_R9.got
          unfold OwnF at h
          rw [a_hn] at h
          exact Rd.of_own h
        have a_bel9 : Below W0.heap.size W0 a_w9 := a_R9.on.after a_bel8 (Nat.le_refl _) (fun b e => by
          have := a_bel8.size
          rcases e with e | e
          · omega
          · have := a_BT0.out; have := hWBT.out; omega)
        have a_rl := HR.out.1.below a_bel9
        have a_HR := Lib.hid a_R9
        have a_SZ := Lib.hid (And.intro a_s8 (And.intro a_lgm a_BTl))
        have a_HD := Lib.hid (And.intro a_hD (And.intro a_hK (And.intro a_b78' a_R9.on.size)))
        have a_n9 : a_n ≤ 1000000000 := by rw [← a_hn, List.length_take]; omega
        have a_HN := Lib.hid a_hn
        clear a_hn a_s8 a_lgm a_BTl a_R9 a_R8 a_hD a_hK a_b78' a_FX8 a_d8 a_bel8 a_xG a_xT8
        have hq1 : (0 : Int) < (Q : Int) := by omega
        have hq2 : (Q : Int) ≤ (l.length : Int) := by omega
        have hcut := cut_to A l.length c Q (by omega)
        have hQn : Q ≤ 1000000000 := Nat.le_trans hQ2 (Nat.le_trans hn (by decide))
        have rq9 : RdF a_w9 A Q c (l.take Q) := rdf_take a_rl hQ2
        have hS : a_w9.cell? ⟨a_BG, 0, none⟩ = some (.slice a_A a_n a_c) ∧ a_w9.cell? ⟨W.heap.size, 0, none⟩ = some (.int .i64 (Q : Int)) := ⟨a_cG9, a_c39⟩
        go_wp2_with fail
        go_region_held3 (fun w' => w'.cell? ⟨a_BG, 0, none⟩ = some (.slice a_A a_n a_c) ∧ w'.cell? ⟨W.heap.size, 0, none⟩ = some (.int .i64 (Q : Int)))
          (first | exact hS | assumption)
          (first
            | (go_at_call 17; refine (same_true a_A A a_n a_c Q c _ _ _ (a_rd.below (below_drawn_' 1)) (rq9.below (below_drawn_' 1)) a_n9 hQn rfl).mono ?_; rintro e w10 ⟨rfl, nd0, rfl⟩; have hS' : ((a_w9.drewN 1).drewN nd0).cell? ⟨a_BG, 0, none⟩ = some (.slice a_A a_n a_c) ∧ ((a_w9.drewN 1).drewN nd0).cell? ⟨W.heap.size, 0, none⟩ = some (.int .i64 (Q : Int)) := hS))
        obtain ⟨a_nd, a_hnd⟩ : ∃ nd, nd = 1 + nd0 := ⟨_, rfl⟩
        rw [← a_hnd]
        clear a_hnd hS hS' hcut hq1 hq2
        have a_FXz := a_FX9.below (below_drawn_' a_nd)
        have a_xTz := bb a_xT9 (below_drawn_' a_nd)
        have a_belz := below_seq a_bel9 (below_drawn_' a_nd)
        have a_Kz : (a_w9.drewN a_nd).heap[a_D]? = some (.deferred (some [])) := a_HD.out.2.1
        obtain ⟨a_cur, a_dz0⟩ := a_HR.out.dc
        have a_dz := a_dz0.below (below_drawn_' a_nd)
        obtain ⟨a_w10, a_hw10⟩ : ∃ w10, w10 = a_w9.drewN a_nd := ⟨_, rfl⟩
        have a_s910 : a_w10.heap.size = a_w9.heap.size := by rw [a_hw10]; rfl
        have a_hp : Hid (a_w10.heap = a_w9.heap) := Lib.hid (by rw [a_hw10]; rfl)
        rw [← a_hw10] at a_FXz a_xTz a_belz a_Kz a_dz ⊢
        have b_x0 := Boxed.new a_w10 3 (.int .i64 0)
        have b_b0 := al a_w10 (.cells #[.int .i64 0] 3)
        have b_s0 : (a_w10.alloc (.cells #[.int .i64 0] 3)).heap.size = a_w10.heap.size + 1 := by simp
        have b_ca := b_x0.cell
        have b_fa := b_x0.frozen
        have a_cTz := a_xTz.cell
        have a_SS := Lib.hid (And.intro a_s910 b_s0)
        clear a_s910 b_s0 a_cT9 a_cG9 a_c39 a_rd a_rl a_hw10 a_FX9 a_xT9 a_bel9 a_dz0
        go_wp2_with fail
        have b_x7 := Boxed.new a_w10 3 (.int .i64 (1))
        have b_b1 := al a_w10 (.cells #[.int .i64 (1)] 3)
        have b_FX7 := a_FXz.below b_b1
        have b_bel7 := below_seq a_belz b_b1
        have b_d7 := a_dz.below b_b1
        have a_K7 := (b_b1.block a_D (Array.getElem?_eq_some_iff.1 a_Kz).1).trans a_Kz
        have b_BT0 : Hid (BT0 ≤ a_w10.heap.size) := Lib.hid (by have h1 := a_SZ.out; have h2 := a_HD.out.2.2.2; have h3 := a_SS.out; have h4 := a_BT0.out; omega)
        have b_ltm : Hid (m < a_w10.heap.size) := Lib.hid a_dz.lt.2
        have a_Dl : Hid (a_D < a_w10.heap.size) := Lib.hid (Array.getElem?_eq_some_iff.1 a_Kz).1
        clear a_FXz a_belz a_dz a_Kz a_xTz a_cTz b_ca b_fa b_x0
        generalize a_w10.alloc (.cells #[.int .i64 (1)] 3) = b_w7 at b_x7 b_b1 b_FX7 b_bel7 b_d7 a_K7 ⊢
        have b_b17 := Lib.hid b_b1
        clear b_b1 b_b0
        obtain ⟨b_BT, b_hBT⟩ : ∃ BT, BT = a_w10.heap.size := ⟨_, rfl⟩
        rw [← b_hBT] at b_x7 b_BT0 b_ltm a_Dl b_b17 ⊢
        have b_xT7 := b_x7
        clear b_hBT b_x7 a_SS
        (try rw [rounds_succ])
        have b_xG := Boxed.new b_w7 22 (.slice none 0 0)
        have b_b78 := al b_w7 (.cells #[.slice none 0 0] 22)
        have b_xT8 := bb b_xT7 b_b78
        have b_FX8 := b_FX7.below b_b78
        have b_d8 := b_d7.below b_b78
        have b_bel8 := below_seq b_bel7 b_b78
        have b_cT7 := b_xT7.cell
        go_wp2_with fail
        obtain ⟨b_w8, b_hw8⟩ : ∃ b_w8, b_w7.alloc (.cells #[.slice none 0 0] 22) = b_w8 := ⟨_, rfl⟩
        have b_s8 : b_w8.heap.size = b_w7.heap.size + 1 := by rw [← b_hw8]; simp
        have b_lgm := b_d7.lt
        have b_BTl := b_xT7.lt
        rw [b_hw8] at b_xG b_xT8 b_FX8 b_d8 b_bel8 ⊢
        obtain ⟨b_BG, b_hBG⟩ : ∃ b_BG, b_w7.heap.size = b_BG := ⟨_, rfl⟩
        rw [b_hBG] at b_xG b_s8 b_lgm b_BTl ⊢
        have b_b78' : Below b_BG b_w7 b_w8 := by rw [← b_hBG, ← b_hw8]; exact b_b78
        clear b_hw8 b_b78 b_FX7 b_d7 b_bel7 b_xT7 b_cT7
        have b_PR : Pr b_w8 g m b_BG := ⟨by omega, by omega, by omega, by omega, by omega⟩
        have b_R8 : R2 b_w8 W0.heap.size g m (l.length + 1) b_BG l [] (.slice none 0 0) b_w8 := ⟨⟨_, b_d8⟩, b_xG, World.ownsRow_nil _ _ _ _, Only.refl _ _⟩
        have b_hFB : ∀ k, FB W.heap.size b5 Bs A9 l.length c9 k → ¬ (k = m ∨ k = b_BG) ∧ k < b_w8.heap.size := fun k hk => ⟨fun e => e.elim (hFB7.out k hk).1 (fun e => by have := (hFB7.out k hk).2; have := b_BT0.out; omega), by have := (hFB7.out k hk).2; have := b_BT0.out; omega⟩
        have b_hBT : b_BT ≠ m ∧ b_BT ≠ b_BG := ⟨by have := b_BT0.out; have := b_ltm.out; omega, by omega⟩
        refine (wpIn_wide (n := 8)).1 (wpIn_mono (range_one b_w8 W.heap.size b5 Bs b_BT b_BG W0.heap.size w3.heap.size g m (l.length + 1) (Q : Int) A9 c9 l hn HR.out.2.1 b_FX8 b_xT8 (.slice none 0 0) b_R8 b_PR b_hFB b_hBT ) ?_)
        rintro e a' b_w9 ⟨he, b_D, gv, b_hD, b_hK, rfl, b_R9⟩
        refine two_ways he rfl ?_
        clear he
        have b_FX9 := b_FX8.only b_R9.on (fun k hk => (b_hFB k hk).1)
        have b_xT9 := boxed_only b_xT8 b_R9.on (fun e => e.elim b_hBT.1 b_hBT.2)
        have b_cT9 := b_xT9.cell
        have b_cG9 := b_R9.bg.cell
        have b_c39 := b_FX9.b3.cell
        obtain ⟨b_A, b_n, b_c, rfl⟩ : ∃ A n c, gv = .slice A n c := by obtain ⟨A, c, h⟩ := own_form b_R9.got; exact ⟨A, _, c, h⟩
        have b_hn := own_n b_R9.got
        have b_rd : RdF b_w9 b_A b_n b_c (l.take l.length) := by
          have h := b_R9.got
          unfold OwnF at h
          rw [b_hn] at h
          exact Rd.of_own h
        have b_bel9 : Below W0.heap.size W0 b_w9 := b_R9.on.after b_bel8 (Nat.le_refl _) (fun b e => by
          have := b_bel8.size
          rcases e with e | e
          · omega
          · have := b_BT0.out; have := hWBT.out; omega)
        have b_rl := HR.out.1.below b_bel9
        have b_HR := Lib.hid b_R9
        have b_SZ := Lib.hid (And.intro b_s8 (And.intro b_lgm b_BTl))
        have b_HD := Lib.hid (And.intro b_hD (And.intro b_hK (And.intro b_b78' b_R9.on.size)))
        have b_n9 : b_n ≤ 1000000000 := by rw [← b_hn, List.length_take]; omega
        have b_HN := Lib.hid b_hn
        clear b_hn b_s8 b_lgm b_BTl b_R9 b_R8 b_hD b_hK b_b78' b_FX8 b_d8 b_bel8 b_xG b_xT8
        have hsm := same_true b_A A b_n b_c l.length c (l.take l.length) l b_w9 b_rd b_rl b_n9 (by omega) (List.take_length)
        go_wp2_with fail
        refine hsm.mono ?_
        clear hsm
        rintro e w10 ⟨rfl, b_nd, rfl⟩
        have b_FXz := b_FX9.below (below_drawn_' b_nd)
        have b_xTz := bb b_xT9 (below_drawn_' b_nd)
        have b_belz := below_seq b_bel9 (below_drawn_' b_nd)
        have b_Kz : (b_w9.drewN b_nd).heap[b_D]? = some (.deferred (some [])) := b_HD.out.2.1
        obtain ⟨b_cur, b_dz0⟩ := b_HR.out.dc
        have b_dz := b_dz0.below (below_drawn_' b_nd)
        obtain ⟨b_w10, b_hw10⟩ : ∃ w10, w10 = b_w9.drewN b_nd := ⟨_, rfl⟩
        have b_s910 : b_w10.heap.size = b_w9.heap.size := by rw [b_hw10]; rfl
        have b_hp : Hid (b_w10.heap = b_w9.heap) := Lib.hid (by rw [b_hw10]; rfl)
        rw [← b_hw10] at b_FXz b_xTz b_belz b_Kz b_dz ⊢
        have c_x0 := Boxed.new b_w10 3 (.int .i64 1)
        have c_b0 := al b_w10 (.cells #[.int .i64 1] 3)
        have c_s0 : (b_w10.alloc (.cells #[.int .i64 1] 3)).heap.size = b_w10.heap.size + 1 := by simp
        have c_ca := c_x0.cell
        have c_fa := c_x0.frozen
        have b_cTz := b_xTz.cell
        have b_SS := Lib.hid (And.intro b_s910 c_s0)
        clear b_s910 c_s0 b_cT9 b_cG9 b_c39 b_rd b_rl b_hw10 b_FX9 b_xT9 b_bel9 b_dz0
        go_wp2_with fail
        have c_x7 := Boxed.new b_w10 3 (.int .i64 (2))
        have c_b1 := al b_w10 (.cells #[.int .i64 (2)] 3)
        have c_FX7 := b_FXz.below c_b1
        have c_bel7 := below_seq b_belz c_b1
        have c_d7 := b_dz.below c_b1
        have b_K7 := (c_b1.block b_D (Array.getElem?_eq_some_iff.1 b_Kz).1).trans b_Kz
        have c_BT0 : Hid (BT0 ≤ b_w10.heap.size) := Lib.hid (by have h1 := b_SZ.out; have h2 := b_HD.out.2.2.2; have h3 := b_SS.out; have h4 := b_BT0.out; omega)
        have c_ltm : Hid (m < b_w10.heap.size) := Lib.hid b_dz.lt.2
        have b_Dl : Hid (b_D < b_w10.heap.size) := Lib.hid (Array.getElem?_eq_some_iff.1 b_Kz).1
        clear b_FXz b_belz b_dz b_Kz b_xTz b_cTz c_ca c_fa c_x0
        generalize b_w10.alloc (.cells #[.int .i64 (2)] 3) = c_w7 at c_x7 c_b1 c_FX7 c_bel7 c_d7 b_K7 ⊢
        have c_b17 := Lib.hid c_b1
        clear c_b1 c_b0
        obtain ⟨c_BT, c_hBT⟩ : ∃ BT, BT = b_w10.heap.size := ⟨_, rfl⟩
        rw [← c_hBT] at c_x7 c_BT0 c_ltm b_Dl c_b17 ⊢
        have c_xT7 := c_x7
        clear c_hBT c_x7 b_SS
        (try rw [rounds_succ])
        have c_cT7 := c_xT7.cell
        have a_D7 := a_HD.out.1
        have b_D7 := b_HD.out.1
        have a_lt := (Array.getElem?_eq_some_iff.1 a_K7).1
        have a_K8 : b_w8.heap[a_D]? = some (.deferred (some [])) := (b_HD.out.2.2.1.block a_D (by have := a_Dl.out; have := b_SZ.out; omega)).trans a_K7
        have a_K9 : b_w9.heap[a_D]? = some (.deferred (some [])) := b_HR.out.on.heap a_K8 (fun e => by have := a_SZ.out; have := b_SZ.out; have := a_Dl.out; rcases e with e | e <;> omega)
        have a_K10 : b_w10.heap[a_D]? = some (.deferred (some [])) := by rw [b_hp.out]; exact a_K9
        have b_l8 := b_SZ.out
        have h9 := b_HD.out.2.2.2
        have a_Kc := (c_b17.out.block a_D (by have := a_Dl.out; have := b_Dl.out; omega)).trans a_K10
        have hsr := sure_calls c_w7 (HR.out.2.2.1.below c_bel7)
        have hDD : W.heap.size ≤ a_D ∧ a_D ≠ b_D ∧ W.heap.size ≤ b_D := by
          have := a_SZ.out; have := a_BT0.out; have := hWBT.out; have := a_Dl.out; omega
        have HD := Lib.hid (And.intro a_Kc (And.intro b_K7 (And.intro c_bel7 hDD)))
        clear a_K7 a_K8 a_K9 a_K10 a_Kc b_K7 c_bel7 a_D7 b_D7 a_lt b_l8 h9 hDD c_FX7 c_d7 c_xT7
        go_wp2_with fail
        refine hsr.mono ?_
        clear hsr
        rintro e w11 ⟨rfl, b11⟩
        obtain ⟨e1, e2, hbl, hW1, hne, hW2⟩ := HD.out
        have e1' := (b11.block a_D (Array.getElem?_eq_some_iff.1 e1).1).trans e1
        have e2' := (b11.block b_D (Array.getElem?_eq_some_iff.1 e2).1).trans e2
        have BU : Below W.heap.size W w11 := below_seq HR.out.2.2.2 (below_seq hbl b11)
        clear e1 e2 hbl b11
        go_wp2_with fail
        refine ⟨by simp, .inl ⟨_, _, rfl, run_takeDeferred e2', ?_⟩⟩
        have e1'' := (World.putObj_heap_other (w := w11) (o := Obj.deferred none) hne).trans e1'
        have C2 := BU.trans (belowK_b (w := W) (Nat.le_refl _) _ b_D _ (.deferred none) hW2 e2' rfl rfl)
        refine ⟨by simp, .inl ⟨_, _, rfl, run_takeDeferred e1'', ?_⟩⟩
        have C1 := C2.trans (belowK_b (w := W) (Nat.le_refl _) _ a_D _ (.deferred none) hW1 e1'' rfl rfl)
        refine ⟨.bool true, ?_, rfl, C1⟩
        simp [results, Tryd.f7, go_sem]
  · have Hl := Lib.hid hl
    have bx := al w1 (.cells #[.pointer none] 24)
    have H1 := Lib.hid (below_seq b1 bx)
    have hrs := not_rises A c l (w1.alloc (.cells #[.pointer none] 24)) (HR.out.1.below H1.out) hn hl
    have x5 := (Boxed.new w1 24 (.pointer none)).cell
    clear hl b1 bx
    go_wp2_with fail
    refine hrs.mono ?_
    clear hrs
    rintro e w2 ⟨rfl, b2⟩
    have hsr := sure_calls w2 (HR.out.2.2.1.below (below_seq H1.out b2))
    have H2 := Lib.hid b2
    clear b2
    go_wp2_with fail
    refine hsr.mono ?_
    clear hsr
    rintro e w3 ⟨rfl, b3⟩
    go_wp2_with fail
    refine ⟨.bool true, ?_, rfl, below_seq HR.out.2.2.2 (below_seq (below_seq H1.out H2.out) b3)⟩
    simp [results, Tryd.f7, go_sem]
end Go.Proofs.YthgdkmbcibfehaaDoor.DcV
