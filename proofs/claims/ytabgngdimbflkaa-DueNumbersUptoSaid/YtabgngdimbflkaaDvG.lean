/-
  The walk of DueNumbers, for lists of bulk at most 1048576. Conditions: as stated.
-/
import Derived.Test.YtabgngdimbflkaaDvE
set_option maxRecDepth 100000
set_option linter.unusedSimpArgs false
set_option linter.unusedVariables false
namespace Go.Proofs.Ytabgngdimbflkaa.DvG
open Go.RowKit Go.Shelf Go.Proofs.Ytabgngdimbflkaa.Mem Go.Proofs.Ytabgngdimbflkaa.DuA Go.Proofs.Ytabgngdimbflkaa.DuM Go.Proofs.Ytabgngdimbflkaa.DuN Go.Proofs.Ytabgngdimbflkaa.DuB Go.Proofs.Ytabgngdimbflkaa.DuO Go.Proofs.Ytabgngdimbflkaa.DiC Go.Proofs.Ytabgngdimbflkaa.DiH Go.Proofs.Ytabgngdimbflkaa.DiI Go.Proofs.Ytabgngdimbflkaa.DiJ Go.Proofs.Ytabgngdimbflkaa.DiK Go.Proofs.Ytabgngdimbflkaa.DiL Go.Proofs.Ytabgngdimbflkaa.DiM Go.Proofs.Ytabgngdimbflkaa.DvE
attribute [local go_sem] Oper.semAt_some

section
variable (A1 A2 : Option Addr) (n1 n2 c1 c2 : Nat) (K T : List Int) (W : World)
/-- Between two rounds of the first loop. -/
def L1 (W : World) (g m : Nat) (K T : List Int) (i : Value) (wr : World) : Prop := ∃ (k : Nat) (v : Value) (l : List (Int × Int)), k ≤ K.length ∧ k ≤ T.length ∧ i = .int .i64 k ∧ Sn W g m k wr v l
set_option maxHeartbeats 2000000 in
theorem numbers_b (A3 : Option Addr) (n3 c3 : Nat) (S : List Int) (h1 : RdN W A1 n1 c1 K) (l1 : K.length = n1) (k1 : ∀ x ∈ K, LawR.iOK x) (h2 : RdN W A2 n2 c2 T) (l2 : T.length = n2) (k2 : ∀ x ∈ T, LawR.iOK x) (h3 : RdN W A3 n3 c3 S) (l3 : S.length = n3)
    (hm : T.length < K.length) (b1 : K.length ≤ 1048576) (b2 : T.length ≤ 1048576) (b3 : S.length ≤ 1048576) :
    Calls Try.prog 6 #[.slice A1 n1 c1, .slice A2 n2 c2, .slice A3 n3 c3] W fun e w' => e = .returned (.bool true) ∧ Below W.heap.size W w' := by
  subst l1 l2 l3
  refine (callsIn_wide (n := 4)).1 ?_
  refine callsIn_of_wp_marks Try.func6 rfl trivial ?_ rfl
  simp only [Try.ntmps6, List.size_toArray, List.length_cons, List.length_nil, Nat.reduceAdd, Nat.reduceSub, Array.replicate_succ, Array.replicate_zero, List.push_toArray, List.append_toArray, List.nil_append, List.cons_append]
  refine wpIn_wide.2 ?_
  have hneq : ∀ (bs : Array Value) (w : World), Sem.run Try.prog (binOp BinOp.neq 58 (Value.func (.func 41) #[] bs) Value.nilFunc) w = .ok (.bool true) w := fun _ _ => by kernel_rfl
  go_wp2_with fail
  refine (new_calls W).mono ?_
  rintro e w1 ⟨g, m, rfl, hi1, bb1⟩
  have S1 : Sn W g m 0 w1 (.slice none 0 0) [] := ⟨hi1, bb1⟩
  clear hi1 bb1
  go_wp2_with fail
  refine (DuW.awake_calls w1).mono ?_
  rintro e w3 ⟨rfl, bb3⟩
  have S3 := S1.below bb3
  clear S1 bb3
  go_wp2_with fail
  go_loopw [8] (fun i wr => L1 W g m K T i wr) (fun i _ => K.length - (intOf i).toNat)
  case atStart => exact ⟨0, _, _, Nat.zero_le _, Nat.zero_le _, rfl, S3⟩
  case round =>
    obtain ⟨k, v, l, hkK, hkT, rfl, S⟩ := hrel
    by_cases hlt : k < K.length ∧ k < T.length
    · obtain ⟨hlK, hlT⟩ := hlt
      obtain ⟨x, hx⟩ : ∃ x, K[k]? = some x := ⟨_, List.getElem?_eq_getElem hlK⟩
      obtain ⟨t, ht⟩ : ∃ t, T[k]? = some t := ⟨_, List.getElem?_eq_getElem hlT⟩
      obtain ⟨p, rfl, cx⟩ := rdn_get h1 S.bel hx
      obtain ⟨q, rfl, ct⟩ := rdn_get h2 S.bel ht
      obtain ⟨kx1, kx2⟩ := k1 x (List.mem_of_getElem? hx)
      obtain ⟨kt1, kt2⟩ := k2 t (List.mem_of_getElem? ht)
      have Hx := Lib.hid (And.intro hx ht)
      clear hx ht
      have hset := set_calls W.heap.size g m v l k x t wr.drew (S.ix.drew) ⟨kx1, kx2⟩ S.bel.size (by omega)
      have cx' : wr.drew.cell? (p.add k) = some (.int .i64 x) := cx
      have ct' : wr.drew.cell? (q.add k) = some (.int .i64 t) := ct
      go_wp2_with fail
      go_region_held3 (fun w' => w'.cell? (p.add k) = some (.int .i64 x) ∧ w'.cell? (q.add k) = some (.int .i64 t))
        (first | exact ⟨cx', ct'⟩ | assumption)
        (first
          | (go_at_call 21; refine hset.mono ?_; rintro e w5 ⟨rfl, T5⟩; obtain ⟨v5, S5⟩ := Sn.turn (S.below ((Below.refl _ _).drew)) T5; obtain ⟨p5, e5, cx5⟩ := rdn_get h1 S5.bel Hx.out.1; injection e5 with e5; subst e5; obtain ⟨q5, e5, ct5⟩ := rdn_get h2 S5.bel Hx.out.2; injection e5 with e5; subst e5; have z5 := And.intro cx5 ct5))
      have hsl := S.ix.srt
      obtain ⟨l5, hl5⟩ : ∃ l5, setL l x t = l5 := ⟨_, rfl⟩
      have hdue : okT t → dueL l5 x = some t := fun h => by rw [← hl5]; exact set_due hsl h
      rw [hl5] at S5
      clear hl5 hset S T5
      have hd := due_calls W.heap.size g m v5 l5 (k + 1) x w5 S5.ix ⟨kx1, kx2⟩
      by_cases hok : okT t
      · have e6 : setE t = 0 := if_pos hok
        have e7 : DiH.opt l5 x = .tuple #[.int .i64 t, .bool true] := by unfold DiH.opt; rw [hdue hok]; rfl
        rw [e7] at hd
        obtain ⟨t0, t1⟩ := hok
        rw [e6]
        clear hdue e6 e7
        have htt : (t == t) = true := by simp
        go_wp2_with fail
        refine hd.mono ?_
        rintro e w6 ⟨rfl, rfl⟩
        go_wp2_with fail
        exact ⟨⟨k + 1, v5, l5, by omega, by omega, by go_num, S5⟩, by simp [intOf]; omega⟩
      · have e6 : setE t = 70 := if_neg hok
        obtain ⟨D6, O6, e7⟩ : ∃ D6 O6, DiH.opt l5 x = .tuple #[.int .i64 D6, .bool O6] := ⟨_, _, rfl⟩
        rw [e7] at hd
        rw [e6]
        clear hdue e6 e7
        by_cases h0 : t < 0
        · clear hok
          go_wp2_with fail
          refine hd.mono ?_
          rintro e w6 ⟨rfl, rfl⟩
          go_wp2_with fail
          exact ⟨⟨k + 1, v5, l5, by omega, by omega, by go_num, S5⟩, by simp [intOf]; omega⟩
        · have h0' : 9007199254740992 < t := by unfold okT at hok; omega
          have h0'' : 0 ≤ t := by omega
          clear hok h0
          go_wp2_with fail
          refine hd.mono ?_
          rintro e w6 ⟨rfl, rfl⟩
          go_wp2_with fail
          exact ⟨⟨k + 1, v5, l5, by omega, by omega, by go_num, S5⟩, by simp [intOf]; omega⟩
    · generalize wr = wr0 at S ⊢
      have hll := S.ix.len
      have hls := S.ix.lt
      have hSb := S.bel.size
      have bA := Boxed.new wr0 56 (.slice none 0 0)
      have b0 := al wr0 (.cells #[.slice none 0 0] 56)
      obtain ⟨W0, hW0⟩ : ∃ W0, wr0.alloc (.cells #[.slice none 0 0] 56) = W0 := ⟨_, rfl⟩
      have hs0 : W0.heap.size = wr0.heap.size + 1 := by rw [← hW0]; simp
      rw [hW0] at bA b0
      have S0 := S.below b0
      have hai := allIter_calls W.heap.size g m v l k W0 S0.ix (by omega)
      have hx : k < K.length := by omega
      have hy : ¬ k < T.length := by omega
      all_goals (
        clear hlt
        go_wp2_with fail
        refine hai.mono ?_
        rintro e w1 ⟨A1', c1', Bs, rfl, hBs, bS, o1, hne, bb1⟩
        have bA1 : Boxed w1 wr0.heap.size 56 (.slice none 0 0) := (bb1.block _ bA.lt).trans bA
        have S1 := S0.below bb1
        have hsz1 := bb1.size
        have hcS := bS.cell
        clear hai bA bb1 b0 hW0 S S0
        go_wp2_with fail
        have hT : ∀ ad, A1' = some ad → (Value.slice A1' l.length c1').ownBlock = some ad.block := fun ad e => by rw [e]; rfl
        have hBl : wr0.heap.size < w1.heap.size := bA1.lt
        have hTl : ∀ k, (Value.slice A1' l.length c1').ownBlock = some k → wr0.heap.size < k ∧ k < w1.heap.size := fun k hk => by have := o1.lt k hk; omega
        refine (wpIn_wide (n := 4)).1 (DuP.ownL (α := Fin l.length) rfl (by decide) (gf := 41) (lb := #[.pointer (some ⟨Bs, 0, none⟩)]) rfl trivial (enters_of Try.func41 (by kernel_rfl) rfl)
          (all_stops Fence.wide 3 trivial rfl (by decide) Bs A1' c1' l (by omega) (fun k => (Value.slice A1' l.length c1').ownBlock = some k) w1 bS.lt bS.cell (Rd.of_own o1) hT) (fun h k => Keeps.t h k) Keeps.b (Below.refl _ _) (fun _ => rfl)
          (fun pre W' => (∃ v', Boxed W' wr0.heap.size 56 v' ∧ W'.ownsRow w1.heap.size 60 2 v' (came l pre).length (ents (came l pre)) ∧ True) ∧ Only (fun k => k = wr0.heap.size) w1 W') (fun _ _ _ => False)
          (OwnFrom.and (Own.from (holdsRow_own w1.heap.size wr0.heap.size 56 60 2 (fun pre => (came l pre).length) (fun pre => ents (came l pre)) (fun _ _ => True)) _) (DuP.ownFrom_only (Nat.le_refl _)))
          (fun _ _ _ _ _ hs _ _ => hs) ⟨⟨_, bA1, World.ownsRow_nil _ _ _ _, trivial⟩, Only.refl _ _⟩
          94 95 14 15 (fun x => .int .i64 (l[x.1]'x.2).2) (fun x => .int .i64 (l[x.1]'x.2).1) (fun _ _ _ h _ => h) ?assign ?body ?done (fun D c pre W1 _ _ h _ => h.elim))
        case assign =>
          intro l2 x W' K hK
          unfold encP
          gi_wp2
          exact hK
        case body =>
          rintro l2 pre x X hl2 - ⟨⟨v2, b2', o2, -⟩, B2⟩ hlt
          obtain ⟨y, hy⟩ : ∃ y, l[x.1]'x.2 = y := ⟨_, rfl⟩
          have hpl : (came l pre).length + 1 ≤ l.length := by rw [came_len]; exact hlt
          have hX := B2.size
          have cL := b2'.cell
          unfold DuP.G
          dsimp only
          rw [hy]
          gi_wp2_with (gi_at_builtin; refine DuP.wpListIn_app2b rfl _ _ elA rfl w1.heap.size v2 _ _ rfl o2 (.int .i64 y.1) (.int .i64 y.2) rfl rfl _ rfl rfl (by unfold maxLen; omega) (by omega) hX ?_; intro v3 w3 o3 O3 g3; obtain ⟨A3', q3, rfl⟩ := own_form o3; have b3' := DuP.boxed_only b2' O3 (fun e => by have := (o2.lt _ e).1; omega); have c3' := b3'.cell; have f3 := b3'.frozen)
          have lt2 := o2.lt
          have hO : Only (fun k => k = wr0.heap.size) w3 (w3.setCell ⟨wr0.heap.size, 0, none⟩ (.slice A3' ((came l pre).length + 1) q3)) := (Only.refl (fun k => k = wr0.heap.size) w3).put (p := ⟨wr0.heap.size, 0, none⟩) (.inl rfl) _
          have XZ : Only (fun k => v2.ownBlock = some k ∨ k = wr0.heap.size) X (w3.setCell ⟨wr0.heap.size, 0, none⟩ (.slice A3' ((came l pre).length + 1) q3)) := (O3.mono (fun b e => .inl e)).trans hO (fun b e => .inl (.inr e))
          have k1' := DuP.keepsFrom_only (B := w1.heap.size) XZ (fun k e => Or.elim e (fun e => DuP.own_cells o2 k e) (fun e => by rw [e]; exact DuP.boxed_cells b2'))
          have k2' := B2.trans XZ (fun b e => Or.elim e (fun e => .inr (lt2 b e).1) (fun e => .inl e))
          refine ⟨k1', Keeps.of_only XZ (fun k hk e => ?_), ⟨_, Boxed.set _ b3', ?_, trivial⟩, k2'⟩
          · have := hTl k hk
            rcases e with e | e
            · have := lt2 k e; omega
            · omega
          · rw [came_app, hy, ents_app, List.length_append]
            exact own_only o3 hO (fun k hk e => by have := (o3.lt k hk).1; omega)
        case done =>
          rintro D xs W2 hD hxs ⟨⟨v2, b2', o2, -⟩, B2⟩ hK
          rw [hxs, came_all] at o2
          obtain ⟨A6, c6, rfl⟩ := own_form o2
          have AL : Al wr0.heap.size w1.heap.size l l.length A6 c6 W2 := ⟨b2', o2⟩
          have S2 : Sn W g m k W2 v l := ⟨S1.ix.only B2 (fun k hk e => by have := (hls k hk).2; omega), B2.after S1.bel (Nat.le_refl _) (fun b e => by rw [e]; exact hSb)⟩
          clear b2' o2 B2 hxs S1 bA1 o1 bS hcS
          have hcb := AL.bx.cell
          have hln := fun w' (y : Ix w' W.heap.size g m v l k) => len_calls W.heap.size g m v l k w' y
          obtain ⟨n, hn⟩ : ∃ n, l.length = n := ⟨_, rfl⟩
          have HN := Lib.hid hn
          have hnb : n ≤ 1048576 := by omega
          rw [hn] at hcb hln
          clear hn
          have hcb' : W2.drew.cell? ⟨wr0.heap.size, 0, none⟩ = some (.slice A6 n c6) := hcb
          have hnn : ((n : Int) == (n : Int)) = true := by simp
          go_wp2_with fail
          go_region_held3 (fun w' => w'.cell? ⟨wr0.heap.size, 0, none⟩ = some (.slice A6 n c6))
            (first | exact hcb' | assumption)
            (first
              | (go_at_call 24; refine (hln _ (S2.ix.drew)).mono ?_; rintro e w4 ⟨rfl, hw4⟩; subst hw4))
          go_wp2_with fail
          go_loopw [16] (fun i w' => ∃ j : Nat, (j = 0 ∨ j + 1 ≤ n) ∧ i = .int .i64 ((j : Int) + 1) ∧ Below W2.heap.size W2 w') (fun i _ => n + 1 - (intOf i).toNat)
          case atStart => exact ⟨0, .inl rfl, rfl, (Below.refl _ _).drew⟩
          case round =>
            obtain ⟨j, hj, rfl, hbl⟩ := hrel
            have AL' := AL.below hbl
            have cb' := AL'.bx.cell
            rw [HN.out] at cb'
            by_cases hlt2 : j + 1 < n
            · obtain ⟨a, ha⟩ : ∃ a, l[j]? = some a := ⟨_, List.getElem?_eq_getElem (by have := HN.out; omega)⟩
              obtain ⟨b, hb'⟩ : ∃ b, l[j + 1]? = some b := ⟨_, List.getElem?_eq_getElem (by have := HN.out; omega)⟩
              have hord := ord_at S2.ix.srt.ord ha hb'
              obtain ⟨p, hp, p0, p1⟩ := AL'.at_ ha
              obtain ⟨q, hq, q0, q1⟩ := AL'.at_ hb'
              rw [hp] at hq
              injection hq with hq
              subst hq
              have hbl' := hbl
              have Hb := Lib.hid (And.intro ha (And.intro hb' (And.intro hp hbl')))
              clear ha hb' hbl hbl' AL'
              subst hp
              rcases hord with h12 | ⟨h11, h22⟩
              · have f1 : ¬ b.1 < a.1 := by omega
                have f2 : (a.1 == b.1) = false := by simp; omega
                have f3 : decide (b.1 < a.1) = false := by simpa using f1
                clear h12
                go_wp2_with fail
                go_quiet (fail)
                go_wp2_with fail
                exact ⟨⟨j + 1, .inr (by omega), by go_num, Hb.out.2.2.2.trans (below_drawn_ (Below.refl _ _) nq)⟩, by simp [intOf]; omega⟩
              · have f1 : ¬ b.1 < a.1 := by omega
                have f2 : (a.1 == b.1) = true := by simpa using h11
                have f3 : decide (b.1 < a.1) = false := by simpa using f1
                have f4 : ¬ b.2 ≤ a.2 := by omega
                have f5 : decide (b.2 ≤ a.2) = false := by simpa using f4
                clear h11 h22
                go_wp2_with fail
                go_quiet (fail)
                go_wp2_with fail
                exact ⟨⟨j + 1, .inr (by omega), by go_num, Hb.out.2.2.2.trans (below_drawn_ (Below.refl _ _) nq)⟩, by simp [intOf]; omega⟩
            · have hDl : D < W2.heap.size := (Array.getElem?_eq_some_iff.1 hK).1
              have hBA := AL.bx.lt
              have hls2 := S2.ix.lt
              have hol := AL.ow.lt
              have s2w := hbl.size
              have P0 : L3 W W2 g m k wr0.heap.size w1.heap.size D l A6 c6 0 v wr := L3.below (W2 := W2) ⟨S2.ix, AL, S2.bel, hK, ⟨fun hx => by have := (hls _ hx).2; omega, fun hx => by have := (hls _ hx).2; omega, fun b hb => ⟨fun hx => by have := (hls _ hx).2; have := (hol b hb).1; omega, (hol b hb).2⟩⟩, Nat.le_refl _⟩ hbl
              clear cb' hcb hcb' AL' hbl S2 hls2 hj
              generalize wr = w7 at P0 ⊢
              have cb7 := P0.al.bx.cell
              rw [HN.out] at cb7
              have f0 : ¬ ((j : Int) + 1 < (n : Int)) := by omega
              go_wp2_with fail
              go_loopw [17, 18] (fun at_ i w' => ∃ (j i' : Nat) (v : Value), j ≤ n ∧ i' ≤ S.length ∧ at_ = .int .i64 j ∧ i = .int .i64 i' ∧ L3 W W2 g m k wr0.heap.size w1.heap.size D l A6 c6 j v w') (fun _ i _ => S.length - (intOf i).toNat)
              case atStart => exact ⟨0, 0, v, Nat.zero_le _, Nat.zero_le _, rfl, rfl, P0⟩
              case round =>
                clear P0
                obtain ⟨j, i', v, hjn, hiS, rfl, rfl, P⟩ := hrel
                by_cases hlt3 : i' < S.length
                · obtain ⟨now, hnow⟩ : ∃ now, S[i']? = some now := ⟨_, List.getElem?_eq_getElem hlt3⟩
                  obtain ⟨q, rfl, cq⟩ := rdn_get h3 P.bel hnow
                  obtain ⟨s, M, e1, e2, e3, e4, e5, e6, e7⟩ := bit2 now l j (by have := HN.out; omega)
                  have htk := take_calls W.heap.size g m v (l.drop j) k now 2 wr P.ix P.bel.size (by omega)
                  rw [e1, e3] at htk
                  have E3 := Lib.hid (And.intro e2 (And.intro e6 e7))
                  have e4' : j + s ≤ n := by have := HN.out; omega
                  clear e1 e2 e3 e4 e6 e7 hnow
                  go_wp2_with fail
                  refine htk.mono ?_
                  rintro e w8 ⟨s8, rfl, o8, T8⟩
                  obtain ⟨v8, P8⟩ := P.turn hBA hDl T8
                  have hM : M.length = s := E3.out.1
                  unfold OwnKs at o8
                  rw [hM] at o8
                  obtain ⟨A8, c8, rfl⟩ := own_form o8
                  have HM := Lib.hid hM
                  clear hM htk T8 P cq
                  go_wp2_with fail
                  have hs2 := E3.out.1
                  clear hs2
                  go_loopw [17, 21] (fun at_ i w' => ∃ (t a : Nat), t ≤ s ∧ Hid (a = j + t) ∧ at_ = .int .i64 a ∧ i = .int .i64 t ∧ Below w8.heap.size w8 w') (fun _ i _ => s - (intOf i).toNat)
                  case atStart => exact ⟨0, j, Nat.zero_le _, rfl, rfl, rfl, Below.refl _ _⟩
                  case round =>
                    obtain ⟨t, a, hts, HA, rfl, rfl, hbl8⟩ := hrel
                    have P9 := P8.below hbl8
                    have cb9 := P9.al.bx.cell
                    rw [HN.out] at cb9
                    have hsb : s ≤ 2 := e5
                    by_cases hlt4 : t < s
                    · obtain ⟨e, x1, x2, x3⟩ := E3.out.2.1 t hlt4
                      have o9 := own_only o8 (only_b (S := fun _ => False) hbl8) (fun _ _ => id)
                      obtain ⟨p, hp, p0, p1⟩ := P9.al.at_ (i := a) (e := e) (by rw [HA.out]; exact x1)
                      obtain ⟨r, hr, r0⟩ := (Rd.of_own o9).get t (.int .i64 e.2) (by simp [keysV, x3])
                      have han : a < n := by have := HA.out; omega
                      have han' : ¬ n ≤ a := by omega
                      have f6 : (e.2 == e.2) = true := by simp
                      have f7 : ¬ now < e.1 := by omega
                      have f8 : decide (now < e.1) = false := by simpa using f7
                      clear x1 x3 x2 P9 o9
                      subst hp hr
                      go_wp2_with fail
                      go_quiet (fail)
                      go_wp2_with fail
                      exact ⟨⟨t + 1, a + 1, by omega, by have := HA.out; show _ = _; omega, by go_num, by go_num, hbl8.trans (below_drawn_ (Below.refl w8.heap.size wr) nq)⟩, by simp [intOf]; omega⟩
                    · obtain rfl : t = s := by omega
                      have hlen : (((l.drop (j + t)).length : Nat) : Int) = (n : Int) - (a : Int) := by have h1 := HN.out; have h2 := HA.out; rw [List.length_drop]; omega
                      have hln9 := fun w' (y : Ix w' W.heap.size g m v8 (l.drop (j + t)) k) => len_calls W.heap.size g m v8 (l.drop (j + t)) k w' y
                      rw [hlen] at hln9
                      have ix9 := P9.ix
                      have han0 : a ≤ n := by have := HA.out; omega
                      have hwr : IntKind.i64.wrap ((n : Int) - (a : Int)) = (n : Int) - (a : Int) := by rw [IntKind.wrap_i64]; omega
                      have hq : (((n : Int) - (a : Int)) == ((n : Int) - (a : Int))) = true := by simp
                      have LAST : ∀ w', Below wr.heap.size wr w' → L3 W W2 g m k wr0.heap.size w1.heap.size D l A6 c6 a v8 w' := fun w' hb => by have := P9.below hb; rw [← HA.out] at this; exact this
                      have LAST' := Lib.hid LAST
                      have cb9' : wr.drew.cell? ⟨wr0.heap.size, 0, none⟩ = some (.slice A6 n c6) := cb9
                      clear hlen LAST
                      rcases (show (t < 2 ∧ a < n) ∨ (t < 2 ∧ a = n) ∨ t = 2 by omega) with ⟨ht2, han⟩ | ⟨ht2, rfl⟩ | rfl
                      · obtain ⟨e, he⟩ : ∃ e, l[a]? = some e := ⟨_, List.getElem?_eq_getElem (by have := HN.out; omega)⟩
                        have hgt := E3.out.2.2 e ht2 (by rw [← HA.out]; exact he)
                        obtain ⟨p, hp, p0, -⟩ := P9.al.at_ he
                        have p0' : wr.drew.cell? (p.add (a * 2)) = some (.int .i64 e.1) := p0
                        have f7 : ¬ e.1 ≤ now := by omega
                        have f8 : decide (e.1 ≤ now) = false := by simpa using f7
                        have f9 : decide (a < n) = true := by simpa using han
                        clear he P9 hgt
                        subst hp
                        rcases (show t = 0 ∨ t = 1 by omega) with rfl | rfl
                        all_goals (
                          go_wp2_with fail
                          go_quiet (first | (go_at_call 24; exact Calls.quiet_of_same (hln9 _ (ix9.drawn _))))
                          go_wp2_with fail
                          exact ⟨⟨a, i' + 1, v8, by omega, by omega, rfl, by go_num, LAST'.out _ (below_drawn_ (Below.refl _ _) nq)⟩, by simp [intOf]; omega⟩)
                      · clear P9
                        have f9 : decide (a < a) = false := by simp
                        rw [Int.sub_self] at hln9
                        clear hwr hq
                        rcases (show t = 0 ∨ t = 1 by omega) with rfl | rfl
                        all_goals (
                          go_wp2_with fail
                          go_quiet (first | (go_at_call 24; exact Calls.quiet_of_same (hln9 _ (ix9.drawn _))))
                          go_wp2_with fail
                          exact ⟨⟨a, i' + 1, v8, by omega, by omega, rfl, by go_num, LAST'.out _ (below_drawn_ (Below.refl _ _) nq)⟩, by simp [intOf]; omega⟩)
                      · clear P9
                        go_wp2_with fail
                        go_quiet (first | (go_at_call 24; exact Calls.quiet_of_same (hln9 _ (ix9.drawn _))))
                        go_wp2_with fail
                        exact ⟨⟨a, i' + 1, v8, by omega, by omega, rfl, by go_num, LAST'.out _ (below_drawn_ (Below.refl _ _) nq)⟩, by simp [intOf]; omega⟩
                · have dk := P.dk
                  have bl := P.bel
                  clear P
                  go_wp2_with fail
                  refine ⟨by simp, .inl ⟨_, _, rfl, run_takeDeferred dk, ?_⟩⟩
                  refine ⟨.bool true, ?_, rfl, bl.trans (belowK_b (w := W) (Nat.le_refl _) _ D _ _ (by omega) dk rfl rfl)⟩
                  simp [results, Try.f6, go_sem])
end
