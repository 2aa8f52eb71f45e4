/-
  The law TableKeys. Conditions: as stated.
-/
import Derived.Test.YtiffdkagmnpjiaaTbT
import Derived.Test.YtiffdkagmnpjiaaTbW
set_option maxRecDepth 100000
set_option linter.unusedSimpArgs false
set_option linter.unusedVariables false
namespace Go.Proofs.Ytiffdkagmnpjiaa.TbX
open Go.RowKit Go.Proofs.Ytiffdkagmnpjiaa.Mem Go.Proofs.Ytiffdkagmnpjiaa.TbA Go.Proofs.Ytiffdkagmnpjiaa.TbB Go.Proofs.Ytiffdkagmnpjiaa.Bytes Go.Proofs.Ytiffdkagmnpjiaa.TbI Go.Proofs.Ytiffdkagmnpjiaa.TbJ Go.Proofs.Ytiffdkagmnpjiaa.TbL Go.Proofs.Ytiffdkagmnpjiaa.TbN Go.Proofs.Ytiffdkagmnpjiaa.TbO Go.Proofs.Ytiffdkagmnpjiaa.TbP Go.Proofs.Ytiffdkagmnpjiaa.TbQ Go.Proofs.Ytiffdkagmnpjiaa.TbR Go.Proofs.Ytiffdkagmnpjiaa.TbS Go.Proofs.Ytiffdkagmnpjiaa.TbT Go.Proofs.Ytiffdkagmnpjiaa.TbU

theorem strs_one (l : List ByteArray) : ∀ u ∈ strs l, u.oneCell' = true := by
  intro u hu
  simp [strs] at hu
  obtain ⟨a, _, rfl⟩ := hu
  rfl
theorem rds_take {w : World} {A : Option Addr} {n c : Nat} {l m : List ByteArray} (h : RdS w A n c (l ++ m)) : RdS w A l.length c l := by
  have hn := rds_len h
  have := Rd.take h (k := l.length) (by rw [← hn, List.length_append]; omega)
  have e : (strs (l ++ m)).take (l.length * 1) = strs l := by
    simp [strs]
  rw [e] at this
  exact this
theorem keysFrom_len (l : List ByteArray) (last st : Int) : ∀ f i, (keysFrom l last st f i).length ≤ f := by
  intro f
  induction f with
  | zero => intro i; exact Nat.le_refl _
  | succ f ih =>
    intro i
    show List.length (if _ then _ else _) ≤ _
    split
    · rw [List.length_cons]; have := ih (i + st); omega
    · simp
theorem keys_len (l : List ByteArray) : (keysD l).length ≤ l.length := by
  unfold keysD
  split
  · split
    · simp
    · split
      · simp
      · exact keysFrom_len _ _ _ _ _
  · simp
theorem own_drawn {w : World} {B : Nat} {v : Value} {l : List ByteArray} (h : OwnS w B v l) (n : Nat) : OwnS (w.drewN n) B v l := own_only h ((Only.refl (fun _ => False) _).drawn n) (fun _ _ h => h)
/-- A row that is not empty: its block, its cells. -/
theorem own_ne {w : World} {B n c : Nat} {A : Option Addr} {l : List ByteArray} (h : OwnS w B (.slice A n c) l) (hn : 0 < n) : ∃ g, A = some ⟨g, 0, none⟩ ∧ B ≤ g ∧ ∀ j y, l[j]? = some y → w.cell? ⟨g, j, none⟩ = some (.string y) ∧ w.frozen? ⟨g, j, none⟩ = false := by
  have hl := own_n h
  rcases h.2 with ⟨e, h0⟩ | ⟨g, cap, cur, e, h1, h2, _⟩
  · injection e with _ e _; omega
  · injection e with e; subst e
    have hr := rds_own h
    refine ⟨g, rfl, h1, fun j y hy => ⟨?_, by simp [World.frozen?, h2]⟩⟩
    obtain ⟨p, e, hc⟩ := rds_get hr hy
    injection e with e; subst e
    rw [add_mk, Nat.zero_add] at hc
    exact hc
set_option maxHeartbeats 4000000 in
theorem keys_law (A : Option Addr) (n c : Nat) (l : List ByteArray) (w : World) (hr : RdS w A n c l) (hs : Small l) : Calls Try.prog 6 #[.slice A n c] w fun e w' => e = .returned (.bool true) ∧ Below w.heap.size w w' := by
  obtain rfl := rds_len hr
  have hcap := hr.cap
  have hbig : c ≤ 9223372036854775807 := hr.big
  have hln := hs.1
  obtain ⟨K, hK⟩ : ∃ K, K = keysD l := ⟨_, rfl⟩
  have hKl : K.length ≤ 100000000 := by have := keys_len l; rw [hK]; omega
  have hk1 : Hid (∀ W A n c, RdS W A n c l → Calls Try.prog 17 #[.slice A n c] W fun e w' => ∃ v, e = .returned v ∧ OwnS w' W.heap.size v K ∧ Below W.heap.size W w') := fun W A n c h => by rw [hK]; exact keys_calls A n c l W h hs
  have hk2 : Hid (∀ W A n c, RdS W A n c l → Calls Try.prog 19 #[.slice A n c] W fun e w' => ∃ v, e = .returned v ∧ OwnS w' W.heap.size v K ∧ Below W.heap.size W w') := fun W A n c h => by rw [hK]; exact keysR_calls A n c l W h hs
  have Hr := Lib.hid hr
  clear hK hs hr
  go_enter Try.func6, Try.ntmps6
  go_wp2_with (at_builtin; first
    | (refine wpList_app rfl (.const (.slice none 0 0)) (.tmp 7) elS rfl w.heap.size _ 0 [] rfl (World.ownsRow_nil _ _ _ _) A l.length c (strs l) rfl Hr.out (strs_one l) (by unfold maxLen; omega) (by omega) (Nat.le_refl _) ?_; intro v1 w1 o1 f1 g1)
    | (refine wpList_app1 rfl (.tmp 8) (.tmp 9) elS rfl w.heap.size v1 l.length (strs l) rfl (by simpa using o1) (.string (⟨#[115, 112, 97, 114, 101]⟩ : ByteArray)) rfl rfl (by unfold maxLen; omega) (by omega) f1.size ?_; intro v2 w2 o2 f2 g2; have o2' : OwnS w2 w.heap.size v2 (l ++ [(⟨#[115, 112, 97, 114, 101]⟩ : ByteArray)]) := own_snocS o2; obtain ⟨g, c2, rfl, hg⟩ := own_blk o2'; have e2 : (l ++ [(⟨#[115, 112, 97, 114, 101]⟩ : ByteArray)]).length = l.length + 1 := (by simp); have q2 : RdS w2 (some ⟨g, 0, none⟩) (l.length + 1) c2 (l ++ [(⟨#[115, 112, 97, 114, 101]⟩ : ByteArray)]) := e2 ▸ rds_own o2'; have hc2 := q2.cap; have hc3 : c2 ≤ 9223372036854775807 := q2.big))
  have Q2 := rds_take q2
  have B1 : Below w.heap.size w w1 := f1.below (Nat.le_refl _) (fun b h => by cases h)
  have B2 : Below w.heap.size w w2 := f2.after B1 (Nat.le_refl _) (fun b h => (o1.lt b h).1)
  have x2 : RdS w2 A l.length c l := Hr.out.below B2
  have y2 : w2.cell? ⟨g, l.length, none⟩ = some (.string (⟨#[115, 112, 97, 114, 101]⟩ : ByteArray)) := by
    obtain ⟨p, e, h⟩ := rds_get q2 (i := l.length) (s := (⟨#[115, 112, 97, 114, 101]⟩ : ByteArray)) (by simp)
    injection e with e; subst e
    rw [add_mk, Nat.zero_add] at h
    exact h
  have hg2 : g < w2.heap.size := (o2'.lt g rfl).2
  clear o1 f1 g1 o2 f2 g2 o2' e2 B1 Hr
  refine (hk1.out _ _ _ _ Q2).mono ?_
  rintro e w3 ⟨v3, rfl, o3, b3⟩
  obtain ⟨A3, c3, rfl⟩ := own_form o3
  have r3 := rds_own o3
  go_wp2_with fail
  refine (hk2.out _ _ _ _ (x2.below b3)).mono ?_
  rintro e w4 ⟨v4, rfl, o4, b4⟩
  obtain ⟨A4, c4, rfl⟩ := own_form o4
  have r4 := rds_own o4
  have B4 : Below w2.heap.size w2 w4 := b3.trans (b4.mono b3.size)
  have O4 := ownbS o3 b4
  clear o4 b3 hk1 hk2
  go_wp2_with fail
  refine (sameS_calls A3 K.length c3 K A4 K.length c4 K _ (r3.below b4) r4).mono ?_
  rintro e w5 ⟨rfl, nd5, rfl⟩
  rw [decide_eq_true rfl]
  go_wp2_with fail
  refine (sameS_calls (some ⟨g, 0, none⟩) l.length c2 l A l.length c l _ ((Q2.below B4).drawn nd5) ((x2.below B4).drawn nd5)).mono ?_
  rintro e w6 ⟨rfl, nd6, rfl⟩
  rw [decide_eq_true rfl, drew2]
  have y6 : w4.cell? ⟨g, l.length, none⟩ = some (.string (⟨#[115, 112, 97, 114, 101]⟩ : ByteArray)) := (B4.cell (p := ⟨g, l.length, none⟩) hg2).trans y2
  go_wp2_with fail
  refine (awake_calls _).mono ?_
  rintro e w7 ⟨rfl, b7⟩
  have B7 : Below w2.heap.size w2 w7 := (below_drawn_ B4 _).trans (b7.mono (below_drawn_ B4 _).size)
  have O7 := ownbS (own_drawn O4 _) b7
  clear b7 O4 r3 r4 y6 B4
  go_wp2_with fail
  go_loopw [5] (fun i wr => ∃ (j : Nat) (L : List ByteArray), j ≤ K.length ∧ i = .int .i64 j ∧ L.length = K.length ∧ OwnS wr w2.heap.size (.slice A3 K.length c3) L ∧ Below w2.heap.size w2 wr) (fun i _ => K.length - (intOf i).toNat)
  case atStart => exact ⟨0, K, Nat.zero_le _, rfl, rfl, O7, B7⟩
  case round =>
    clear O7 B7
    obtain ⟨j, L, hj, rfl, hL, ho, hb⟩ := hrel
    by_cases hlt : j < K.length
    · obtain ⟨g3, rfl, hg3, hce⟩ := own_ne ho (by omega)
      obtain ⟨y, hy⟩ : ∃ y, L[j]? = some y := ⟨_, List.getElem?_eq_getElem (by omega)⟩
      obtain ⟨cy, fy⟩ := hce j y hy
      have hP := Lib.hid (own_putS ho (j := j) ⟨#[115, 112, 111, 105, 108, 116]⟩)
      have hle := (rds_own ho).cap
      clear hce hy ho
      go_wp2_with fail
      exact ⟨⟨j + 1, L.set j ⟨#[115, 112, 111, 105, 108, 116]⟩, by omega, by go_num, by rw [List.length_set, hL], hP.out, hb.setCell (p := ⟨g3, j, none⟩) hg3 _⟩, by simp [intOf]; omega⟩
    · obtain rfl : j = K.length := by omega
      go_wp2_with fail
      go_loopw [4, 6] (fun v i wr => ∃ (j : Nat) (L : List ByteArray), j ≤ 9 ∧ i = .int .i64 j ∧ L.length = K.length + j ∧ OwnS wr w2.heap.size v L ∧ Below w2.heap.size w2 wr) (fun _ i _ => 9 - (intOf i).toNat)
      case atStart => exact ⟨0, L, Nat.zero_le _, rfl, hL, ho, hb⟩
      case round =>
        clear ho hb hL
        obtain ⟨j, L, hj, rfl, hL, ho, hb⟩ := hrel
        obtain ⟨A5, c5, rfl⟩ := own_form ho
        by_cases hlt : j < 9
        · go_wp2_with (at_builtin; refine wpList_app1 rfl (.tmp 55) (.tmp 56) elS rfl w2.heap.size _ L.length (strs L) rfl ho (.string ⟨#[98, 101, 104, 105, 110, 100]⟩) rfl rfl (by unfold maxLen; omega) (by omega) hb.size ?_; intro v' w8 o8 f8 g8)
          exact ⟨⟨j + 1, L ++ [⟨#[98, 101, 104, 105, 110, 100]⟩], by omega, by go_num, by simp; omega, own_snocS o8, f8.after hb (Nat.le_refl _) (fun k h => (ho.lt k h).1)⟩, by simp [intOf]; omega⟩
        · have y8 := (hb.cell (p := ⟨g, l.length, none⟩) hg2).trans y2
          have HB := Lib.hid hb
          go_wp2_with fail
          refine (sameS_calls (some ⟨g, 0, none⟩) l.length c2 l A l.length c l _ (Q2.below HB.out) (x2.below HB.out)).mono ?_
          rintro e w9 ⟨rfl, nd9, rfl⟩
          rw [decide_eq_true rfl]
          go_wp2_with fail
          go_ret
          exact ⟨rfl, below_drawn_ (B2.trans (HB.out.mono B2.size)) _⟩
theorem keys_upto (A : Option Addr) (n c : Nat) (l : List ByteArray) (W : World) (hr : Rd W 1 A n c (l.flatMap LawR.sF)) (hl : l.length = n) (hok : ∀ x ∈ l, LawR.sOK x) (hb : (l.map LawR.sM).sum ≤ 1048576) :
    Calls Try.prog 6 #[.slice A n c] W fun e w' => e = .returned (.bool true) ∧ Below W.heap.size W w' :=
  keys_law A n c l W (by rw [TbW.strs_flat] at hr; exact hr) (TbW.small_of hb)
end Go.Proofs.Ytiffdkagmnpjiaa.TbX
