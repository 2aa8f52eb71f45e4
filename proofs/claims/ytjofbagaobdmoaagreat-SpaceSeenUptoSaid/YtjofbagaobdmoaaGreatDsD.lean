/-
  slices.BinarySearchFunc at such rows. Conditions: as stated.
-/
import Derived.Test.YtjofbagaobdmoaaGreatDsC
import Derived.BigRegion
import Derived.StillTailTactics
set_option maxRecDepth 100000
set_option linter.unusedSimpArgs false
set_option linter.unusedVariables false
namespace Go.Proofs.YtjofbagaobdmoaaGreat.DsD
open Go.RowKit Go.Proofs.YtjofbagaobdmoaaGreat.Mem Go.Proofs.YtjofbagaobdmoaaGreat.DuA Go.Proofs.YtjofbagaobdmoaaGreat.DuM Go.Proofs.YtjofbagaobdmoaaGreat.DuN Go.Proofs.YtjofbagaobdmoaaGreat.DuB Go.Proofs.YtjofbagaobdmoaaGreat.DsC

theorem pos_bound {l : List (Int × ByteArray)} {e : Int × ByteArray} {i : Nat} (hi : i ≤ l.length) (h1 : ∀ t y, t < i → l[t]? = some y → bef ltS y e = true) (h2 : ∀ t y, i ≤ t → l[t]? = some y → bef ltS y e = false) : posL ltS l e = i := by
  unfold posL
  have h : l = l.take i ++ l.drop i := (List.take_append_drop i l).symm
  rw [h, List.countP_append]
  have a : (l.take i).countP (fun x => bef ltS x e) = i := by
    rw [List.countP_eq_length.2 (fun x hx => ?_), List.length_take]
    · omega
    · obtain ⟨t, ht, rfl⟩ := List.mem_iff_getElem.1 hx
      rw [List.length_take] at ht
      exact h1 t _ (by omega) (by rw [List.getElem_take]; exact List.getElem?_eq_getElem (by omega))
  have b : (l.drop i).countP (fun x => bef ltS x e) = 0 := by
    rw [List.countP_eq_zero]
    intro x hx
    obtain ⟨t, ht, rfl⟩ := List.mem_iff_getElem.1 hx
    rw [List.length_drop] at ht
    rw [h2 (i + t) _ (by omega) (by rw [List.getElem_drop]; exact List.getElem?_eq_getElem (by omega))]
    simp
  omega
theorem below_at {l : List (Int × ByteArray)} (ho : l.Pairwise (fun a b => bef ltS a b = true)) {e : Int × ByteArray} {i j : Nat} {x y : Int × ByteArray} (hij : i ≤ j) (hx : l[i]? = some x) (hy : l[j]? = some y) (h : bef ltS y e = true) : bef ltS x e = true := by
  rcases Nat.lt_or_ge i j with hl | hl
  · obtain ⟨h1, rfl⟩ := List.getElem?_eq_some_iff.1 hx
    obtain ⟨h2, rfl⟩ := List.getElem?_eq_some_iff.1 hy
    exact bef_tr linS (List.pairwise_iff_getElem.1 ho i j h1 h2 hl) h
  · obtain rfl : i = j := by omega
    rw [hx] at hy; injection hy with hy; subst hy; exact h
/-- The state of the search. -/
structure Sr (w : World) (A : Option Addr) (n c : Nat) (l : List (Int × ByteArray)) (e : Int × ByteArray) (wr : World) : Prop where
  b : Below w.heap.size w wr
  r : RdE wr A n c l
  x0 : wr.cell? ⟨w.heap.size, 0, none⟩ = some (.int .i64 e.1)
  x1 : wr.cell? ⟨w.heap.size, 1, none⟩ = some (Value.string e.2)
theorem Sr.below {w wr w' : World} {A : Option Addr} {n c : Nat} {l : List (Int × ByteArray)} {e : Int × ByteArray} (h : Sr w A n c l e wr) (hb : Below wr.heap.size wr w') : Sr w A n c l e w' :=
  ⟨h.b.trans (hb.mono h.b.size), h.r.below hb, cell_b h.x0 hb, cell_b h.x1 hb⟩

/-- What a comparison reads. -/
abbrev Sq (w : World) (g : Nat) (q : Addr) (y e : Int × ByteArray) (w' : World) : Prop :=
  Below w.heap.size w w' ∧ w'.cell? q = some (.int .i64 y.1) ∧ w'.cell? ⟨q.block, q.off + 1, none⟩ = some (Value.string y.2) ∧ w'.cell? ⟨g, 0, none⟩ = some (.int .i64 e.1) ∧ w'.cell? ⟨g, 1, none⟩ = some (Value.string e.2)
theorem sq_below {w w' w1 : World} {g : Nat} {q : Addr} {y e : Int × ByteArray} (h : Sq w g q y e w1) (hb : Below w1.heap.size w1 w') : Sq w g q y e w' :=
  ⟨h.1.trans (hb.mono h.1.size), cell_b h.2.1 hb, cell_b h.2.2.1 hb, cell_b h.2.2.2.1 hb, cell_b h.2.2.2.2 hb⟩
theorem sq_drew {w w1 : World} {g : Nat} {q : Addr} {y e : Int × ByteArray} (h : Sq w g q y e w1) : Sq w g q y e w1.drew := sq_below h ((Below.refl _ _).drew)

set_option maxHeartbeats 2000000 in
theorem search_calls (A : Option Addr) (n c : Nat) (l : List (Int × ByteArray)) (e : Int × ByteArray) (w : World) (hr : RdE w A n c l) (ho : l.Pairwise (fun a b => bef ltS a b = true)) (hn : n ≤ 1099511627776) :
    Calls Tryz.prog 88 #[.slice A n c, .agg #[.int .i64 e.1, .string e.2], .func (.func 89) #[] #[]] w fun e' w' => ∃ b, e' = .returned (.tuple #[.int .i64 (posL ltS l e : Nat), .bool b]) ∧ Below w.heap.size w w' := by
  have hl : l.length = n := rde_len hr
  have hc := hr.cap
  have S0 : Sr w A n c l e (w.alloc (eo e)) := ⟨al w _, hr.below (al w _), (eo_cells w e).1, (eo_cells w e).2⟩
  obtain ⟨t, k⟩ := e
  have Ho := Lib.hid ho
  have HL := Lib.hid hl
  clear ho hr hl
  go_enter Tryz.func88, Tryz.ntmps88
  go_wp2_with fail
  go_loopw [9, 10] (fun i j wr => ∃ lo hi : Nat, i = .int .i64 lo ∧ j = .int .i64 hi ∧ lo ≤ hi ∧ hi ≤ n ∧ Hid ((∀ t' y, t' < lo → l[t']? = some y → bef ltS y (t, k) = true) ∧ (∀ t' y, hi ≤ t' → l[t']? = some y → bef ltS y (t, k) = false)) ∧ Sr w A n c l (t, k) wr) (fun i j _ => (intOf j).toNat - (intOf i).toNat)
  case atStart => exact ⟨0, n, rfl, rfl, Nat.zero_le _, Nat.le_refl _, (show Hid _ from ⟨fun t' y h => by omega, fun t' y h hy => by have := (List.getElem?_eq_some_iff.1 hy).1; have := HL.out; omega⟩), S0⟩
  case round =>
    clear S0
    obtain ⟨lo, hi, rfl, rfl, h1, h2, I, S⟩ := hrel
    by_cases hlt : lo < hi
    · obtain ⟨m, hm⟩ : ∃ m, (lo + hi) / 2 = m := ⟨_, rfl⟩
      have hmn : m < n := by omega
      have hmi : ((lo : Int) + (hi : Int)) / 2 = (m : Int) := by omega
      obtain ⟨y, hy⟩ : ∃ y, l[m]? = some y := ⟨_, List.getElem?_eq_getElem (by have := HL.out; omega)⟩
      have HY := Lib.hid hy
      obtain ⟨p, rfl, c0, c1⟩ := rde_get S.r hy
      have HM := Lib.hid hmi
      have x0 := S.x0
      have x1 := S.x1
      obtain ⟨y1, y2⟩ := y
      clear hy hmi
      have hcall := fun w' => before_calls (y1, y2) (t, k) w'
      go_wp2_with fail
      rw [HM.out]
      have HS : Sq wr w.heap.size (p.add (m * 2)) (y1, y2) (t, k) wr := ⟨Below.refl _ _, c0, c1, x0, x1⟩
      go_region_held3 (fun w' => Sq wr w.heap.size (p.add (m * 2)) (y1, y2) (t, k) w')
        (first | exact sq_drew HS | assumption | exact sq_below (by assumption) (by assumption))
        (first
          | (go_at_call 89; refine (hcall _).mono ?_; rintro e w5 ⟨rfl, hb5⟩))
      have S5 := (S.below ((Below.refl _ _).drew)).below hb5
      clear hb5 HS hcall c0 c1 x0 x1 S
      by_cases hb : bef ltS (y1, y2) (t, k) = true
      · have hneg := (cmp_neg ltS (y1, y2) (t, k)).2 hb
        generalize cmpE ltS (y1, y2) (t, k) = C at *
        have I2 : Hid ((∀ t' y, t' < m + 1 → l[t']? = some y → bef ltS y (t, k) = true) ∧ (∀ t' y, hi ≤ t' → l[t']? = some y → bef ltS y (t, k) = false)) :=
          (show _ ∧ _ from ⟨fun t' y h hy => below_at Ho.out (by omega) hy HY.out hb, I.out.2⟩)
        clear hb
        go_wp2_with fail
        exact ⟨⟨m + 1, hi, by go_num, rfl, by omega, h2, I2, S5⟩, by simp [intOf]; omega⟩
      · have hneg : ¬ cmpE ltS (y1, y2) (t, k) < 0 := fun h => hb ((cmp_neg ltS (y1, y2) (t, k)).1 h)
        generalize cmpE ltS (y1, y2) (t, k) = C at *
        have I2 : Hid ((∀ t' y, t' < lo → l[t']? = some y → bef ltS y (t, k) = true) ∧ (∀ t' y, m ≤ t' → l[t']? = some y → bef ltS y (t, k) = false)) :=
          (show _ ∧ _ from ⟨I.out.1, fun t' y h hy => by
            cases hc : bef ltS y (t, k)
            · rfl
            · exact absurd (below_at Ho.out h HY.out hy hc) hb⟩)
        clear hb
        go_wp2_with fail
        exact ⟨⟨lo, m, rfl, rfl, by omega, by omega, I2, S5⟩, by simp [intOf]; omega⟩
    · obtain rfl : lo = hi := by omega
      have P : Hid (posL ltS l (t, k) = lo) := pos_bound (by have := HL.out; omega) I.out.1 I.out.2
      by_cases hln : lo < n
      · obtain ⟨y, hy⟩ : ∃ y, l[lo]? = some y := ⟨_, List.getElem?_eq_getElem (by have := HL.out; omega)⟩
        obtain ⟨p, rfl, c0, c1⟩ := rde_get S.r hy
        have x0 := S.x0
        have x1 := S.x1
        obtain ⟨y1, y2⟩ := y
        clear hy
        have hcall := fun w' => before_calls (y1, y2) (t, k) w'
        go_wp2_with fail
        have HS : Sq wr w.heap.size (p.add (lo * 2)) (y1, y2) (t, k) wr := ⟨Below.refl _ _, c0, c1, x0, x1⟩
        go_region_held3 (fun w' => Sq wr w.heap.size (p.add (lo * 2)) (y1, y2) (t, k) w')
          (first | exact sq_drew HS | assumption | exact sq_below (by assumption) (by assumption))
          (first
            | (go_at_call 89; refine (hcall _).mono ?_; rintro e w5 ⟨rfl, hb5⟩))
        have S5 := (S.below ((Below.refl _ _).drew)).below hb5
        go_wp2_with fail
        go_ret2
        exact ⟨_, by rw [P.out] <;> rfl, S5.b⟩
      · obtain rfl : lo = n := by omega
        go_wp2_with fail
        go_quiet (fail)
        go_wp2_with fail
        go_ret2
        exact ⟨_, by rw [P.out] <;> rfl, below_drawn_ S.b _⟩
end Go.Proofs.YtjofbagaobdmoaaGreat.DsD
