/-
  What a Deque's Remove hands back and leaves. Conditions: as stated.
-/
import Derived.Test.YtadjgbhbeamdbaaDqD
set_option maxRecDepth 100000
set_option linter.unusedSimpArgs false
set_option linter.unusedVariables false
namespace Go.Proofs.Ytadjgbhbeamdbaa.DqF
open Go.RowKit Go.Proofs.Ytadjgbhbeamdbaa.Mem Go.Proofs.Ytadjgbhbeamdbaa.DqA Go.Proofs.Ytadjgbhbeamdbaa.DqB Go.Proofs.Ytadjgbhbeamdbaa.DqD

theorem reverse_nil (w : World) : Calls Try.prog 47 #[.slice none 0 0] w fun e w' => e = .returned (.tuple #[]) ∧ w' = w := by
  go_enter Try.func47, Try.ntmps47
  go_wp2
  refine wp_loop_rounds 1 ?_
  rw [rounds_succ]
  go_wp2
  go_end0
  exact ⟨rfl, rfl⟩
theorem reverse_any (B n c : Nat) (A : Option Addr) (l : List Int) (w : World) (ho : OwnI w B (.slice A n c) l) :
    Calls Try.prog 47 #[.slice A n c] w fun e w' => e = .returned (.tuple #[]) ∧ OwnI w' B (.slice A n c) l.reverse ∧ Only (fun k => Value.ownBlock (.slice A n c) = some k) w w' := by
  rcases ho.2 with ⟨e, h0⟩ | ⟨g, cap, cur, e, h1⟩
  · injection e with e1 e2 e3
    subst e1 e2 e3
    have hl : l = [] := List.eq_nil_of_length_eq_zero h0
    subst hl
    refine (reverse_nil w).mono ?_
    rintro e w' ⟨rfl, rfl⟩
    exact ⟨rfl, ho, Only.refl _ _⟩
  · injection e with e1 e2 e3
    subst e1
    refine (reverse_calls B g n c l w ho).mono ?_
    rintro e w' ⟨rfl, h2, h3⟩
    exact ⟨rfl, h2, h3.mono fun b hb => by rw [hb]; rfl⟩

/-- The list without the first m that are v. -/
def rmF (v : Int) : List Int → Int → List Int
  | [], _ => []
  | x :: r, m => if x = v ∧ 0 < m then rmF v r (m - 1) else x :: rmF v r m
def mostN (n count : Int) : Int := if 0 < count then min n count else if count < 0 ∧ count ≠ -9223372036854775808 then min n (-count) else n
def removeL (l : List Int) (count v : Int) : List Int := if count < 0 then (rmF v l.reverse (mostN l.length count)).reverse else rmF v l (mostN l.length count)
theorem most_cases {n count m : Int} (h : m = mostN n count) : (0 < count ∧ ((m = count ∧ count ≤ n) ∨ (m = n ∧ n ≤ count))) ∨ (count < 0 ∧ count ≠ -9223372036854775808 ∧ ((m = -count ∧ -count ≤ n) ∨ (m = n ∧ n ≤ -count))) ∨ ((count = 0 ∨ count = -9223372036854775808) ∧ m = n) := by
  subst h
  unfold mostN
  by_cases h1 : 0 < count
  · rw [if_pos h1]; omega
  · rw [if_neg h1]
    by_cases h2 : count < 0 ∧ count ≠ -9223372036854775808
    · rw [if_pos h2]; omega
    · rw [if_neg h2]; omega
theorem rm_len (v : Int) : ∀ (l : List Int) (m : Int), (rmF v l m).length ≤ l.length
  | [], _ => Nat.le_refl _
  | x :: r, m => by
    unfold rmF
    split
    · have := rm_len v r (m - 1); simp; omega
    · have := rm_len v r m; simp; omega
theorem rm_gone {v : Int} {L out : List Int} {k : Nat} {m : Int} {x : Int} (hx : L[k]? = some x) (hv : x = v) (hm : 0 < m) : out ++ rmF v (L.drop k) m = out ++ rmF v (L.drop (k + 1)) (m - 1) := by
  obtain ⟨hk, e⟩ := List.getElem?_eq_some_iff.1 hx
  rw [List.drop_eq_getElem_cons hk, e, rmF, if_pos ⟨hv, hm⟩]
theorem rm_keep {v : Int} {L out : List Int} {k : Nat} {m : Int} {x : Int} (hx : L[k]? = some x) (h : ¬ (x = v ∧ 0 < m)) : out ++ rmF v (L.drop k) m = (out ++ [x]) ++ rmF v (L.drop (k + 1)) m := by
  obtain ⟨hk, e⟩ := List.getElem?_eq_some_iff.1 hx
  rw [List.drop_eq_getElem_cons hk, e, rmF, if_neg h]; simp

/-- A Deque whose store is just what it holds. -/
def Fresh (w : World) (B g : Nat) (v : Value) (l : List Int) : Prop := w.heap[g]? = some (.cells #[v, .int .i64 0] 74 (0, 0)) ∧ B ≤ g ∧ OwnI w B v l ∧ v.ownBlock ≠ some g
/-- What Remove leaves: a new store. -/
def RemovePost (B g : Nat) (v : Value) (l l' : List Int) (w : World) (e : Ending) (w' : World) : Prop :=
  ∃ v', e = .returned (.int .i64 ((l.length : Int) - l'.length)) ∧ Dq w' B g v' l' ∧ Only (fun k => k = g) w w' ∧ (∀ k, v'.ownBlock = some k → w.heap.size ≤ k) ∧ Fresh w' B g v' l'

/-- A new store, all of it in use. -/
theorem dq_new {w wr w' : World} {B g : Nat} {v v' : Value} {l l' : List Int} (hd : Dq w B g v l) (hb : Below w.heap.size w wr) (ho : OwnI wr w.heap.size v' l') (hl : l'.length ≤ 17592186044416)
    (hw : w' = (wr.setCell ⟨g, 0, none⟩ v').setCell ⟨g, 1, none⟩ (.int .i64 0)) :
    Dq w' B g v' l' ∧ Only (fun k => k = g) w w' ∧ (∀ k, v'.ownBlock = some k → w.heap.size ≤ k) ∧ Fresh w' B g v' l' := by
  have hg := hd.lt
  obtain ⟨xs, f, h1, h2, _⟩ := hd
  have h1' : wr.heap[g]? = some (.cells #[v, .int .i64 f] 74 (0, 0)) := (hb.block g hg).trans h1
  have hne : ∀ k, v'.ownBlock = some k → w.heap.size ≤ k := fun k hk => (ho.lt k hk).1
  have hO : Only (fun k => k = g) w w' := by
    subst hw
    exact (((Only.of_below hb).mono (S' := fun b => b = g ∨ w.heap.size ≤ b) (fun b hb => .inr hb)).put (p := ⟨g, 0, none⟩) (.inl (.inl rfl)) _).put (p := ⟨g, 1, none⟩) (.inl (.inl rfl)) _ |> fun h =>
      ⟨h.os, h.tape, h.output, h.size, fun k hk hn => h.block k hk (fun x => x.elim hn (by omega))⟩
  have hheap : w'.heap[g]? = some (.cells #[v', .int .i64 0] 74 (0, 0)) := by
    subst hw
    simp [World.setCell, Array.getElem?_modify, h1']
  have hown : OwnI w' B v' l' := by
    subst hw
    have hgb : ∀ k, v'.ownBlock = some k → ¬ (k = g) := fun k hk e => by have := hne k hk; omega
    have o2 := own_only ho (((Only.refl (fun k => k = g) wr).put (p := ⟨g, 0, none⟩) (.inl rfl) v').put (p := ⟨g, 1, none⟩) (.inl rfl) (.int .i64 0)) hgb
    rcases o2.2 with h | ⟨g', cap, cur, e, h3, h4⟩
    · exact ⟨o2.1, .inl h⟩
    · exact ⟨o2.1, .inr ⟨g', cap, cur, e, by have := hne g' (by rw [e]; rfl); have := h2; omega, h4⟩⟩
  have hneg : v'.ownBlock ≠ some g := fun e => by have := hne g e; omega
  exact ⟨⟨l', 0, hheap, h2, hown, Nat.zero_le _, rfl, hneg, hl⟩, hO, hne, hheap, h2, hown, hneg⟩

theorem dq_cells {w wr : World} {B g : Nat} {v : Value} {l : List Int} (hd : Dq w B g v l) (hb : Below w.heap.size w wr) :
    wr.cell? ⟨g, 0, none⟩ = some v ∧ (∃ f : Nat, wr.cell? ⟨g, 1, none⟩ = some (.int .i64 f)) ∧ wr.frozen? ⟨g, 0, none⟩ = false ∧ wr.frozen? ⟨g, 1, none⟩ = false := by
  have hg := hd.lt
  obtain ⟨xs, f, h1, h2, _⟩ := hd
  have h1' := (hb.block g hg).trans h1
  exact ⟨by simp [World.cell?, h1'], ⟨f, by simp [World.cell?, h1']⟩, by simp [World.frozen?, h1'], by simp [World.frozen?, h1']⟩
theorem ints_get {l : List Int} {j : Nat} {y : Int} (h : l[j]? = some y) : (ints l)[j]? = some (Value.int .i64 y) := by simp [ints, h]
theorem ret_i {a b : Int} (h : a = b) : Ending.returned (.int .i64 a) = .returned (.int .i64 b) := by rw [h]

set_option maxHeartbeats 8000000 in
theorem remove_calls (B g : Nat) (v : Value) (l : List Int) (count x : Int) (w : World) (hd : Dq w B g v l)
    (f1 : -9223372036854775808 ≤ count) (f2 : count ≤ 9223372036854775807) :
    Calls Try.prog 32 #[.pointer (some ⟨g, 0, none⟩), .int .i64 count, .int .i64 x] w (RemovePost B g v l (removeL l count x) w) := by
  have hbd := dq_bound hd
  obtain ⟨m, hm⟩ : ∃ m, m = mostN l.length count := ⟨_, rfl⟩
  go_enter Try.func32, Try.ntmps32
  go_wp2_with fail
  refine (all_calls B g v l _ hd).mono ?_
  rintro e w1 ⟨A, n, c, nd, rfl, hr, hn, hA, rfl⟩
  obtain rfl := hn
  go_wp2_with fail
  refine (clone_calls _ _ _ l _ (hr.drawn nd) (by omega)).mono ?_
  rintro e w1 ⟨v1, rfl, ho, hb⟩
  obtain ⟨A1, c1, rfl⟩ := own_form ho
  have hb0 : Below w.heap.size w w1 := ⟨hb.os, hb.tape, hb.output, hb.size, hb.block⟩
  have ho0 : OwnI w1 w.heap.size (.slice A1 l.length c1) l := ho
  clear hb ho
  by_cases hneg : count < 0
  · by_cases hmin : count = -9223372036854775808
    · obtain ⟨R, hR⟩ : ∃ R, R = rmF x l.reverse m := ⟨_, rfl⟩
      have HR := Lib.hid hR
      have HFin : Hid (removeL l count x = R.reverse) := by unfold Hid removeL; rw [if_pos hneg, ← hm, ← hR]
      have HM := Lib.hid (most_cases hm)
      clear hR hm
      have hmn : (count != -9223372036854775808) = false := by rw [hmin]; rfl
      have hle : count ≤ -9223372036854775808 := by omega
      clear hmin
      go_wp2_with fail
      all_goals
        refine (reverse_any _ _ _ _ _ _ ho0).mono ?_
        rintro e wq ⟨rfl, hoL, hOq⟩
        have hL0 : OwnI w1 w.heap.size (.slice A1 l.length c1) l := ho0
        have hW := hOq.size
        have hbq : Below w.heap.size w wq := hOq.after hb0 (Nat.le_refl _) (fun b hb => (ho0.lt b hb).1)
        have HL : Hid (l.reverse.length = l.length) := by simp [Hid]
        go_wp2_with fail
        go_loopw [9, 10, 41] (fun gn o i wr => ∃ (k G : Nat) (out : List Int), k ≤ l.length ∧ out.length + G = k ∧ gn = .int .i64 G ∧ i = .int .i64 k ∧ OwnI wr wq.heap.size o out ∧ OwnI wr w.heap.size (.slice A1 l.length c1) l.reverse ∧ Below w.heap.size w wr ∧ wq.heap.size ≤ wr.heap.size ∧ Hid (R = out ++ rmF x (l.reverse.drop k) (m - G))) (fun _ _ i _ => l.length - (intOf i).toNat)
        case atStart => exact ⟨0, 0, [], Nat.zero_le _, rfl, rfl, rfl, World.ownsRow_nil _ _ _ _, hoL, hbq, Nat.le_refl _, by show R = _; rw [HR.out]; simp⟩
        case round =>
          obtain ⟨k, G, out, h1, h2, rfl, rfl, ho, hoL', hb', hsz, he⟩ := hrel
          obtain ⟨A', c', rfl⟩ := own_form ho
          have hsz0 := hb'.size
          have H2 := Lib.hid h2
          have h2' : out.length ≤ k := by omega
          have h2g : G ≤ k := by omega
          clear h2
          by_cases hlt : k < l.length
          · obtain ⟨y, hy⟩ : ∃ y, l.reverse[k]? = some y := ⟨_, List.getElem?_eq_getElem (by rw [HL.out]; exact hlt)⟩
            have hrd := Rd.of_own (by have := hoL'; unfold OwnI at this; rw [HL.out] at this; exact this)
            have hnp := hL0.lt
            obtain ⟨p, rfl, cy⟩ := hrd.get k (.int .i64 y) (ints_get hy)
            have Hy := Lib.hid hy
            clear hy hrd
            go_wp2_with (at_builtin; refine wpList_app1 rfl (.tmp 55) (.tmp 57) elI rfl wq.heap.size _ _ _ rfl ho (.int .i64 _) rfl rfl (by unfold maxLen; omega) (by omega) hsz ?_; intro v1 w1 o1 b1 f1)
            all_goals
              have hq := H2.out
              have hM := HM.out
            all_goals first
              | (have C : y = x ∧ 0 < m - (G : Int) := by (try simp only [beq_iff_eq, beq_eq_false_iff_ne, ne_eq] at *); exact ⟨by assumption, by omega⟩
                 exact ⟨⟨k + 1, G + 1, out, by omega, by omega, by go_num, by go_num, ho, hoL', hb', hsz, he.out.trans (by rw [rm_gone Hy.out C.1 C.2]; congr 2; omega)⟩, by simp [intOf]; omega⟩)
              | (have C : ¬ (y = x ∧ 0 < m - (G : Int)) := by (try simp only [beq_iff_eq, beq_eq_false_iff_ne, ne_eq] at *); rintro ⟨e1, e2⟩; first | contradiction | omega
                 exact ⟨⟨k + 1, G, out ++ [y], by omega, by simp; omega, rfl, by go_num, (by first | exact own_snoc o1 | (rw [(by assumption : y = x)]; exact own_snoc o1)), own_only hoL' b1 (fun b h1 h2 => by have := ho.lt b h2; have := (hnp b h1).2; omega), b1.after hb' (Nat.le_refl _) (fun b hb => by have := ho.lt b hb; have := hbq.size; omega), by have := b1.size; omega, he.out.trans (rm_keep Hy.out C)⟩, by simp [intOf]; omega⟩)
          · obtain rfl : k = l.length := by omega
            have hR2 : R = out := by rw [he.out, List.drop_of_length_le (by rw [HL.out]; omega)]; simp [rmF]
            have HR2 := Lib.hid hR2
            obtain ⟨c0, ⟨f0, cc1⟩, fz0, fz1⟩ := dq_cells hd hb'
            clear hR2
            go_wp2_with fail
            refine (reverse_any _ _ _ _ _ _ ho).mono ?_
            rintro e w3 ⟨rfl, ho3, hO3⟩
            have hb3 : Below w.heap.size w w3 := hO3.after hb' (Nat.le_refl _) (fun b hb => by have := ho.lt b hb; have := hbq.size; omega)
            obtain ⟨c0, ⟨f0, cc1⟩, fz0, fz1⟩ := dq_cells hd hb3
            go_wp2_with fail
            go_ret
            have hq := H2.out
            have hN := dq_new hd hb3 (own_less ho3 hbq.size) (by simp; omega) rfl
            refine ⟨_, ?_, by rw [HFin.out, HR2.out]; exact hN.1, hN.2.1, hN.2.2.1, by rw [HFin.out, HR2.out]; exact hN.2.2.2⟩
            rw [HFin.out, HR2.out]
            exact ret_i (by simp; omega)
    · obtain ⟨R, hR⟩ : ∃ R, R = rmF x l.reverse m := ⟨_, rfl⟩
      have HR := Lib.hid hR
      have HFin : Hid (removeL l count x = R.reverse) := by unfold Hid removeL; rw [if_pos hneg, ← hm, ← hR]
      have HM := Lib.hid (most_cases hm)
      clear hR hm
      have hmn : (count != -9223372036854775808) = true := by rw [bne_iff_ne]; exact hmin
      have hlo : -9223372036854775807 ≤ count := by omega
      clear hmin
      go_wp2_with fail
      all_goals
        refine (reverse_any _ _ _ _ _ _ ho0).mono ?_
        rintro e wq ⟨rfl, hoL, hOq⟩
        have hL0 : OwnI w1 w.heap.size (.slice A1 l.length c1) l := ho0
        have hW := hOq.size
        have hbq : Below w.heap.size w wq := hOq.after hb0 (Nat.le_refl _) (fun b hb => (ho0.lt b hb).1)
        have HL : Hid (l.reverse.length = l.length) := by simp [Hid]
        go_wp2_with fail
        go_loopw [9, 10, 41] (fun gn o i wr => ∃ (k G : Nat) (out : List Int), k ≤ l.length ∧ out.length + G = k ∧ gn = .int .i64 G ∧ i = .int .i64 k ∧ OwnI wr wq.heap.size o out ∧ OwnI wr w.heap.size (.slice A1 l.length c1) l.reverse ∧ Below w.heap.size w wr ∧ wq.heap.size ≤ wr.heap.size ∧ Hid (R = out ++ rmF x (l.reverse.drop k) (m - G))) (fun _ _ i _ => l.length - (intOf i).toNat)
        case atStart => exact ⟨0, 0, [], Nat.zero_le _, rfl, rfl, rfl, World.ownsRow_nil _ _ _ _, hoL, hbq, Nat.le_refl _, by show R = _; rw [HR.out]; simp⟩
        case round =>
          obtain ⟨k, G, out, h1, h2, rfl, rfl, ho, hoL', hb', hsz, he⟩ := hrel
          obtain ⟨A', c', rfl⟩ := own_form ho
          have hsz0 := hb'.size
          have H2 := Lib.hid h2
          have h2' : out.length ≤ k := by omega
          have h2g : G ≤ k := by omega
          clear h2
          by_cases hlt : k < l.length
          · obtain ⟨y, hy⟩ : ∃ y, l.reverse[k]? = some y := ⟨_, List.getElem?_eq_getElem (by rw [HL.out]; exact hlt)⟩
            have hrd := Rd.of_own (by have := hoL'; unfold OwnI at this; rw [HL.out] at this; exact this)
            have hnp := hL0.lt
            obtain ⟨p, rfl, cy⟩ := hrd.get k (.int .i64 y) (ints_get hy)
            have Hy := Lib.hid hy
            clear hy hrd
            go_wp2_with (at_builtin; refine wpList_app1 rfl (.tmp 55) (.tmp 57) elI rfl wq.heap.size _ _ _ rfl ho (.int .i64 _) rfl rfl (by unfold maxLen; omega) (by omega) hsz ?_; intro v1 w1 o1 b1 f1)
            all_goals
              have hq := H2.out
              have hM := HM.out
            all_goals first
              | (have C : y = x ∧ 0 < m - (G : Int) := by (try simp only [beq_iff_eq, beq_eq_false_iff_ne, ne_eq] at *); exact ⟨by assumption, by omega⟩
                 exact ⟨⟨k + 1, G + 1, out, by omega, by omega, by go_num, by go_num, ho, hoL', hb', hsz, he.out.trans (by rw [rm_gone Hy.out C.1 C.2]; congr 2; omega)⟩, by simp [intOf]; omega⟩)
              | (have C : ¬ (y = x ∧ 0 < m - (G : Int)) := by (try simp only [beq_iff_eq, beq_eq_false_iff_ne, ne_eq] at *); rintro ⟨e1, e2⟩; first | contradiction | omega
                 exact ⟨⟨k + 1, G, out ++ [y], by omega, by simp; omega, rfl, by go_num, (by first | exact own_snoc o1 | (rw [(by assumption : y = x)]; exact own_snoc o1)), own_only hoL' b1 (fun b h1 h2 => by have := ho.lt b h2; have := (hnp b h1).2; omega), b1.after hb' (Nat.le_refl _) (fun b hb => by have := ho.lt b hb; have := hbq.size; omega), by have := b1.size; omega, he.out.trans (rm_keep Hy.out C)⟩, by simp [intOf]; omega⟩)
          · obtain rfl : k = l.length := by omega
            have hR2 : R = out := by rw [he.out, List.drop_of_length_le (by rw [HL.out]; omega)]; simp [rmF]
            have HR2 := Lib.hid hR2
            obtain ⟨c0, ⟨f0, cc1⟩, fz0, fz1⟩ := dq_cells hd hb'
            clear hR2
            go_wp2_with fail
            refine (reverse_any _ _ _ _ _ _ ho).mono ?_
            rintro e w3 ⟨rfl, ho3, hO3⟩
            have hb3 : Below w.heap.size w w3 := hO3.after hb' (Nat.le_refl _) (fun b hb => by have := ho.lt b hb; have := hbq.size; omega)
            obtain ⟨c0, ⟨f0, cc1⟩, fz0, fz1⟩ := dq_cells hd hb3
            go_wp2_with fail
            go_ret
            have hq := H2.out
            have hN := dq_new hd hb3 (own_less ho3 hbq.size) (by simp; omega) rfl
            refine ⟨_, ?_, by rw [HFin.out, HR2.out]; exact hN.1, hN.2.1, hN.2.2.1, by rw [HFin.out, HR2.out]; exact hN.2.2.2⟩
            rw [HFin.out, HR2.out]
            exact ret_i (by simp; omega)
  · obtain ⟨R, hR⟩ : ∃ R, R = rmF x l m := ⟨_, rfl⟩
    have HR := Lib.hid hR
    have HFin : Hid (removeL l count x = R) := by unfold Hid removeL; rw [if_neg hneg, ← hm, ← hR]
    have HM := Lib.hid (most_cases hm)
    clear hR hm
    obtain ⟨L, hLe⟩ : ∃ L, L = l := ⟨l, rfl⟩
    have hoL : OwnI w1 w.heap.size (.slice A1 l.length c1) L := by rw [hLe]; exact ho0
    have HL : Hid (L.length = l.length) := by rw [hLe]; exact rfl
    have HR : Hid (R = rmF x L m) := by rw [hLe]; exact HR.out
    clear hLe
    have hbq := hb0
    have hL0 := ho0
    have hW : w1.heap.size ≤ w1.heap.size := Nat.le_refl _
    go_wp2_with fail
    all_goals
      go_loopw [9, 10, 41] (fun gn o i wr => ∃ (k G : Nat) (out : List Int), k ≤ l.length ∧ out.length + G = k ∧ gn = .int .i64 G ∧ i = .int .i64 k ∧ OwnI wr w1.heap.size o out ∧ OwnI wr w.heap.size (.slice A1 l.length c1) L ∧ Below w.heap.size w wr ∧ w1.heap.size ≤ wr.heap.size ∧ Hid (R = out ++ rmF x (L.drop k) (m - G))) (fun _ _ i _ => l.length - (intOf i).toNat)
      case atStart => exact ⟨0, 0, [], Nat.zero_le _, rfl, rfl, rfl, World.ownsRow_nil _ _ _ _, hoL, hbq, Nat.le_refl _, by show R = _; rw [HR.out]; simp⟩
      case round =>
        obtain ⟨k, G, out, h1, h2, rfl, rfl, ho, hoL', hb', hsz, he⟩ := hrel
        obtain ⟨A', c', rfl⟩ := own_form ho
        have hsz0 := hb'.size
        have H2 := Lib.hid h2
        have h2' : out.length ≤ k := by omega
        have h2g : G ≤ k := by omega
        clear h2
        by_cases hlt : k < l.length
        · obtain ⟨y, hy⟩ : ∃ y, L[k]? = some y := ⟨_, List.getElem?_eq_getElem (by rw [HL.out]; exact hlt)⟩
          have hrd := Rd.of_own (by have := hoL'; unfold OwnI at this; rw [HL.out] at this; exact this)
          have hnp := hL0.lt
          obtain ⟨p, rfl, cy⟩ := hrd.get k (.int .i64 y) (ints_get hy)
          have Hy := Lib.hid hy
          clear hy hrd
          go_wp2_with (at_builtin; refine wpList_app1 rfl (.tmp 55) (.tmp 57) elI rfl w1.heap.size _ _ _ rfl ho (.int .i64 _) rfl rfl (by unfold maxLen; omega) (by omega) hsz ?_; intro v1 w1 o1 b1 f1)
          all_goals
            have hq := H2.out
            have hM := HM.out
          all_goals first
            | (have C : y = x ∧ 0 < m - (G : Int) := by (try simp only [beq_iff_eq, beq_eq_false_iff_ne, ne_eq] at *); exact ⟨by assumption, by omega⟩
               exact ⟨⟨k + 1, G + 1, out, by omega, by omega, by go_num, by go_num, ho, hoL', hb', hsz, he.out.trans (by rw [rm_gone Hy.out C.1 C.2]; congr 2; omega)⟩, by simp [intOf]; omega⟩)
            | (have C : ¬ (y = x ∧ 0 < m - (G : Int)) := by (try simp only [beq_iff_eq, beq_eq_false_iff_ne, ne_eq] at *); rintro ⟨e1, e2⟩; first | contradiction | omega
               exact ⟨⟨k + 1, G, out ++ [y], by omega, by simp; omega, rfl, by go_num, (by first | exact own_snoc o1 | (rw [(by assumption : y = x)]; exact own_snoc o1)), own_only hoL' b1 (fun b h1 h2 => by have := ho.lt b h2; have := (hnp b h1).2; omega), b1.after hb' (Nat.le_refl _) (fun b hb => by have := ho.lt b hb; have := hbq.size; omega), by have := b1.size; omega, he.out.trans (rm_keep Hy.out C)⟩, by simp [intOf]; omega⟩)
        · obtain rfl : k = l.length := by omega
          have hR2 : R = out := by rw [he.out, List.drop_of_length_le (by rw [HL.out]; omega)]; simp [rmF]
          have HR2 := Lib.hid hR2
          obtain ⟨c0, ⟨f0, cc1⟩, fz0, fz1⟩ := dq_cells hd hb'
          clear hR2
          go_wp2_with fail
          go_ret
          have hq := H2.out
          have hN := dq_new hd hb' (own_less ho hbq.size) (by omega) rfl
          refine ⟨_, ?_, by rw [HFin.out, HR2.out]; exact hN.1, hN.2.1, hN.2.2.1, by rw [HFin.out, HR2.out]; exact hN.2.2.2⟩
          rw [HFin.out, HR2.out]
          exact ret_i (by omega)
end Go.Proofs.Ytadjgbhbeamdbaa.DqF
