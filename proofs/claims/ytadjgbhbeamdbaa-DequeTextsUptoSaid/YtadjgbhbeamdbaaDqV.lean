/-
  What the document's functions over lists hand back: PushFront, place, At, Put, Piece. Conditions: as stated.
-/
import Derived.Test.YtadjgbhbeamdbaaDqU
import Derived.Test.YtadjgbhbeamdbaaDqC
import Derived.Test.YtadjgbhbeamdbaaDqE
set_option maxRecDepth 100000
set_option linter.unusedSimpArgs false
set_option linter.unusedVariables false
namespace Go.Proofs.Ytadjgbhbeamdbaa.DqV
open Go.RowKit Go.Proofs.Ytadjgbhbeamdbaa.Mem Go.Proofs.Ytadjgbhbeamdbaa.DqA Go.Proofs.Ytadjgbhbeamdbaa.DqB Go.Proofs.Ytadjgbhbeamdbaa.DqC Go.Proofs.Ytadjgbhbeamdbaa.DqD Go.Proofs.Ytadjgbhbeamdbaa.DqF Go.Proofs.Ytadjgbhbeamdbaa.DqI Go.Proofs.Ytadjgbhbeamdbaa.DqO Go.Proofs.Ytadjgbhbeamdbaa.DqU

theorem rPush_calls (A B : Option Addr) (n m c d : Nat) (l k : List Int) (w : World) (ha : RdI w A n c l) (hb : RdI w B m d k) (hn : n + m ≤ 4194304) :
    Calls Try.prog 8 #[.slice A n c, .slice B m d] w (NewI w (k.reverse ++ l)) := by
  obtain rfl := rdi_len ha
  obtain rfl := rdi_len hb
  go_enter Try.func8, Try.ntmps8
  go_wp2_with fail
  refine (turned_calls B _ d k w hb (by omega)).mono ?_
  rintro e w1 ⟨s1, rfl, o1, b1⟩
  obtain ⟨A1, c1, rfl⟩ := own_form o1
  have r1 := Rd.of_own o1
  rw [List.length_reverse] at r1
  go_wp2_with fail
  refine (joined_calls A1 A _ _ c1 c k.reverse l _ r1 (ha.below b1) (by omega)).mono ?_
  rintro e w2 ⟨s2, rfl, o2, b2⟩
  obtain ⟨L, hL⟩ : ∃ L, L = k.reverse ++ l := ⟨_, rfl⟩
  rw [← hL] at o2
  have HL := Lib.hid hL
  clear hL
  obtain ⟨A2, c2, rfl⟩ := own_form o2
  go_wp2_with fail
  go_ret
  exact ⟨.slice A2 L.length c2, rfl, by rw [← HL.out]; exact own_less o2 b1.size, below_new b1 b2⟩

theorem join_none4 (A : Option Addr) (n c : Nat) (L : List Int) (w : World) (hr : RdI w A n c L) (hn : n ≤ 4194304) :
    Calls Try.prog 10 #[.slice A n c, .slice none 0 0] w (NewI w L) := by
  have := joined_calls A none n 0 c 0 L [] w hr (Rd.nil _ _) (by omega)
  rwa [List.append_nil] at this
/-- A cell of an own slice. -/
theorem own_at {w : World} {B n c j : Nat} {A : Option Addr} {L : List Int} (h : OwnI w B (.slice A n c) L) (hj : j < n) :
    ∃ b x, A = some ⟨b, 0, none⟩ ∧ w.cell? ⟨b, j, none⟩ = some (.int .i64 x) ∧ w.frozen? ⟨b, j, none⟩ = false := by
  have hn : L.length = n := own_n h
  rcases h.2 with ⟨e, _⟩ | ⟨b, cap, cur, e, _⟩
  · injection e with _ e; omega
  injection e with e1 e2 e3
  subst e1
  obtain ⟨y, hy⟩ : ∃ y, L[j]? = some y := ⟨_, List.getElem?_eq_getElem (by omega)⟩
  have hc := World.ownsRow.cells h (g := b) rfl j (.int .i64 y) (by simp [ints, hy])
  rw [add_mk, Nat.zero_add] at hc
  exact ⟨b, y, rfl, hc, World.ownsRow.frozenAt (by unfold OwnI at h; rw [hn] at h; exact h) j⟩

/-- A place from the front; -1: there is none. -/
def placeR (n : Nat) (i : Int) : Int := if 0 ≤ (if i < 0 then i + n else i) ∧ (if i < 0 then i + n else i) < n then (if i < 0 then i + n else i) else -1
theorem rPlace_calls (A : Option Addr) (n c : Nat) (i : Int) (w : World) (hn : n ≤ 4194304) (i1 : -9223372036854775808 ≤ i) (i2 : i ≤ 9223372036854775807) :
    Calls Try.prog 42 #[.slice A n c, .int .i64 i] w fun e w' => e = .returned (.int .i64 (placeR n i)) ∧ w' = w := by
  go_enter Try.func42, Try.ntmps42
  go_wp2_with fail
  all_goals
    go_ret
    exact ⟨ret_i (by unfold placeR; grind), rfl⟩
theorem place_lt {n : Nat} {i : Int} {k : Nat} (h : placeN n i = some k) : k < n := by unfold placeN at h; grind
theorem place_neg {n : Nat} {i : Int} (h : placeN n i = none) : placeR n i = -1 := by unfold placeN at h; unfold placeR; grind
theorem place_pos {n : Nat} {i : Int} {k : Nat} (h : placeN n i = some k) : placeR n i = (k : Int) := by unfold placeN at h; unfold placeR; grind

set_option maxHeartbeats 1000000 in
theorem rAt_calls (A : Option Addr) (n c : Nat) (l : List Int) (i : Int) (w : World) (hr : RdI w A n c l) (hn : n ≤ 4194304) (i1 : -9223372036854775808 ≤ i) (i2 : i ≤ 9223372036854775807) :
    Calls Try.prog 22 #[.slice A n c, .int .i64 i] w (AtPost l i w) := by
  obtain rfl := rdi_len hr
  rcases hp : placeN l.length i with _ | k
  · have hneg := place_neg hp
    have HP := Lib.hid hp
    clear hp
    go_enter Try.func22, Try.ntmps22
    go_wp2_with fail
    refine (rPlace_calls A _ c i w hn i1 i2).mono ?_
    rintro e w1 ⟨rfl, rfl⟩
    rw [hneg]
    go_wp2_with fail
    go_ret2
    exact ⟨0, false, rfl, by rw [HP.out]; rfl, by rw [HP.out]; rfl, 0, rfl⟩
  · have hpos := place_pos hp
    have hlt := place_lt hp
    have HP := Lib.hid hp
    obtain ⟨x, hx⟩ : ∃ x, l[k]? = some x := ⟨_, List.getElem?_eq_getElem hlt⟩
    obtain ⟨p, rfl, cp⟩ := hr.get k (.int .i64 x) (by simp [ints, hx])
    have HX := Lib.hid hx
    clear hp hx
    go_enter Try.func22, Try.ntmps22
    go_wp2_with fail
    refine (rPlace_calls _ _ c i w hn i1 i2).mono ?_
    rintro e w1 ⟨rfl, rfl⟩
    rw [hpos]
    go_wp2_with fail
    go_ret2
    exact ⟨x, true, rfl, by rw [HP.out]; rfl, by rw [HP.out]; simp [HX.out], 0, rfl⟩

def PutPost (A : Option Addr) (n c : Nat) (l : List Int) (i x : Int) (w : World) (e : Ending) (w' : World) : Prop :=
  (placeN l.length i = none ∧ e = .returned (.tuple #[.slice A n c, .bool false]) ∧ w' = w) ∨
  ∃ k s, placeN l.length i = some k ∧ e = .returned (.tuple #[s, .bool true]) ∧ OwnI w' w.heap.size s (l.set k x) ∧ Below w.heap.size w w'

/-- The first place of a piece, the last one (as the document reckons them). -/
def pFrom (n : Nat) (f : Int) : Int := if (if f < 0 then f + n else f) < 0 then 0 else (if f < 0 then f + n else f)
def pTo (n : Nat) (t : Int) : Int := if (if t < 0 then t + n else t) > (n : Int) - 1 then (n : Int) - 1 else (if t < 0 then t + n else t)
theorem piece_doc (l : List Int) (f t : Int) : pieceL l f t = (l.drop (pFrom l.length f).toNat).take (pTo l.length t + 1 - pFrom l.length f).toNat := by
  obtain ⟨a, b, hab, h1, h2⟩ := ends_nat l.length f t
  unfold pieceL
  rw [hab]
  simp only [Int.toNat_natCast]
  rw [List.drop_take]
  by_cases h0 : pFrom l.length f > pTo l.length t
  · have hb : b - a = 0 := by
      have hn := hab
      unfold endsN at hn
      unfold pFrom pTo at h0
      grind
    rw [hb, show (pTo l.length t + 1 - pFrom l.length f).toNat = 0 by omega, List.take_zero, List.take_zero]
  · have hb : (a : Int) = pFrom l.length f ∧ (b : Int) = pTo l.length t + 1 := by
      have hn := hab
      unfold endsN at hn
      unfold pFrom pTo at h0 ⊢
      grind
    rw [← hb.1, ← hb.2]
    simp only [Int.toNat_natCast]
    congr 1
    omega

end Go.Proofs.Ytadjgbhbeamdbaa.DqV
