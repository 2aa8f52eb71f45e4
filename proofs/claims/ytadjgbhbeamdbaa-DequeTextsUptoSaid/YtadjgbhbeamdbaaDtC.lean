/-
  What a Deque's ends, Slice, place, At, Trim hand back and leave. Conditions: as stated.
-/
import Derived.Test.YtadjgbhbeamdbaaDtB
set_option maxRecDepth 100000
namespace Go.Proofs.Ytadjgbhbeamdbaa.DtC
open Go.RowKit Go.Proofs.Ytadjgbhbeamdbaa.Mem Go.Proofs.Ytadjgbhbeamdbaa.DtA Go.Proofs.Ytadjgbhbeamdbaa.DtB

/-- A piece's first place, and the one behind its last. -/
def endsN (n : Nat) (f t : Int) : Int × Int :=
  if (if f < 0 then max 0 (f + n) else f) > min (if t < 0 then t + n else t) (n - 1) then (0, 0)
  else (if f < 0 then max 0 (f + n) else f, min (if t < 0 then t + n else t) (n - 1) + 1)

def EndsPost (n : Nat) (f t : Int) (w : World) (e : Ending) (w' : World) : Prop :=
  ∃ a b : Int, e = .returned (.tuple #[.int .i64 a, .int .i64 b]) ∧ (a, b) = endsN n f t ∧ ∃ nd, w' = w.drewN nd

set_option maxHeartbeats 1000000 in
theorem ends_calls (B g : Nat) (v : Value) (l : List ByteArray) (f t : Int) (w : World) (hd : Dq w B g v l)
    (f1 : -9223372036854775808 ≤ f) (f2 : f ≤ 9223372036854775807) (t1 : -9223372036854775808 ≤ t) (t2 : t ≤ 9223372036854775807) :
    Calls Try.prog 43 #[.pointer (some ⟨g, 0, none⟩), .int .i64 f, .int .i64 t] w (EndsPost l.length f t w) := by
  have hb := dq_bound hd
  go_enter Try.func43, Try.ntmps43
  go_wp2_with fail
  refine (len_calls B g v l w hd).mono ?_
  rintro e w1 ⟨rfl, nd, rfl⟩
  go_wp2_with fail
  all_goals
    go_ret2
    refine ⟨_, _, rfl, ?_, nd, rfl⟩
    unfold endsN
    grind

theorem ends_nat (n : Nat) (f t : Int) : ∃ a b : Nat, endsN n f t = ((a : Int), (b : Int)) ∧ a ≤ b ∧ b ≤ n := by
  refine ⟨(endsN n f t).1.toNat, (endsN n f t).2.toNat, ?_⟩
  unfold endsN
  grind

/-- A piece of a list. -/
def pieceL (l : List ByteArray) (f t : Int) : List ByteArray := (l.take (endsN l.length f t).2.toNat).drop (endsN l.length f t).1.toNat

set_option maxHeartbeats 1000000 in
theorem slice_calls (B g : Nat) (v : Value) (l : List ByteArray) (f t : Int) (w : World) (hd : Dq w B g v l)
    (f1 : -9223372036854775808 ≤ f) (f2 : f ≤ 9223372036854775807) (t1 : -9223372036854775808 ≤ t) (t2 : t ≤ 9223372036854775807) :
    Calls Try.prog 23 #[.pointer (some ⟨g, 0, none⟩), .int .i64 f, .int .i64 t] w (NewI w (pieceL l f t)) := by
  have hbd := dq_bound hd
  obtain ⟨a, b, hab, h1, h2⟩ := ends_nat l.length f t
  have hp : pieceL l f t = (l.take b).drop a := by unfold pieceL; rw [hab]; simp
  have Hp := Lib.hid hp
  have Hab := Lib.hid hab
  clear hp hab
  go_enter Try.func23, Try.ntmps23
  go_wp2_with fail
  refine (ends_calls B g v l f t w hd f1 f2 t1 t2).mono ?_
  rintro e w1 ⟨x, y, rfl, hxy, nd, rfl⟩
  rw [Hab.out] at hxy
  obtain ⟨rfl, rfl⟩ := Prod.mk.inj hxy
  clear hxy
  go_wp2_with fail
  refine (all_calls B g v l _ (hd.drawn nd)).mono ?_
  rintro e w1 ⟨A, n, c, nd2, rfl, hr, hn, hA, rfl⟩
  obtain rfl := hn
  have hc := hr.cap
  have hm := hr.big
  unfold maxLen at hm
  go_wp2_with fail
  · have h := rd_drop (rd_take hr h2) h1
    rw [if_pos (by assumption), show c - a = 0 by omega] at h
    refine (clone_calls _ _ _ _ _ (by exact ⟨h.len, h.cap, h.big, h.get⟩) (by omega)).mono ?_
    rintro e w1 ⟨v', rfl, ho, hb⟩
    go_wp2_with fail
    go_ret
    exact ⟨_, rfl, by rw [Hp.out]; exact ho, ⟨hb.os, hb.tape, hb.output, hb.size, hb.block⟩⟩
  · have h := rd_drop (rd_take hr h2) h1
    rw [if_neg (by assumption)] at h
    refine (clone_calls _ _ _ _ _ (by exact ⟨h.len, h.cap, h.big, h.get⟩) (by omega)).mono ?_
    rintro e w1 ⟨v', rfl, ho, hb⟩
    go_wp2_with fail
    go_ret
    exact ⟨_, rfl, by rw [Hp.out]; exact ho, ⟨hb.os, hb.tape, hb.output, hb.size, hb.block⟩⟩

/-- Where a place is, if there is one. -/
def placeN (n : Nat) (i : Int) : Option Nat := if 0 ≤ (if i < 0 then i + n else i) ∧ (if i < 0 then i + n else i) < n then some (if i < 0 then i + n else i).toNat else none

def PlacePost (n : Nat) (i : Int) (w : World) (e : Ending) (w' : World) : Prop :=
  ∃ (k : Int) (b : Bool), e = .returned (.tuple #[.int .i64 k, .bool b]) ∧ b = (placeN n i).isSome ∧ (∀ j, placeN n i = some j → k = (j : Int)) ∧ ∃ nd, w' = w.drewN nd

set_option maxHeartbeats 1000000 in
theorem place_calls (B g : Nat) (v : Value) (l : List ByteArray) (i : Int) (w : World) (hd : Dq w B g v l)
    (f1 : -9223372036854775808 ≤ i) (f2 : i ≤ 9223372036854775807) :
    Calls Try.prog 41 #[.pointer (some ⟨g, 0, none⟩), .int .i64 i] w (PlacePost l.length i w) := by
  have hb := dq_bound hd
  go_enter Try.func41, Try.ntmps41
  go_wp2_with fail
  refine (len_calls B g v l w hd).mono ?_
  rintro e w1 ⟨rfl, nd, rfl⟩
  go_wp2_with fail
  all_goals
    go_ret2
    refine ⟨_, _, rfl, ?_, ?_, nd, rfl⟩
    · unfold placeN; grind
    · unfold placeN; grind

def AtPost (l : List ByteArray) (i : Int) (w : World) (e : Ending) (w' : World) : Prop :=
  ∃ (x : ByteArray) (b : Bool), e = .returned (.tuple #[.string x, .bool b]) ∧ b = (placeN l.length i).isSome ∧ x = ((placeN l.length i).bind (l[·]?)).getD ⟨#[]⟩ ∧ ∃ nd, w' = w.drewN nd

set_option maxHeartbeats 1000000 in
theorem at_calls (B g : Nat) (v : Value) (l : List ByteArray) (i : Int) (w : World) (hd : Dq w B g v l)
    (f1 : -9223372036854775808 ≤ i) (f2 : i ≤ 9223372036854775807) :
    Calls Try.prog 21 #[.pointer (some ⟨g, 0, none⟩), .int .i64 i] w (AtPost l i w) := by
  have hb := dq_bound hd
  rcases hp : placeN l.length i with _ | j
  · have HP := Lib.hid hp
    clear hp
    go_enter Try.func21, Try.ntmps21
    go_wp2_with fail
    refine (place_calls B g v l i w hd f1 f2).mono ?_
    rintro e w1 ⟨k, b, rfl, hb, hk, nd, rfl⟩
    rw [HP.out] at hb
    obtain rfl : b = false := hb
    clear hk hb
    go_wp2_with fail
    go_ret2
    exact ⟨_, _, rfl, by rw [HP.out]; rfl, by rw [HP.out]; rfl, nd, rfl⟩
  · have HP := Lib.hid hp
    have hj : j < l.length := by unfold placeN at hp; grind
    clear hp
    obtain ⟨x, hx⟩ : ∃ x, l[j]? = some x := ⟨_, List.getElem?_eq_getElem hj⟩
    have Hx := Lib.hid hx
    go_enter Try.func21, Try.ntmps21
    go_wp2_with fail
    refine (place_calls B g v l i w hd f1 f2).mono ?_
    rintro e w1 ⟨k, b, rfl, hb, hk, nd, rfl⟩
    rw [HP.out] at hb
    obtain rfl : b = true := hb
    obtain rfl := hk j HP.out
    clear hk hb
    go_wp2_with fail
    refine (all_calls B g v l _ (hd.drawn nd)).mono ?_
    rintro e w1 ⟨A, n, c, nd2, rfl, hr, hn, hA, rfl⟩
    obtain rfl := hn
    obtain ⟨p, rfl, c1⟩ := hr.get j (.string x) (by simp [ints, hx])
    have c1' : w.cell? (p.add j) = some (.string x) := c1
    clear hx c1
    go_wp2_with fail
    go_ret2
    exact ⟨_, _, rfl, by rw [HP.out]; rfl, by rw [HP.out]; show x = (l[j]?).getD ⟨#[]⟩; rw [Hx.out]; rfl, nd + nd2, rfl⟩
end Go.Proofs.Ytadjgbhbeamdbaa.DtC
