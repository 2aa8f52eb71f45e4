/-
  What 'do' hands back and leaves: the deque and the document's list are the same behind it. Conditions: as stated.
-/
import Derived.Test.YtgbgdgncdanblaaDqQ
import Derived.Test.YtgbgdgncdanblaaDqR
import Derived.Test.YtgbgdgncdanblaaDqW
import Derived.Test.YtgbgdgncdanblaaDqX
import Derived.Test.YtgbgdgncdanblaaDqY
import Derived.Test.YtgbgdgncdanblaaDqZ
import Derived.Test.YtgbgdgncdanblaaDrA
import Derived.Test.YtgbgdgncdanblaaDqJ
set_option maxRecDepth 100000
set_option linter.unusedSimpArgs false
set_option linter.unusedVariables false
namespace Go.Proofs.Ytgbgdgncdanblaa.DrB
open Go.RowKit Go.Proofs.Ytgbgdgncdanblaa.Mem Go.Proofs.Ytgbgdgncdanblaa.DqA Go.Proofs.Ytgbgdgncdanblaa.DqB Go.Proofs.Ytgbgdgncdanblaa.DqC Go.Proofs.Ytgbgdgncdanblaa.DqD Go.Proofs.Ytgbgdgncdanblaa.DqE Go.Proofs.Ytgbgdgncdanblaa.DqF Go.Proofs.Ytgbgdgncdanblaa.DqG Go.Proofs.Ytgbgdgncdanblaa.DqH Go.Proofs.Ytgbgdgncdanblaa.DqI Go.Proofs.Ytgbgdgncdanblaa.DqJ Go.Proofs.Ytgbgdgncdanblaa.DqO Go.Proofs.Ytgbgdgncdanblaa.DqP Go.Proofs.Ytgbgdgncdanblaa.DqQ Go.Proofs.Ytgbgdgncdanblaa.DqU Go.Proofs.Ytgbgdgncdanblaa.DqV Go.Proofs.Ytgbgdgncdanblaa.DqW Go.Proofs.Ytgbgdgncdanblaa.DqX Go.Proofs.Ytgbgdgncdanblaa.DqY Go.Proofs.Ytgbgdgncdanblaa.DqZ Go.Proofs.Ytgbgdgncdanblaa.DrA

/-- A slice's memory is not the deque's. -/
def Apart (g : Nat) (v : Value) (A : Option Addr) (l : List Int) : Prop := l ≠ [] → ∀ ad, A = some ad → ad.block ≠ g ∧ v.ownBlock ≠ some ad.block
theorem dqn_fresh {w : World} {B g : Nat} {v : Value} {l : List Int} (h : Fresh w B g v l) : Dqn w B g v l l.length := ⟨l, 0, ⟨h.1, h.2.1, h.2.2.1, Nat.zero_le _, h.2.2.2⟩, rfl, Nat.le_refl _⟩
/-- Read still, where only the deque has turned. -/
theorem rd_apart {w w' : World} {A : Option Addr} {n c g : Nat} {l : List Int} {v : Value} (hr : RdI w A n c l) (ho : Only (fun k => k = g ∨ v.ownBlock = some k) w w') (ha : Apart g v A l) : RdI w' A n c l := by
  by_cases h : l = []
  · subst h
    exact ⟨hr.len, hr.cap, hr.big, fun j x hx => by simp [ints] at hx⟩
  · exact hr.only ho (fun ad e hk => hk.elim (ha h ad e).1 (ha h ad e).2)

def DoPost (B g N : Nat) (v : Value) (l : List Int) (A : Option Addr) (m : Nat) (w : World) (e : Ending) (w' : World) : Prop :=
  ∃ A' n' c' l' v' N', e = .returned (.tuple #[.slice A' n' c', .bool true]) ∧ RdI w' A' n' c' l' ∧ Dqn w' B g v' l' N' ∧ Apart g v' A' l' ∧ l'.length ≤ l.length + m + 1 ∧ N' ≤ max (N + m) (m + l.length + l.length + 1) ∧ Only (fun k => k = g ∨ v.ownBlock = some k) w w' ∧ (∀ k, v'.ownBlock = some k → v.ownBlock = some k ∨ w.heap.size ≤ k) ∧ (∀ ad, A' = some ad → l' ≠ [] → (A' = A ∧ l' = l) ∨ w.heap.size ≤ ad.block)

/-- The deed that was handed in, in its own block. -/
def Box (w : World) (x : Nat) (kind : Int) (AL : Option Addr) (nL cL : Nat) (a b d : Int) (bf : Bool) : Prop :=
  w.heap[x]? = some (.cells #[.int .i64 kind, .slice AL nL cL, .int .i64 a, .int .i64 b, .int .i64 d, .bool bf] 47 (0, 0))
theorem box_cells {w : World} {x : Nat} {kind : Int} {AL : Option Addr} {nL cL : Nat} {a b d : Int} {bf : Bool} (h : Box w x kind AL nL cL a b d bf) :
    w.cell? ⟨x, 0, none⟩ = some (.int .i64 kind) ∧ w.cell? ⟨x, 1, none⟩ = some (.slice AL nL cL) ∧ w.cell? ⟨x, 2, none⟩ = some (.int .i64 a) ∧ w.cell? ⟨x, 3, none⟩ = some (.int .i64 b) ∧ w.cell? ⟨x, 4, none⟩ = some (.int .i64 d) ∧ w.cell? ⟨x, 5, none⟩ = some (.bool bf) := by
  unfold Box at h
  refine ⟨?_, ?_, ?_, ?_, ?_, ?_⟩ <;> simp [World.cell?, h]
theorem box_cells_below {w w' : World} {q : Addr} {u : Value} (hc : w.cell? q = some u) (hb : Below w.heap.size w w') : w'.cell? q = some u := by
  have hlt : q.block < w.heap.size := by
    rcases Nat.lt_or_ge q.block w.heap.size with hlt | hge
    · exact hlt
    · simp [World.cell?, Array.getElem?_eq_none hge] at hc
  exact (Only.of_below hb).cell hc (by omega)
theorem Box.only {w w' : World} {x : Nat} {kind : Int} {AL : Option Addr} {nL cL : Nat} {a b d : Int} {bf : Bool} {S : Nat → Prop} (h : Box w x kind AL nL cL a b d bf) (ho : Only S w w') (hn : ¬ S x) : Box w' x kind AL nL cL a b d bf := ho.heap h hn
theorem Box.lt {w : World} {x : Nat} {kind : Int} {AL : Option Addr} {nL cL : Nat} {a b d : Int} {bf : Bool} (h : Box w x kind AL nL cL a b d bf) : x < w.heap.size := (Array.getElem?_eq_some_iff.1 h).1
theorem Box.below {w w' : World} {x : Nat} {kind : Int} {AL : Option Addr} {nL cL : Nat} {a b d : Int} {bf : Bool} (h : Box w x kind AL nL cL a b d bf) (hb : Below w.heap.size w w') : Box w' x kind AL nL cL a b d bf :=
  h.only (Only.of_below hb) (by have := h.lt; omega)

theorem ins_same {l : List Int} {p : Int} {i j : Nat} (h1 : l[i]? = some p) (h2 : p ∉ l.take i) (h3 : l[j]? = some p) (h4 : p ∉ l.take j) : i = j := by
  rcases Nat.lt_trichotomy i j with h | h | h
  · exact absurd (List.mem_of_getElem? (i := i) (by rw [List.getElem?_take, if_pos h]; exact h1)) h4
  · exact h
  · exact absurd (List.mem_of_getElem? (i := j) (by rw [List.getElem?_take, if_pos h]; exact h3)) h2
theorem ins_len' (l : List Int) (i : Nat) (x : Int) : (insAt l i x).length = l.length + 1 := by unfold insAt; simp; omega
theorem rm_le (l : List Int) (count x : Int) : (removeL l count x).length ≤ l.length := by
  unfold removeL
  split
  · have := rm_len x l.reverse (mostN l.length count); simpa using this
  · exact rm_len x l _
/-- Where the list stays as it is and the deque is only asked. -/
theorem apart_same {g : Nat} {v v' : Value} {A : Option Addr} {l : List Int} (h : Apart g v A l) (hv : v'.ownBlock = v.ownBlock) : Apart g v' A l := fun hl ad e => ⟨(h hl ad e).1, by rw [hv]; exact (h hl ad e).2⟩
theorem pop_back_l (l : List Int) (k : Nat) : l.reverse.take k = (l.drop (l.length - k)).reverse ∧ (l.reverse.drop k).reverse = l.take (l.length - k) := by
  constructor
  · rw [List.take_reverse]
  · rw [List.drop_reverse, List.reverse_reverse]
theorem only_b {S : Nat → Prop} {w w1 w' : World} (h : Only S w w1) (b : Below w1.heap.size w1 w') : Only S w w' := h.trans (Only.of_below b) (fun k hk => .inr (Nat.le_trans h.size hk))
theorem same_eq (A B : Option Addr) (n m c d : Nat) (l : List Int) (w : World) (ha : RdI w A n c l) (hb : RdI w B m d l) :
    Calls Try.prog 13 #[.slice A n c, .slice B m d] w fun e w' => e = .returned (.bool true) ∧ ∃ nd, w' = w.drewN nd :=
  (same_calls A B n m c d l l w ha hb).mono (fun e w' ⟨h1, h2⟩ => ⟨by rw [h1]; simp, h2⟩)
theorem two_below {w w' : World} {q1 q2 : Addr} {u1 u2 : Value} (h : w.cell? q1 = some u1 ∧ w.cell? q2 = some u2) (hb : Below w.heap.size w w') : w'.cell? q1 = some u1 ∧ w'.cell? q2 = some u2 :=
  ⟨box_cells_below h.1 hb, box_cells_below h.2 hb⟩
/-- The row that was given: its address, its last cell. -/
theorem given_form {w : World} {B c : Nat} {A : Option Addr} {L : List Int} {x : Int} (h : OwnI w B (.slice A (L.length + 1) c) (L ++ [x])) :
    ∃ p : Addr, A = some p ∧ B ≤ p.block ∧ p.block < w.heap.size ∧ w.cell? (p.add L.length) = some (.int .i64 x) ∧ RdI w A L.length c L := by
  rcases h.2 with ⟨e, _⟩ | ⟨b, cap, cur, e, h1, _⟩
  · cases e
  injection e with e1 e2 e3
  subst e1
  have hc := World.ownsRow.cells h (g := b) rfl L.length (.int .i64 x) (by simp [ints])
  have hl := h.lt b rfl
  have hR : RdI w (some ⟨b, 0, none⟩) (L.length + 1) c (L ++ [x]) := by
    have h' := h
    unfold OwnI at h'
    rw [List.length_append] at h'
    exact Rd.of_own h'
  have hT := rd_take hR (Nat.le_succ L.length)
  rw [List.take_append_of_le_length (Nat.le_refl _), List.take_length] at hT
  exact ⟨⟨b, 0, none⟩, rfl, hl.1, hl.2, hc, hT⟩
theorem below_add {B : Nat} {w w1 w' : World} (h : Below B w w1) (hB : B ≤ w.heap.size) (k : Below w1.heap.size w1 w') : Below B w w' := h.trans (k.mono (Nat.le_trans hB h.size))
theorem apart_new {w : World} {B g n c : Nat} {v : Value} {A : Option Addr} {l : List Int} (ho : OwnI w B (.slice A n c) l) (hg : g < B) (hv : ∀ k, v.ownBlock = some k → k < B) : Apart g v A l := fun _ ad e => by
  have h := (ho.lt ad.block (by rw [e]; rfl)).1
  exact ⟨by omega, fun h2 => by have := hv _ h2; omega⟩
theorem new_A {w0 w : World} {B n c : Nat} {A0 A : Option Addr} {l0 l : List Int} (ho : OwnI w B (.slice A n c) l) (hB : w0.heap.size ≤ B) : ∀ ad, A = some ad → l ≠ [] → (A = A0 ∧ l = l0) ∨ w0.heap.size ≤ ad.block := fun ad e _ => by
  have h := (ho.lt ad.block (by rw [e]; rfl)).1
  exact .inr (by omega)
theorem own_turn {w0 w1 : World} {v v3 : Value} (f : v3.ownBlock = v.ownBlock ∨ ∃ k, v3.ownBlock = some k ∧ w1.heap.size ≤ k) (h : w0.heap.size ≤ w1.heap.size) : ∀ k, v3.ownBlock = some k → v.ownBlock = some k ∨ w0.heap.size ≤ k := fun k hk => by
  rcases f with f | ⟨k', f, hk'⟩
  · exact .inl (f ▸ hk)
  · rw [f] at hk; injection hk with hk; exact .inr (by omega)

end Go.Proofs.Ytgbgdgncdanblaa.DrB
