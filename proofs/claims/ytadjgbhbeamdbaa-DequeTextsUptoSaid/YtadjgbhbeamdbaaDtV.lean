/-
  The walk of DequeTexts. Conditions: the arguments' bulk at most 1048576.
-/
import Derived.Test.YtadjgbhbeamdbaaDtU
set_option maxRecDepth 100000
set_option linter.unusedSimpArgs false
set_option linter.unusedVariables false
namespace Go.Proofs.Ytadjgbhbeamdbaa.DtV
open Go.RowKit Go.Proofs.Ytadjgbhbeamdbaa.Mem Go.Proofs.Ytadjgbhbeamdbaa.NumB Go.Proofs.Ytadjgbhbeamdbaa.DtU

theorem sameT_eq (A B : Option Addr) (n m c d : Nat) (l : List ByteArray) (w : World) (ha : DtA.RdI w A n c l) (hb : DtA.RdI w B m d l) :
    Calls Try.prog 12 #[.slice A n c, .slice B m d] w fun e w' => e = .returned (.bool true) ∧ ∃ nd, w' = w.drewN nd := by
  refine (DtT.sameT_calls A B n m c d l l w ha hb).mono ?_
  rintro e w' ⟨rfl, h⟩
  exact ⟨by simp, h⟩
theorem cell_below {w w' : World} {q : Addr} {u : Value} (hc : w.cell? q = some u) (hb : Below w.heap.size w w') : w'.cell? q = some u := by
  have hlt : q.block < w.heap.size := by
    rcases Nat.lt_or_ge q.block w.heap.size with h | h
    · exact h
    · simp [World.cell?, Array.getElem?_eq_none h] at hc
  rw [World.cell?_of_block (w := w) (hb.block _ hlt)]; exact hc

/-- The texts of a list, read in new memory. -/
def TextsPost (w : World) (l : List Int) (e : Ending) (w' : World) : Prop :=
  ∃ A c, e = .returned (.slice A l.length c) ∧ DtA.RdI w' A l.length c (tx l) ∧ (∀ ad, A = some ad → w.heap.size ≤ ad.block) ∧ Below w.heap.size w w'
theorem new_texts {w w' : World} {l : List Int} {e : Ending} (h : DtB.NewI w (tx l) e w') : TextsPost w l e w' := by
  obtain ⟨v, rfl, ho, hb⟩ := h
  obtain ⟨A, c, rfl⟩ := own_form ho
  have hr := Rd.of_own ho
  rw [tx_len] at hr
  exact ⟨A, c, by rw [tx_len], hr, fun ad e => by subst e; exact (ho.lt _ rfl).1, hb⟩
theorem txts_calls (A : Option Addr) (n c : Nat) (l : List Int) (w : World) (hr : DqA.RdI w A n c l) (hi : InL l) (hn : n ≤ 4194304) :
    Calls Try.prog 5 #[.slice A n c] w (TextsPost w l) :=
  (DtT.texts_calls A n c l w hr hi hn).mono fun _ _ h => new_texts h
theorem list_calls (B g N : Nat) (v : Value) (l : List Int) (w : World) (hd : DtO.Dqn w B g v (tx l) N) (hN : N ≤ 8796093022208) :
    Calls Try.prog 25 #[.pointer (some ⟨g, 0, none⟩)] w (TextsPost w l) :=
  (DtB.list_calls B g v (tx l) w (hd.dq hN)).mono fun _ _ h => new_texts h
theorem dqn_less {w : World} {B B' g N : Nat} {v : Value} {l : List ByteArray} (h : DtO.Dqn w B' g v l N) (hB : B ≤ B') : DtO.Dqn w B g v l N := by
  obtain ⟨xs, f, hF, h1, h2⟩ := h
  exact ⟨xs, f, ⟨hF.hp, Nat.le_trans hB hF.ge, own_less hF.own hB, hF.le, hF.ne⟩, h1, h2⟩

theorem popFront_tx (B g N : Nat) (v : Value) (l : List Int) (a : Int) (w : World) (G l2 : List Int) (hG : G = l.take (DqO.popN l.length a)) (h2 : l2 = l.drop (DqO.popN l.length a)) (hd : DtO.Dqn w B g v (tx l) N) (hN : N ≤ 8796093022208)
    (n1 : -9223372036854775808 ≤ a) (n2 : a ≤ 9223372036854775807) :
    Calls Try.prog 13 #[.pointer (some ⟨g, 0, none⟩), .int .i64 a] w fun e w' => ∃ A c, e = .returned (.slice A G.length c) ∧ DtA.RdI w' A G.length c (tx G) ∧ DtO.Turns B g v (tx l2) N w w' := by
  refine (DtO.popFront_calls B g N v (tx l) a w hd hN n1 n2).mono ?_
  rintro e w' ⟨r, rfl, ho, ht⟩
  have e1 : (tx l).take (DtO.popN (tx l).length a) = tx G := by rw [hG, tx_len]; simp only [tx, List.map_take]; rfl
  have e2 : (tx l).drop (DtO.popN (tx l).length a) = tx l2 := by rw [h2, tx_len]; simp only [tx, List.map_drop]; rfl
  rw [e1] at ho; rw [e2] at ht
  obtain ⟨A, c, rfl⟩ := own_form ho
  have hr := Rd.of_own ho
  rw [tx_len] at hr
  exact ⟨A, c, by rw [tx_len], hr, ht⟩
theorem pop_back_l (l : List Int) (k : Nat) : l.reverse.take k = (l.drop (l.length - k)).reverse ∧ (l.reverse.drop k).reverse = l.take (l.length - k) := by
  constructor
  · rw [List.take_reverse]
  · rw [List.drop_reverse, List.reverse_reverse]
theorem popBack_tx (B g N : Nat) (v : Value) (l : List Int) (a : Int) (w : World) (G U l2 : List Int) (hG : G = l.reverse.take (DqO.popN l.length a)) (hU : U = l.reverse.drop (DqO.popN l.length a)) (h2 : l2 = U.reverse) (hd : DtO.Dqn w B g v (tx l) N) (hN : N ≤ 8796093022208)
    (n1 : -9223372036854775808 ≤ a) (n2 : a ≤ 9223372036854775807) :
    Calls Try.prog 15 #[.pointer (some ⟨g, 0, none⟩), .int .i64 a] w fun e w' => ∃ A c, e = .returned (.slice A G.length c) ∧ DtA.RdI w' A G.length c (tx G) ∧ DtO.Turns B g v (tx l2) N w w' := by
  refine (DtP.popBack_calls B g N v (tx l) a w hd hN n1 n2).mono ?_
  rintro e w' ⟨r, rfl, ho, ht⟩
  obtain ⟨p1, p2⟩ := pop_back_l l (DqO.popN l.length a)
  have e1 : ((tx l).drop ((tx l).length - DtO.popN (tx l).length a)).reverse = tx G := by rw [hG, p1, tx_len]; simp only [tx, List.map_drop, List.map_reverse]; rfl
  have e2 : (tx l).take ((tx l).length - DtO.popN (tx l).length a) = tx l2 := by rw [h2, hU, p2, tx_len]; simp only [tx, List.map_take]; rfl
  rw [e1] at ho; rw [e2] at ht
  obtain ⟨A, c, rfl⟩ := own_form ho
  have hr := Rd.of_own ho
  rw [tx_len] at hr
  exact ⟨A, c, by rw [tx_len], hr, ht⟩

theorem rm_le (l : List Int) (count x : Int) : (DqF.removeL l count x).length ≤ l.length := by
  unfold DqF.removeL
  split
  · have := DqF.rm_len x l.reverse (DqF.mostN l.length count)
    rw [List.length_reverse] at this ⊢; exact this
  · exact DqF.rm_len x l _
theorem remove_txc (B g N : Nat) (v : Value) (l : List Int) (a b : Int) (w : World) (l2 : List Int) (h2 : l2 = DqF.removeL l a b) (hl : InL l) (hb : inR b) (hd : DtO.Dqn w B g v (tx l) N) (hN : N ≤ 8796093022208)
    (n1 : -9223372036854775808 ≤ a) (n2 : a ≤ 9223372036854775807) :
    Calls Try.prog 17 #[.pointer (some ⟨g, 0, none⟩), .int .i64 a, .string (txt b)] w fun e w' => e = .returned (.int .i64 ((l.length : Int) - l2.length)) ∧
      ∃ v', DtF.Fresh w' B g v' (tx l2) ∧ Only (fun k => k = g) w w' ∧ (∀ k, v'.ownBlock = some k → w.heap.size ≤ k) := by
  refine (DtF.remove_calls B g v (tx l) a (txt b) w (hd.dq hN) n1 n2).mono ?_
  rintro e w' ⟨v', rfl, _, ho, hv, hf⟩
  have e1 : DtF.removeL (tx l) a (txt b) = tx l2 := by rw [remove_tx hb l a hl, h2]
  rw [e1] at hf ⊢
  rw [tx_len, tx_len]
  exact ⟨rfl, v', hf, ho, hv⟩
theorem two_below {w w' : World} {q1 q2 : Addr} {u1 u2 : Value} (h : w.cell? q1 = some u1 ∧ w.cell? q2 = some u2) (hb : Below w.heap.size w w') : w'.cell? q1 = some u1 ∧ w'.cell? q2 = some u2 :=
  ⟨cell_below h.1 hb, cell_below h.2 hb⟩
theorem two_only {S : Nat → Prop} {w w' : World} {q1 q2 : Addr} {u1 u2 : Value} (h : w.cell? q1 = some u1 ∧ w.cell? q2 = some u2) (ho : Only S w w') (h1 : ¬ S q1.block) (h2 : ¬ S q2.block) : w'.cell? q1 = some u1 ∧ w'.cell? q2 = some u2 :=
  ⟨ho.cell h.1 h1, ho.cell h.2 h2⟩

theorem first_of : ∀ {l : List Int} {a : Int}, a ∈ l → ∃ i : Nat, l[i]? = some a ∧ a ∉ l.take i
  | x :: r, a, h => by
    by_cases e : x = a
    · exact ⟨0, by simp [e], by simp⟩
    · obtain ⟨i, h1, h2⟩ := first_of ((List.mem_cons.1 h).resolve_left (fun h => e h.symm))
      exact ⟨i + 1, by simpa using h1, by simp only [List.take_succ_cons, List.mem_cons, not_or]; exact ⟨fun h => e h.symm, h2⟩⟩
theorem insert_no (B g N : Nat) (v : Value) (l : List Int) (bf : Bool) (a b : Int) (w : World) (hno : a ∉ l) (hl : InL l) (ha : inR a) (hd : DtO.Dqn w B g v (tx l) N) (hN : N ≤ 8796093022208) (hlt : l.length < 8796093022208) :
    Calls Try.prog 20 #[.pointer (some ⟨g, 0, none⟩), .bool bf, .string (txt a), .string (txt b)] w fun e w' => e = .returned (.int .i64 (-1)) ∧ ∃ nd, w' = w.drewN nd := by
  refine (DtH.insert_calls B g v (tx l) bf (txt a) (txt b) w (hd.dq hN) (by rw [tx_len]; exact hlt)).mono ?_
  rintro e w' (⟨_, rfl, h⟩ | ⟨j, v', h1, _⟩)
  · exact ⟨rfl, h⟩
  · exact absurd ((mem_tx hl ha).1 (List.mem_of_getElem? h1)) hno
theorem insert_yes (B g N : Nat) (v : Value) (l : List Int) (bf : Bool) (a b : Int) (w : World) (i : Nat) (l2 : List Int) (hi : l[i]? = some a) (hno : a ∉ l.take i) (h2 : l2 = DqH.insAt l (if bf = true then i else i + 1) b) (hl : InL l) (ha : inR a)
    (hd : DtO.Dqn w B g v (tx l) N) (hN : N ≤ 8796093022208) (hlt : l.length < 8796093022208) :
    Calls Try.prog 20 #[.pointer (some ⟨g, 0, none⟩), .bool bf, .string (txt a), .string (txt b)] w fun e w' => e = .returned (.int .i64 ((l.length : Int) + 1)) ∧
      ∃ v', DtF.Fresh w' B g v' (tx l2) ∧ Only (fun k => k = g) w w' ∧ (∀ k, v'.ownBlock = some k → w.heap.size ≤ k) := by
  refine (DtH.insert_calls B g v (tx l) bf (txt a) (txt b) w (hd.dq hN) (by rw [tx_len]; exact hlt)).mono ?_
  rintro e w' (⟨hn, _⟩ | ⟨j, v', h1, h3, rfl, _, ho, hv, hf⟩)
  · exact absurd ((mem_tx hl ha).2 (List.mem_of_getElem? hi)) hn
  · have hj := get_tx hl ha h1
    have hj2 : a ∉ l.take j := fun h => h3 (by
      have := (mem_tx (in_take hl j) ha).2 h
      simpa only [tx, List.map_take] using this)
    obtain rfl := first_one hi hno hj hj2
    rw [ins_tx, ← h2] at hf
    rw [tx_len]
    exact ⟨rfl, v', hf, ho, hv⟩
theorem insR_no (A : Option Addr) (n c : Nat) (l : List Int) (bf : Bool) (a b : Int) (w : World) (hr : DqA.RdI w A n c l) (hn : n ≤ 4194304) (hno : a ∉ l) :
    Calls Try.prog 19 #[.slice A n c, .bool bf, .int .i64 a, .int .i64 b] w fun e w' => e = .returned (.tuple #[.slice A n c, .int .i64 (-1)]) ∧ w' = w := by
  refine (DqZ.rInsert_calls A n c l bf a b w hr hn).mono ?_
  rintro e w' (⟨_, h⟩ | ⟨j, s, h1, _⟩)
  · exact h
  · exact absurd (List.mem_of_getElem? h1) hno
theorem insR_yes (A : Option Addr) (n c : Nat) (l : List Int) (bf : Bool) (a b : Int) (w : World) (i : Nat) (l2 : List Int) (hr : DqA.RdI w A n c l) (hn : n ≤ 4194304) (hi : l[i]? = some a) (hno : a ∉ l.take i) (h2 : l2 = DqH.insAt l (if bf = true then i else i + 1) b) :
    Calls Try.prog 19 #[.slice A n c, .bool bf, .int .i64 a, .int .i64 b] w fun e w' => ∃ s, e = .returned (.tuple #[s, .int .i64 ((l.length : Int) + 1)]) ∧ DqA.OwnI w' w.heap.size s l2 ∧ Below w.heap.size w w' := by
  refine (DqZ.rInsert_calls A n c l bf a b w hr hn).mono ?_
  rintro e w' (⟨h, _⟩ | ⟨j, s, h1, h3, rfl, ho, hb⟩)
  · exact absurd (List.mem_of_getElem? hi) h
  · obtain rfl := first_one hi hno h1 h3
    rw [← h2] at ho
    exact ⟨s, rfl, ho, hb⟩
theorem sx_drew {W w : World} {g : Nat} {v : Value} {D : List ByteArray} {N : Nat} {A : Option Addr} {c : Nat} {l : List Int} {x : Nat} {d : DD} (h : Sx W w g v D N A c l x d) : Sx W w.drew g v D N A c l x d := h.drawn 1
theorem three_below {w w' : World} {q1 q2 q3 : Addr} {u1 u2 u3 : Value} (h : w.cell? q1 = some u1 ∧ w.cell? q2 = some u2 ∧ w.cell? q3 = some u3) (hb : Below w.heap.size w w') : w'.cell? q1 = some u1 ∧ w'.cell? q2 = some u2 ∧ w'.cell? q3 = some u3 :=
  ⟨cell_below h.1 hb, cell_below h.2.1 hb, cell_below h.2.2 hb⟩
theorem three_only {S : Nat → Prop} {w w' : World} {q1 q2 q3 : Addr} {u1 u2 u3 : Value} (h : w.cell? q1 = some u1 ∧ w.cell? q2 = some u2 ∧ w.cell? q3 = some u3) (ho : Only S w w') (h1 : ¬ S q1.block) (h2 : ¬ S q2.block) (h3 : ¬ S q3.block) : w'.cell? q1 = some u1 ∧ w'.cell? q2 = some u2 ∧ w'.cell? q3 = some u3 :=
  ⟨ho.cell h.1 h1, ho.cell h.2.1 h2, ho.cell h.2.2 h3⟩

theorem at_some (B g N : Nat) (v : Value) (l : List Int) (i : Int) (w : World) (j : Nat) (y : Int) (hp : DqC.placeN l.length i = some j) (hy : l[j]? = some y) (hd : DtO.Dqn w B g v (tx l) N) (hN : N ≤ 8796093022208) (f1 : -9223372036854775808 ≤ i) (f2 : i ≤ 9223372036854775807) :
    Calls Try.prog 21 #[.pointer (some ⟨g, 0, none⟩), .int .i64 i] w fun e w' => e = .returned (.tuple #[.string (txt y), .bool true]) ∧ ∃ nd, w' = w.drewN nd := by
  refine (DtC.at_calls B g v (tx l) i w (hd.dq hN) f1 f2).mono ?_
  rintro e w' ⟨x, b, rfl, hb, hx, h⟩
  have e1 : DtC.placeN (tx l).length i = some j := by rw [tx_len]; exact hp
  rw [e1] at hb hx
  have e2 : (tx l)[j]? = some (txt y) := by simp only [tx, List.getElem?_map, hy]; rfl
  have e3 : x = txt y := by rw [hx]; show ((tx l)[j]?).getD _ = _; rw [e2]; rfl
  have e4 : b = true := hb
  subst e3 e4
  exact ⟨rfl, h⟩
theorem at_none (B g N : Nat) (v : Value) (l : List Int) (i : Int) (w : World) (hp : DqC.placeN l.length i = none) (hd : DtO.Dqn w B g v (tx l) N) (hN : N ≤ 8796093022208) (f1 : -9223372036854775808 ≤ i) (f2 : i ≤ 9223372036854775807) :
    Calls Try.prog 21 #[.pointer (some ⟨g, 0, none⟩), .int .i64 i] w fun e w' => e = .returned (.tuple #[.string ⟨#[]⟩, .bool false]) ∧ ∃ nd, w' = w.drewN nd := by
  refine (DtC.at_calls B g v (tx l) i w (hd.dq hN) f1 f2).mono ?_
  rintro e w' ⟨x, b, rfl, hb, hx, h⟩
  have e1 : DtC.placeN (tx l).length i = none := by rw [tx_len]; exact hp
  rw [e1] at hb hx
  have e3 : x = ⟨#[]⟩ := hx
  have e4 : b = false := hb
  subst e3 e4
  exact ⟨rfl, h⟩
theorem atR_some (A : Option Addr) (n c : Nat) (l : List Int) (i : Int) (w : World) (j : Nat) (y : Int) (hp : DqC.placeN l.length i = some j) (hy : l[j]? = some y) (hr : DqA.RdI w A n c l) (hn : n ≤ 4194304) (f1 : -9223372036854775808 ≤ i) (f2 : i ≤ 9223372036854775807) :
    Calls Try.prog 22 #[.slice A n c, .int .i64 i] w fun e w' => e = .returned (.tuple #[.int .i64 y, .bool true]) ∧ ∃ nd, w' = w.drewN nd := by
  refine (DqV.rAt_calls A n c l i w hr hn f1 f2).mono ?_
  rintro e w' ⟨x, b, rfl, hb, hx, h⟩
  rw [hp] at hb hx
  have e3 : x = y := by rw [hx]; show (l[j]?).getD _ = _; rw [hy]; rfl
  have e4 : b = true := hb
  subst e3 e4
  exact ⟨rfl, h⟩
theorem atR_none (A : Option Addr) (n c : Nat) (l : List Int) (i : Int) (w : World) (hp : DqC.placeN l.length i = none) (hr : DqA.RdI w A n c l) (hn : n ≤ 4194304) (f1 : -9223372036854775808 ≤ i) (f2 : i ≤ 9223372036854775807) :
    Calls Try.prog 22 #[.slice A n c, .int .i64 i] w fun e w' => e = .returned (.tuple #[.int .i64 0, .bool false]) ∧ ∃ nd, w' = w.drewN nd := by
  refine (DqV.rAt_calls A n c l i w hr hn f1 f2).mono ?_
  rintro e w' ⟨x, b, rfl, hb, hx, h⟩
  rw [hp] at hb hx
  have e3 : x = 0 := hx
  have e4 : b = false := hb
  subst e3 e4
  exact ⟨rfl, h⟩
theorem slice_txc (B g N : Nat) (v : Value) (l : List Int) (a b : Int) (w : World) (G : List Int) (hG : G = DqC.pieceL l a b) (hd : DtO.Dqn w B g v (tx l) N) (hN : N ≤ 8796093022208)
    (f1 : -9223372036854775808 ≤ a) (f2 : a ≤ 9223372036854775807) (t1 : -9223372036854775808 ≤ b) (t2 : b ≤ 9223372036854775807) :
    Calls Try.prog 23 #[.pointer (some ⟨g, 0, none⟩), .int .i64 a, .int .i64 b] w (TextsPost w G) := by
  refine (DtC.slice_calls B g v (tx l) a b w (hd.dq hN) f1 f2 t1 t2).mono ?_
  intro e w' h
  rw [piece_tx, ← hG] at h
  exact new_texts h
theorem zero_ne : ((⟨#[]⟩ : ByteArray).toList == (txt 0).toList) = false := DtA.tl_ne (fun h => by
  have := congrArg ByteArray.size h
  revert this
  unfold txt Go.Lib.itoa
  rw [if_neg (by decide), show (0 : Int).toNat = 0 from rfl, NumA.dec_small (by decide)]
  decide)

theorem self_eq (y : Int) : ((txt y).toList == (txt y).toList) = true := by simp
attribute [local go_sem] zero_ne self_eq

set_option maxHeartbeats 40000000 in
theorem texts_law (A1 : Option Addr) (n1 c1 : Nat) (f : List Int) (AD : Option Addr) (nD cD : Nat) (ds : List DD) (W : World) (h1 : DqA.RdI W A1 n1 c1 f) (hf : InL f) (hD : RdD W AD nD cD ds) (hb : n1 + wt ds ≤ 1048576) :
    Calls Try.prog 3 #[.slice A1 n1 c1, .slice AD nD cD] W fun e w' => e = .returned (.bool true) ∧ Below W.heap.size W w' := by
  obtain rfl := DqD.rdi_len h1
  obtain rfl := hD.len
  have hdl : ds.length ≤ 1048576 := by have := wt_len ds; omega
  go_enter Try.func3, Try.ntmps3
  go_wp2_with fail
  refine (txts_calls A1 _ c1 f _ h1 hf (by omega)).mono ?_
  rintro e w1 ⟨A2, c2, rfl, o1, -, b1⟩
  go_wp2_with fail
  refine (DtR.ofN_calls A2 _ c2 (tx f) _ o1 (by omega)).mono ?_
  rintro e w2 ⟨g, v1, rfl, hd, hb2⟩
  have S1 : DtR.Sd W w2 g v1 (tx f) f.length := ⟨dqn_less (hd.more (by rw [tx_len]; exact Nat.le_refl _)) b1.size, DtI.below_new b1 hb2⟩
  clear hd hb2 o1 b1
  go_wp2_with fail
  refine (DqI.awake_calls w2).mono ?_
  rintro e w3 ⟨rfl, hb3⟩
  have S2 := S1.below hb3
  clear hb3 S1
  go_wp2_with fail
  go_loopw [6, 7] (fun wv i wr => ∃ (k : Nat) (v : Value) (N : Nat) (l : List Int) (A : Option Addr) (c : Nat), k ≤ ds.length ∧ i = .int .i64 k ∧ wv = .slice A l.length c ∧ DqA.RdI wr A l.length c l ∧ DtR.Sd W wr g v (tx l) N ∧ (l ≠ [] → ∀ ad, A = some ad → ad.block ≠ g ∧ v.ownBlock ≠ some ad.block) ∧ InL l ∧ l.length + wt (ds.drop k) ≤ 1048576 ∧ N + wt (ds.drop k) ≤ 4194304) (fun _ i _ => ds.length - (intOf i).toNat)
  case atStart => exact ⟨0, v1, f.length, f, A1, c1, Nat.zero_le _, rfl, rfl, h1.below S2.bel, S2, fun hl ad e => by
    obtain ⟨ad', e', hlt⟩ := rd_lt h1 hl
    rw [e] at e'; injection e' with e'; subst e'
    exact ⟨fun e => by have := S2.dq.ge; omega, fun e => by have := (S2.dq.olt _ e).1; omega⟩, hf, by simpa using hb, by simp; omega⟩
  case round =>
    obtain ⟨k, v, N, l, A, c, hk, rfl, rfl, hr, S, ha, hin, hl1, hl2⟩ := hrel
    by_cases hlt : k < ds.length
    · obtain ⟨x, hx⟩ : ∃ x, ds[k]? = some x := ⟨_, List.getElem?_eq_getElem hlt⟩
      obtain ⟨p, rfl, cp⟩ := hD.get k x hx
      have cp' := fun j u hj => cell_below (cp j u hj) S.bel
      obtain ⟨⟨hL, hLi⟩, ha1, hb1⟩ := hD.ok x (List.mem_of_getElem? hx)
      have hw := wt_drop ds k x hx
      obtain ⟨kind, a, b, d, bf, AL, nL, cL, L⟩ := x
      have k0 : wr.cell? (p.add (k * 6)) = some (.int .i64 kind) := cp' 0 _ rfl
      have k1 : wr.cell? ⟨(p.add (k * 6)).block, (p.add (k * 6)).off + 1, none⟩ = some (.slice AL nL cL) := cp' 1 _ rfl
      have k2 : wr.cell? ⟨(p.add (k * 6)).block, (p.add (k * 6)).off + 2, none⟩ = some (.int .i64 a) := cp' 2 _ rfl
      have k3 : wr.cell? ⟨(p.add (k * 6)).block, (p.add (k * 6)).off + 3, none⟩ = some (.int .i64 b) := cp' 3 _ rfl
      have k4 : wr.cell? ⟨(p.add (k * 6)).block, (p.add (k * 6)).off + 4, none⟩ = some (.int .i64 d) := cp' 4 _ rfl
      have k5 : wr.cell? ⟨(p.add (k * 6)).block, (p.add (k * 6)).off + 5, none⟩ = some (.bool bf) := cp' 5 _ rfl
      simp only at hL hLi ha1 hb1 hw
      obtain rfl := DqD.rdi_len hL
      obtain ⟨x, hxe⟩ : ∃ x, x = wr.heap.size := ⟨_, rfl⟩
      obtain ⟨w0, hw0⟩ : ∃ w0, wr.alloc (.cells #[.int .i64 kind, .slice AL L.length cL, .int .i64 a, .int .i64 b, .int .i64 d, .bool bf] 30) = w0 := ⟨_, rfl⟩
      have S0 : Sx W w0 g v (tx l) N A c l wr.heap.size ⟨kind, a, b, d, bf, AL, L.length, cL, L⟩ := by
        have hbl : Below wr.heap.size wr w0 := by rw [← hw0]; exact (Below.refl _ _).alloc (Nat.le_refl _) _
        have S' := S.below hbl
        refine ⟨S', hr.below hbl, ha, by rw [← hw0]; exact heap_alloc_new wr _, ?_, fun e => ?_⟩
        · have := S.dq.lt; omega
        · have := (S.dq.olt _ e).2; omega
      obtain ⟨i0, i1, i2, i3, i4, i5⟩ := S0.cells
      simp only at i0 i1 i2 i3 i4 i5
      obtain ⟨a1, a2⟩ := ha1
      obtain ⟨b1, b2⟩ := hb1
      have hLl := wt_drop ds k _ hx
      have hwl : l.length + L.length + 1 + wt (ds.drop (k + 1)) ≤ 1048576 := by omega
      have hwn : N + L.length + 1 + wt (ds.drop (k + 1)) ≤ 4194304 := by omega
      clear cp cp' hx hr S ha hxe x hLl hw
      by_cases e0 : kind = 0
      · subst e0
        as_aux_lemma =>
          obtain ⟨l2, hl2⟩ : ∃ l2, l2 = L.reverse ++ l := ⟨_, rfl⟩
          have hin2 : InL l2 := by rw [hl2]; exact in_app (in_rev hLi) hin
          have hlb2 : l2.length ≤ l.length + L.length := by rw [hl2]; first | (simp; omega) | simp
          have HL2 := Lib.hid hl2
          clear hl2
          go_wp2_with fail
          refine (txts_calls AL _ cL L _ (hL.below S0.sd.bel) hLi (by omega)).mono ?_
          rintro e w1 ⟨A1', c1', rfl, o1, hA1, b1⟩
          have S1 := S0.below b1
          clear i0 i1 i2 i3 i4 i5
          obtain ⟨i0, i1, i2, i3, i4, i5⟩ := S1.cells
          simp only at i0 i1 i2 i3 i4 i5
          go_wp2_with fail
          refine (DtQ.pushFront_calls W.heap.size g N (max N (L.length + l.length + l.length)) v (tx l) A1' _ c1' (tx L) _ S1.sd.dq o1 (by omega) (by rw [tx_len]; omega) (by omega) S1.sd.size (fun hn ad e => by
            have hB := hA1 ad e
            exact ⟨by have := S0.sd.dq.lt; omega, fun e2 => by have := (S0.sd.dq.olt _ e2).2; omega⟩)).mono ?_
          rintro e w2 ⟨rfl, ht⟩
          obtain ⟨v2, S2⟩ := S1.turns ht
          rw [show (tx L).reverse ++ tx l = tx l2 by rw [HL2.out]; simp [tx]] at S2
          clear i0 i1 i2 i3 i4 i5
          obtain ⟨i0, i1, i2, i3, i4, i5⟩ := S2.cells
          simp only at i0 i1 i2 i3 i4 i5
          clear ht S1 o1
          go_wp2_with fail
          refine (DqV.rPush_calls _ AL _ _ c cL l L _ S2.rd (hL.below S2.sd.bel) (by omega)).mono ?_
          rintro e w3 ⟨s3, rfl, o3, b3⟩
          rw [← HL2.out] at o3
          obtain ⟨A3, c3, rfl⟩ := own_form o3
          have S3 := S2.want b3 o3
          clear S2 o3
          clear i0 i1 i2 i3 i4 i5
          go_wp2_with fail
          refine (list_calls _ g _ _ l2 _ S3.sd.dq (by omega)).mono ?_
          rintro e wa ⟨Aa, ca, rfl, oa, -, ba⟩
          have Sa := S3.below ba
          go_wp2_with fail
          refine (txts_calls _ _ _ l2 _ Sa.rd hin2 (by omega)).mono ?_
          rintro e wb ⟨Ab, cb, rfl, ob, -, bb⟩
          have Sb := Sa.below bb
          go_wp2_with fail
          refine (sameT_eq Aa Ab _ _ ca cb _ _ (oa.below bb) ob).mono ?_
          rintro e wc ⟨rfl, nd, rfl⟩
          have Sc := Sb.drawn nd
          generalize wb.drewN nd = wc at Sc ⊢
          go_wp2_with fail
          exact ⟨⟨k + 1, _, _, l2, _, _, by omega, by go_num, rfl, Sc.rd, Sc.sd, Sc.ap, hin2, by omega, by omega⟩, by simp [intOf]; omega⟩
      have q0 : (kind == 0) = false := by simpa using e0
      by_cases e1 : kind = 1
      · subst e1
        as_aux_lemma =>
          obtain ⟨l2, hl2⟩ : ∃ l2, l2 = l ++ L := ⟨_, rfl⟩
          have hin2 : InL l2 := by rw [hl2]; exact in_app hin hLi
          have hlb2 : l2.length ≤ l.length + L.length := by rw [hl2]; first | (simp; omega) | simp
          have HL2 := Lib.hid hl2
          clear hl2
          go_wp2_with fail
          refine (txts_calls AL _ cL L _ (hL.below S0.sd.bel) hLi (by omega)).mono ?_
          rintro e w1 ⟨A1', c1', rfl, o1, hA1, b1⟩
          have S1 := S0.below b1
          clear i0 i1 i2 i3 i4 i5
          obtain ⟨i0, i1, i2, i3, i4, i5⟩ := S1.cells
          simp only at i0 i1 i2 i3 i4 i5
          go_wp2_with fail
          refine (DtO.pushBack_calls W.heap.size g N v (tx l) A1' _ c1' (tx L) _ S1.sd.dq o1 (by omega) S1.sd.size).mono ?_
          rintro e w2 ⟨rfl, ht⟩
          obtain ⟨v2, S2⟩ := S1.turns ht
          rw [show tx l ++ tx L = tx l2 by rw [HL2.out]; simp [tx]] at S2
          clear i0 i1 i2 i3 i4 i5
          obtain ⟨i0, i1, i2, i3, i4, i5⟩ := S2.cells
          simp only at i0 i1 i2 i3 i4 i5
          clear ht S1 o1
          go_wp2_with fail
          refine (DqB.joined_calls _ AL _ _ c cL l L _ S2.rd (hL.below S2.sd.bel) (by omega)).mono ?_
          rintro e w3 ⟨s3, rfl, o3, b3⟩
          rw [← HL2.out] at o3
          obtain ⟨A3, c3, rfl⟩ := own_form o3
          have S3 := S2.want b3 o3
          clear S2 o3
          clear i0 i1 i2 i3 i4 i5
          go_wp2_with fail
          refine (list_calls _ g _ _ l2 _ S3.sd.dq (by omega)).mono ?_
          rintro e wa ⟨Aa, ca, rfl, oa, -, ba⟩
          have Sa := S3.below ba
          go_wp2_with fail
          refine (txts_calls _ _ _ l2 _ Sa.rd hin2 (by omega)).mono ?_
          rintro e wb ⟨Ab, cb, rfl, ob, -, bb⟩
          have Sb := Sa.below bb
          go_wp2_with fail
          refine (sameT_eq Aa Ab _ _ ca cb _ _ (oa.below bb) ob).mono ?_
          rintro e wc ⟨rfl, nd, rfl⟩
          have Sc := Sb.drawn nd
          generalize wb.drewN nd = wc at Sc ⊢
          go_wp2_with fail
          exact ⟨⟨k + 1, _, _, l2, _, _, by omega, by go_num, rfl, Sc.rd, Sc.sd, Sc.ap, hin2, by omega, by omega⟩, by simp [intOf]; omega⟩
      have q1 : (kind == 1) = false := by simpa using e1
      by_cases e2 : kind = 2
      · subst e2
        as_aux_lemma =>
          obtain ⟨G, hG⟩ : ∃ G, G = l.take (DqO.popN l.length a) := ⟨_, rfl⟩
          have hGi : InL G := by rw [hG]; exact in_take hin _
          have hGl : G.length ≤ l.length := by rw [hG, List.length_take]; first | omega | (simp; omega)
          have HG := Lib.hid hG
          clear hG
          obtain ⟨l2, hl2⟩ : ∃ l2, l2 = l.drop (DqO.popN l.length a) := ⟨_, rfl⟩
          have hin2 : InL l2 := by rw [hl2]; exact in_drop hin _
          have hlb2 : l2.length ≤ l.length := by rw [hl2]; first | (simp; omega) | simp
          have HL2 := Lib.hid hl2
          clear hl2
          go_wp2_with fail
          refine (DqU.pop_calls A _ c l a _ S0.rd (by omega)).mono ?_
          rintro e w1 ⟨s1, s2, rfl, og, o2, b1'⟩
          rw [← HG.out] at og
          rw [← HL2.out] at o2
          obtain ⟨A1', d1, rfl⟩ := own_form og
          obtain ⟨A2', d2, rfl⟩ := own_form o2
          have S1 := S0.want b1' o2
          clear i0 i1 i2 i3 i4 i5
          obtain ⟨i0, i1, i2, i3, i4, i5⟩ := S1.cells
          simp only at i0 i1 i2 i3 i4 i5
          clear o2 b1'
          go_wp2_with fail
          refine (popFront_tx W.heap.size g N v l a _ G l2 HG.out HL2.out S1.sd.dq (by omega) a1 a2).mono ?_
          rintro e w6 ⟨A6, c6, rfl, o6, ht⟩
          have ht2 := ht
          obtain ⟨_, _, hoT, _⟩ := ht2
          have og2 : DqA.RdI w6 A1' G.length d1 G := Rd.of_own (own_only og hoT (fun k hk hS => by
            have := (og.lt k hk).1
            rcases hS with rfl | hS
            · have := S0.sd.dq.lt; omega
            · have := (S0.sd.dq.olt _ hS).2; omega))
          obtain ⟨v2, S2⟩ := S1.turns ht
          clear i0 i1 i2 i3 i4 i5
          obtain ⟨i0, i1, i2, i3, i4, i5⟩ := S2.cells
          simp only at i0 i1 i2 i3 i4 i5
          clear ht hoT S1 og
          go_wp2_with fail
          refine (txts_calls A1' _ d1 G _ og2 hGi (by omega)).mono ?_
          rintro e w7 ⟨A7, c7, rfl, o7, -, b7⟩
          have S3 := S2.below b7
          go_wp2_with fail
          refine (sameT_eq A6 A7 _ _ c6 c7 _ _ (o6.below b7) o7).mono ?_
          rintro e w8 ⟨rfl, nd8, rfl⟩
          have S4 := S3.drawn nd8
          generalize w7.drewN nd8 = w8 at S4 ⊢
          clear o6 o7 S3 S2 og2 b7
          clear i0 i1 i2 i3 i4 i5
          go_wp2_with fail
          refine (list_calls _ g _ _ l2 _ S4.sd.dq (by omega)).mono ?_
          rintro e wa ⟨Aa, ca, rfl, oa, -, ba⟩
          have Sa := S4.below ba
          go_wp2_with fail
          refine (txts_calls _ _ _ l2 _ Sa.rd hin2 (by omega)).mono ?_
          rintro e wb ⟨Ab, cb, rfl, ob, -, bb⟩
          have Sb := Sa.below bb
          go_wp2_with fail
          refine (sameT_eq Aa Ab _ _ ca cb _ _ (oa.below bb) ob).mono ?_
          rintro e wc ⟨rfl, nd, rfl⟩
          have Sc := Sb.drawn nd
          generalize wb.drewN nd = wc at Sc ⊢
          go_wp2_with fail
          exact ⟨⟨k + 1, _, _, l2, _, _, by omega, by go_num, rfl, Sc.rd, Sc.sd, Sc.ap, hin2, by omega, by omega⟩, by simp [intOf]; omega⟩
      have q2 : (kind == 2) = false := by simpa using e2
      by_cases e3 : kind = 3
      · subst e3
        as_aux_lemma =>
          obtain ⟨G, hG⟩ : ∃ G, G = l.reverse.take (DqO.popN l.length a) := ⟨_, rfl⟩
          have hGi : InL G := by rw [hG]; exact in_take (in_rev hin) _
          have hGl : G.length ≤ l.length := by rw [hG, List.length_take]; first | omega | (simp; omega)
          have HG := Lib.hid hG
          clear hG
          obtain ⟨U, hU⟩ : ∃ U, U = l.reverse.drop (DqO.popN l.length a) := ⟨_, rfl⟩
          have hUi : InL U := by rw [hU]; exact in_drop (in_rev hin) _
          have hUl : U.length ≤ l.length := by rw [hU, List.length_drop, List.length_reverse]; omega
          have HU := Lib.hid hU
          clear hU
          obtain ⟨l2, hl2⟩ : ∃ l2, l2 = U.reverse := ⟨_, rfl⟩
          have hin2 : InL l2 := by rw [hl2]; exact in_rev hUi
          have hlb2 : l2.length ≤ U.length := by rw [hl2]; first | (simp; omega) | simp
          have HL2 := Lib.hid hl2
          clear hl2
          go_wp2_with fail
          go_region_held3 (fun w' => w'.cell? ⟨wr.heap.size, 2, none⟩ = some (.int .i64 a)) (first | exact i2 | exact cell_below (by assumption) (by assumption))
            (first
              | (go_at_call 14; refine (DqB.turned_calls A _ c l _ (DqZ.rd_drew2 S0.rd) (by omega)).mono ?_; rintro e w3 ⟨s3, rfl, O3, b3⟩; obtain ⟨A3, d3, rfl⟩ := own_form O3; have R3 := Rd.of_own O3; rw [List.length_reverse] at R3)
              | (go_at_call 11; refine (DqU.pop_calls A3 _ d3 l.reverse a _ R3 (by omega)).mono ?_; rintro e w4 ⟨s1, s2, rfl, O1, O4, b4⟩; rw [List.length_reverse, ← HG.out] at O1; rw [List.length_reverse, ← HU.out] at O4; obtain ⟨A1', d1, rfl⟩ := own_form O1; obtain ⟨A4, d4, rfl⟩ := own_form O4))
          have b24 : Below w0.heap.size w0 w4 := DqI.below_new (DqI.below_new (w1 := w0.drew) ((Below.refl _ w0).drew) b3) b4
          have S5 := S0.below b24
          have og := own_less O1 (show w0.heap.size ≤ w3.heap.size from b3.size)
          have R4 := Rd.of_own O4
          clear O3 R3 O4 O1 b3 b4
          clear i0 i1 i2 i3 i4 i5
          obtain ⟨i0, i1, i2, i3, i4, i5⟩ := S5.cells
          simp only at i0 i1 i2 i3 i4 i5
          go_wp2_with fail
          refine (DqB.turned_calls A4 _ d4 U _ R4 (by omega)).mono ?_
          rintro e w5 ⟨s5, rfl, o5, b5⟩
          rw [← HL2.out] at o5
          obtain ⟨A5, d5, rfl⟩ := own_form o5
          have S1 := S5.want b5 o5
          have og := DqU.own_keep og b5
          clear S5 o5 b5 R4
          clear i0 i1 i2 i3 i4 i5
          obtain ⟨i0, i1, i2, i3, i4, i5⟩ := S1.cells
          simp only at i0 i1 i2 i3 i4 i5
          go_wp2_with fail
          refine (popBack_tx W.heap.size g N v l a _ G U l2 HG.out HU.out HL2.out S1.sd.dq (by omega) a1 a2).mono ?_
          rintro e w6 ⟨A6, c6, rfl, o6, ht⟩
          have ht2 := ht
          obtain ⟨_, _, hoT, _⟩ := ht2
          have og2 : DqA.RdI w6 A1' G.length d1 G := Rd.of_own (own_only og hoT (fun k hk hS => by
            have := (og.lt k hk).1
            rcases hS with rfl | hS
            · have := S0.sd.dq.lt; omega
            · have := (S0.sd.dq.olt _ hS).2; omega))
          obtain ⟨v2, S2⟩ := S1.turns ht
          clear i0 i1 i2 i3 i4 i5
          obtain ⟨i0, i1, i2, i3, i4, i5⟩ := S2.cells
          simp only at i0 i1 i2 i3 i4 i5
          clear ht hoT S1 og
          go_wp2_with fail
          refine (txts_calls A1' _ d1 G _ og2 hGi (by omega)).mono ?_
          rintro e w7 ⟨A7, c7, rfl, o7, -, b7⟩
          have S3 := S2.below b7
          go_wp2_with fail
          refine (sameT_eq A6 A7 _ _ c6 c7 _ _ (o6.below b7) o7).mono ?_
          rintro e w8 ⟨rfl, nd8, rfl⟩
          have S4 := S3.drawn nd8
          generalize w7.drewN nd8 = w8 at S4 ⊢
          clear o6 o7 S3 S2 og2 b7
          clear i0 i1 i2 i3 i4 i5
          go_wp2_with fail
          refine (list_calls _ g _ _ l2 _ S4.sd.dq (by omega)).mono ?_
          rintro e wa ⟨Aa, ca, rfl, oa, -, ba⟩
          have Sa := S4.below ba
          go_wp2_with fail
          refine (txts_calls _ _ _ l2 _ Sa.rd hin2 (by omega)).mono ?_
          rintro e wb ⟨Ab, cb, rfl, ob, -, bb⟩
          have Sb := Sa.below bb
          go_wp2_with fail
          refine (sameT_eq Aa Ab _ _ ca cb _ _ (oa.below bb) ob).mono ?_
          rintro e wc ⟨rfl, nd, rfl⟩
          have Sc := Sb.drawn nd
          generalize wb.drewN nd = wc at Sc ⊢
          go_wp2_with fail
          exact ⟨⟨k + 1, _, _, l2, _, _, by omega, by go_num, rfl, Sc.rd, Sc.sd, Sc.ap, hin2, by omega, by omega⟩, by simp [intOf]; omega⟩
      have q3 : (kind == 3) = false := by simpa using e3
      by_cases e6 : kind = 6
      · subst e6
        as_aux_lemma =>
          obtain ⟨l2, hl2⟩ : ∃ l2, l2 = DqF.removeL l a b := ⟨_, rfl⟩
          have hin2 : InL l2 := by rw [hl2]; exact in_remove b hin a
          have hlb2 : l2.length ≤ l.length := by rw [hl2]; exact rm_le l a b
          have HL2 := Lib.hid hl2
          clear hl2
          go_wp2_with fail
          refine (DqX.rRemove_calls A _ c l a b _ S0.rd (by omega) a1 a2).mono ?_
          rintro e w1 ⟨s1, rfl, o1, b1'⟩
          rw [← HL2.out] at o1 ⊢
          obtain ⟨A1', d1, rfl⟩ := own_form o1
          have S1 := S0.want b1' o1
          clear i0 i1 i2 i3 i4 i5
          obtain ⟨i0, i1, i2, i3, i4, i5⟩ := S1.cells
          simp only at i0 i1 i2 i3 i4 i5
          clear o1 b1' i0 i1 i4 i5
          have hxg := S1.xg.1
          go_wp2_with fail
          go_region_held3 (fun w' => w'.cell? ⟨wr.heap.size, 2, none⟩ = some (.int .i64 a) ∧ w'.cell? ⟨wr.heap.size, 3, none⟩ = some (.int .i64 b)) (first | exact ⟨i2, i3⟩ | exact two_below (by assumption) (by assumption) | exact two_only (by assumption) ho6 hxg hxg)
            (first
              | (go_at_call 18; refine (printR_calls b _ ⟨b1, b2⟩).mono ?_; rintro e w5 ⟨rfl, b5⟩)
              | (go_at_call 17; refine (remove_txc W.heap.size g N v l a b _ l2 HL2.out hin ⟨b1, b2⟩ (((S1.drawn 1).below b5).sd.dq) (by omega) a1 a2).mono ?_; rintro e w6 ⟨rfl, v6, hf6, ho6, hv6⟩))
          have S2 := ((S1.drawn 1).below b5).fresh hf6 ho6 hv6
          rw [tx_len] at S2
          clear S1 hf6 ho6 hv6 b5 i2 i3
          go_wp2_with fail
          refine (list_calls _ g _ _ l2 _ S2.sd.dq (by omega)).mono ?_
          rintro e wa ⟨Aa, ca, rfl, oa, -, ba⟩
          have Sa := S2.below ba
          go_wp2_with fail
          refine (txts_calls _ _ _ l2 _ Sa.rd hin2 (by omega)).mono ?_
          rintro e wb ⟨Ab, cb, rfl, ob, -, bb⟩
          have Sb := Sa.below bb
          go_wp2_with fail
          refine (sameT_eq Aa Ab _ _ ca cb _ _ (oa.below bb) ob).mono ?_
          rintro e wc ⟨rfl, nd, rfl⟩
          have Sc := Sb.drawn nd
          generalize wb.drewN nd = wc at Sc ⊢
          go_wp2_with fail
          exact ⟨⟨k + 1, _, _, l2, _, _, by omega, by go_num, rfl, Sc.rd, Sc.sd, Sc.ap, hin2, by omega, by omega⟩, by simp [intOf]; omega⟩
      have q6 : (kind == 6) = false := by simpa using e6
      by_cases e7 : kind = 7
      · subst e7
        as_aux_lemma =>
          by_cases hm : a ∈ l
          · obtain ⟨i, hi, hno⟩ := first_of hm
            obtain ⟨l2, hl2⟩ : ∃ l2, l2 = DqH.insAt l (if bf = true then i else i + 1) b := ⟨_, rfl⟩
            have hin2 : InL l2 := by rw [hl2]; exact in_ins hin ⟨b1, b2⟩ _
            have hlb2 : l2.length ≤ l.length + 1 := by rw [hl2]; unfold DqH.insAt; simp; omega
            have HL2 := Lib.hid hl2
            have Hi := Lib.hid hi
            have Hno := Lib.hid hno
            clear hl2 hi hno hm
            go_wp2_with fail
            refine (insR_yes A _ c l bf a b _ i l2 S0.rd (by omega) Hi.out Hno.out HL2.out).mono ?_
            rintro e w1 ⟨s1, rfl, o1, b1'⟩
            obtain ⟨A1', d1, rfl⟩ := own_form o1
            have S1 := S0.want b1' o1
            clear i0 i1 i2 i3 i4 i5
            obtain ⟨i0, i1, i2, i3, i4, i5⟩ := S1.cells
            simp only at i0 i1 i2 i3 i4 i5
            clear o1 b1' i0 i1 i4
            have hxg := S1.xg.1
            have S1d := sx_drew S1
            go_wp2_with fail
            go_region_held3 (fun w' => w'.cell? ⟨wr.heap.size, 5, none⟩ = some (.bool bf) ∧ w'.cell? ⟨wr.heap.size, 2, none⟩ = some (.int .i64 a) ∧ w'.cell? ⟨wr.heap.size, 3, none⟩ = some (.int .i64 b)) (first | exact ⟨i5, i2, i3⟩ | exact three_below (by assumption) (by assumption) | exact three_only (by assumption) ho6 hxg hxg hxg)
              (first
                | (go_at_call 18; have hbp := bp; refine (printR_calls b _ ⟨b1, b2⟩).mono ?_; rintro e wq ⟨rfl, bq⟩)
                | (go_at_call 18; refine (printR_calls a _ ⟨a1, a2⟩).mono ?_; rintro e wp ⟨rfl, bp⟩)
                | (go_at_call 20; have Sp := (S1d.below bp).below bq
                   refine (insert_yes W.heap.size g N v l bf a b _ i l2 Hi.out Hno.out HL2.out hin ⟨a1, a2⟩ Sp.sd.dq (by omega) (by omega)).mono ?_; rintro e w6 ⟨rfl, v6, hf6, ho6, hv6⟩; have S2 := Sp.fresh hf6 ho6 hv6; rw [tx_len] at S2))
            all_goals (
              clear S1 S1d hf6 ho6 hv6 Sp i2 i3 i5
              go_wp2_with fail
              refine (list_calls _ g _ _ l2 _ S2.sd.dq (by omega)).mono ?_
              rintro e wa ⟨Aa, ca, rfl, oa, -, ba⟩
              have Sa := S2.below ba
              go_wp2_with fail
              refine (txts_calls _ _ _ l2 _ Sa.rd hin2 (by omega)).mono ?_
              rintro e wb ⟨Ab, cb, rfl, ob, -, bb⟩
              have Sb := Sa.below bb
              go_wp2_with fail
              refine (sameT_eq Aa Ab _ _ ca cb _ _ (oa.below bb) ob).mono ?_
              rintro e wc ⟨rfl, nd, rfl⟩
              have Sc := Sb.drawn nd
              generalize wb.drewN nd = wc at Sc ⊢
              go_wp2_with fail
              exact ⟨⟨k + 1, _, _, l2, _, _, by omega, by go_num, rfl, Sc.rd, Sc.sd, Sc.ap, hin2, by omega, by omega⟩, by simp [intOf]; omega⟩)
          · have hin2 := hin
            obtain ⟨l2, hl2⟩ : ∃ l2, l = l2 := ⟨_, rfl⟩
            have hlb2 : l2.length ≤ l.length := by rw [hl2]; exact Nat.le_refl _
            subst hl2
            have Hm := Lib.hid hm
            clear hm
            go_wp2_with fail
            refine (insR_no A _ c l bf a b _ S0.rd (by omega) Hm.out).mono ?_
            rintro e w1 ⟨rfl, rfl⟩
            have S1 := S0
            have S1d := sx_drew S1
            clear i0 i1 i4
            go_wp2_with fail
            go_region_held3 (fun w' => w'.cell? ⟨wr.heap.size, 5, none⟩ = some (.bool bf) ∧ w'.cell? ⟨wr.heap.size, 2, none⟩ = some (.int .i64 a) ∧ w'.cell? ⟨wr.heap.size, 3, none⟩ = some (.int .i64 b)) (first | exact ⟨i5, i2, i3⟩ | exact three_below (by assumption) (by assumption) | exact three_below (by assumption) (DqI.below_drawn (Below.refl _ _) _))
              (first
                | (go_at_call 18; have hbp := bp; refine (printR_calls b _ ⟨b1, b2⟩).mono ?_; rintro e wq ⟨rfl, bq⟩)
                | (go_at_call 18; refine (printR_calls a _ ⟨a1, a2⟩).mono ?_; rintro e wp ⟨rfl, bp⟩)
                | (go_at_call 20; have Sp := (S1d.below bp).below bq
                   refine (insert_no W.heap.size g N v l bf a b _ Hm.out hin ⟨a1, a2⟩ Sp.sd.dq (by omega) (by omega)).mono ?_; rintro e w6 ⟨rfl, nd6, rfl⟩; have S2 := Sp.drawn nd6))
            all_goals (
              clear S1 S1d Sp i2 i3 i5
              go_wp2_with fail
              refine (list_calls _ g _ _ l _ S2.sd.dq (by omega)).mono ?_
              rintro e wa ⟨Aa, ca, rfl, oa, -, ba⟩
              have Sa := S2.below ba
              go_wp2_with fail
              refine (txts_calls _ _ _ l _ Sa.rd hin2 (by omega)).mono ?_
              rintro e wb ⟨Ab, cb, rfl, ob, -, bb⟩
              have Sb := Sa.below bb
              go_wp2_with fail
              refine (sameT_eq Aa Ab _ _ ca cb _ _ (oa.below bb) ob).mono ?_
              rintro e wc ⟨rfl, nd, rfl⟩
              have Sc := Sb.drawn nd
              generalize wb.drewN nd = wc at Sc ⊢
              go_wp2_with fail
              exact ⟨⟨k + 1, _, _, l, _, _, by omega, by go_num, rfl, Sc.rd, Sc.sd, Sc.ap, hin2, by omega, by omega⟩, by simp [intOf]; omega⟩)
      have q7 : (kind == 7) = false := by simpa using e7
      as_aux_lemma =>
        have hin2 := hin
        obtain ⟨G, hG⟩ : ∃ G, G = DqC.pieceL l a b := ⟨_, rfl⟩
        have hGi : InL G := by rw [hG]; exact in_piece hin _ _
        have hGl : G.length ≤ l.length := by rw [hG]; unfold DqC.pieceL; simp; omega
        have HG := Lib.hid hG
        clear hG
        rcases hp : DqC.placeN l.length a with _ | j
        · have HP := Lib.hid hp
          have hyi : inR 0 := by decide
          have hz := zero_ne
          clear hp
          go_wp2_with fail
          refine (at_none W.heap.size g N v l a _ HP.out S0.sd.dq (by omega) a1 a2).mono ?_
          rintro e wx ⟨rfl, nd1, rfl⟩
          have S1 := S0.drawn nd1
          generalize w0.drewN nd1 = w1 at S1 ⊢
          clear i0 i1 i2 i3 i4 i5
          obtain ⟨i0, i1, i2, i3, i4, i5⟩ := S1.cells
          simp only at i0 i1 i2 i3 i4 i5
          go_wp2_with fail
          refine (atR_none A _ c l a _ HP.out S1.rd (by omega) a1 a2).mono ?_
          rintro e wx ⟨rfl, nd2, rfl⟩
          have S1 := S1.drawn nd2
          generalize w1.drewN nd2 = w2 at S1 ⊢
          clear i0 i1 i2 i3 i4 i5
          obtain ⟨i0, i1, i2, i3, i4, i5⟩ := S1.cells
          simp only at i0 i1 i2 i3 i4 i5
          have S1d := sx_drew S1
          clear i0 i1 i4 i5
          go_wp2_with fail
          refine wp_region_held_drew (S := fun w' => w'.cell? ⟨wr.heap.size, 2, none⟩ = some (.int .i64 a) ∧ w'.cell? ⟨wr.heap.size, 3, none⟩ = some (.int .i64 b)) (by kernel_rfl) (⟨i2, i3⟩) (fun hHeld => ?_)
          refine wpAnyH_take (i := 0) (v := ?_) rfl (by kernel_rfl) (by kernel_rfl) (by kernel_rfl) (fun _ _ _ h => h) (Or.inl ⟨by rfl, ?_⟩) (by assumption) ?_
          rotate_left
          · intro wz hSw
            (try dsimp only at hSw)
            first
              | (go_simp; done)
              | (go_simp; with_reducible rfl)
          try simp only [Act.put, List.getElem_toArray, List.getElem_cons_zero, List.getElem_cons_succ, List.setIfInBounds_toArray, List.set_cons_zero, List.set_cons_succ]
          refine wpAnyH_take (i := 1) (v := ?_) rfl (by kernel_rfl) (by kernel_rfl) (by kernel_rfl) (fun _ _ _ h => h) (Or.inl ⟨by rfl, ?_⟩) (by assumption) ?_
          rotate_left
          · intro wz hSw
            (try dsimp only at hSw)
            first
              | (go_simp; done)
              | (go_simp; with_reducible rfl)
          try simp only [Act.put, List.getElem_toArray, List.getElem_cons_zero, List.getElem_cons_succ, List.setIfInBounds_toArray, List.set_cons_zero, List.set_cons_succ]
          refine wpAnyH_take (i := 2) (v := .bool true) rfl (by kernel_rfl) (by kernel_rfl) (by kernel_rfl) (fun _ _ _ h => h) (Or.inl ⟨by rfl, ?_⟩) (by assumption) ?_
          · intro wz hSw
            (try dsimp only at hSw)
            first
              | (go_simp; done)
              | (go_simp; with_reducible rfl)
              | (go_simp; rfl)
          try simp only [Act.put, List.getElem_toArray, List.getElem_cons_zero, List.getElem_cons_succ, List.setIfInBounds_toArray, List.set_cons_zero, List.set_cons_succ]
          refine wpAnyH_take (i := 3) (v := ?_) rfl (by kernel_rfl) (by kernel_rfl) (by kernel_rfl) (fun _ _ _ h => h) (Or.inl ⟨by rfl, ?_⟩) (by assumption) ?_
          rotate_left
          · intro wz hSw
            (try dsimp only at hSw)
            first
              | (go_simp; done)
              | (go_simp; with_reducible rfl)
          try simp only [Act.put, List.getElem_toArray, List.getElem_cons_zero, List.getElem_cons_succ, List.setIfInBounds_toArray, List.set_cons_zero, List.set_cons_succ]
          refine wpAnyH_take (i := 4) (v := ?_) rfl (by kernel_rfl) (by kernel_rfl) (by kernel_rfl) (fun _ _ _ h => h) (Or.inl ⟨by rfl, ?_⟩) (by assumption) ?_
          rotate_left
          · intro wz hSw
            (try dsimp only at hSw)
            first
              | (go_simp; done)
              | (go_simp; with_reducible rfl)
          try simp only [Act.put, List.getElem_toArray, List.getElem_cons_zero, List.getElem_cons_succ, List.setIfInBounds_toArray, List.set_cons_zero, List.set_cons_succ]
          refine wpAnyH_take (i := 5) (v := ?_) rfl (by kernel_rfl) (by kernel_rfl) (by kernel_rfl) (fun _ _ _ h => h) (Or.inl ⟨by rfl, ?_⟩) (by assumption) ?_
          rotate_left
          · intro wz hSw
            (try dsimp only at hSw)
            first
              | (go_simp; done)
              | (go_simp; with_reducible rfl)
          try simp only [Act.put, List.getElem_toArray, List.getElem_cons_zero, List.getElem_cons_succ, List.setIfInBounds_toArray, List.set_cons_zero, List.set_cons_succ]
          refine wpAnyH_ready (rs := [6]) (by kernel_rfl) (by simp) ?_
          refine AllReadyH.cons rfl (fun K6 hK6 => ?_) AllReadyH.nil
          go_simp
          refine (printR_calls 0 _ hyi).mono ?_
          rintro e wp ⟨rfl, bp⟩
          refine hK6.out _ _ (two_below (by assumption) bp) (fun hHeld => ?_)
          clear hK6 K6
          try simp only [Act.put, List.getElem_toArray, List.getElem_cons_zero, List.getElem_cons_succ, List.setIfInBounds_toArray, List.set_cons_zero, List.set_cons_succ]
          refine wpAnyH_take (i := 7) (v := .bool false) rfl (by kernel_rfl) (by kernel_rfl) (by kernel_rfl) (fun _ _ _ h => h) (Or.inl ⟨by rfl, ?_⟩) (by assumption) ?_
          · intro wz hSw
            (try dsimp only at hSw)
            first
              | (go_simp; done)
              | (go_simp; with_reducible rfl)
              | (go_simp; (have hz0 := zero_ne; simpa using hz0))
          try simp only [Act.put, List.getElem_toArray, List.getElem_cons_zero, List.getElem_cons_succ, List.setIfInBounds_toArray, List.set_cons_zero, List.set_cons_succ]
          refine wpAnyH_take (i := 8) (v := ?_) rfl (by kernel_rfl) (by kernel_rfl) (by kernel_rfl) (fun _ _ _ h => h) (Or.inl ⟨by rfl, ?_⟩) (by assumption) ?_
          rotate_left
          · intro wz hSw
            (try dsimp only at hSw)
            first
              | (go_simp; done)
              | (go_simp; with_reducible rfl)
          try simp only [Act.put, List.getElem_toArray, List.getElem_cons_zero, List.getElem_cons_succ, List.setIfInBounds_toArray, List.set_cons_zero, List.set_cons_succ]
          refine wpAnyH_take (i := 9) (v := ?_) rfl (by kernel_rfl) (by kernel_rfl) (by kernel_rfl) (fun _ _ _ h => h) (Or.inl ⟨by rfl, ?_⟩) (by assumption) ?_
          rotate_left
          · intro wz hSw
            (try dsimp only at hSw)
            first
              | (go_simp; done)
              | (go_simp; with_reducible rfl)
          try simp only [Act.put, List.getElem_toArray, List.getElem_cons_zero, List.getElem_cons_succ, List.setIfInBounds_toArray, List.set_cons_zero, List.set_cons_succ]
          refine wpAnyH_take (i := 10) (v := ?_) rfl (by kernel_rfl) (by kernel_rfl) (by kernel_rfl) (fun _ _ _ h => h) (Or.inl ⟨by rfl, ?_⟩) (by assumption) ?_
          rotate_left
          · intro wz hSw
            (try dsimp only at hSw)
            first
              | (go_simp; done)
              | (go_simp; with_reducible rfl)
          try simp only [Act.put, List.getElem_toArray, List.getElem_cons_zero, List.getElem_cons_succ, List.setIfInBounds_toArray, List.set_cons_zero, List.set_cons_succ]
          refine wpAnyH_take (i := 11) (v := ?_) rfl (by kernel_rfl) (by kernel_rfl) (by kernel_rfl) (fun _ _ _ h => h) (Or.inl ⟨by rfl, ?_⟩) (by assumption) ?_
          rotate_left
          · intro wz hSw
            (try dsimp only at hSw)
            first
              | (go_simp; done)
              | (go_simp; with_reducible rfl)
          try simp only [Act.put, List.getElem_toArray, List.getElem_cons_zero, List.getElem_cons_succ, List.setIfInBounds_toArray, List.set_cons_zero, List.set_cons_succ]
          refine wpAnyH_take (i := 12) (v := ?_) rfl (by kernel_rfl) (by kernel_rfl) (by kernel_rfl) (fun _ _ _ h => h) (Or.inl ⟨by rfl, ?_⟩) (by assumption) ?_
          rotate_left
          · intro wz hSw
            (try dsimp only at hSw)
            first
              | (go_simp; done)
              | (go_simp; with_reducible rfl)
          try simp only [Act.put, List.getElem_toArray, List.getElem_cons_zero, List.getElem_cons_succ, List.setIfInBounds_toArray, List.set_cons_zero, List.set_cons_succ]
          refine wpAnyH_take (i := 13) (v := .bool true) rfl (by kernel_rfl) (by kernel_rfl) (by kernel_rfl) (fun _ _ _ h => h) (Or.inl ⟨by rfl, ?_⟩) (by assumption) ?_
          · intro wz hSw
            (try dsimp only at hSw)
            first
              | (go_simp; done)
              | (go_simp; with_reducible rfl)
              | (go_simp; rfl)
          try simp only [Act.put, List.getElem_toArray, List.getElem_cons_zero, List.getElem_cons_succ, List.setIfInBounds_toArray, List.set_cons_zero, List.set_cons_succ]
          refine wpAnyH_take (i := 14) (v := ?_) rfl (by kernel_rfl) (by kernel_rfl) (by kernel_rfl) (fun _ _ _ h => h) (Or.inl ⟨by rfl, ?_⟩) (by assumption) ?_
          rotate_left
          · intro wz hSw
            (try dsimp only at hSw)
            first
              | (go_simp; done)
              | (go_simp; with_reducible rfl)
          try simp only [Act.put, List.getElem_toArray, List.getElem_cons_zero, List.getElem_cons_succ, List.setIfInBounds_toArray, List.set_cons_zero, List.set_cons_succ]
          refine wpAnyH_take (i := 15) (v := ?_) rfl (by kernel_rfl) (by kernel_rfl) (by kernel_rfl) (fun _ _ _ h => h) (Or.inl ⟨by rfl, ?_⟩) (by assumption) ?_
          rotate_left
          · intro wz hSw
            (try dsimp only at hSw)
            first
              | (go_simp; done)
              | (go_simp; with_reducible rfl)
          try simp only [Act.put, List.getElem_toArray, List.getElem_cons_zero, List.getElem_cons_succ, List.setIfInBounds_toArray, List.set_cons_zero, List.set_cons_succ]
          refine wpAnyH_take (i := 16) (v := ?_) rfl (by kernel_rfl) (by kernel_rfl) (by kernel_rfl) (fun _ _ _ h => h) (Or.inl ⟨by rfl, ?_⟩) (by assumption) ?_
          rotate_left
          · intro wz hSw
            (try dsimp only at hSw)
            first
              | (go_simp; done)
              | (go_simp; with_reducible rfl)
          try simp only [Act.put, List.getElem_toArray, List.getElem_cons_zero, List.getElem_cons_succ, List.setIfInBounds_toArray, List.set_cons_zero, List.set_cons_succ]
          refine wpAnyH_take (i := 17) (v := ?_) rfl (by kernel_rfl) (by kernel_rfl) (by kernel_rfl) (fun _ _ _ h => h) (Or.inl ⟨by rfl, ?_⟩) (by assumption) ?_
          rotate_left
          · intro wz hSw
            (try dsimp only at hSw)
            first
              | (go_simp; done)
              | (go_simp; with_reducible rfl)
          try simp only [Act.put, List.getElem_toArray, List.getElem_cons_zero, List.getElem_cons_succ, List.setIfInBounds_toArray, List.set_cons_zero, List.set_cons_succ]
          refine wpAnyH_take (i := 18) (v := ?_) rfl (by kernel_rfl) (by kernel_rfl) (by kernel_rfl) (fun _ _ _ h => h) (Or.inl ⟨by rfl, ?_⟩) (by assumption) ?_
          rotate_left
          · intro wz hSw
            (try dsimp only at hSw)
            first
              | (go_simp; done)
              | (go_simp; with_reducible rfl)
          try simp only [Act.put, List.getElem_toArray, List.getElem_cons_zero, List.getElem_cons_succ, List.setIfInBounds_toArray, List.set_cons_zero, List.set_cons_succ]
          refine wpAnyH_take (i := 19) (v := ?_) rfl (by kernel_rfl) (by kernel_rfl) (by kernel_rfl) (fun _ _ _ h => h) (Or.inl ⟨by rfl, ?_⟩) (by assumption) ?_
          rotate_left
          · intro wz hSw
            (try dsimp only at hSw)
            first
              | (go_simp; done)
              | (go_simp; with_reducible rfl)
          try simp only [Act.put, List.getElem_toArray, List.getElem_cons_zero, List.getElem_cons_succ, List.setIfInBounds_toArray, List.set_cons_zero, List.set_cons_succ]
          refine wpAnyH_take (i := 20) (v := ?_) rfl (by kernel_rfl) (by kernel_rfl) (by kernel_rfl) (fun _ _ _ h => h) (Or.inl ⟨by rfl, ?_⟩) (by assumption) ?_
          rotate_left
          · intro wz hSw
            (try dsimp only at hSw)
            first
              | (go_simp; done)
              | (go_simp; with_reducible rfl)
          try simp only [Act.put, List.getElem_toArray, List.getElem_cons_zero, List.getElem_cons_succ, List.setIfInBounds_toArray, List.set_cons_zero, List.set_cons_succ]
          refine wpAnyH_take (i := 21) (v := ?_) rfl (by kernel_rfl) (by kernel_rfl) (by kernel_rfl) (fun _ _ _ h => h) (Or.inl ⟨by rfl, ?_⟩) (by assumption) ?_
          rotate_left
          · intro wz hSw
            (try dsimp only at hSw)
            first
              | (go_simp; done)
              | (go_simp; with_reducible rfl)
          try simp only [Act.put, List.getElem_toArray, List.getElem_cons_zero, List.getElem_cons_succ, List.setIfInBounds_toArray, List.set_cons_zero, List.set_cons_succ]
          refine wpAnyH_take (i := 22) (v := ?_) rfl (by kernel_rfl) (by kernel_rfl) (by kernel_rfl) (fun _ _ _ h => h) (Or.inl ⟨by rfl, ?_⟩) (by assumption) ?_
          rotate_left
          · intro wz hSw
            (try dsimp only at hSw)
            first
              | (go_simp; done)
              | (go_simp; with_reducible rfl)
          try simp only [Act.put, List.getElem_toArray, List.getElem_cons_zero, List.getElem_cons_succ, List.setIfInBounds_toArray, List.set_cons_zero, List.set_cons_succ]
          refine wpAnyH_take (i := 24) (v := ?_) rfl (by kernel_rfl) (by kernel_rfl) (by kernel_rfl) (fun _ _ _ h => h) (Or.inl ⟨by rfl, ?_⟩) (by assumption) ?_
          rotate_left
          · intro wz hSw
            (try dsimp only at hSw)
            first
              | (go_simp; done)
              | (go_simp; with_reducible rfl)
          try simp only [Act.put, List.getElem_toArray, List.getElem_cons_zero, List.getElem_cons_succ, List.setIfInBounds_toArray, List.set_cons_zero, List.set_cons_succ]
          refine wpAnyH_take (i := 25) (v := ?_) rfl (by kernel_rfl) (by kernel_rfl) (by kernel_rfl) (fun _ _ _ h => h) (Or.inl ⟨by rfl, ?_⟩) (by assumption) ?_
          rotate_left
          · intro wz hSw
            (try dsimp only at hSw)
            first
              | (go_simp; done)
              | (go_simp; with_reducible rfl)
          try simp only [Act.put, List.getElem_toArray, List.getElem_cons_zero, List.getElem_cons_succ, List.setIfInBounds_toArray, List.set_cons_zero, List.set_cons_succ]
          refine wpAnyH_take (i := 26) (v := ?_) rfl (by kernel_rfl) (by kernel_rfl) (by kernel_rfl) (fun _ _ _ h => h) (Or.inl ⟨by rfl, ?_⟩) (by assumption) ?_
          rotate_left
          · intro wz hSw
            (try dsimp only at hSw)
            first
              | (go_simp; done)
              | (go_simp; with_reducible rfl)
          try simp only [Act.put, List.getElem_toArray, List.getElem_cons_zero, List.getElem_cons_succ, List.setIfInBounds_toArray, List.set_cons_zero, List.set_cons_succ]
          refine wpAnyH_take (i := 27) (v := ?_) rfl (by kernel_rfl) (by kernel_rfl) (by kernel_rfl) (fun _ _ _ h => h) (Or.inl ⟨by rfl, ?_⟩) (by assumption) ?_
          rotate_left
          · intro wz hSw
            (try dsimp only at hSw)
            first
              | (go_simp; done)
              | (go_simp; with_reducible rfl)
          try simp only [Act.put, List.getElem_toArray, List.getElem_cons_zero, List.getElem_cons_succ, List.setIfInBounds_toArray, List.set_cons_zero, List.set_cons_succ]
          refine wpAnyH_take (i := 28) (v := ?_) rfl (by kernel_rfl) (by kernel_rfl) (by kernel_rfl) (fun _ _ _ h => h) (Or.inl ⟨by rfl, ?_⟩) (by assumption) ?_
          rotate_left
          · intro wz hSw
            (try dsimp only at hSw)
            first
              | (go_simp; done)
              | (go_simp; with_reducible rfl)
          try simp only [Act.put, List.getElem_toArray, List.getElem_cons_zero, List.getElem_cons_succ, List.setIfInBounds_toArray, List.set_cons_zero, List.set_cons_succ]
          refine wpAnyH_ready (rs := [23]) (by kernel_rfl) (by simp) ?_
          refine AllReadyH.cons rfl (fun K23 hK23 => ?_) AllReadyH.nil
          go_simp
          refine (slice_txc W.heap.size g N v l a b _ G HG.out ((S1d.below bp).sd.dq) (by omega) a1 a2 b1 b2).mono ?_
          rintro e ws ⟨As, cs, rfl, os, -, bs⟩
          refine hK23.out _ _ (two_below (by assumption) bs) (fun hHeld => ?_)
          clear hK23 K23
          try simp only [Act.put, List.getElem_toArray, List.getElem_cons_zero, List.getElem_cons_succ, List.setIfInBounds_toArray, List.set_cons_zero, List.set_cons_succ]
          refine wpAnyH_ready (rs := [29]) (by kernel_rfl) (by simp) ?_
          refine AllReadyH.cons rfl (fun K29 hK29 => ?_) AllReadyH.nil
          go_simp
          refine (DqW.rPiece_calls A _ c l a b _ (((S1d.below bp).below bs).rd) (by omega) a1 a2 b1 b2).mono ?_
          rintro e wv ⟨sv, rfl, ov, bv⟩
          rw [← HG.out] at ov
          obtain ⟨Av, cv, rfl⟩ := own_form ov
          refine hK29.out _ _ (two_below (by assumption) bv) (fun hHeld => ?_)
          clear hK29 K29
          try simp only [Act.put, List.getElem_toArray, List.getElem_cons_zero, List.getElem_cons_succ, List.setIfInBounds_toArray, List.set_cons_zero, List.set_cons_succ]
          refine wpAnyH_ready (rs := [30]) (by kernel_rfl) (by simp) ?_
          refine AllReadyH.cons rfl (fun K30 hK30 => ?_) AllReadyH.nil
          go_simp
          refine (txts_calls Av _ cv G _ (Rd.of_own ov) hGi (by omega)).mono ?_
          rintro e wt ⟨At, ct, rfl, ot, -, bt⟩
          refine hK30.out _ _ (two_below (by assumption) bt) (fun hHeld => ?_)
          clear hK30 K30
          try simp only [Act.put, List.getElem_toArray, List.getElem_cons_zero, List.getElem_cons_succ, List.setIfInBounds_toArray, List.set_cons_zero, List.set_cons_succ]
          refine wpAnyH_ready (rs := [31]) (by kernel_rfl) (by simp) ?_
          refine AllReadyH.cons rfl (fun K31 hK31 => ?_) AllReadyH.nil
          go_simp
          refine (sameT_eq As At _ _ cs ct _ _ ((os.below bv).below bt) ot).mono ?_
          rintro e wu ⟨rfl, ndu, rfl⟩
          refine hK31.out _ _ (two_below (by assumption) (DqI.below_drawn (Below.refl _ _) _)) (fun hHeld => ?_)
          clear hK31 K31
          try simp only [Act.put, List.getElem_toArray, List.getElem_cons_zero, List.getElem_cons_succ, List.setIfInBounds_toArray, List.set_cons_zero, List.set_cons_succ]
          refine wpAnyH_take (i := 32) (v := ?_) rfl (by kernel_rfl) (by kernel_rfl) (by kernel_rfl) (fun _ _ _ h => h) (Or.inl ⟨by rfl, ?_⟩) (by assumption) ?_
          rotate_left
          · intro wz hSw
            (try dsimp only at hSw)
            first
              | (go_simp; done)
              | (go_simp; with_reducible rfl)
          try simp only [Act.put, List.getElem_toArray, List.getElem_cons_zero, List.getElem_cons_succ, List.setIfInBounds_toArray, List.set_cons_zero, List.set_cons_succ]
          refine wpAnyH_take (i := 33) (v := ?_) rfl (by kernel_rfl) (by kernel_rfl) (by kernel_rfl) (fun _ _ _ h => h) (Or.inl ⟨by rfl, ?_⟩) (by assumption) ?_
          rotate_left
          · intro wz hSw
            (try dsimp only at hSw)
            first
              | (go_simp; done)
              | (go_simp; with_reducible rfl)
          try simp only [Act.put, List.getElem_toArray, List.getElem_cons_zero, List.getElem_cons_succ, List.setIfInBounds_toArray, List.set_cons_zero, List.set_cons_succ]
          refine wpAnyH_done (by kernel_rfl) ?_ _
          all_goals (
            have S2 := ((((S1d.below bp).below bs).below bv).below bt).drawn ndu
            clear S1 S1d bp bs bv bt os ov ot i2 i3
            generalize wt.drewN ndu = w9 at S2 ⊢
            go_wp2_with fail
            refine (list_calls _ g _ _ l _ S2.sd.dq (by omega)).mono ?_
            rintro e wa ⟨Aa, ca, rfl, oa, -, ba⟩
            have Sa := S2.below ba
            go_wp2_with fail
            refine (txts_calls _ _ _ l _ Sa.rd hin (by omega)).mono ?_
            rintro e wb ⟨Ab, cb, rfl, ob, -, bb⟩
            have Sb := Sa.below bb
            go_wp2_with fail
            refine (sameT_eq Aa Ab _ _ ca cb _ _ (oa.below bb) ob).mono ?_
            rintro e wc ⟨rfl, nd, rfl⟩
            have Sc := Sb.drawn nd
            generalize wb.drewN nd = wc at Sc ⊢
            go_wp2_with fail
            exact ⟨⟨k + 1, _, _, l, _, _, by omega, by go_num, rfl, Sc.rd, Sc.sd, Sc.ap, hin, by omega, by omega⟩, by simp [intOf]; omega⟩)
        · obtain ⟨y, hy⟩ : ∃ y, l[j]? = some y := ⟨_, List.getElem?_eq_getElem (DqV.place_lt hp)⟩
          have hyi : inR y := hin y (List.mem_of_getElem? hy)
          have HP := Lib.hid hp
          have HY := Lib.hid hy
          have hq : ((txt y).toList == (txt y).toList) = true := by simp
          clear hp hy
          go_wp2_with fail
          refine (at_some W.heap.size g N v l a _ j y HP.out HY.out S0.sd.dq (by omega) a1 a2).mono ?_
          rintro e wx ⟨rfl, nd1, rfl⟩
          have S1 := S0.drawn nd1
          generalize w0.drewN nd1 = w1 at S1 ⊢
          clear i0 i1 i2 i3 i4 i5
          obtain ⟨i0, i1, i2, i3, i4, i5⟩ := S1.cells
          simp only at i0 i1 i2 i3 i4 i5
          go_wp2_with fail
          refine (atR_some A _ c l a _ j y HP.out HY.out S1.rd (by omega) a1 a2).mono ?_
          rintro e wx ⟨rfl, nd2, rfl⟩
          have S1 := S1.drawn nd2
          generalize w1.drewN nd2 = w2 at S1 ⊢
          clear i0 i1 i2 i3 i4 i5
          obtain ⟨i0, i1, i2, i3, i4, i5⟩ := S1.cells
          simp only at i0 i1 i2 i3 i4 i5
          have S1d := sx_drew S1
          clear i0 i1 i4 i5
          go_wp2_with fail
          refine wp_region_held_drew (S := fun w' => w'.cell? ⟨wr.heap.size, 2, none⟩ = some (.int .i64 a) ∧ w'.cell? ⟨wr.heap.size, 3, none⟩ = some (.int .i64 b)) (by kernel_rfl) (⟨i2, i3⟩) (fun hHeld => ?_)
          refine wpAnyH_take (i := 0) (v := ?_) rfl (by kernel_rfl) (by kernel_rfl) (by kernel_rfl) (fun _ _ _ h => h) (Or.inl ⟨by rfl, ?_⟩) (by assumption) ?_
          rotate_left
          · intro wz hSw
            (try dsimp only at hSw)
            first
              | (go_simp; done)
              | (go_simp; with_reducible rfl)
          try simp only [Act.put, List.getElem_toArray, List.getElem_cons_zero, List.getElem_cons_succ, List.setIfInBounds_toArray, List.set_cons_zero, List.set_cons_succ]
          refine wpAnyH_take (i := 1) (v := ?_) rfl (by kernel_rfl) (by kernel_rfl) (by kernel_rfl) (fun _ _ _ h => h) (Or.inl ⟨by rfl, ?_⟩) (by assumption) ?_
          rotate_left
          · intro wz hSw
            (try dsimp only at hSw)
            first
              | (go_simp; done)
              | (go_simp; with_reducible rfl)
          try simp only [Act.put, List.getElem_toArray, List.getElem_cons_zero, List.getElem_cons_succ, List.setIfInBounds_toArray, List.set_cons_zero, List.set_cons_succ]
          refine wpAnyH_take (i := 2) (v := .bool true) rfl (by kernel_rfl) (by kernel_rfl) (by kernel_rfl) (fun _ _ _ h => h) (Or.inl ⟨by rfl, ?_⟩) (by assumption) ?_
          · intro wz hSw
            (try dsimp only at hSw)
            first
              | (go_simp; done)
              | (go_simp; with_reducible rfl)
              | (go_simp; rfl)
          try simp only [Act.put, List.getElem_toArray, List.getElem_cons_zero, List.getElem_cons_succ, List.setIfInBounds_toArray, List.set_cons_zero, List.set_cons_succ]
          refine wpAnyH_take (i := 3) (v := ?_) rfl (by kernel_rfl) (by kernel_rfl) (by kernel_rfl) (fun _ _ _ h => h) (Or.inl ⟨by rfl, ?_⟩) (by assumption) ?_
          rotate_left
          · intro wz hSw
            (try dsimp only at hSw)
            first
              | (go_simp; done)
              | (go_simp; with_reducible rfl)
          try simp only [Act.put, List.getElem_toArray, List.getElem_cons_zero, List.getElem_cons_succ, List.setIfInBounds_toArray, List.set_cons_zero, List.set_cons_succ]
          refine wpAnyH_take (i := 4) (v := ?_) rfl (by kernel_rfl) (by kernel_rfl) (by kernel_rfl) (fun _ _ _ h => h) (Or.inl ⟨by rfl, ?_⟩) (by assumption) ?_
          rotate_left
          · intro wz hSw
            (try dsimp only at hSw)
            first
              | (go_simp; done)
              | (go_simp; with_reducible rfl)
          try simp only [Act.put, List.getElem_toArray, List.getElem_cons_zero, List.getElem_cons_succ, List.setIfInBounds_toArray, List.set_cons_zero, List.set_cons_succ]
          refine wpAnyH_take (i := 5) (v := ?_) rfl (by kernel_rfl) (by kernel_rfl) (by kernel_rfl) (fun _ _ _ h => h) (Or.inl ⟨by rfl, ?_⟩) (by assumption) ?_
          rotate_left
          · intro wz hSw
            (try dsimp only at hSw)
            first
              | (go_simp; done)
              | (go_simp; with_reducible rfl)
          try simp only [Act.put, List.getElem_toArray, List.getElem_cons_zero, List.getElem_cons_succ, List.setIfInBounds_toArray, List.set_cons_zero, List.set_cons_succ]
          refine wpAnyH_ready (rs := [6]) (by kernel_rfl) (by simp) ?_
          refine AllReadyH.cons rfl (fun K6 hK6 => ?_) AllReadyH.nil
          go_simp
          refine (printR_calls y _ hyi).mono ?_
          rintro e wp ⟨rfl, bp⟩
          refine hK6.out _ _ (two_below (by assumption) bp) (fun hHeld => ?_)
          clear hK6 K6
          try simp only [Act.put, List.getElem_toArray, List.getElem_cons_zero, List.getElem_cons_succ, List.setIfInBounds_toArray, List.set_cons_zero, List.set_cons_succ]
          refine wpAnyH_take (i := 7) (v := .bool true) rfl (by kernel_rfl) (by kernel_rfl) (by kernel_rfl) (fun _ _ _ h => h) (Or.inl ⟨by rfl, ?_⟩) (by assumption) ?_
          · intro wz hSw
            (try dsimp only at hSw)
            first
              | (go_simp; done)
              | (go_simp; with_reducible rfl)
              | (go_simp; exact self_eq y)
          try simp only [Act.put, List.getElem_toArray, List.getElem_cons_zero, List.getElem_cons_succ, List.setIfInBounds_toArray, List.set_cons_zero, List.set_cons_succ]
          refine wpAnyH_take (i := 8) (v := ?_) rfl (by kernel_rfl) (by kernel_rfl) (by kernel_rfl) (fun _ _ _ h => h) (Or.inl ⟨by rfl, ?_⟩) (by assumption) ?_
          rotate_left
          · intro wz hSw
            (try dsimp only at hSw)
            first
              | (go_simp; done)
              | (go_simp; with_reducible rfl)
          try simp only [Act.put, List.getElem_toArray, List.getElem_cons_zero, List.getElem_cons_succ, List.setIfInBounds_toArray, List.set_cons_zero, List.set_cons_succ]
          refine wpAnyH_take (i := 9) (v := undef) rfl (by kernel_rfl) (by kernel_rfl) (by kernel_rfl) (fun _ _ _ h => h) (Or.inr ⟨by rfl, rfl⟩) (by assumption) ?_
          try simp only [Act.put, List.getElem_toArray, List.getElem_cons_zero, List.getElem_cons_succ, List.setIfInBounds_toArray, List.set_cons_zero, List.set_cons_succ]
          refine wpAnyH_take (i := 10) (v := undef) rfl (by kernel_rfl) (by kernel_rfl) (by kernel_rfl) (fun _ _ _ h => h) (Or.inr ⟨by rfl, rfl⟩) (by assumption) ?_
          try simp only [Act.put, List.getElem_toArray, List.getElem_cons_zero, List.getElem_cons_succ, List.setIfInBounds_toArray, List.set_cons_zero, List.set_cons_succ]
          refine wpAnyH_take (i := 11) (v := undef) rfl (by kernel_rfl) (by kernel_rfl) (by kernel_rfl) (fun _ _ _ h => h) (Or.inr ⟨by rfl, rfl⟩) (by assumption) ?_
          try simp only [Act.put, List.getElem_toArray, List.getElem_cons_zero, List.getElem_cons_succ, List.setIfInBounds_toArray, List.set_cons_zero, List.set_cons_succ]
          refine wpAnyH_take (i := 12) (v := undef) rfl (by kernel_rfl) (by kernel_rfl) (by kernel_rfl) (fun _ _ _ h => h) (Or.inr ⟨by rfl, rfl⟩) (by assumption) ?_
          try simp only [Act.put, List.getElem_toArray, List.getElem_cons_zero, List.getElem_cons_succ, List.setIfInBounds_toArray, List.set_cons_zero, List.set_cons_succ]
          refine wpAnyH_take (i := 13) (v := undef) rfl (by kernel_rfl) (by kernel_rfl) (by kernel_rfl) (fun _ _ _ h => h) (Or.inr ⟨by rfl, rfl⟩) (by assumption) ?_
          try simp only [Act.put, List.getElem_toArray, List.getElem_cons_zero, List.getElem_cons_succ, List.setIfInBounds_toArray, List.set_cons_zero, List.set_cons_succ]
          refine wpAnyH_take (i := 14) (v := undef) rfl (by kernel_rfl) (by kernel_rfl) (by kernel_rfl) (fun _ _ _ h => h) (Or.inr ⟨by rfl, rfl⟩) (by assumption) ?_
          try simp only [Act.put, List.getElem_toArray, List.getElem_cons_zero, List.getElem_cons_succ, List.setIfInBounds_toArray, List.set_cons_zero, List.set_cons_succ]
          refine wpAnyH_take (i := 15) (v := ?_) rfl (by kernel_rfl) (by kernel_rfl) (by kernel_rfl) (fun _ _ _ h => h) (Or.inl ⟨by rfl, ?_⟩) (by assumption) ?_
          rotate_left
          · intro wz hSw
            (try dsimp only at hSw)
            first
              | (go_simp; done)
              | (go_simp; with_reducible rfl)
          try simp only [Act.put, List.getElem_toArray, List.getElem_cons_zero, List.getElem_cons_succ, List.setIfInBounds_toArray, List.set_cons_zero, List.set_cons_succ]
          refine wpAnyH_take (i := 16) (v := ?_) rfl (by kernel_rfl) (by kernel_rfl) (by kernel_rfl) (fun _ _ _ h => h) (Or.inl ⟨by rfl, ?_⟩) (by assumption) ?_
          rotate_left
          · intro wz hSw
            (try dsimp only at hSw)
            first
              | (go_simp; done)
              | (go_simp; with_reducible rfl)
          try simp only [Act.put, List.getElem_toArray, List.getElem_cons_zero, List.getElem_cons_succ, List.setIfInBounds_toArray, List.set_cons_zero, List.set_cons_succ]
          refine wpAnyH_take (i := 17) (v := ?_) rfl (by kernel_rfl) (by kernel_rfl) (by kernel_rfl) (fun _ _ _ h => h) (Or.inl ⟨by rfl, ?_⟩) (by assumption) ?_
          rotate_left
          · intro wz hSw
            (try dsimp only at hSw)
            first
              | (go_simp; done)
              | (go_simp; with_reducible rfl)
          try simp only [Act.put, List.getElem_toArray, List.getElem_cons_zero, List.getElem_cons_succ, List.setIfInBounds_toArray, List.set_cons_zero, List.set_cons_succ]
          refine wpAnyH_take (i := 18) (v := ?_) rfl (by kernel_rfl) (by kernel_rfl) (by kernel_rfl) (fun _ _ _ h => h) (Or.inl ⟨by rfl, ?_⟩) (by assumption) ?_
          rotate_left
          · intro wz hSw
            (try dsimp only at hSw)
            first
              | (go_simp; done)
              | (go_simp; with_reducible rfl)
          try simp only [Act.put, List.getElem_toArray, List.getElem_cons_zero, List.getElem_cons_succ, List.setIfInBounds_toArray, List.set_cons_zero, List.set_cons_succ]
          refine wpAnyH_take (i := 19) (v := ?_) rfl (by kernel_rfl) (by kernel_rfl) (by kernel_rfl) (fun _ _ _ h => h) (Or.inl ⟨by rfl, ?_⟩) (by assumption) ?_
          rotate_left
          · intro wz hSw
            (try dsimp only at hSw)
            first
              | (go_simp; done)
              | (go_simp; with_reducible rfl)
          try simp only [Act.put, List.getElem_toArray, List.getElem_cons_zero, List.getElem_cons_succ, List.setIfInBounds_toArray, List.set_cons_zero, List.set_cons_succ]
          refine wpAnyH_take (i := 20) (v := ?_) rfl (by kernel_rfl) (by kernel_rfl) (by kernel_rfl) (fun _ _ _ h => h) (Or.inl ⟨by rfl, ?_⟩) (by assumption) ?_
          rotate_left
          · intro wz hSw
            (try dsimp only at hSw)
            first
              | (go_simp; done)
              | (go_simp; with_reducible rfl)
          try simp only [Act.put, List.getElem_toArray, List.getElem_cons_zero, List.getElem_cons_succ, List.setIfInBounds_toArray, List.set_cons_zero, List.set_cons_succ]
          refine wpAnyH_take (i := 21) (v := ?_) rfl (by kernel_rfl) (by kernel_rfl) (by kernel_rfl) (fun _ _ _ h => h) (Or.inl ⟨by rfl, ?_⟩) (by assumption) ?_
          rotate_left
          · intro wz hSw
            (try dsimp only at hSw)
            first
              | (go_simp; done)
              | (go_simp; with_reducible rfl)
          try simp only [Act.put, List.getElem_toArray, List.getElem_cons_zero, List.getElem_cons_succ, List.setIfInBounds_toArray, List.set_cons_zero, List.set_cons_succ]
          refine wpAnyH_take (i := 22) (v := ?_) rfl (by kernel_rfl) (by kernel_rfl) (by kernel_rfl) (fun _ _ _ h => h) (Or.inl ⟨by rfl, ?_⟩) (by assumption) ?_
          rotate_left
          · intro wz hSw
            (try dsimp only at hSw)
            first
              | (go_simp; done)
              | (go_simp; with_reducible rfl)
          try simp only [Act.put, List.getElem_toArray, List.getElem_cons_zero, List.getElem_cons_succ, List.setIfInBounds_toArray, List.set_cons_zero, List.set_cons_succ]
          refine wpAnyH_take (i := 24) (v := ?_) rfl (by kernel_rfl) (by kernel_rfl) (by kernel_rfl) (fun _ _ _ h => h) (Or.inl ⟨by rfl, ?_⟩) (by assumption) ?_
          rotate_left
          · intro wz hSw
            (try dsimp only at hSw)
            first
              | (go_simp; done)
              | (go_simp; with_reducible rfl)
          try simp only [Act.put, List.getElem_toArray, List.getElem_cons_zero, List.getElem_cons_succ, List.setIfInBounds_toArray, List.set_cons_zero, List.set_cons_succ]
          refine wpAnyH_take (i := 25) (v := ?_) rfl (by kernel_rfl) (by kernel_rfl) (by kernel_rfl) (fun _ _ _ h => h) (Or.inl ⟨by rfl, ?_⟩) (by assumption) ?_
          rotate_left
          · intro wz hSw
            (try dsimp only at hSw)
            first
              | (go_simp; done)
              | (go_simp; with_reducible rfl)
          try simp only [Act.put, List.getElem_toArray, List.getElem_cons_zero, List.getElem_cons_succ, List.setIfInBounds_toArray, List.set_cons_zero, List.set_cons_succ]
          refine wpAnyH_take (i := 26) (v := ?_) rfl (by kernel_rfl) (by kernel_rfl) (by kernel_rfl) (fun _ _ _ h => h) (Or.inl ⟨by rfl, ?_⟩) (by assumption) ?_
          rotate_left
          · intro wz hSw
            (try dsimp only at hSw)
            first
              | (go_simp; done)
              | (go_simp; with_reducible rfl)
          try simp only [Act.put, List.getElem_toArray, List.getElem_cons_zero, List.getElem_cons_succ, List.setIfInBounds_toArray, List.set_cons_zero, List.set_cons_succ]
          refine wpAnyH_take (i := 27) (v := ?_) rfl (by kernel_rfl) (by kernel_rfl) (by kernel_rfl) (fun _ _ _ h => h) (Or.inl ⟨by rfl, ?_⟩) (by assumption) ?_
          rotate_left
          · intro wz hSw
            (try dsimp only at hSw)
            first
              | (go_simp; done)
              | (go_simp; with_reducible rfl)
          try simp only [Act.put, List.getElem_toArray, List.getElem_cons_zero, List.getElem_cons_succ, List.setIfInBounds_toArray, List.set_cons_zero, List.set_cons_succ]
          refine wpAnyH_take (i := 28) (v := ?_) rfl (by kernel_rfl) (by kernel_rfl) (by kernel_rfl) (fun _ _ _ h => h) (Or.inl ⟨by rfl, ?_⟩) (by assumption) ?_
          rotate_left
          · intro wz hSw
            (try dsimp only at hSw)
            first
              | (go_simp; done)
              | (go_simp; with_reducible rfl)
          try simp only [Act.put, List.getElem_toArray, List.getElem_cons_zero, List.getElem_cons_succ, List.setIfInBounds_toArray, List.set_cons_zero, List.set_cons_succ]
          refine wpAnyH_ready (rs := [23]) (by kernel_rfl) (by simp) ?_
          refine AllReadyH.cons rfl (fun K23 hK23 => ?_) AllReadyH.nil
          go_simp
          refine (slice_txc W.heap.size g N v l a b _ G HG.out ((S1d.below bp).sd.dq) (by omega) a1 a2 b1 b2).mono ?_
          rintro e ws ⟨As, cs, rfl, os, -, bs⟩
          refine hK23.out _ _ (two_below (by assumption) bs) (fun hHeld => ?_)
          clear hK23 K23
          try simp only [Act.put, List.getElem_toArray, List.getElem_cons_zero, List.getElem_cons_succ, List.setIfInBounds_toArray, List.set_cons_zero, List.set_cons_succ]
          refine wpAnyH_ready (rs := [29]) (by kernel_rfl) (by simp) ?_
          refine AllReadyH.cons rfl (fun K29 hK29 => ?_) AllReadyH.nil
          go_simp
          refine (DqW.rPiece_calls A _ c l a b _ (((S1d.below bp).below bs).rd) (by omega) a1 a2 b1 b2).mono ?_
          rintro e wv ⟨sv, rfl, ov, bv⟩
          rw [← HG.out] at ov
          obtain ⟨Av, cv, rfl⟩ := own_form ov
          refine hK29.out _ _ (two_below (by assumption) bv) (fun hHeld => ?_)
          clear hK29 K29
          try simp only [Act.put, List.getElem_toArray, List.getElem_cons_zero, List.getElem_cons_succ, List.setIfInBounds_toArray, List.set_cons_zero, List.set_cons_succ]
          refine wpAnyH_ready (rs := [30]) (by kernel_rfl) (by simp) ?_
          refine AllReadyH.cons rfl (fun K30 hK30 => ?_) AllReadyH.nil
          go_simp
          refine (txts_calls Av _ cv G _ (Rd.of_own ov) hGi (by omega)).mono ?_
          rintro e wt ⟨At, ct, rfl, ot, -, bt⟩
          refine hK30.out _ _ (two_below (by assumption) bt) (fun hHeld => ?_)
          clear hK30 K30
          try simp only [Act.put, List.getElem_toArray, List.getElem_cons_zero, List.getElem_cons_succ, List.setIfInBounds_toArray, List.set_cons_zero, List.set_cons_succ]
          refine wpAnyH_ready (rs := [31]) (by kernel_rfl) (by simp) ?_
          refine AllReadyH.cons rfl (fun K31 hK31 => ?_) AllReadyH.nil
          go_simp
          refine (sameT_eq As At _ _ cs ct _ _ ((os.below bv).below bt) ot).mono ?_
          rintro e wu ⟨rfl, ndu, rfl⟩
          refine hK31.out _ _ (two_below (by assumption) (DqI.below_drawn (Below.refl _ _) _)) (fun hHeld => ?_)
          clear hK31 K31
          try simp only [Act.put, List.getElem_toArray, List.getElem_cons_zero, List.getElem_cons_succ, List.setIfInBounds_toArray, List.set_cons_zero, List.set_cons_succ]
          refine wpAnyH_take (i := 32) (v := ?_) rfl (by kernel_rfl) (by kernel_rfl) (by kernel_rfl) (fun _ _ _ h => h) (Or.inl ⟨by rfl, ?_⟩) (by assumption) ?_
          rotate_left
          · intro wz hSw
            (try dsimp only at hSw)
            first
              | (go_simp; done)
              | (go_simp; with_reducible rfl)
          try simp only [Act.put, List.getElem_toArray, List.getElem_cons_zero, List.getElem_cons_succ, List.setIfInBounds_toArray, List.set_cons_zero, List.set_cons_succ]
          refine wpAnyH_take (i := 33) (v := ?_) rfl (by kernel_rfl) (by kernel_rfl) (by kernel_rfl) (fun _ _ _ h => h) (Or.inl ⟨by rfl, ?_⟩) (by assumption) ?_
          rotate_left
          · intro wz hSw
            (try dsimp only at hSw)
            first
              | (go_simp; done)
              | (go_simp; with_reducible rfl)
          try simp only [Act.put, List.getElem_toArray, List.getElem_cons_zero, List.getElem_cons_succ, List.setIfInBounds_toArray, List.set_cons_zero, List.set_cons_succ]
          refine wpAnyH_done (by kernel_rfl) ?_ _
          all_goals (
            have S2 := ((((S1d.below bp).below bs).below bv).below bt).drawn ndu
            clear S1 S1d bp bs bv bt os ov ot i2 i3
            generalize wt.drewN ndu = w9 at S2 ⊢
            go_wp2_with fail
            refine (list_calls _ g _ _ l _ S2.sd.dq (by omega)).mono ?_
            rintro e wa ⟨Aa, ca, rfl, oa, -, ba⟩
            have Sa := S2.below ba
            go_wp2_with fail
            refine (txts_calls _ _ _ l _ Sa.rd hin (by omega)).mono ?_
            rintro e wb ⟨Ab, cb, rfl, ob, -, bb⟩
            have Sb := Sa.below bb
            go_wp2_with fail
            refine (sameT_eq Aa Ab _ _ ca cb _ _ (oa.below bb) ob).mono ?_
            rintro e wc ⟨rfl, nd, rfl⟩
            have Sc := Sb.drawn nd
            generalize wb.drewN nd = wc at Sc ⊢
            go_wp2_with fail
            exact ⟨⟨k + 1, _, _, l, _, _, by omega, by go_num, rfl, Sc.rd, Sc.sd, Sc.ap, hin, by omega, by omega⟩, by simp [intOf]; omega⟩)
    · obtain rfl : k = ds.length := by omega
      go_wp2_with fail
      go_ret
      exact ⟨rfl, S.bel⟩
theorem texts_upto (A1 : Option Addr) (n1 c1 : Nat) (f : List Int) (AD : Option Addr) (nD cD : Nat) (ds : List DD) (W : World) (h1 : DqA.RdI W A1 n1 c1 f ∧ InL f) (hD : RdD W AD nD cD ds) (hb : n1 + wt ds ≤ 1048576) :
    Calls Try.prog 3 #[.slice A1 n1 c1, .slice AD nD cD] W fun e w' => e = .returned (.bool true) ∧ Below W.heap.size W w' := texts_law A1 n1 c1 f AD nD cD ds W h1.1 h1.2 hD hb
end Go.Proofs.Ytadjgbhbeamdbaa.DtV
