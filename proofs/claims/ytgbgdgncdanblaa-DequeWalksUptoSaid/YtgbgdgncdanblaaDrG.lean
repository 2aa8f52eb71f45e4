/-
  'do', whatever the kind; the walk of DequeDoes, for scripts of bulk at most 1048576. Conditions: as stated.
-/
import Derived.Test.YtgbgdgncdanblaaDrC
import Derived.Test.YtgbgdgncdanblaaDrD
import Derived.Test.YtgbgdgncdanblaaDrE
import Derived.Test.YtgbgdgncdanblaaDrF
import Derived.Test.YtgbgdgncdanblaaDqR
import Derived.Test.YtgbgdgncdanblaaDqL
set_option maxRecDepth 100000
set_option linter.unusedSimpArgs false
set_option linter.unusedVariables false
namespace Go.Proofs.Ytgbgdgncdanblaa.DrG
open Go.RowKit Go.Proofs.Ytgbgdgncdanblaa.Mem Go.Proofs.Ytgbgdgncdanblaa.DqA Go.Proofs.Ytgbgdgncdanblaa.DqB Go.Proofs.Ytgbgdgncdanblaa.DqD Go.Proofs.Ytgbgdgncdanblaa.DqF Go.Proofs.Ytgbgdgncdanblaa.DqI Go.Proofs.Ytgbgdgncdanblaa.DqO Go.Proofs.Ytgbgdgncdanblaa.DqR Go.Proofs.Ytgbgdgncdanblaa.DrB Go.Proofs.Ytgbgdgncdanblaa.DrC Go.Proofs.Ytgbgdgncdanblaa.DrD Go.Proofs.Ytgbgdgncdanblaa.DrE Go.Proofs.Ytgbgdgncdanblaa.DrF Go.Proofs.Ytgbgdgncdanblaa.DqL

theorem do_calls (B g N : Nat) (v : Value) (l : List Int) (A : Option Addr) (n c : Nat) (kind : Int) (AL : Option Addr) (nL cL : Nat) (L : List Int) (a b d : Int) (bf : Bool) (w : World)
    (hd : Dqn w B g v l N) (hr : RdI w A n c l) (ha : Apart g v A l) (hL : RdI w AL nL cL L) (haL : Apart g v AL L) (hB : B ≤ w.heap.size) (hN : N + nL ≤ 8388608) (hn : n ≤ 1048576) (hnL : nL ≤ 1048576)
    (a1 : -9223372036854775808 ≤ a) (a2 : a ≤ 9223372036854775807) (b1 : -9223372036854775808 ≤ b) (b2 : b ≤ 9223372036854775807) :
    Calls Try.prog 46 #[.pointer (some ⟨g, 0, none⟩), .slice A n c, .agg #[.int .i64 kind, .slice AL nL cL, .int .i64 a, .int .i64 b, .int .i64 d, .bool bf]] w (DoPost B g N v l A nL w) := by
  by_cases h0 : kind = 0
  · subst h0; exact doPushFront_calls B g N v l A n c AL nL cL L a b d bf w hd hr ha hL haL hB hN hn hnL a1 a2 b1 b2
  by_cases h1 : kind = 1
  · subst h1; exact doPushBack_calls B g N v l A n c AL nL cL L a b d bf w hd hr ha hL haL hB hN hn hnL a1 a2 b1 b2
  by_cases h2 : kind = 2
  · subst h2; exact doPopFront_calls B g N v l A n c AL nL cL L a b d bf w hd hr ha hL haL hB hN hn hnL a1 a2 b1 b2
  by_cases h3 : kind = 3
  · subst h3; exact doPopBack_calls B g N v l A n c AL nL cL L a b d bf w hd hr ha hL haL hB hN hn hnL a1 a2 b1 b2
  by_cases h4 : kind = 4
  · subst h4; exact doPut_calls B g N v l A n c AL nL cL L a b d bf w hd hr ha hL haL hB hN hn hnL a1 a2 b1 b2
  by_cases h5 : kind = 5
  · subst h5; exact doTrim_calls B g N v l A n c AL nL cL L a b d bf w hd hr ha hL haL hB hN hn hnL a1 a2 b1 b2
  by_cases h6 : kind = 6
  · subst h6; exact doRemove_calls B g N v l A n c AL nL cL L a b d bf w hd hr ha hL haL hB hN hn hnL a1 a2 b1 b2
  by_cases h7 : kind = 7
  · subst h7; exact doInsert_calls B g N v l A n c AL nL cL L a b d bf w hd hr ha hL haL hB hN hn hnL a1 a2 b1 b2
  exact doElse_calls B g N v l A n c kind AL nL cL L a b d bf w hd hr ha hL haL hB hN hn hnL (by simpa using h0) (by simpa using h1) (by simpa using h2) (by simpa using h3) (by simpa using h4) (by simpa using h5) (by simpa using h6) (by simpa using h7) a1 a2 b1 b2

/-- A deed as it was handed in. -/
structure DD where
  (kind a b d : Int)
  bf : Bool
  AL : Option Addr
  (nL cL : Nat)
  L : List Int
def DD.cells (x : DD) : List Value := [.int .i64 x.kind, .slice x.AL x.nL x.cL, .int .i64 x.a, .int .i64 x.b, .int .i64 x.d, .bool x.bf]
structure RdD (W : World) (AD : Option Addr) (nD cD : Nat) (ds : List DD) : Prop where
  len : ds.length = nD
  cap : nD ≤ cD
  big : cD ≤ maxLen
  get : ∀ i x, ds[i]? = some x → ∃ p, AD = some p ∧ ∀ j u, x.cells[j]? = some u → W.cell? ((p.add (i * 6)).add j) = some u
  ok : ∀ x, x ∈ ds → RdI W x.AL x.nL x.cL x.L ∧ (-9223372036854775808 ≤ x.a ∧ x.a ≤ 9223372036854775807) ∧ (-9223372036854775808 ≤ x.b ∧ x.b ≤ 9223372036854775807)
def wt (ds : List DD) : Nat := (ds.map (fun x => x.nL + 1)).sum

theorem wt_drop (ds : List DD) (k : Nat) (x : DD) (h : ds[k]? = some x) : wt (ds.drop k) = (x.nL + 1) + wt (ds.drop (k + 1)) := by
  obtain ⟨hk, e⟩ := List.getElem?_eq_some_iff.1 h
  rw [List.drop_eq_getElem_cons hk, e]
  simp [wt]
theorem wt_len : ∀ ds : List DD, ds.length ≤ wt ds
  | [] => by simp [wt]
  | x :: r => by have := wt_len r; simp [wt] at this ⊢; omega
/-- What was there at W is not the deque's. -/
theorem apart_old {W w : World} {g N : Nat} {v : Value} {l : List Int} {A : Option Addr} {n c : Nat} {k : List Int} (S : Sd W w g v l N) (hr : RdI W A n c k) : Apart g v A k := fun hk ad e =>
  S.sep hr (fun h => hk (by have h2 := rdi_len hr; exact List.eq_nil_of_length_eq_zero (by omega))) ad e

set_option maxHeartbeats 2000000 in
theorem does_calls (A1 : Option Addr) (n1 c1 : Nat) (f : List Int) (AD : Option Addr) (nD cD : Nat) (ds : List DD) (W : World) (h1 : RdI W A1 n1 c1 f) (hD : RdD W AD nD cD ds) (hb : n1 + wt ds ≤ 1048576) :
    Calls Try.prog 7 #[.slice A1 n1 c1, .slice AD nD cD] W fun e w' => e = .returned (.bool true) ∧ Below W.heap.size W w' := by
  obtain rfl := rdi_len h1
  obtain rfl := hD.len
  have hdl : ds.length ≤ 1048576 := by have := wt_len ds; omega
  go_enter Try.func7, Try.ntmps7
  go_wp2_with fail
  refine (ofN_calls A1 _ c1 f _ h1 (by omega)).mono ?_
  rintro e w1 ⟨g, v1, rfl, hd, hb1⟩
  have S1 : Sd W w1 g v1 f f.length := ⟨hd, hb1⟩
  clear hd hb1
  go_wp2_with fail
  refine (awake_calls w1).mono ?_
  rintro e w2 ⟨rfl, hb2⟩
  have S2 := S1.below hb2
  clear hb2 S1
  go_wp2_with fail
  go_loopw [6, 7] (fun wv i wr => ∃ (k : Nat) (v : Value) (N : Nat) (l : List Int) (A : Option Addr) (c : Nat), k ≤ ds.length ∧ i = .int .i64 k ∧ wv = .slice A l.length c ∧ RdI wr A l.length c l ∧ Sd W wr g v l N ∧ Apart g v A l ∧ l.length + wt (ds.drop k) ≤ 1048576 ∧ N + wt (ds.drop k) ≤ 4194304) (fun _ i _ => ds.length - (intOf i).toNat)
  case atStart => exact ⟨0, v1, f.length, f, A1, c1, Nat.zero_le _, rfl, rfl, h1.below S2.bel, S2, apart_old S2 h1, by simpa using hb, by simp; omega⟩
  case round =>
    obtain ⟨k, v, N, l, A, c, hk, rfl, rfl, hr, S, ha, hl1, hl2⟩ := hrel
    by_cases hlt : k < ds.length
    · obtain ⟨x, hx⟩ : ∃ x, ds[k]? = some x := ⟨_, List.getElem?_eq_getElem hlt⟩
      obtain ⟨p, rfl, cp⟩ := hD.get k x hx
      have cp' := fun j u hj => cell_below (cp j u hj) S.bel
      have k0 : wr.cell? (p.add (k * 6)) = some (.int .i64 x.kind) := cp' 0 _ rfl
      have k1 : wr.cell? ⟨(p.add (k * 6)).block, (p.add (k * 6)).off + 1, none⟩ = some (.slice x.AL x.nL x.cL) := cp' 1 _ rfl
      have k2 : wr.cell? ⟨(p.add (k * 6)).block, (p.add (k * 6)).off + 2, none⟩ = some (.int .i64 x.a) := cp' 2 _ rfl
      have k3 : wr.cell? ⟨(p.add (k * 6)).block, (p.add (k * 6)).off + 3, none⟩ = some (.int .i64 x.b) := cp' 3 _ rfl
      have k4 : wr.cell? ⟨(p.add (k * 6)).block, (p.add (k * 6)).off + 4, none⟩ = some (.int .i64 x.d) := cp' 4 _ rfl
      have k5 : wr.cell? ⟨(p.add (k * 6)).block, (p.add (k * 6)).off + 5, none⟩ = some (.bool x.bf) := cp' 5 _ rfl
      obtain ⟨hL, ⟨a1, a2⟩, ⟨b1, b2⟩⟩ := hD.ok x (List.mem_of_getElem? hx)
      have hw := wt_drop ds k x hx
      clear cp cp' hx
      go_wp2_with fail
      refine (do_calls W.heap.size g N v l A l.length c x.kind x.AL x.nL x.cL x.L x.a x.b x.d x.bf wr S.dq hr ha (hL.below S.bel) (apart_old S hL) S.size (by omega) (by omega) (by omega) a1 a2 b1 b2).mono ?_
      rintro e w3 ⟨A', n', c', l', v', N', rfl, hr', hd', ha', hl', hN', ho', -, -⟩
      obtain rfl := rdi_len hr'
      have S3 : Sd W w3 g v' l' N' := ⟨hd', ho'.after S.bel (Nat.le_refl _) (fun k h => h.elim (fun h => by subst h; exact S.dq.ge) (fun h => (S.dq.olt k h).1))⟩
      clear k0 k1 k2 k3 k4 k5 hr S hd' ho' ha hL
      go_wp2_with fail
      refine (len_calls _ g v' l' _ (S3.dq.dq (by omega))).mono ?_
      rintro e w4 ⟨rfl, nd4, rfl⟩
      have S4 := S3.drawn nd4
      have r4 := hr'.drawn nd4
      clear S3 hr'
      generalize w3.drewN nd4 = w4 at S4 r4 ⊢
      go_wp2_with fail
      refine (list_calls _ g v' l' _ (S4.dq.dq (by omega))).mono ?_
      rintro e w5 ⟨s5, rfl, o5, b5⟩
      have S5 := S4.below b5
      have r5 := r4.below b5
      obtain ⟨A5, c5, rfl⟩ := own_form o5
      clear S4 r4
      go_wp2_with fail
      refine (same_calls A5 A' _ _ c5 c' l' l' _ (Rd.of_own o5) r5).mono ?_
      rintro e w6 ⟨rfl, nd6, rfl⟩
      have S6 := S5.drawn nd6
      have r6 := r5.drawn nd6
      clear S5 r5 o5
      generalize w5.drewN nd6 = w6 at S6 r6 ⊢
      go_wp2_with fail
      exact ⟨⟨k + 1, v', N', l', A', c', by omega, by go_num, rfl, r6, S6, ha', by omega, by omega⟩, by simp [intOf]; omega⟩
    · obtain rfl : k = ds.length := by omega
      go_wp2_with fail
      go_ret
      exact ⟨rfl, S.bel⟩
end Go.Proofs.Ytgbgdgncdanblaa.DrG
