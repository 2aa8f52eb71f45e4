/-
  An index over numbers, filled. Conditions: as stated.
-/
import Derived.Test.YtabgngdimbflkaaDiM
import Derived.Test.YtabgngdimbflkaaDvB
set_option maxRecDepth 100000
set_option linter.unusedSimpArgs false
set_option linter.unusedVariables false
namespace Go.Proofs.Ytabgngdimbflkaa.DvE
open Go.RowKit Go.Shelf Go.Proofs.Ytabgngdimbflkaa.Mem Go.Proofs.Ytabgngdimbflkaa.DuA Go.Proofs.Ytabgngdimbflkaa.DuM Go.Proofs.Ytabgngdimbflkaa.DuN Go.Proofs.Ytabgngdimbflkaa.DuB Go.Proofs.Ytabgngdimbflkaa.DuO Go.Proofs.Ytabgngdimbflkaa.DiC Go.Proofs.Ytabgngdimbflkaa.DiH Go.Proofs.Ytabgngdimbflkaa.DiI Go.Proofs.Ytabgngdimbflkaa.DiJ Go.Proofs.Ytabgngdimbflkaa.DiK Go.Proofs.Ytabgngdimbflkaa.DiL Go.Proofs.Ytabgngdimbflkaa.DiM
attribute [local go_sem] Oper.semAt_some

/-- A slice of numbers. -/
abbrev RdN (w : World) (A : Option Addr) (n c : Nat) (l : List Int) : Prop := Rd w 1 A n c (l.flatMap LawR.iF)
theorem rdn_get {W w : World} {A : Option Addr} {n c : Nat} {l : List Int} (h : RdN W A n c l) (hb : Below W.heap.size W w) {i : Nat} {x : Int} (hx : l[i]? = some x) : ∃ p, A = some p ∧ w.cell? (p.add i) = some (.int .i64 x) := by
  obtain ⟨p, e, h1⟩ := LawR.rd_at (f := LawR.iF) (sz := 1) (fun _ => rfl) h hx (by omega)
  refine ⟨p, e, cell_b ?_ hb⟩
  have := h1 0 _ rfl
  rw [Nat.mul_one, add_add, Nat.add_zero] at this
  exact this
/-- What holds between two settings. -/
structure Sn (W : World) (g m k : Nat) (w : World) (v : Value) (l : List (Int × Int)) : Prop where
  ix : Ix w W.heap.size g m v l k
  bel : Below W.heap.size W w
theorem Sn.below {W : World} {g m k : Nat} {w w' : World} {v : Value} {l : List (Int × Int)} (s : Sn W g m k w v l) (b : Below w.heap.size w w') : Sn W g m k w' v l := ⟨s.ix.below b, s.bel.trans (b.mono s.bel.size)⟩
theorem Sn.turn {W : World} {g m k k' : Nat} {w w' : World} {v : Value} {l l' : List (Int × Int)} (s : Sn W g m k w v l) (t : Turn W.heap.size g m v l' k' w w') : ∃ v', Sn W g m k' w' v' l' := by
  obtain ⟨v', h', o, _⟩ := t
  exact ⟨v', h', o.after s.bel (Nat.le_refl _) (fun k hk => (s.ix.lt k hk).1)⟩
theorem set_due {l : List (Int × Int)} (hs : Srt ltI l) {k t : Int} (ht : okT t) : dueL (setL l k t) k = some t := by
  unfold setL
  rw [if_pos ht, due_ins linI (hs.drop k) (drop_not_mem l k), if_pos rfl]

theorem elA : El Try.prog 56 60 (.agg #[.int .i64 0, .int .i64 0]) 2 16 := by
  obtain ⟨i, h1, h2, h3, h4⟩ := info_parts (show (Try.prog.info? 60).map (fun i => (i.zero, i.size, i.bytes)) = some (some (.agg #[.int .i64 0, .int .i64 0]), 2, 16) by kernel_rfl)
  exact ⟨Try.underlying56, ⟨i, h1, h2, h3, h4⟩, rfl, by decide⟩
/-- What has come. -/
def came (l : List (Int × Int)) (pre : List (Fin l.length)) : List (Int × Int) := pre.map (fun x => l[x.1]'x.2)
theorem came_app (l : List (Int × Int)) (pre : List (Fin l.length)) (x : Fin l.length) : came l (pre ++ [x]) = came l pre ++ [l[x.1]'x.2] := by simp [came]
theorem came_len (l : List (Int × Int)) (pre : List (Fin l.length)) : (came l pre).length = pre.length := by simp [came]
theorem came_all (l : List (Int × Int)) : came l (upto l.length l.length) = l := by
  refine List.ext_getElem (by rw [came_len, upto_len (Nat.le_refl _)]) (fun i h1 h2 => ?_)
  simp [came, upto]
theorem ord_at {l : List (Int × Int)} (hs : l.Pairwise (fun a b => bef ltI a b = true)) {i : Nat} {a b : Int × Int} (ha : l[i]? = some a) (hb : l[i + 1]? = some b) : a.1 < b.1 ∨ (a.1 = b.1 ∧ a.2 < b.2) := by
  obtain ⟨h1, rfl⟩ := List.getElem?_eq_some_iff.1 ha
  obtain ⟨h2, rfl⟩ := List.getElem?_eq_some_iff.1 hb
  have := List.pairwise_iff_getElem.1 hs i (i + 1) h1 h2 (by omega)
  simp only [bef, ltI, Bool.or_eq_true, Bool.and_eq_true, decide_eq_true_eq] at this
  exact this
/-- The list of all, in its box. -/
structure Al (b B : Nat) (l : List (Int × Int)) (n : Nat) (A : Option Addr) (c : Nat) (w : World) : Prop where
  bx : Boxed w b 56 (.slice A n c)
  ow : w.ownsRow B 60 2 (.slice A n c) l.length (ents l)
theorem Al.below {b B n c : Nat} {l : List (Int × Int)} {A : Option Addr} {w w' : World} (h : Al b B l n A c w) (hb : Below w.heap.size w w') : Al b B l n A c w' :=
  ⟨(hb.block _ h.bx.lt).trans h.bx, own_only h.ow (only_b (S := fun _ => False) hb) (fun _ _ => id)⟩
theorem Al.at_ {b B c : Nat} {l : List (Int × Int)} {A : Option Addr} {w : World} (h : Al b B l l.length A c w) {i : Nat} {e : Int × Int} (he : l[i]? = some e) :
    ∃ p, A = some p ∧ w.cell? (p.add (i * 2)) = some (.int .i64 e.1) ∧ w.cell? ⟨(p.add (i * 2)).block, (p.add (i * 2)).off + 1, none⟩ = some (.int .i64 e.2) := rde_get (Rd.of_own h.ow) he
theorem ixs_newI {g m : Nat} {v v' : Value} {k n : Nat} (hv : v'.ownBlock = v.ownBlock ∨ ∃ k, v'.ownBlock = some k ∧ n ≤ k) (hk : k < n) (hn : ¬ IxS g m v k) : ¬ IxS g m v' k := by
  rintro (rfl | rfl | h)
  · exact hn (.inl rfl)
  · exact hn (.inr (.inl rfl))
  · rcases hv with e | ⟨k', e, h'⟩
    · exact hn (.inr (.inr (by rw [← e]; exact h)))
    · rw [e] at h; injection h with h; omega
/-- Between two bits. -/
structure L3 (W W2 : World) (g m N BA B1 D : Nat) (l : List (Int × Int)) (A : Option Addr) (c : Nat) (j : Nat) (v : Value) (w : World) : Prop where
  ix : Ix w W.heap.size g m v (l.drop j) N
  al : Al BA B1 l l.length A c w
  bel : Below W.heap.size W w
  dk : w.heap[D]? = some (.deferred (some []))
  ap : ¬ IxS g m v BA ∧ ¬ IxS g m v D ∧ ∀ b, (Value.slice A l.length c).ownBlock = some b → ¬ IxS g m v b ∧ b < W2.heap.size
  sz : W2.heap.size ≤ w.heap.size
theorem L3.below {W W2 w w' : World} {g m N BA B1 D : Nat} {l : List (Int × Int)} {A : Option Addr} {c j : Nat} {v : Value} (h : L3 W W2 g m N BA B1 D l A c j v w) (hb : Below w.heap.size w w') : L3 W W2 g m N BA B1 D l A c j v w' :=
  ⟨h.ix.below hb, h.al.below hb, h.bel.trans (hb.mono h.bel.size), (hb.block _ (Array.getElem?_eq_some_iff.1 h.dk).1).trans h.dk, h.ap, Nat.le_trans h.sz hb.size⟩
theorem L3.turn {W W2 w w' : World} {g m N BA B1 D : Nat} {l : List (Int × Int)} {A : Option Addr} {c j s : Nat} {v : Value} (h : L3 W W2 g m N BA B1 D l A c j v w) (hBA : BA < W2.heap.size) (hD : D < W2.heap.size) (t : Turn W.heap.size g m v (l.drop (j + s)) N w w') : ∃ v', L3 W W2 g m N BA B1 D l A c (j + s) v' w' := by
  obtain ⟨v', hx, ho, hv⟩ := t
  have hs := h.sz
  obtain ⟨a1, a2, a3⟩ := h.ap
  exact ⟨v', hx, ⟨ho.heap h.al.bx a1, own_only h.al.ow ho (fun k hk e => (a3 k hk).1 e)⟩, ho.after h.bel (Nat.le_refl _) (fun k hk => (h.ix.lt k hk).1), ho.heap h.dk a2,
    ⟨ixs_newI hv (by omega) a1, ixs_newI hv (by omega) a2, fun b hb => ⟨ixs_newI hv (by have := (a3 b hb).2; omega) (a3 b hb).1, (a3 b hb).2⟩⟩, Nat.le_trans hs ho.size⟩
theorem dn_get {now : Int} : ∀ {l : List (Int × Int)} {i : Nat}, i < DvB.dn now l → ∃ e, l[i]? = some e ∧ e.1 ≤ now
  | [], i, h => by simp [DvB.dn] at h
  | e :: r, i, h => by
    by_cases he : e.1 ≤ now
    · cases i with
      | zero => exact ⟨e, rfl, he⟩
      | succ i =>
        have : DvB.dn now (e :: r) = DvB.dn now r + 1 := by simp [DvB.dn, List.takeWhile_cons, he]
        obtain ⟨e', h1, h2⟩ := dn_get (now := now) (l := r) (i := i) (by omega)
        exact ⟨e', by simpa using h1, h2⟩
    · simp [DvB.dn, List.takeWhile_cons, he] at h
theorem dn_stop {now : Int} : ∀ {l : List (Int × Int)} {e : Int × Int}, l[DvB.dn now l]? = some e → now < e.1
  | [], e, h => by simp at h
  | a :: r, e, h => by
    by_cases he : a.1 ≤ now
    · have : DvB.dn now (a :: r) = DvB.dn now r + 1 := by simp [DvB.dn, List.takeWhile_cons, he]
      rw [this] at h
      exact dn_stop (l := r) (by simpa using h)
    · have : DvB.dn now (a :: r) = 0 := by simp [DvB.dn, List.takeWhile_cons, he]
      rw [this] at h
      simp at h
      subst h
      omega
/-- What one bit is. -/
theorem bit2 (now : Int) (l : List (Int × Int)) (j : Nat) (hj : j ≤ l.length) : ∃ (s : Nat) (M : List Int), peekL (l.drop j) now 2 = M ∧ M.length = s ∧ takeL (l.drop j) now 2 = l.drop (j + s) ∧ j + s ≤ l.length ∧ s ≤ 2 ∧
    (∀ i, i < s → ∃ e, l[j + i]? = some e ∧ e.1 ≤ now ∧ M[i]? = some e.2) ∧ (∀ e, s < 2 → l[j + s]? = some e → now < e.1) := by
  obtain ⟨s, hs⟩ : ∃ s, s = min 2 (DvB.dn now (l.drop j)) := ⟨_, rfl⟩
  have hle := DvB.dn_le now (l.drop j)
  rw [List.length_drop] at hle
  have h1 : peekL (l.drop j) now 2 = ((l.drop j).take s).map (·.2) := by unfold peekL; rw [DvB.peek_min, hs]; rfl
  refine ⟨s, _, h1, ?_, ?_, by omega, by omega, fun i hi => ?_, fun e h2 he => ?_⟩
  · rw [List.length_map, List.length_take, List.length_drop]; omega
  · unfold takeL; rw [DvB.peek_min, List.drop_drop, hs]; rfl
  · obtain ⟨e, h3, h4⟩ := dn_get (now := now) (l := l.drop j) (i := i) (by omega)
    rw [List.getElem?_drop] at h3
    refine ⟨e, h3, h4, ?_⟩
    rw [List.getElem?_map, List.getElem?_take, if_pos hi, List.getElem?_drop, h3]
    rfl
  · have : s = DvB.dn now (l.drop j) := by omega
    refine dn_stop (l := l.drop j) ?_
    rw [List.getElem?_drop, ← this]
    exact he
end Go.Proofs.Ytabgngdimbflkaa.DvE
