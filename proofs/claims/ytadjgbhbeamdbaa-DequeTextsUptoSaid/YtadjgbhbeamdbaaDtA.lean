/-
  What slices.Clone, and the list of a Deque of texts, hand back. Conditions: as stated.
-/
import Derived.Test.YtadjgbhbeamdbaaRows
import Derived.Test.YtadjgbhbeamdbaaMem
set_option maxRecDepth 100000
namespace Go.Proofs.Ytadjgbhbeamdbaa.DtA
open Go.RowKit Go.Proofs.Ytadjgbhbeamdbaa.Mem

theorem elI : El Try.prog 26 9 (.string ⟨#[]⟩) 1 16 := by
  obtain ⟨i, h1, h2, h3, h4⟩ := info_parts (show (Try.prog.info? 9).map (fun i => (i.zero, i.size, i.bytes)) = some (some (.string ⟨#[]⟩), 1, 16) by kernel_rfl)
  exact ⟨Try.underlying26, ⟨i, h1, h2, h3, h4⟩, rfl, by decide⟩

theorem tl_inj {x y : ByteArray} : x.toList = y.toList ↔ x = y := by
  rw [ByteArray.toList_eq, ByteArray.toList_eq]
  exact ⟨fun h => ByteArray.ext (Array.toList_inj.1 h), fun h => by rw [h]⟩
theorem tl_ne {x y : ByteArray} (h : ¬ x = y) : (x.toList == y.toList) = false := by rw [beq_eq_false_iff_ne, ne_eq, tl_inj]; exact h

def ints (l : List ByteArray) : List Value := l.map Value.string
theorem ints_len (l : List ByteArray) : (ints l).length = l.length := by simp [ints]
theorem ints_drop (l : List ByteArray) (k : Nat) : (ints l).drop k = ints (l.drop k) := by simp [ints, List.map_drop]
theorem ints_take (l : List ByteArray) (k : Nat) : (ints l).take k = ints (l.take k) := by simp [ints, List.map_take]
theorem rd_drop {w : World} {A : Option Addr} {n c k : Nat} {l : List ByteArray} (h : Rd w 1 A n c (ints l)) (hk : k ≤ n) : Rd w 1 (if c = k then A else A.map (·.add k)) (n - k) (c - k) (ints (l.drop k)) := by
  have := h.drop hk; rwa [Nat.mul_one, ints_drop] at this
theorem rd_take {w : World} {A : Option Addr} {n c k : Nat} {l : List ByteArray} (h : Rd w 1 A n c (ints l)) (hk : k ≤ n) : Rd w 1 A k c (ints (l.take k)) := by
  have := h.take hk; rwa [Nat.mul_one, ints_take] at this
theorem ints_one (l : List ByteArray) : ∀ u ∈ ints l, u.oneCell' = true := by
  intro u hu; simp only [ints, List.mem_map] at hu; obtain ⟨x, _, rfl⟩ := hu; rfl

/-- A slice of texts that reads as l. -/
abbrev RdI (w : World) (A : Option Addr) (n c : Nat) (l : List ByteArray) : Prop := Rd w 1 A n c (ints l)
/-- A row of texts of the call's own. -/
abbrev OwnI (w : World) (B : Nat) (v : Value) (l : List ByteArray) : Prop := w.ownsRow B 9 1 v l.length (ints l)

theorem own_snoc {w : World} {B : Nat} {v : Value} {l : List ByteArray} {x : ByteArray} (h : w.ownsRow B 9 1 v (l.length + 1) (ints l ++ [.string x])) : OwnI w B v (l ++ [x]) := by
  simpa [OwnI, ints] using h

set_option maxHeartbeats 1000000 in
theorem clone_calls (A : Option Addr) (n c : Nat) (l : List ByteArray) (w : World) (hr : RdI w A n c l) (hn : n * 16 ≤ 140737488355328) :
    Calls Try.prog 26 #[.slice A n c] w fun e w' => ∃ v, e = .returned v ∧ OwnI w' w.heap.size v l ∧ Below w.heap.size w w' := by
  have hl : Hid (l.length = n) := by have := hr.len; rw [ints_len] at this; simpa [Hid] using this
  have hnl := fun w n' c' => Lib.run_eql_slice_nil (P := Try.prog) w 26 9 A n c n' c' Try.underlying26
  rcases A with _ | ad
  · go_enter Try.func26, Try.ntmps26
    go_wp2_with fail
    go_ret
    have h0 : l = [] := by
      rcases l with _ | ⟨x, r⟩
      · rfl
      · obtain ⟨ad, h, _⟩ := hr.get 0 (.string x) rfl
        cases h
    subst h0
    exact ⟨_, rfl, World.ownsRow_nil _ _ _ _, Below.refl _ _⟩
  · go_enter Try.func26, Try.ntmps26
    have hr2 : RdI (w.alloc (.cells #[] 9)) (some ad) n c l := hr.below ((Below.refl _ _).alloc (Nat.le_refl _) _)
    have ho : (w.alloc (.cells #[] 9)).ownsRow w.heap.size 9 1 (.slice (some ⟨w.heap.size, 0, none⟩) 0 0) 0 [] := World.ownsRow_made w #[] 0 (Nat.le_refl _) (Nat.zero_le _) rfl
    go_wp2_with (at_builtin; refine wpList_app rfl (.tmp 5) (.tmp 6) elI rfl w.heap.size _ 0 [] rfl ho (some ad) n c (ints l) rfl hr2 (ints_one l) (by unfold maxLen; omega) (by omega) (by simp) ?_; intro v w1 o1 b1 f1)
    go_ret
    refine ⟨_, rfl, ?_, ?_⟩
    · simpa [OwnI, hl.out] using o1
    · exact (((Only.refl (fun k => w.heap.size ≤ k) w).alloc _).trans b1 (fun b hb => .inl (by injection hb with hb; exact Nat.le_of_eq hb))).below (Nat.le_refl _) (fun _ h => h)

/-- A Deque at block g that holds l: its store v, in the call's own memory from B on. -/
def Dq (w : World) (B g : Nat) (v : Value) (l : List ByteArray) : Prop :=
  ∃ (xs : List ByteArray) (f : Nat), w.heap[g]? = some (.cells #[v, .int .i64 f] 54 (0, 0)) ∧ B ≤ g ∧ OwnI w B v xs ∧ f ≤ xs.length ∧ xs.drop f = l ∧ v.ownBlock ≠ some g ∧ xs.length ≤ 8796093022208
section
variable {w w' : World} {B g : Nat} {v : Value} {l : List ByteArray} {S : Nat → Prop}
theorem Dq.only (h : Dq w B g v l) (ho : Only S w w') (h1 : ¬ S g) (h2 : ∀ k, v.ownBlock = some k → ¬ S k) : Dq w' B g v l := by
  obtain ⟨xs, f, a, b, c, d⟩ := h
  exact ⟨xs, f, ho.heap a h1, b, own_only c ho h2, d⟩
theorem Dq.drawn (h : Dq w B g v l) (n : Nat) : Dq (w.drewN n) B g v l := h
theorem Dq.lt (h : Dq w B g v l) : g < w.heap.size := by
  obtain ⟨xs, f, a, _⟩ := h
  exact (Array.getElem?_eq_some_iff.1 a).1
end

def AllPost (w : World) (v : Value) (l : List ByteArray) (e : Ending) (w' : World) : Prop :=
  ∃ A n c nd, e = .returned (.slice A n c) ∧ RdI w A n c l ∧ n = l.length ∧ (∀ ad, A = some ad → v.ownBlock = some ad.block) ∧ w' = w.drewN nd

set_option maxHeartbeats 1000000 in
theorem all_calls (B g : Nat) (v : Value) (l : List ByteArray) (w : World) (hd : Dq w B g v l) :
    Calls Try.prog 36 #[.pointer (some ⟨g, 0, none⟩)] w (AllPost w v l) := by
  obtain ⟨xs, f, hg, hB, hown, hf, rfl, hne, hbig⟩ := hd
  obtain ⟨A, c, rfl⟩ := own_form hown
  have hr := Rd.of_own hown
  have c0 : w.cell? ⟨g, 0, none⟩ = some (.slice A xs.length c) := by simp [World.cell?, hg]
  have c1 : w.cell? ⟨g, 1, none⟩ = some (.int .i64 f) := by simp [World.cell?, hg]
  have hc1 := hr.cap
  have hc2 := hr.big
  have Hr := Lib.hid hr
  have Ho := Lib.hid hown
  clear hown hr hg hne
  go_enter Try.func36, Try.ntmps36
  go_wp2_with fail
  go_quiet (fail)
  go_wp2_with fail
  · go_ret
    have h := rd_drop Hr.out hf
    rw [if_pos (by assumption), show c - f = 0 by omega] at h
    exact ⟨_, _, _, nq, rfl, h, by simp, fun ad e => by rw [e]; rfl, rfl⟩
  · go_ret
    have h := rd_drop Hr.out hf
    rw [if_neg (by assumption)] at h
    refine ⟨_, _, _, nq, rfl, h, by simp, fun ad e => ?_, rfl⟩
    obtain ⟨a, rfl, rfl⟩ := Option.map_eq_some_iff.1 e
    rw [add_block]; rfl
end Go.Proofs.Ytadjgbhbeamdbaa.DtA
