/-
  An index that is none; rows of texts that are written. Conditions: as stated.
-/
import Derived.Test.YtabgngdimbflkaaDvB
import Derived.Lib.SliceRun
set_option maxRecDepth 100000
set_option linter.unusedSimpArgs false
set_option linter.unusedVariables false
namespace Go.Proofs.Ytabgngdimbflkaa.DvC
open Go.RowKit Go.Shelf Go.Proofs.Ytabgngdimbflkaa.Mem Go.Proofs.Ytabgngdimbflkaa.DuA Go.Proofs.Ytabgngdimbflkaa.DuM Go.Proofs.Ytabgngdimbflkaa.DuN Go.Proofs.Ytabgngdimbflkaa.DuB Go.Proofs.Ytabgngdimbflkaa.DuO Go.Proofs.Ytabgngdimbflkaa.DsC Go.Proofs.Ytabgngdimbflkaa.DsH Go.Proofs.Ytabgngdimbflkaa.DsI Go.Proofs.Ytabgngdimbflkaa.DsJ Go.Proofs.Ytabgngdimbflkaa.DsK Go.Proofs.Ytabgngdimbflkaa.DsL Go.Proofs.Ytabgngdimbflkaa.DsM Go.Proofs.Ytabgngdimbflkaa.DuR Go.Proofs.Ytabgngdimbflkaa.DuS Go.Proofs.Ytabgngdimbflkaa.DuT Go.Proofs.Ytabgngdimbflkaa.DuU Go.Proofs.Ytabgngdimbflkaa.DuV Go.Proofs.Ytabgngdimbflkaa.DuW Go.Proofs.Ytabgngdimbflkaa.DuX Go.Proofs.Ytabgngdimbflkaa.DuY Go.Proofs.Ytabgngdimbflkaa.DuP Go.Proofs.Ytabgngdimbflkaa.DvA Go.Proofs.Ytabgngdimbflkaa.DvB

theorem none_len (w : World) : Calls Try.prog 29 #[.pointer none] w fun e w' => e = .returned (.int .i64 0) ∧ w' = w := by
  go_enter Try.func29, Try.ntmps29
  go_wp2_with fail
  go_ret
  exact ⟨rfl, rfl⟩
theorem none_next (w : World) : Calls Try.prog 15 #[.pointer none] w fun e w' => e = .returned (.tuple #[.string ⟨#[]⟩, .int .i64 0, .bool false]) ∧ w' = w := by
  go_enter Try.func15, Try.ntmps15
  go_wp2_with (go_at_call 29; refine (none_len _).mono ?_; rintro e w' ⟨rfl, rfl⟩)
  go_ret3
  exact ⟨rfl, rfl⟩
theorem none_due (k : ByteArray) (w : World) : Calls Try.prog 26 #[.pointer none, .string k] w fun e w' => e = .returned (.tuple #[.int .i64 0, .bool false]) ∧ w' = w := by
  go_enter Try.func26, Try.ntmps26
  go_wp2_with fail
  go_ret2
  exact ⟨rfl, rfl⟩
theorem none_set (k : ByteArray) (w : World) : Calls Try.prog 27 #[.pointer none, .string k, .int .i64 1] w fun e w' => e = .returned (.int .i64 70) ∧ w' = w := by
  go_enter Try.func27, Try.ntmps27
  go_wp2_with fail
  go_ret
  exact ⟨rfl, rfl⟩
theorem none_drop (k : ByteArray) (w : World) : Calls Try.prog 28 #[.pointer none, .string k] w fun e w' => e = .returned (.bool false) ∧ w' = w := by
  go_enter Try.func28, Try.ntmps28
  go_wp2_with fail
  go_ret
  exact ⟨rfl, rfl⟩
theorem none_peek (now most : Int) (w : World) : Calls Try.prog 11 #[.pointer none, .int .i64 now, .int .i64 most] w fun e w' => e = .returned (.slice none 0 0) ∧ w' = w := by
  go_enter Try.func11, Try.ntmps11
  go_wp2_with fail
  go_ret
  exact ⟨rfl, rfl⟩
theorem none_take (now most : Int) (w : World) : Calls Try.prog 14 #[.pointer none, .int .i64 now, .int .i64 most] w fun e w' => e = .returned (.slice none 0 0) ∧ w' = w := by
  go_enter Try.func14, Try.ntmps14
  go_wp2_with (go_at_call 11; refine (none_peek _ _ _).mono ?_; rintro e w' ⟨rfl, rfl⟩)
  refine wp_loop_rounds 1 ?_
  rw [rounds_succ]
  go_wp2_with fail
  go_ret
  exact ⟨rfl, rfl⟩
theorem none_allIter (w : World) : Calls Try.prog 16 #[.pointer none] w fun e w' =>
    e = .returned (.func (.func 34) #[] #[.pointer (some ⟨w.heap.size, 0, none⟩)]) ∧ w' = w.alloc (.cells #[.slice none 0 0] 69) := by
  go_enter Try.func16, Try.ntmps16
  go_wp2_with fail
  go_ret
  exact ⟨rfl, rfl⟩
theorem none_stops (n Bs : Nat) (w : World) (hlt : Bs < w.heap.size) (hc : w.cell? ⟨Bs, 0, none⟩ = some (.slice none 0 0)) :
    SeqStopsK Fence.wide n Try.prog 34 #[.pointer (some ⟨Bs, 0, none⟩)] (fun x : Empty => #[]) (fun _ _ => True) (fun _ => True) (fun _ => False) 0 w := fun l J Jx W hW _ _ hY h0 => by
  have hc' := (hW.cell (p := ⟨Bs, 0, none⟩) hlt).trans hc
  exact (all1_nil_in Fence.wide n trivial rfl l Bs 0 none W hc').mono fun e W' ⟨he, hw⟩ => ⟨he, .inl ⟨[], trivial, hw ▸ h0⟩⟩

theorem own_at {w : World} {B n c j : Nat} {A : Option Addr} {L : List ByteArray} (h : OwnKs w B (.slice A n c) L) (hj : j < n) :
    ∃ b x, A = some ⟨b, 0, none⟩ ∧ w.cell? ⟨b, j, none⟩ = some (.string x) ∧ w.frozen? ⟨b, j, none⟩ = false := by
  have hn : L.length = n := own_n h
  rcases h.2 with ⟨e, _⟩ | ⟨b, cap, cur, e, _⟩
  · injection e with _ e; omega
  injection e with e1 e2 e3
  subst e1
  obtain ⟨y, hy⟩ : ∃ y, L[j]? = some y := ⟨_, List.getElem?_eq_getElem (by omega)⟩
  have hc := World.ownsRow.cells h (g := b) rfl j (.string y) (by simp [keysV, hy])
  rw [add_mk, Nat.zero_add] at hc
  exact ⟨b, y, rfl, hc, World.ownsRow.frozenAt (by unfold OwnKs at h; rw [hn] at h; exact h) j⟩
theorem own_put {w : World} {B g n c : Nat} {l : List ByteArray} (h : OwnKs w B (.slice (some ⟨g, 0, none⟩) n c) l) {j : Nat} (x : ByteArray) :
    OwnKs (w.setCell ⟨g, j, none⟩ (.string x)) B (.slice (some ⟨g, 0, none⟩) n c) (l.set j x) := by
  have hn : l.length = n := own_n h
  have := (World.ownsRow.stored (w := w) (base := B) (e := 9) (size := 1) (g := g) (n := n) (cap := c) (xs := keysV l) (by unfold OwnKs at h; rw [hn] at h; exact h) j (.string x)).1
  unfold OwnKs
  rw [List.length_set, hn]
  simpa [keysV, List.map_set] using this
theorem own_snoc {w : World} {B : Nat} {v : Value} {l : List ByteArray} {x : ByteArray} (h : w.ownsRow B 9 1 v (l.length + 1) (keysV l ++ [.string x])) : OwnKs w B v (l ++ [x]) := by
  simpa [OwnKs, keysV] using h
theorem own_keep {w w' : World} {B : Nat} {v : Value} {R : List ByteArray} (ho : OwnKs w B v R) (hb : Below w.heap.size w w') : OwnKs w' B v R :=
  own_only ho (Only.of_below hb) (fun k hk => by have := (ho.lt k hk).2; omega)
end Go.Proofs.Ytabgngdimbflkaa.DvC
