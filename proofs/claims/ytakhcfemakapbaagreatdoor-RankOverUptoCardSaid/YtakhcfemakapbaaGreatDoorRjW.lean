/-
  What stays and what turns while a rank's entries are gone over. Conditions: as stated.
-/
import Derived.Test.YtakhcfemakapbaaGreatDoorRjV
set_option maxRecDepth 100000
set_option linter.unusedSimpArgs false
set_option linter.unusedVariables false
namespace Go.Proofs.YtakhcfemakapbaaGreatDoor.RjW
open Go Go.RowKit Go.Shelf Go.Sort Go.Proofs.YtakhcfemakapbaaGreatDoor.Mem Go.Proofs.YtakhcfemakapbaaGreatDoor.DuA Go.Proofs.YtakhcfemakapbaaGreatDoor.DuM Go.Proofs.YtakhcfemakapbaaGreatDoor.DuN Go.Proofs.YtakhcfemakapbaaGreatDoor.NumA Go.Proofs.YtakhcfemakapbaaGreatDoor.NumC Go.Proofs.YtakhcfemakapbaaGreatDoor.NumE Go.Proofs.YtakhcfemakapbaaGreatDoor.RkA Go.Proofs.YtakhcfemakapbaaGreatDoor.RkC Go.Proofs.YtakhcfemakapbaaGreatDoor.RkB Go.Proofs.YtakhcfemakapbaaGreatDoor.RkE Go.Proofs.YtakhcfemakapbaaGreatDoor.RkF Go.Proofs.YtakhcfemakapbaaGreatDoor.RkH Go.Proofs.YtakhcfemakapbaaGreatDoor.RkI Go.Proofs.YtakhcfemakapbaaGreatDoor.RkL Go.Proofs.YtakhcfemakapbaaGreatDoor.RkM Go.Proofs.YtakhcfemakapbaaGreatDoor.RkN Go.Proofs.YtakhcfemakapbaaGreatDoor.RkO Go.Proofs.YtakhcfemakapbaaGreatDoor.RkP Go.Proofs.YtakhcfemakapbaaGreatDoor.RkQ Go.Proofs.YtakhcfemakapbaaGreatDoor.RkR Go.Proofs.YtakhcfemakapbaaGreatDoor.RkS Go.Proofs.YtakhcfemakapbaaGreatDoor.RkU Go.Proofs.YtakhcfemakapbaaGreatDoor.RkW Go.Proofs.YtakhcfemakapbaaGreatDoor.RjJ Go.Proofs.YtakhcfemakapbaaGreatDoor.RjK Go.Proofs.YtakhcfemakapbaaGreatDoor.RjL Go.Proofs.YtakhcfemakapbaaGreatDoor.RjM Go.Proofs.YtakhcfemakapbaaGreatDoor.RjN Go.Proofs.YtakhcfemakapbaaGreatDoor.RjO Go.Proofs.YtakhcfemakapbaaGreatDoor.RjQ Go.Proofs.YtakhcfemakapbaaGreatDoor.RjS Go.Proofs.YtakhcfemakapbaaGreatDoor.RjV
attribute [local go_sem] Oper.semAt_some

/-- The row that is spoilt. -/
def Spo (w : World) (A : Option Addr) (n c : Nat) : Prop := n = 0 ∨ ∃ b cur, A = some ⟨b, 0, none⟩ ∧ w.heap[b]? = some (.cells cur 51 (0, 0)) ∧ cur.size = c * 2
theorem spo_of {w : World} {B n c : Nat} {A : Option Addr} {l : List En} (h : OwnE w B (.slice A n c) l) : Spo w A n c := by
  rcases h.2 with ⟨e, h0⟩ | ⟨g, cap, cur, e, _, hb, _, _, hs, _⟩
  · injection e with _ e2 _; exact .inl e2
  · injection e with e1 e2 e3
    subst e1 e3
    exact .inr ⟨g, cur, rfl, hb, hs⟩
theorem spo_put {w : World} {b6 b7 k : Nat} {cur6 cur7 : Array Value} {T : TypeId} {s s' : ByteArray} (h6 : w.heap[b6]? = some (.cells cur6 T (0, 0))) (h7 : w.heap[b7]? = some (.cells cur7 T (0, 0))) (hne : ¬ b6 = b7) :
    (((((w.setCell ⟨b6, k * 2, none⟩ (.string s)).setCell ⟨b6, k * 2 + 1, none⟩ (.int .i64 0)).setCell ⟨b7, k * 2, none⟩ (.string s')).setCell ⟨b7, k * 2 + 1, none⟩ (.int .i64 0)).heap[b6]? = some (.cells ((cur6.setIfInBounds (k * 2) (.string s)).setIfInBounds (k * 2 + 1) (.int .i64 0)) T (0, 0)) ∧ ((cur6.setIfInBounds (k * 2) (.string s)).setIfInBounds (k * 2 + 1) (.int .i64 0)).size = cur6.size) ∧
    (((((w.setCell ⟨b6, k * 2, none⟩ (.string s)).setCell ⟨b6, k * 2 + 1, none⟩ (.int .i64 0)).setCell ⟨b7, k * 2, none⟩ (.string s')).setCell ⟨b7, k * 2 + 1, none⟩ (.int .i64 0)).heap[b7]? = some (.cells ((cur7.setIfInBounds (k * 2) (.string s')).setIfInBounds (k * 2 + 1) (.int .i64 0)) T (0, 0)) ∧ ((cur7.setIfInBounds (k * 2) (.string s')).setIfInBounds (k * 2 + 1) (.int .i64 0)).size = cur7.size) := by
  have hne' : ¬ b7 = b6 := fun e => hne e.symm
  refine ⟨⟨?_, by simp⟩, ?_, by simp⟩
  · simp [World.setCell, Array.getElem?_modify, h6, hne, hne']
  · simp [World.setCell, Array.getElem?_modify, h7, hne, hne']
theorem slice_all (M : List En) : sliceL M 0 (-1) false = M := by
  unfold sliceL wayL
  have h1 : fromI M.length 0 = 0 := by unfold fromI; omega
  have h2 : toI M.length (-1) = (M.length : Int) - 1 := by unfold toI; omega
  rw [h1, h2]
  by_cases h : (M.length : Int) - 1 < 0
  · rw [if_pos h]
    have : M.length = 0 := by omega
    exact (List.length_eq_zero_iff.1 this).symm
  · rw [if_neg h]
    have e : ((M.length : Int) - 1).toNat + 1 - (0 : Int).toNat = M.length := by omega
    rw [e]
    simp
/-- What stays while the entries are gone over. -/
structure Fx (b3 b5 Bs : Nat) (lv : Int) (g : Nat) (A9 : Option Addr) (c9 : Nat) (AM : Option Addr) (cM : Nat) (l : List En) (B9 BM : Nat) (X : World) : Prop where
  b3 : Boxed X b3 3 (.int .i64 lv)
  b5 : Boxed X b5 24 (.pointer (some ⟨g, 0, none⟩))
  bs : Boxed X Bs 22 (.slice A9 l.length c9)
  rs : OwnE X B9 (.slice A9 l.length c9) l
  rm : OwnE X BM (.slice AM l.length cM) l
def FB (b3 b5 Bs : Nat) (A9 AM : Option Addr) (k : Nat) : Prop := k = b3 ∨ k = b5 ∨ k = Bs ∨ (Value.slice A9 0 0).ownBlock = some k ∨ (Value.slice AM 0 0).ownBlock = some k
section
variable {b3 b5 Bs : Nat} {lv : Int} {g : Nat} {A9 AM : Option Addr} {c9 cM : Nat} {l : List En} {B9 BM : Nat} {X Y : World}
theorem Fx.only (h : Fx b3 b5 Bs lv g A9 c9 AM cM l B9 BM X) {S : Nat → Prop} (ho : Only S X Y) (hs : ∀ k, FB b3 b5 Bs A9 AM k → ¬ S k) : Fx b3 b5 Bs lv g A9 c9 AM cM l B9 BM Y :=
  ⟨boxed_only h.b3 ho (hs _ (.inl rfl)), boxed_only h.b5 ho (hs _ (.inr (.inl rfl))), boxed_only h.bs ho (hs _ (.inr (.inr (.inl rfl)))), own_only h.rs ho (fun k hk => hs k (.inr (.inr (.inr (.inl (by rw [ob A9 _ c9 0 0] at hk; exact hk)))))),
    own_only h.rm ho (fun k hk => hs k (.inr (.inr (.inr (.inr (by rw [ob AM _ cM 0 0] at hk; exact hk))))))⟩
theorem Fx.below (h : Fx b3 b5 Bs lv g A9 c9 AM cM l B9 BM X) (hb : Below X.heap.size X Y) : Fx b3 b5 Bs lv g A9 c9 AM cM l B9 BM Y :=
  h.only (S := fun _ => False) (only_b hb) (fun _ _ => id)
theorem Fx.lt (h : Fx b3 b5 Bs lv g A9 c9 AM cM l B9 BM X) : ∀ k, FB b3 b5 Bs A9 AM k → k < X.heap.size := fun k hk => by
  rcases hk with rfl | rfl | rfl | hk | hk
  · exact h.b3.lt
  · exact h.b5.lt
  · exact h.bs.lt
  · exact (h.rs.lt k (by rw [ob A9 _ c9 0 0]; exact hk)).2
  · exact (h.rm.lt k (by rw [ob AM _ cM 0 0]; exact hk)).2
end
end Go.Proofs.YtakhcfemakapbaaGreatDoor.RjW
