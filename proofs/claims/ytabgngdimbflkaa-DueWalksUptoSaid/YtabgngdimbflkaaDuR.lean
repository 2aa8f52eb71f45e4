/-
  The document's index: how it lies; its Drop, Due. Conditions: as stated.
-/
import Derived.Test.YtabgngdimbflkaaDsL
import Derived.Test.YtabgngdimbflkaaDuO
set_option maxRecDepth 100000
set_option linter.unusedSimpArgs false
set_option linter.unusedVariables false
namespace Go.Proofs.Ytabgngdimbflkaa.DuR
open Go.RowKit Go.Shelf Go.Proofs.Ytabgngdimbflkaa.Mem Go.Proofs.Ytabgngdimbflkaa.DuA Go.Proofs.Ytabgngdimbflkaa.DuM Go.Proofs.Ytabgngdimbflkaa.DuN Go.Proofs.Ytabgngdimbflkaa.DuB Go.Proofs.Ytabgngdimbflkaa.DuO Go.Proofs.Ytabgngdimbflkaa.DsC

def entsR (l : List (Int × ByteArray)) : List Value := l.flatMap fun e => [.string e.2, .int .i64 e.1]
theorem entsR_len (l : List (Int × ByteArray)) : (entsR l).length = l.length * 2 := by
  induction l with
  | nil => rfl
  | cons e r ih => simp only [entsR, List.flatMap_cons, List.length_append, List.length_cons, List.length_nil] at ih ⊢; omega
theorem entsR_app (a b : List (Int × ByteArray)) : entsR (a ++ b) = entsR a ++ entsR b := by simp [entsR]
theorem entsR_one (l : List (Int × ByteArray)) : ∀ u ∈ entsR l, u.oneCell' = true := by
  intro u hu; simp only [entsR, List.mem_flatMap] at hu; obtain ⟨x, _, h⟩ := hu; simp at h; rcases h with rfl | rfl <;> rfl
theorem entsR_drop : ∀ (l : List (Int × ByteArray)) (k : Nat), (entsR l).drop (k * 2) = entsR (l.drop k)
  | [], k => by simp [entsR]
  | e :: r, 0 => by simp [entsR]
  | e :: r, k + 1 => by
    have ih := entsR_drop r k
    rw [show (k + 1) * 2 = k * 2 + 2 by omega]
    simp only [entsR, List.flatMap_cons, List.drop_succ_cons, List.cons_append, List.nil_append] at ih ⊢
    rw [ih]
theorem entsR_get : ∀ (l : List (Int × ByteArray)) (i : Nat) (e : Int × ByteArray), l[i]? = some e → (entsR l)[i * 2]? = some (.string e.2) ∧ (entsR l)[i * 2 + 1]? = some (.int .i64 e.1)
  | [], i, e, h => by simp at h
  | y :: r, 0, e, h => by simp at h; subst h; simp [entsR]
  | y :: r, i + 1, e, h => by
    obtain ⟨h1, h2⟩ := entsR_get r i e (by simpa using h)
    rw [show (i + 1) * 2 = i * 2 + 2 by omega]
    simp only [entsR, List.flatMap_cons, List.cons_append, List.nil_append] at h1 h2 ⊢
    exact ⟨by simpa using h1, by rw [show i * 2 + 2 + 1 = i * 2 + 1 + 2 by omega]; simpa using h2⟩
abbrev RdR (w : World) (A : Option Addr) (n c : Nat) (l : List (Int × ByteArray)) : Prop := Rd w 2 A n c (entsR l)
abbrev OwnR (w : World) (B : Nat) (v : Value) (l : List (Int × ByteArray)) : Prop := w.ownsRow B 43 2 v l.length (entsR l)
theorem rdr_get {w : World} {A : Option Addr} {n c : Nat} {l : List (Int × ByteArray)} (h : RdR w A n c l) {i : Nat} {e : Int × ByteArray} (hs : l[i]? = some e) :
    ∃ p, A = some p ∧ w.cell? (p.add (i * 2)) = some (.string e.2) ∧ w.cell? ⟨(p.add (i * 2)).block, (p.add (i * 2)).off + 1, none⟩ = some (.int .i64 e.1) := by
  obtain ⟨h1, h2⟩ := entsR_get l i e hs
  obtain ⟨p, rfl, c1⟩ := h.get _ _ h1
  obtain ⟨p', e', c2⟩ := h.get _ _ h2
  injection e' with e'; subst e'
  exact ⟨_, rfl, c1, by
    have h : w.cell? ((p.add (i * 2)).add 1) = some (.int .i64 e.1) := by rw [add_add]; exact c2
    exact h⟩
theorem elR : El Try.prog 26 43 (.agg #[.string ⟨#[]⟩, .int .i64 0]) 2 24 := by
  obtain ⟨i, h1, h2, h3, h4⟩ := info_parts (show (Try.prog.info? 43).map (fun i => (i.zero, i.size, i.bytes)) = some (some (.agg #[.string ⟨#[]⟩, .int .i64 0]), 2, 24) by kernel_rfl)
  exact ⟨Try.underlying26, ⟨i, h1, h2, h3, h4⟩, rfl, by decide⟩

/-- The document's index at block h. -/
structure Yx (w : World) (B h : Nat) (A : Option Addr) (c : Nat) (l : List (Int × ByteArray)) : Prop where
  hp : w.heap[h]? = some (.cells #[.slice A l.length c] 28 (0, 0))
  rd : RdR w A l.length c l
  hB : B ≤ h
  nh : ∀ ad, A = some ad → ad.block ≠ h ∧ ad.block < w.heap.size
section
variable {w w' : World} {B h : Nat} {A : Option Addr} {c : Nat} {l : List (Int × ByteArray)} {S : Nat → Prop}
theorem Yx.only (y : Yx w B h A c l) (ho : Only S w w') (h1 : ¬ S h) (h2 : ∀ ad, A = some ad → ¬ S ad.block) : Yx w' B h A c l :=
  ⟨ho.heap y.hp h1, y.rd.only ho h2, y.hB, fun ad e => ⟨(y.nh ad e).1, Nat.lt_of_lt_of_le (y.nh ad e).2 ho.size⟩⟩
theorem Yx.lt (y : Yx w B h A c l) : h < w.heap.size := (Array.getElem?_eq_some_iff.1 y.hp).1
theorem Yx.below (y : Yx w B h A c l) (hb : Below w.heap.size w w') : Yx w' B h A c l :=
  y.only (Only.of_below hb) (by have := y.lt; omega) (fun ad e => by have := (y.nh ad e).2; omega)
theorem Yx.cell (y : Yx w B h A c l) : w.cell? ⟨h, 0, none⟩ = some (.slice A l.length c) ∧ w.frozen? ⟨h, 0, none⟩ = false := by
  have h1 := y.hp
  exact ⟨by unfold World.cell?; simp only [h1]; rfl, by unfold World.frozen?; simp only [h1]; rfl⟩
end
/-- What a call that turns the document's index leaves. -/
def DTurn (B h : Nat) (A : Option Addr) (l' : List (Int × ByteArray)) (w w' : World) : Prop :=
  ∃ A' c', Yx w' B h A' c' l' ∧ Only (fun k => k = h) w w' ∧ ∀ ad, A' = some ad → (∃ a0, A = some a0 ∧ ad.block = a0.block) ∨ w.heap.size ≤ ad.block
theorem DTurn.refl {w : World} {B h c : Nat} {A : Option Addr} {l : List (Int × ByteArray)} (y : Yx w B h A c l) : DTurn B h A l w w := ⟨A, c, y, Only.refl _ _, fun ad e => .inl ⟨ad, e, rfl⟩⟩
/-- A new row is laid in. -/
theorem dturn_new {w wr : World} {B h c c' : Nat} {A A' : Option Addr} {l l' : List (Int × ByteArray)} (y : Yx w B h A c l) (hb : Below w.heap.size w wr) (ho : OwnR wr w.heap.size (.slice A' l'.length c') l') : DTurn B h A l' w (wr.setCell ⟨h, 0, none⟩ (.slice A' l'.length c')) := by
  have y' := y.below hb
  have hlt := y.lt
  have o : Only (fun k => k = h) wr (wr.setCell ⟨h, 0, none⟩ (.slice A' l'.length c')) := (Only.refl (fun k => k = h) wr).put (p := ⟨h, 0, none⟩) (.inl rfl) _
  have hn : ∀ ad, A' = some ad → w.heap.size ≤ ad.block ∧ ad.block < wr.heap.size := fun ad e => ho.lt ad.block (by rw [e]; rfl)
  refine ⟨A', c', ⟨by rw [heap_setCell_same wr h 0 _ _ _ y'.hp]; rfl, (Rd.of_own ho).only o (fun ad e => by have := hn ad e; omega), y.hB, fun ad e => by have := hn ad e; exact ⟨by omega, Nat.lt_of_lt_of_le this.2 o.size⟩⟩,
    (DsI.only_b hb).trans o (fun b hb => .inl hb), fun ad e => .inr (hn ad e).1⟩
end Go.Proofs.Ytabgngdimbflkaa.DuR
