/-
  A value read off the beginning of bytes, as a plain function; both readers' contracts by it. Conditions: as stated.
-/
import Derived.Test.YthglmpkcfigelaaVaR
import Derived.Test.YthglmpkcfigelaaVaI
import Derived.Test.YthglmpkcfigelaaVaT
set_option maxRecDepth 100000
set_option linter.unusedSimpArgs false
set_option linter.unusedVariables false
namespace Go.Proofs.Ythglmpkcfigelaa.VbA
open Go.RowKit Go.Proofs.Ythglmpkcfigelaa.Mem Go.Proofs.Ythglmpkcfigelaa.VaA Go.Proofs.Ythglmpkcfigelaa.VaC Go.Proofs.Ythglmpkcfigelaa.VaH Go.Proofs.Ythglmpkcfigelaa.VaP Go.Proofs.Ythglmpkcfigelaa.VaQ Go.Proofs.Ythglmpkcfigelaa.VaR

/-- A number taken up: it, how far, bad? -/
def rnum (s : ByteArray) (W : Nat) (p : Nat × Bool) : Nat × (Nat × Bool) :=
  if p.2 = true ∨ s.size - p.1 < W then (0, (p.1, true)) else (unle ((s.data.toList.drop p.1).take W), (p.1 + W, false))
/-- A text taken up. -/
def rtxt (s : ByteArray) (p : Nat × Bool) : ByteArray × (Nat × Bool) :=
  if (rnum s 4 p).2.2 = true ∨ s.size - (rnum s 4 p).2.1 < (rnum s 4 p).1 then (⟨#[]⟩, ((rnum s 4 p).2.1, true))
  else (s.extract (rnum s 4 p).2.1 ((rnum s 4 p).2.1 + (rnum s 4 p).1), ((rnum s 4 p).2.1 + (rnum s 4 p).1, false))
theorem rnum_le (s : ByteArray) (W : Nat) (p : Nat × Bool) (h : p.1 ≤ s.size) : (rnum s W p).2.1 ≤ s.size := by
  unfold rnum; split
  · exact h
  · rename_i hn
    have : ¬ s.size - p.1 < W := fun h => hn (.inr h)
    show p.1 + W ≤ s.size
    omega
theorem rtxt_le (s : ByteArray) (p : Nat × Bool) (h : p.1 ≤ s.size) : (rtxt s p).2.1 ≤ s.size := by
  have h1 := rnum_le s 4 p h
  unfold rtxt; split
  · exact h1
  · rename_i hn
    have : ¬ s.size - (rnum s 4 p).2.1 < (rnum s 4 p).1 := fun h => hn (.inr h)
    show _ + _ ≤ s.size
    omega
theorem rnum_grow (s : ByteArray) (W : Nat) (p : Nat × Bool) (h : (rnum s W p).2.2 = false) : (rnum s W p).2.1 = p.1 + W ∧ p.2 = false := by
  unfold rnum at h ⊢; split at h
  · cases h
  · rename_i hn
    rw [if_neg hn]
    exact ⟨rfl, by cases hp : p.2 <;> simp_all⟩
theorem rtxt_grow (s : ByteArray) (p : Nat × Bool) (h : (rtxt s p).2.2 = false) : p.1 + 4 ≤ (rtxt s p).2.1 ∧ p.2 = false := by
  unfold rtxt at h ⊢; split at h
  · cases h
  · rename_i hn
    rw [if_neg hn]
    have h1 : (rnum s 4 p).2.2 = false := by cases hh : (rnum s 4 p).2.2 <;> simp_all
    have := rnum_grow s 4 p h1
    exact ⟨by show _ ≤ (rnum s 4 p).2.1 + _; omega, this.2⟩
theorem rtxt_size (s : ByteArray) (p : Nat × Bool) : (rtxt s p).1.size ≤ s.size := by
  unfold rtxt; split
  · exact Nat.zero_le _
  · show (s.extract _ _).size ≤ _
    rw [ByteArray.size_extract]; omega

/-- What has been read. -/
structure DS where
  k : Nat
  bad : Bool
  l : List ByteArray
  f : List (ByteArray × ByteArray)
  r : List (ByteArray × Int)
/-- One round. -/
def rd1 (s : ByteArray) (kind : Nat) (st : DS) : DS :=
  if kind = 2 ∨ kind = 4 then ⟨(rtxt s (st.k, st.bad)).2.1, (rtxt s (st.k, st.bad)).2.2, st.l ++ [(rtxt s (st.k, st.bad)).1], st.f, st.r⟩
  else if kind = 3 then ⟨(rtxt s (rtxt s (st.k, st.bad)).2).2.1, (rtxt s (rtxt s (st.k, st.bad)).2).2.2, st.l, st.f ++ [((rtxt s (st.k, st.bad)).1, (rtxt s (rtxt s (st.k, st.bad)).2).1)], st.r⟩
  else if kind = 5 then ⟨(rtxt s (rnum s 8 (st.k, st.bad)).2).2.1, (rtxt s (rnum s 8 (st.k, st.bad)).2).2.2, st.l, st.f, st.r ++ [((rtxt s (rnum s 8 (st.k, st.bad)).2).1, IntKind.i64.wrap ((rnum s 8 (st.k, st.bad)).1 : Int))]⟩
  else { st with bad := true }
def rdN (s : ByteArray) (kind : Nat) : Nat → DS → DS
  | 0, st => st
  | n + 1, st => if st.bad = true then st else rdN s kind n (rd1 s kind st)
theorem rdN_bad {s : ByteArray} {kind n : Nat} {st : DS} (h : st.bad = true) : rdN s kind n st = st := by
  cases n with
  | zero => rfl
  | succ n => unfold rdN; rw [if_pos h]
/-- All that is read: the kind, the text, the lists, how far, bad? -/
structure Dc where
  kind : Nat
  text : ByteArray
  st : DS
def decD (s : ByteArray) : Dc :=
  if (rnum s 1 (0, false)).1 = 1 then ⟨1, (rtxt s (rnum s 1 (0, false)).2).1, ⟨(rtxt s (rnum s 1 (0, false)).2).2.1, (rtxt s (rnum s 1 (0, false)).2).2.2, [], [], []⟩⟩
  else ⟨(rnum s 1 (0, false)).1, ⟨#[]⟩, rdN s (rnum s 1 (0, false)).1 (rnum s 4 (rnum s 1 (0, false)).2).1 ⟨(rnum s 4 (rnum s 1 (0, false)).2).2.1, (rnum s 4 (rnum s 1 (0, false)).2).2.2, [], [], []⟩⟩
/-- A value without its places. -/
def bare (k : Int) (t : ByteArray) (l : List ByteArray) (f : List (ByteArray × ByteArray)) (r : List (ByteArray × Int)) : VV := ⟨k, t, none, l.length, l.length, l, none, f.length, f.length, f, none, r.length, r.length, r⟩
def Dc.v (d : Dc) : VV := bare d.kind d.text d.st.l d.st.f d.st.r
/-- Is it a value? -/
def Dc.ok (d : Dc) : Bool := !d.st.bad && decide (chk d.v = 0)

section
variable (g : Nat) (s : ByteArray) (k W : Nat) (bad : Bool) (w : World) {n k' : Nat} {b' : Bool} {t : ByteArray}
theorem num_eq {T : TypeId} {e : Ending} {w' : World} (h : NumPost T g s k W bad w e w') (hn : rnum s W (k, bad) = (n, (k', b'))) : e = .returned (.int .u64 n) ∧ Rdr T w' g s k' b' ∧ Only (fun b => b = g) w w' := by
  unfold rnum at hn
  obtain ⟨h1, h2, h3⟩ := h
  split at hn
  · rename_i hc
    injection hn with e1 e2; injection e2 with e2 e3; subst e1 e2 e3
    exact ⟨(h1 hc).1, (h1 hc).2, h3⟩
  · rename_i hc
    injection hn with e1 e2; injection e2 with e2 e3; subst e1 e2 e3
    exact ⟨(h2 hc).1, (h2 hc).2, h3⟩
theorem txt_eq {T : TypeId} {e : Ending} {w' : World} (h : TextPost T g s k bad w e w') (ht : rtxt s (k, bad) = (t, (k', b'))) : e = .returned (.string t) ∧ Rdr T w' g s k' b' ∧ Only (fun b => b = g) w w' := by
  obtain ⟨n, k1, bad1, h0, h1, h2, h3⟩ := h
  have hr : rnum s 4 (k, bad) = (n, (k1, bad1)) := by
    unfold rnum
    split at h0
    · rename_i hc
      rw [if_pos hc]; obtain ⟨rfl, rfl, rfl⟩ := h0; rfl
    · rename_i hc
      rw [if_neg hc]; obtain ⟨rfl, rfl, rfl⟩ := h0; rfl
  unfold rtxt at ht
  rw [hr] at ht
  dsimp only at ht
  split at ht
  · rename_i hc
    injection ht with e1 e2; injection e2 with e2 e3; subst e1 e2 e3
    exact ⟨(h1 hc).1, (h1 hc).2, h3⟩
  · rename_i hc
    injection ht with e1 e2; injection e2 with e2 e3; subst e1 e2 e3
    exact ⟨(h2 hc).1, (h2 hc).2, h3⟩
theorem num_p (h : Rdr 64 w g s k bad) (hk : k ≤ s.size) (hs : s.size ≤ 1000000000000) (h1 : 1 ≤ W) (h8 : W ≤ 8) (hn : rnum s W (k, bad) = (n, (k', b'))) :
    Calls Try.prog 33 #[.pointer (some ⟨g, 0, none⟩), .int .i64 W] w fun e w' => e = .returned (.int .u64 n) ∧ Rdr 64 w' g s k' b' ∧ Only (fun b => b = g) w w' :=
  (number_calls g s k W bad w h hk hs h1 h8).mono fun e w' h => num_eq g s k W bad w h hn
theorem num_r (h : Rdr 69 w g s k bad) (hk : k ≤ s.size) (hs : s.size ≤ 1000000000000) (h1 : 1 ≤ W) (h8 : W ≤ 8) (hn : rnum s W (k, bad) = (n, (k', b'))) :
    Calls Try.prog 35 #[.pointer (some ⟨g, 0, none⟩), .int .i64 W] w fun e w' => e = .returned (.int .u64 n) ∧ Rdr 69 w' g s k' b' ∧ Only (fun b => b = g) w w' :=
  (numberR_calls g s k W bad w h hk hs h1 h8).mono fun e w' h => num_eq g s k W bad w h hn
theorem txt_p (h : Rdr 64 w g s k bad) (hk : k ≤ s.size) (hs : s.size ≤ 1000000000000) (ht : rtxt s (k, bad) = (t, (k', b'))) :
    Calls Try.prog 34 #[.pointer (some ⟨g, 0, none⟩)] w fun e w' => e = .returned (.string t) ∧ Rdr 64 w' g s k' b' ∧ Only (fun b => b = g) w w' :=
  (text_calls g s k bad w h hk hs).mono fun e w' h => txt_eq g s k bad w h ht
theorem txt_r (h : Rdr 69 w g s k bad) (hk : k ≤ s.size) (hs : s.size ≤ 1000000000000) (ht : rtxt s (k, bad) = (t, (k', b'))) :
    Calls Try.prog 36 #[.pointer (some ⟨g, 0, none⟩)] w fun e w' => e = .returned (.string t) ∧ Rdr 69 w' g s k' b' ∧ Only (fun b => b = g) w w' :=
  (textR_calls g s k bad w h hk hs).mono fun e w' h => txt_eq g s k bad w h ht
end
end Go.Proofs.Ythglmpkcfigelaa.VbA
