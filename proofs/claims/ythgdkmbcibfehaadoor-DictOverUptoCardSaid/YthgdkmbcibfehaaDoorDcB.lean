/-
  A Dict at its block; Len, Get, Set, Drop. Conditions: as stated.
-/
import Derived.Test.YthgdkmbcibfehaaDoorNumE
import Derived.Test.YthgdkmbcibfehaaDoorDcA
import Derived.Maps.OwnOps
import Derived.Maps.OwnSet
import Derived.Maps.Views
import Derived.Sort.AtCall
set_option maxRecDepth 100000
set_option linter.unusedSimpArgs false
set_option linter.unusedVariables false
namespace Go.Proofs.YthgdkmbcibfehaaDoor.DcB
open Go.RowKit Go.Lib Go.Proofs.YthgdkmbcibfehaaDoor.Mem Go.Proofs.YthgdkmbcibfehaaDoor.NumA Go.Proofs.YthgdkmbcibfehaaDoor.NumB Go.Proofs.YthgdkmbcibfehaaDoor.NumC Go.Proofs.YthgdkmbcibfehaaDoor.NumE Go.Proofs.YthgdkmbcibfehaaDoor.DcA
abbrev Dt := DataW (TypeId × Value)

def klS (s : ByteArray) : Lit := .string s.data.toList
theorem kl_inj {a b : ByteArray} (h : klS a = klS b) : a = b := by
  unfold klS at h; injection h with h; cases a; cases b; simp_all
theorem kl_ok (a : ByteArray) : WideAt.IsKeyLit (klS a) := by trivial
/-- The map tells the list. -/
structure Tells (D : Dt) (l : List Fld) : Prop where
  is : ∀ k, Maps.has D (klS k) = (getL l k).isSome
  at_ : ∀ k, D.atKey (klS k) (.lit (.string [])) = .lit (.string ((getL l k).getD ⟨#[]⟩).data.toList)
  size : Maps.size D = l.length
theorem Tells.nil : Tells (.map []) [] := ⟨fun k => rfl, fun k => rfl, rfl⟩
theorem Tells.put {D : Dt} (hD : Maps.Tidy D) {l : List Fld} (hr : Ris l) (hT : Tells D l) (k v : ByteArray) : Tells (D.put (klS k) (.lit (.string v.data.toList))) (setL l k v) := by
  refine ⟨fun k' => ?_, fun k' => ?_, ?_⟩
  · rw [get_set]
    by_cases e : k' = k
    · subst e; rw [Maps.has_put_same hD.isMap (kl_ok _), if_pos rfl]; rfl
    · rw [Maps.has_put_other (fun e' => e (kl_inj e')), if_neg e]; exact hT.is k'
  · rw [get_set]
    by_cases e : k' = k
    · subst e; rw [Maps.atKey_put_same hD.isMap (kl_ok _), if_pos rfl]; rfl
    · rw [Maps.atKey_put_other (fun e' => e (kl_inj e')), if_neg e]; exact hT.at_ k'
  · rw [Maps.size_put hD, hT.is k, hT.size, set_len l hr]
theorem Tells.del {D : Dt} (hD : Maps.Tidy D) {l : List Fld} (hr : Ris l) (hT : Tells D l) (k : ByteArray) : Tells (D.del (klS k)) (dropL l k) := by
  refine ⟨fun k' => ?_, fun k' => ?_, ?_⟩
  · rw [get_drop hr]
    by_cases e : k' = k
    · subst e; rw [Maps.has_del_same, if_pos rfl]; rfl
    · rw [Maps.has_del_other (fun e' => e (kl_inj e')), if_neg e]; exact hT.is k'
  · rw [get_drop hr]
    by_cases e : k' = k
    · subst e; rw [Maps.atKey_del_same, if_pos rfl]; rfl
    · rw [Maps.atKey_del_other (fun e' => e (kl_inj e')), if_neg e]; exact hT.at_ k'
  · have := Maps.size_del (k := klS k) hD
    rw [hT.is k, hT.size] at this
    rw [drop_len]
    split at this
    · rename_i h; rw [if_pos h]; omega
    · rename_i h; rw [if_neg h]; omega
theorem keyed : Maps.Keyed Tryd.prog 9 := Maps.string_keyed Tryd.underlying9
def okk (k : ByteArray) : Prop := k.size ≤ maxLen
theorem key_of {k : ByteArray} (hk : okk k) : keyOf Tryd.prog 9 (.string k) = some (klS k) := by
  unfold okk at hk
  simp [keyOf, Tryd.underlying9, mapKey, klS]
  exact hk
abbrev Mp (w : World) (m N : Nat) (D : Dt) : Prop := w.ownsMap Tryd.prog 9 (plainElem Tryd.prog 9) m N D
/-- A Dict at block g, its map at block m. -/
structure Dc (w : World) (B g m : Nat) (l : List Fld) (N : Nat) : Prop where
  hp : w.heap[g]? = some (.cells #[.map (some m)] 61 (0, 0))
  mp : ∃ D, Mp w m N D ∧ Tells D l
  gB : B ≤ g
  mB : B ≤ m
  gm : g ≠ m
  ris : Ris l
  len : l.length ≤ N
section
variable {w w' : World} {B g m N : Nat} {l : List Fld} {S : Nat → Prop}
theorem Dc.only (h : Dc w B g m l N) (ho : Only S w w') (h1 : ¬ S g) (h2 : ¬ S m) : Dc w' B g m l N := by
  obtain ⟨D, ⟨es, clock, hb, F, hn, hD⟩, hT⟩ := h.mp
  exact { h with hp := ho.heap h.hp h1, mp := ⟨D, ⟨es, clock, ho.heap hb h2, F, hn, hD⟩, hT⟩ }
theorem Dc.lt (h : Dc w B g m l N) : g < w.heap.size ∧ m < w.heap.size := by
  obtain ⟨D, hM, _⟩ := h.mp
  exact ⟨(Array.getElem?_eq_some_iff.1 h.hp).1, hM.lt⟩
theorem Dc.below (h : Dc w B g m l N) (hb : Below w.heap.size w w') : Dc w' B g m l N :=
  h.only (Only.of_below hb) (by have := h.lt.1; omega) (by have := h.lt.2; omega)
theorem Dc.cell (h : Dc w B g m l N) : w.cell? ⟨g, 0, none⟩ = some (.map (some m)) := by
  have h1 := h.hp
  unfold World.cell?; simp only [h1]; rfl
theorem Dc.look (h : Dc w B g m l N) {k : ByteArray} (hk : okk k) : (Instr.lookup 59 (.map (some m)) (.string k) true).run Tryd.prog w = .ok (.tuple #[.string ((getL l k).getD ⟨#[]⟩), .bool (getL l k).isSome]) w := by
  obtain ⟨D, hM, hT⟩ := h.mp
  obtain ⟨u, ps, hrun, hv⟩ := hM.look_ok keyed Tryd.underlying59 (Tryd.zeroValue9 w) (plainElem_string Tryd.underlying9 (s := ⟨#[]⟩) (by decide)) (key := .string k) (kl := klS k) (key_of hk)
  obtain ⟨c, rfl, hc, -⟩ := plainElem_string_inv Tryd.underlying9 hv
  have hc' := congrArg Prod.fst hc
  rw [show (⟨#[]⟩ : ByteArray).data.toList = [] from rfl, hT.at_ k] at hc'
  rw [hrun, hT.is k]
  simp only [DataW.lit.injEq, Lit.string.injEq] at hc'
  have e : (getL l k).getD ⟨#[]⟩ = c := by
    generalize (getL l k).getD ⟨#[]⟩ = x at hc'
    cases x; cases c; simp_all
  rw [e]
end
def getV (l : List Fld) (k : ByteArray) : Value := .tuple #[.string ((getL l k).getD ⟨#[]⟩), .bool (getL l k).isSome]
theorem len_calls (B g m : Nat) (l : List Fld) (N : Nat) (w : World) (h : Dc w B g m l N) :
    Calls Tryd.prog 23 #[.pointer (some ⟨g, 0, none⟩)] w fun e w' => e = .returned (.int .i64 l.length) ∧ w' = w := by
  have c0 := h.cell
  obtain ⟨D, hM, hT⟩ := h.mp
  have hl := hM.len Tryd.underlying59 3
  rw [hT.size] at hl
  go_enter Tryd.func23, Tryd.ntmps23
  go_wp2_with fail
  go_ret
  exact ⟨rfl, rfl⟩
theorem get_calls (B g m : Nat) (l : List Fld) (N : Nat) (k : ByteArray) (w : World) (h : Dc w B g m l N) (hk : okk k) :
    Calls Tryd.prog 21 #[.pointer (some ⟨g, 0, none⟩), .string k] w fun e w' => e = .returned (getV l k) ∧ w' = w := by
  unfold getV
  have c0 := h.cell
  have hlk := h.look hk
  generalize (getL l k).getD ⟨#[]⟩ = T at hlk ⊢
  generalize (getL l k).isSome = b at hlk ⊢
  go_enter Tryd.func21, Tryd.ntmps21
  go_wp2_with fail
  go_ret2
  exact ⟨rfl, rfl⟩
set_option maxHeartbeats 1000000 in
theorem set_calls (B g m : Nat) (l : List Fld) (N : Nat) (k v : ByteArray) (w : World) (h : Dc w B g m l N) (hk : okk k) (hv : okk v) (hN : N ≤ 1099511627775) :
    Calls Tryd.prog 12 #[.pointer (some ⟨g, 0, none⟩), .string k, .string v] w fun e w' => e = .returned (.bool (!(getL l k).isSome)) ∧ Dc w' B g m (setL l k v) (N + 1) ∧ Only (fun b => b = m) w w' := by
  have H := Lib.hid h
  have c0 := h.cell
  have hlk := h.look hk
  obtain ⟨D, hM, hT⟩ := h.mp
  have HT := Lib.hid (And.intro hM hT)
  generalize (getL l k).getD ⟨#[]⟩ = T at hlk ⊢
  obtain ⟨b, hb⟩ : ∃ b, b = (getL l k).isSome := ⟨_, rfl⟩
  rw [← hb] at hlk ⊢
  clear hb
  go_enter Tryd.func12, Tryd.ntmps12
  go_wp2_with (at_mapUpdate; refine wpList_mapUpdate_own _ rfl _ _ _ 59 rfl 9 9 keyed Tryd.underlying59 _ m N D rfl hM (by unfold maxLen; omega) _ _ (klS k) rfl rfl (key_of hk) (.lit (.string v.data.toList)) [] (plainElem_string Tryd.underlying9 hv) ?_; intro w2 hown2 hturn2)
  go_ret
  have O := Only.of_grown hturn2
  refine ⟨rfl, ⟨O.heap H.out.hp (fun e => by injection e with e; exact H.out.gm e.symm), ⟨_, hown2, HT.out.2.put (HT.out.1.tidy keyed) H.out.ris k v⟩, H.out.gB, H.out.mB, H.out.gm, ris_set H.out.ris k v, ?_⟩, O.mono (fun b hb => by injection hb with hb; exact hb.symm)⟩
  rw [set_len l H.out.ris]
  have := H.out.len
  split <;> omega
set_option maxHeartbeats 1000000 in
theorem drop_calls (B g m : Nat) (l : List Fld) (N : Nat) (k : ByteArray) (w : World) (h : Dc w B g m l N) (hk : okk k) :
    Calls Tryd.prog 14 #[.pointer (some ⟨g, 0, none⟩), .string k] w fun e w' => e = .returned (.bool (getL l k).isSome) ∧ Dc w' B g m (dropL l k) N ∧ Only (fun b => b = m) w w' := by
  have H := Lib.hid h
  have c0 := h.cell
  have hlk := h.look hk
  obtain ⟨D, hM, hT⟩ := h.mp
  have HT := Lib.hid (And.intro hM hT)
  generalize (getL l k).getD ⟨#[]⟩ = T at hlk ⊢
  obtain ⟨b, hb⟩ : ∃ b, b = (getL l k).isSome := ⟨_, rfl⟩
  rw [← hb] at hlk ⊢
  clear hb
  go_enter Tryd.func14, Tryd.ntmps14
  go_wp2_with (at_delete; refine wpList_delete_own _ rfl _ _ 59 9 rfl 9 keyed Tryd.underlying59 _ m N D rfl hM _ _ rfl (key_of hk) ?_; intro w2 hown2 hturn2)
  go_ret
  have O := Only.of_grown hturn2.grown
  refine ⟨rfl, ⟨O.heap H.out.hp (fun e => by injection e with e; exact H.out.gm e.symm), ⟨_, hown2, HT.out.2.del (HT.out.1.tidy keyed) H.out.ris k⟩, H.out.gB, H.out.mB, H.out.gm, ris_drop H.out.ris k, ?_⟩, O.mono (fun b hb => by injection hb with hb; exact hb.symm)⟩
  rw [drop_len]
  have := H.out.len
  split <;> omega
end Go.Proofs.YthgdkmbcibfehaaDoor.DcB
