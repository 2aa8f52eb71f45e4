/-
  sure. Conditions: as stated.
  SpaceNobody. Conditions: as stated.
-/
import Derived.Test.YtgmnnpbbiejbnaaGreatSqE
set_option maxRecDepth 100000
set_option linter.unusedSimpArgs false
set_option linter.unusedVariables false
namespace Go.Proofs.YtgmnnpbbiejbnaaGreat.SpW
open Go.RowKit Go.Proofs.YtgmnnpbbiejbnaaGreat.Mem Go.Proofs.YtgmnnpbbiejbnaaGreat.VaC Go.Proofs.YtgmnnpbbiejbnaaGreat.VaE Go.Proofs.YtgmnnpbbiejbnaaGreat.VaH Go.Proofs.YtgmnnpbbiejbnaaGreat.VaI Go.Proofs.YtgmnnpbbiejbnaaGreat.VaX Go.Proofs.YtgmnnpbbiejbnaaGreat.DuA Go.Proofs.YtgmnnpbbiejbnaaGreat.SpA Go.Proofs.YtgmnnpbbiejbnaaGreat.SpB Go.Proofs.YtgmnnpbbiejbnaaGreat.SpC Go.Proofs.YtgmnnpbbiejbnaaGreat.SpD Go.Proofs.YtgmnnpbbiejbnaaGreat.SpE Go.Proofs.YtgmnnpbbiejbnaaGreat.SpF Go.Proofs.YtgmnnpbbiejbnaaGreat.SpG Go.Proofs.YtgmnnpbbiejbnaaGreat.SpH Go.Proofs.YtgmnnpbbiejbnaaGreat.SpI Go.Proofs.YtgmnnpbbiejbnaaGreat.SpJ Go.Proofs.YtgmnnpbbiejbnaaGreat.SpK Go.Proofs.YtgmnnpbbiejbnaaGreat.SpL Go.Proofs.YtgmnnpbbiejbnaaGreat.SpM Go.Proofs.YtgmnnpbbiejbnaaGreat.SpN Go.Proofs.YtgmnnpbbiejbnaaGreat.SpO Go.Proofs.YtgmnnpbbiejbnaaGreat.SpP Go.Proofs.YtgmnnpbbiejbnaaGreat.SpQ Go.Proofs.YtgmnnpbbiejbnaaGreat.SpR Go.Proofs.YtgmnnpbbiejbnaaGreat.SpS Go.Proofs.YtgmnnpbbiejbnaaGreat.SpT Go.Proofs.YtgmnnpbbiejbnaaGreat.SpU Go.Proofs.YtgmnnpbbiejbnaaGreat.SpV
open Go.Proofs.YtgmnnpbbiejbnaaGreat.DsH (Ix IxS okk keyed key_of)
open Go.Proofs.YtgmnnpbbiejbnaaGreat.DsK (OwnKs RdKs keysV elKs)



def tx (b : ByteArray) : PV := ⟨1, b, [], [], []⟩
def s1 : PS := { ps0 with l := [(⟨#[97]⟩, ⟨tx ⟨#[120]⟩, 0, 1⟩)], cnt := 1 }
def s2 : PS := { ps0 with l := [(⟨#[97]⟩, ⟨tx ⟨#[120]⟩, 0, 1⟩), (⟨#[98]⟩, ⟨tx ⟨#[121]⟩, 5, 2⟩)], cnt := 2 }
def s4 : PS := { s2 with on := true, at_ := 2 }
def s6 : PS := { s4 with l := [(⟨#[98]⟩, ⟨tx ⟨#[121]⟩, 5, 2⟩)], cnt := 3, bf := [(⟨#[97]⟩, ⟨tx ⟨#[120]⟩, 0, 1⟩)], ch := [⟨2, ⟨#[97]⟩, pv0, 0⟩] }
def s7 : PS := { s4 with l := [(⟨#[98]⟩, ⟨tx ⟨#[121]⟩, 0, 4⟩)], cnt := 4, bf := [(⟨#[97]⟩, ⟨tx ⟨#[120]⟩, 0, 1⟩), (⟨#[98]⟩, ⟨tx ⟨#[121]⟩, 5, 2⟩)], ch := [⟨2, ⟨#[97]⟩, pv0, 0⟩, ⟨3, ⟨#[98]⟩, pv0, 0⟩] }
def s8 : PS := { s2 with at_ := 2 }
def s9 : PS := { ps0 with cnt := 4, at_ := 2 }
def l10 : List (ByteArray × PH) := [(⟨#[113]⟩, ⟨tx ⟨#[122]⟩, 0, 7⟩)]
theorem tl (a : Array UInt8) : (ByteArray.mk a).toList = a.toList := by rw [ByteArray.toList_eq]
theorem a1 : putE (tx ⟨#[120]⟩) 0 = 0 := by rfl
theorem a2 : putE (tx ⟨#[121]⟩) 5 = 0 := by rfl
theorem a3 : putE pv0 0 = 130 := by rfl
theorem b0 : putS ps0 ⟨#[97]⟩ (tx ⟨#[120]⟩) 0 = s1 := by rfl
theorem ltab : lt ⟨#[97]⟩ ⟨#[98]⟩ = true := by simp [lt, DuB.ltS, tl]; rfl
theorem ltba : lt ⟨#[98]⟩ ⟨#[97]⟩ = false := by simp [lt, DuB.ltS, tl]; rfl
theorem b1 : putS s1 ⟨#[98]⟩ (tx ⟨#[121]⟩) 5 = s2 := by unfold putS; rw [if_pos a2]; unfold putP setK s1; simp [dropK, insK, ltba, noteP, touchP, bfT, ps0, s2]
theorem b2 : putS s2 ⟨#[99]⟩ pv0 0 = s2 := by unfold putS; rw [a3]; rfl
theorem b4 : markS s2 = s4 := by rfl
theorem b5 : markS s4 = s4 := by rfl
theorem c1 : seenP s4 ⟨#[98]⟩ 4 = some ⟨tx ⟨#[121]⟩, 5, 2⟩ := by rfl
theorem c2 : seenP s4 ⟨#[98]⟩ 5 = none := by rfl
theorem c3 : seenP s4 ⟨#[98]⟩ 0 = some ⟨tx ⟨#[121]⟩, 5, 2⟩ := by rfl
theorem c4 : overS s4 ⟨#[98]⟩ 5 = true := by rfl
theorem c5 : keysP s4 5 = [⟨#[97]⟩] := by rfl
theorem c6 : ((getK s4.l ⟨#[98]⟩).getD ph0).ver = 2 := by rfl
theorem d1 : dropS s4 ⟨#[97]⟩ = s6 := by rfl
theorem d2 : dueB s6 ⟨#[98]⟩ 0 = true := by rfl
theorem d3 : dueS s6 ⟨#[98]⟩ 0 = s7 := by unfold dueS s6 s7; simp [tickB, getK, s4, s2, dueP, setK, dropK, insK, ltba, noteP, touchP, bfT, ps0, ph0, pv0]
theorem d4 : keysL s7.bf = [⟨#[97]⟩, ⟨#[98]⟩] := by rfl
theorem d5 : backS s7 = s8 := by unfold backS s7; simp [backK, getK, s4, s2, setK, dropK, insK, ltab, ltba, endP, ps0, s8, tx]
theorem d6 : keepS s8 = s8 := by rfl
theorem e1 : clearS s8 = s9 := by rfl
theorem e2 : bytesL s9.l = [] := by rfl
theorem e3 : keysP (ldS l10 false) 0 = [⟨#[113]⟩] := by rfl
theorem e4 : peekL (duesOf lt PH.due (ldS l10 false).l) 9 9 = [] := by rfl
theorem e5 : SpU.Good l10 := by
  refine ⟨List.pairwise_singleton _ _, fun e he => ?_, fun e he => ?_, fun e he => ?_, fun e he => ?_⟩ <;> (rw [List.mem_singleton.1 he])
  · decide
  · rfl
  · decide
  · decide
-- the walk
def tv (b : ByteArray) : VV := ⟨1, b, none, 0, 0, [], none, 0, 0, [], none, 0, 0, []⟩
theorem rd_cells (w : World) (l : List Value) (T : TypeId) (sz n : Nat) (hl : l.length = n * sz) (hn : n ≤ 1000) : Rd (w.alloc (.cells l.toArray T)) sz (some ⟨w.heap.size, 0, none⟩) n n l :=
  ⟨by omega, Nat.le_refl _, by unfold maxLen; omega, fun j x hx => ⟨_, rfl, by
    have h := heap_alloc_new w (.cells l.toArray T)
    rw [add_mk, Nat.zero_add]
    simp only [World.cell?]
    rw [h]
    simpa using hx⟩⟩
theorem sm0 : SmP pv0 := (vok0 default (fun _ => False)).sm
theorem vok_tx (w : World) (S : Nat → Prop) (b : ByteArray) (hb : b.size ≤ 1000) : Vok w S (tv b) (tx b) := by
  refine ⟨⟨Rd.nil _ _, Rd.nil _ _, Rd.nil _ _⟩, ⟨(fun ad e => by cases e), (fun ad e => by cases e), (fun ad e => by cases e)⟩, rfl, ?_⟩
  exact ⟨by show b.size ≤ 100000000; omega, by show 0 ≤ 100000000; omega, by show 0 ≤ 100000000; omega, by show 0 ≤ 100000000; omega, sm0.s, sm0.f, sm0.k, fun y hy => by cases hy⟩
/-- A space made behind w0, and nothing of w0 changed. -/
structure Sg (w0 w : World) (g N : Nat) (s : PS) : Prop where
  su : Su w w0.heap.size g N s (fun k => k < w0.heap.size)
  bl : Below w0.heap.size w0 w
theorem Sg.below {w0 w w' : World} {g N : Nat} {s : PS} (h : Sg w0 w g N s) (hb : Below w.heap.size w w') : Sg w0 w' g N s := ⟨h.su.below hb, h.bl.trans (hb.mono h.bl.size)⟩
theorem Sg.turn {w0 w w' : World} {g N N' : Nat} {s s' : PS} (h : Sg w0 w g N s) (hs : Su w' w0.heap.size g N' s' (fun k => k < w0.heap.size)) (ho : Only (fun k => ¬ k < w0.heap.size) w w') : Sg w0 w' g N' s' := ⟨hs, h.bl.trans (ho.below h.bl.size (fun k e => Nat.not_lt.1 e))⟩
end Go.Proofs.YtgmnnpbbiejbnaaGreat.SpW
set_option maxRecDepth 100000
set_option linter.unusedSimpArgs false
set_option linter.unusedVariables false
namespace Go.Proofs.YtgmnnpbbiejbnaaGreat.SpX
open Go.RowKit Go.Proofs.YtgmnnpbbiejbnaaGreat.Mem Go.Proofs.YtgmnnpbbiejbnaaGreat.VaC Go.Proofs.YtgmnnpbbiejbnaaGreat.VaE Go.Proofs.YtgmnnpbbiejbnaaGreat.VaH Go.Proofs.YtgmnnpbbiejbnaaGreat.VaI Go.Proofs.YtgmnnpbbiejbnaaGreat.VaX Go.Proofs.YtgmnnpbbiejbnaaGreat.DuA Go.Proofs.YtgmnnpbbiejbnaaGreat.SpA Go.Proofs.YtgmnnpbbiejbnaaGreat.SpB Go.Proofs.YtgmnnpbbiejbnaaGreat.SpC Go.Proofs.YtgmnnpbbiejbnaaGreat.SpD Go.Proofs.YtgmnnpbbiejbnaaGreat.SpE Go.Proofs.YtgmnnpbbiejbnaaGreat.SpF Go.Proofs.YtgmnnpbbiejbnaaGreat.SpG Go.Proofs.YtgmnnpbbiejbnaaGreat.SpH Go.Proofs.YtgmnnpbbiejbnaaGreat.SpI Go.Proofs.YtgmnnpbbiejbnaaGreat.SpJ Go.Proofs.YtgmnnpbbiejbnaaGreat.SpK Go.Proofs.YtgmnnpbbiejbnaaGreat.SpL Go.Proofs.YtgmnnpbbiejbnaaGreat.SpM Go.Proofs.YtgmnnpbbiejbnaaGreat.SpN Go.Proofs.YtgmnnpbbiejbnaaGreat.SpO Go.Proofs.YtgmnnpbbiejbnaaGreat.SpP Go.Proofs.YtgmnnpbbiejbnaaGreat.SpQ Go.Proofs.YtgmnnpbbiejbnaaGreat.SpR Go.Proofs.YtgmnnpbbiejbnaaGreat.SpS Go.Proofs.YtgmnnpbbiejbnaaGreat.SpT Go.Proofs.YtgmnnpbbiejbnaaGreat.SpU Go.Proofs.YtgmnnpbbiejbnaaGreat.SpV Go.Proofs.YtgmnnpbbiejbnaaGreat.SpW
open Go.Proofs.YtgmnnpbbiejbnaaGreat.DsH (Ix IxS okk keyed key_of)
open Go.Proofs.YtgmnnpbbiejbnaaGreat.DsK (OwnKs RdKs keysV elKs)



theorem bb {w0 w1 w2 : World} (h : Below w0.heap.size w0 w1) (k : Below w1.heap.size w1 w2) : Below w0.heap.size w0 w2 := h.trans (k.mono h.size)
end Go.Proofs.YtgmnnpbbiejbnaaGreat.SpX
