/-
  The program's reader of effects: cut, number. Conditions: as stated.
-/
import Derived.Test.YtgmnnpbbiejbnaaGreatEfB
import Derived.Test.YtgmnnpbbiejbnaaGreatMgI
set_option maxRecDepth 100000
set_option linter.unusedSimpArgs false
set_option linter.unusedVariables false
namespace Go.Proofs.YtgmnnpbbiejbnaaGreat.EfD
open Go.RowKit Go.Proofs.YtgmnnpbbiejbnaaGreat.Mem Go.Proofs.YtgmnnpbbiejbnaaGreat.VaA Go.Proofs.YtgmnnpbbiejbnaaGreat.VaC Go.Proofs.YtgmnnpbbiejbnaaGreat.VaE Go.Proofs.YtgmnnpbbiejbnaaGreat.VaH Go.Proofs.YtgmnnpbbiejbnaaGreat.VaI Go.Proofs.YtgmnnpbbiejbnaaGreat.VaX Go.Proofs.YtgmnnpbbiejbnaaGreat.DuA Go.Proofs.YtgmnnpbbiejbnaaGreat.SpA Go.Proofs.YtgmnnpbbiejbnaaGreat.SpB Go.Proofs.YtgmnnpbbiejbnaaGreat.SpC Go.Proofs.YtgmnnpbbiejbnaaGreat.SpD Go.Proofs.YtgmnnpbbiejbnaaGreat.SpE Go.Proofs.YtgmnnpbbiejbnaaGreat.SpF Go.Proofs.YtgmnnpbbiejbnaaGreat.SpG Go.Proofs.YtgmnnpbbiejbnaaGreat.EfA Go.Proofs.YtgmnnpbbiejbnaaGreat.EfB
open Go.Proofs.YtgmnnpbbiejbnaaGreat.SpS (writeString bText bFresh)
open Go.Proofs.YtgmnnpbbiejbnaaGreat.Builder (writeByte)
open Go.Proofs.YtgmnnpbbiejbnaaGreat.VaP (unle unfix_calls)
open Go.Proofs.YtgmnnpbbiejbnaaGreat.VbA (decD)

/-- An effect's box. -/
def Be (w : World) (b : Nat) (kd : Int) (key : ByteArray) (x : VV) (due : Int) : Prop := w.heap[b]? = some (.cells #[.int .i64 kd, .string key, .int .i64 x.kind, .string x.text, .slice x.LA x.ln x.lc, .slice x.FA x.fn x.fc, .slice x.KA x.kn x.kc, .int .i64 due] 44 (0, 0))
/-- A reader of effects. -/
def Rr (w : World) (g : Nat) (s : ByteArray) (bad : Bool) : Prop := w.heap[g]? = some (.cells #[.string s, .bool bad] 80 (0, 0))
section
variable {w w' : World} {b g : Nat} {kd due : Int} {key s : ByteArray} {x : VV} {bad : Bool} {S : Nat → Prop}
theorem Be.cells (h : Be w b kd key x due) : w.cell? ⟨b, 0, none⟩ = some (.int .i64 kd) ∧ w.cell? ⟨b, 1, none⟩ = some (.string key) ∧ w.cell? ⟨b, 2, none⟩ = some (.int .i64 x.kind) ∧ w.cell? ⟨b, 3, none⟩ = some (.string x.text) ∧ w.cell? ⟨b, 4, none⟩ = some (.slice x.LA x.ln x.lc) ∧ w.cell? ⟨b, 5, none⟩ = some (.slice x.FA x.fn x.fc) ∧ w.cell? ⟨b, 6, none⟩ = some (.slice x.KA x.kn x.kc) ∧ w.cell? ⟨b, 7, none⟩ = some (.int .i64 due) := by
  unfold Be at h; refine ⟨?_, ?_, ?_, ?_, ?_, ?_, ?_, ?_⟩ <;> simp [World.cell?, h]
theorem Be.free (h : Be w b kd key x due) (j : Nat) : w.frozen? ⟨b, j, none⟩ = false := by unfold Be at h; simp [World.frozen?, h]
theorem Be.only (h : Be w b kd key x due) (ho : Only S w w') (hn : ¬ S b) : Be w' b kd key x due := ho.heap h hn
theorem Be.lt (h : Be w b kd key x due) : b < w.heap.size := (Array.getElem?_eq_some_iff.1 h).1
theorem Be.put1 (h : Be w b kd key x due) (k : ByteArray) : Be (w.setCell ⟨b, 1, none⟩ (.string k)) b kd k x due := by unfold Be at h ⊢; simp [World.setCell, Array.getElem?_modify, h]
theorem Be.put7 (h : Be w b kd key x due) (d : Int) : Be (w.setCell ⟨b, 7, none⟩ (.int .i64 d)) b kd key x d := by unfold Be at h ⊢; simp [World.setCell, Array.getElem?_modify, h]
theorem Be.putV (h : Be w b kd key x due) (y : VV) : Be (((((w.setCell ⟨b, 2, none⟩ (.int .i64 y.kind)).setCell ⟨b, 3, none⟩ (.string y.text)).setCell ⟨b, 4, none⟩ (.slice y.LA y.ln y.lc)).setCell ⟨b, 5, none⟩ (.slice y.FA y.fn y.fc)).setCell ⟨b, 6, none⟩ (.slice y.KA y.kn y.kc)) b kd key y due := by unfold Be at h ⊢; simp [World.setCell, Array.getElem?_modify, h]
theorem Rr.cells (h : Rr w g s bad) : w.cell? ⟨g, 0, none⟩ = some (.string s) ∧ w.cell? ⟨g, 1, none⟩ = some (.bool bad) := by
  unfold Rr at h; refine ⟨?_, ?_⟩ <;> simp [World.cell?, h]
theorem Rr.free (h : Rr w g s bad) (j : Nat) : w.frozen? ⟨g, j, none⟩ = false := by unfold Rr at h; simp [World.frozen?, h]
theorem Rr.only (h : Rr w g s bad) (ho : Only S w w') (hn : ¬ S g) : Rr w' g s bad := ho.heap h hn
theorem Rr.lt (h : Rr w g s bad) : g < w.heap.size := (Array.getElem?_eq_some_iff.1 h).1
theorem Rr.put0 (h : Rr w g s bad) (t : ByteArray) : Rr (w.setCell ⟨g, 0, none⟩ (.string t)) g t bad := by unfold Rr at h ⊢; simp [World.setCell, Array.getElem?_modify, h]
theorem Rr.put1 (h : Rr w g s bad) (c : Bool) : Rr (w.setCell ⟨g, 1, none⟩ (.bool c)) g s c := by unfold Rr at h ⊢; simp [World.setCell, Array.getElem?_modify, h]
theorem put_g (w : World) (j : Nat) (u : Value) : Only (fun k => k = g) w (w.setCell ⟨g, j, none⟩ u) := (Only.refl (fun k => k = g) w).put (p := ⟨g, j, none⟩) (.inl rfl) u
end
/-- What is cut off, what is left, bad? -/
def cutP (s : ByteArray) (bad : Bool) (n : Nat) : ByteArray × ByteArray × Bool := if bad = true ∨ s.size < n then (⟨#[]⟩, s, true) else (s.extract 0 n, s.extract n s.size, false)
def numP (s : ByteArray) (bad : Bool) : Nat × ByteArray × Bool := if bad = true ∨ s.size < 8 then (0, s, true) else (unle (s.extract 0 8).data.toList, s.extract 8 s.size, false)
set_option maxHeartbeats 1000000 in
theorem cut_calls (g n : Nat) (s : ByteArray) (bad : Bool) (w : World) (h : Rr w g s bad) (hn : n ≤ 18446744073709551615) (hs : s.size ≤ 1000000000000) :
    Calls Tryz.prog 61 #[.pointer (some ⟨g, 0, none⟩), .int .u64 n] w fun e w' => e = .returned (.string (cutP s bad n).1) ∧ Rr w' g (cutP s bad n).2.1 (cutP s bad n).2.2 ∧ Only (fun k => k = g) w w' := by
  obtain ⟨c0, c1⟩ := h.cells
  have f0 := h.free 0
  have f1 := h.free 1
  have H := Lib.hid h
  cases bad with
  | true =>
    have hc : cutP s true n = (⟨#[]⟩, s, true) := by unfold cutP; rw [if_pos (.inl rfl)]
    rw [hc]
    clear h hc
    go_enter Tryz.func61, Tryz.ntmps61
    go_wp2_with fail
    go_ret
    exact ⟨rfl, H.out.put1 true, put_g w 1 _⟩
  | false =>
    by_cases hl : s.size < n
    · have hc : cutP s false n = (⟨#[]⟩, s, true) := by unfold cutP; rw [if_pos (.inr hl)]
      rw [hc]
      have hgt : decide ((n : Int) > (s.size : Int)) = true := decide_eq_true (by omega)
      clear h hc
      go_enter Tryz.func61, Tryz.ntmps61
      go_wp2_with fail
      go_ret
      exact ⟨rfl, H.out.put1 true, put_g w 1 _⟩
    · have hc : cutP s false n = (s.extract 0 n, s.extract n s.size, false) := by unfold cutP; rw [if_neg (by simp [hl])]
      rw [hc]
      have hle : ((n : Nat) : Int) ≤ (s.size : Int) := by omega
      have hss : ((s.size : Nat) : Int) ≤ 1000000000000 := by omega
      clear h hc
      go_enter Tryz.func61, Tryz.ntmps61
      go_wp2_with fail
      go_ret
      exact ⟨rfl, H.out.put0 _, put_g w 0 _⟩
theorem unfix0 (w : World) : Calls Tryz.prog 86 #[.string ⟨#[]⟩] w fun e w' => (∃ r, e = .returned (.tuple #[.int .u64 0, .int .i64 r])) ∧ w' = w := by
  go_enter Tryz.func86, Tryz.ntmps86
  go_wp2_with fail
  go_ret2
  exact ⟨⟨_, rfl⟩, rfl⟩
set_option maxHeartbeats 1000000 in
theorem number_calls (g : Nat) (s : ByteArray) (bad : Bool) (w : World) (h : Rr w g s bad) (hs : s.size ≤ 1000000000000) :
    Calls Tryz.prog 62 #[.pointer (some ⟨g, 0, none⟩)] w fun e w' => e = .returned (.int .u64 (numP s bad).1) ∧ Rr w' g (numP s bad).2.1 (numP s bad).2.2 ∧ Only (fun k => k = g) w w' := by
  have hct := cut_calls g 8 s bad w h (by decide) hs
  clear h
  by_cases hb : bad = true ∨ s.size < 8
  · have hc : cutP s bad 8 = (⟨#[]⟩, s, true) := by unfold cutP; rw [if_pos hb]
    have hn : numP s bad = (0, s, true) := by unfold numP; rw [if_pos hb]
    rw [hc] at hct
    rw [hn]
    clear hc hn hb
    go_enter Tryz.func62, Tryz.ntmps62
    go_wp2_with fail
    refine hct.mono ?_
    clear hct
    rintro e w2 ⟨rfl, r2, o2⟩
    have HR := Lib.hid (And.intro r2 o2)
    clear r2 o2
    go_wp2_with fail
    refine (unfix0 _).mono ?_
    rintro e w3 ⟨⟨r, rfl⟩, rfl⟩
    go_wp2_with fail
    go_ret
    exact ⟨rfl, HR.out⟩
  · have hc : cutP s bad 8 = (s.extract 0 8, s.extract 8 s.size, false) := by unfold cutP; rw [if_neg hb]
    have hn : numP s bad = (unle (s.extract 0 8).data.toList, s.extract 8 s.size, false) := by unfold numP; rw [if_neg hb]
    have h8 : (s.extract 0 8).size = 8 := by rw [ByteArray.size_extract]; have : ¬ s.size < 8 := fun h => hb (.inr h); omega
    have hu := fun w => unfix_calls (s.extract 0 8) w (by omega) (by omega)
    rw [hc] at hct
    rw [hn]
    obtain ⟨S, hS⟩ : ∃ S, s.extract 0 8 = S := ⟨_, rfl⟩
    rw [hS] at hct hu ⊢
    clear hc hn hb h8 hS
    go_enter Tryz.func62, Tryz.ntmps62
    go_wp2_with fail
    refine hct.mono ?_
    clear hct
    rintro e w2 ⟨rfl, r2, o2⟩
    have HR := Lib.hid (And.intro r2 o2)
    clear r2 o2
    go_wp2_with fail
    refine (hu _).mono ?_
    rintro e w3 ⟨rfl, rfl⟩
    go_wp2_with fail
    go_ret
    exact ⟨rfl, HR.out⟩
end Go.Proofs.YtgmnnpbbiejbnaaGreat.EfD
