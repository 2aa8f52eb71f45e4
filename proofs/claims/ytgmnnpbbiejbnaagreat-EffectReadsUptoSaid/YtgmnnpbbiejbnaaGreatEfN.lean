/-
  The document's reader of effects: fix, take. Conditions: as stated.
-/
import Derived.Test.YtgmnnpbbiejbnaaGreatEfG
import Derived.Test.YtgmnnpbbiejbnaaGreatEfA
set_option maxRecDepth 100000
set_option linter.unusedSimpArgs false
set_option linter.unusedVariables false
namespace Go.Proofs.YtgmnnpbbiejbnaaGreat.EfN
open Go.RowKit Go.Proofs.YtgmnnpbbiejbnaaGreat.Mem Go.Proofs.YtgmnnpbbiejbnaaGreat.VaA Go.Proofs.YtgmnnpbbiejbnaaGreat.VaC Go.Proofs.YtgmnnpbbiejbnaaGreat.VaE Go.Proofs.YtgmnnpbbiejbnaaGreat.VaH Go.Proofs.YtgmnnpbbiejbnaaGreat.VaI Go.Proofs.YtgmnnpbbiejbnaaGreat.VaX Go.Proofs.YtgmnnpbbiejbnaaGreat.DuA Go.Proofs.YtgmnnpbbiejbnaaGreat.SpA Go.Proofs.YtgmnnpbbiejbnaaGreat.SpB Go.Proofs.YtgmnnpbbiejbnaaGreat.SpC Go.Proofs.YtgmnnpbbiejbnaaGreat.SpD Go.Proofs.YtgmnnpbbiejbnaaGreat.SpE Go.Proofs.YtgmnnpbbiejbnaaGreat.SpF Go.Proofs.YtgmnnpbbiejbnaaGreat.SpG Go.Proofs.YtgmnnpbbiejbnaaGreat.EfA Go.Proofs.YtgmnnpbbiejbnaaGreat.EfB Go.Proofs.YtgmnnpbbiejbnaaGreat.EfD Go.Proofs.YtgmnnpbbiejbnaaGreat.EfE Go.Proofs.YtgmnnpbbiejbnaaGreat.EfF Go.Proofs.YtgmnnpbbiejbnaaGreat.EfG
open Go.Proofs.YtgmnnpbbiejbnaaGreat.VaP (unle unle_lt)
open Go.Proofs.YtgmnnpbbiejbnaaGreat.VbA (decD)
open Go.Proofs.YtgmnnpbbiejbnaaGreat.VbB (NwW DecPost)

def fixP (s : ByteArray) : Nat × ByteArray × Bool := if s.size < 8 ∨ 4611686018427387904 < unle (s.extract 0 8).data.toList then (0, ⟨#[]⟩, false) else (unle (s.extract 0 8).data.toList, s.extract 8 s.size, true)
theorem fixP_ok {s : ByteArray} {n : Nat} {r : ByteArray} (h : fixP s = (n, r, true)) : numP s false = (n, r, false) ∧ n ≤ 4611686018427387904 := by
  unfold fixP at h
  split at h
  · injection h with _ h; injection h with _ h; cases h
  · rename_i hn
    injection h with h1 h; injection h with h2 h3
    subst h1 h2
    unfold numP
    rw [if_neg (fun e => e.elim (fun e => by cases e) (fun e => hn (.inl e)))]
    exact ⟨rfl, Nat.not_lt.1 (fun e => hn (.inr e))⟩
theorem fixP_no {s : ByteArray} {n : Nat} {r : ByteArray} (h : fixP s = (n, r, false)) : (numP s false).2.2 = true ∨ 4611686018427387904 < (numP s false).1 := by
  unfold fixP at h
  unfold numP
  split at h
  · rename_i hn
    rcases hn with hn | hn
    · rw [if_pos (.inr hn)]; exact .inl rfl
    · by_cases h8 : s.size < 8
      · rw [if_pos (.inr h8)]; exact .inl rfl
      · rw [if_neg (fun e => e.elim (fun e => by cases e) h8)]; exact .inr hn
  · injection h with _ h; injection h with _ h; cases h
set_option maxHeartbeats 1000000 in
theorem fix_calls (s : ByteArray) (w : World) (hs : s.size ≤ 100000000) :
    Calls Tryz.prog 64 #[.string s] w fun e w' => e = .returned (.tuple #[.int .i64 (fixP s).1, .string (fixP s).2.1, .bool (fixP s).2.2]) ∧ Below w.heap.size w w' := by
  by_cases h8 : s.size < 8
  · have hc : fixP s = (0, ⟨#[]⟩, false) := by unfold fixP; rw [if_pos (.inl h8)]
    rw [hc]
    have h8' : ((s.size : Nat) : Int) < 8 := by omega
    clear hc
    go_enter Tryz.func64, Tryz.ntmps64
    go_wp2_with fail
    go_ret3
    exact ⟨rfl, Below.refl _ _⟩
  · have h8' : (8 : Int) ≤ ((s.size : Nat) : Int) := by omega
    have hss : ((s.size : Nat) : Int) ≤ 100000000 := by omega
    have hz : (s.extract 0 8).size = 8 := by rw [ByteArray.size_extract]; omega
    have hu := fun w => VaP.unfixR_calls (s.extract 0 8) w (by omega) (by omega)
    have hul := unle_lt (s.extract 0 8).data.toList
    have hll : (s.extract 0 8).data.toList.length = 8 := by rw [Array.length_toList]; exact hz
    rw [hll, show (256 : Nat) ^ 8 = 18446744073709551616 from by decide] at hul
    by_cases hb : 4611686018427387904 < unle (s.extract 0 8).data.toList
    · have hc : fixP s = (0, ⟨#[]⟩, false) := by unfold fixP; rw [if_pos (.inr hb)]
      rw [hc]
      obtain ⟨n, hn⟩ : ∃ n, unle (s.extract 0 8).data.toList = n := ⟨_, rfl⟩
      rw [hn] at hu hb hul
      have hb1 : decide (4611686018427387904 < n) = true := decide_eq_true hb
      have hb2 : decide ((4611686018427387904 : Int) < (n : Int)) = true := decide_eq_true (by omega)
      clear hc hn hz hll h8
      go_enter Tryz.func64, Tryz.ntmps64
      go_wp2_with fail
      refine (hu _).mono ?_
      clear hu
      rintro e w2 ⟨rfl, rfl⟩
      go_wp2_with fail
      go_ret3
      exact ⟨rfl, Below.refl _ _⟩
    · have hc : fixP s = (unle (s.extract 0 8).data.toList, s.extract 8 s.size, true) := by unfold fixP; rw [if_neg (fun e => e.elim h8 hb)]
      rw [hc]
      obtain ⟨n, hn⟩ : ∃ n, unle (s.extract 0 8).data.toList = n := ⟨_, rfl⟩
      rw [hn] at hu hb hul ⊢
      have hb1 : decide (4611686018427387904 < n) = false := decide_eq_false hb
      have hb2 : decide ((4611686018427387904 : Int) < (n : Int)) = false := decide_eq_false (by omega)
      have hb3 : ((n : Nat) : Int) ≤ 4611686018427387904 := by omega
      clear hc hn hz hll h8
      go_enter Tryz.func64, Tryz.ntmps64
      go_wp2_with fail
      refine (hu _).mono ?_
      clear hu
      rintro e w2 ⟨rfl, rfl⟩
      go_wp2_with fail
      go_quiet (fail)
      go_wp2_with fail
      go_ret3
      exact ⟨rfl, below_drawn_' (Below.refl _ _) _⟩
/-- What is known of the boxes meanwhile. -/
structure Et (w : World) (eb : Nat) (kd : Int) (key : ByteArray) (x : VV) (due : Int) (wz : World) : Prop where
  o : Only (fun _ => False) w wz
  e : Be wz eb kd key x due
  z : Be wz w.heap.size 0 ⟨#[]⟩ vv0 0
  le : w.heap.size < eb
section
variable {w wz w' : World} {eb : Nat} {kd due : Int} {key : ByteArray} {x : VV}
theorem Et.below (h : Et w eb kd key x due wz) (hb : Below wz.heap.size wz w') : Et w eb kd key x due w' :=
  have o : Only (fun _ => False) wz w' := SpU.only_b hb
  ⟨h.o.trans o (fun q e => e.elim), h.e.only o id, h.z.only o id, h.le⟩
theorem Et.putE (h : Et w eb kd key x due wz) (j : Nat) (u : Value) {key' : ByteArray} {x' : VV} {due' : Int} (he : Be (wz.setCell ⟨eb, j, none⟩ u) eb kd key' x' due') : Et w eb kd key' x' due' (wz.setCell ⟨eb, j, none⟩ u) := by
  have h1 := h.le
  have o : Only (fun k => k = eb) wz (wz.setCell ⟨eb, j, none⟩ u) := put_g wz j u
  exact ⟨h.o.put (p := ⟨eb, j, none⟩) (.inr (Nat.le_of_lt h.le)) u, he, h.z.only o (by show ¬ w.heap.size = eb; omega), h.le⟩
theorem Et.put1 (h : Et w eb kd key x due wz) (k : ByteArray) : Et w eb kd k x due (wz.setCell ⟨eb, 1, none⟩ (.string k)) := h.putE 1 _ (h.e.put1 k)
theorem Et.put7 (h : Et w eb kd key x due wz) (d : Int) : Et w eb kd key x d (wz.setCell ⟨eb, 7, none⟩ (.int .i64 d)) := h.putE 7 _ (h.e.put7 d)
theorem Et.putV (h : Et w eb kd key x due wz) (y : VV) : Et w eb kd key y due (putVv wz eb y) := by
  have h1 := h.le
  have o : Only (fun k => k = eb) wz (putVv wz eb y) := by
    unfold putVv
    exact (((((Only.refl (fun k => k = eb) wz).put (p := ⟨eb, 2, none⟩) (.inl rfl) _).put (p := ⟨eb, 3, none⟩) (.inl rfl) _).put (p := ⟨eb, 4, none⟩) (.inl rfl) _).put (p := ⟨eb, 5, none⟩) (.inl rfl) _).put (p := ⟨eb, 6, none⟩) (.inl rfl) _
  exact ⟨h.o.trans o (fun q e => .inr (by rw [show q = eb from e]; omega)), h.e.putV y, h.z.only o (by show ¬ w.heap.size = eb; omega), h.le⟩
theorem Et.putR (h : Et w eb kd key x due wz) : Only (fun _ => False) w (putAll wz w.heap.size kd key x due) ∧ Be (putAll wz w.heap.size kd key x due) w.heap.size kd key x due ∧ Only (fun k => k = w.heap.size) wz (putAll wz w.heap.size kd key x due) := by
  have hz := h.z
  have o : Only (fun k => k = w.heap.size) wz (putAll wz w.heap.size kd key x due) := by
    unfold putAll
    exact ((((((((Only.refl (fun k => k = w.heap.size) wz).put (p := ⟨w.heap.size, 0, none⟩) (.inl rfl) _).put (p := ⟨w.heap.size, 1, none⟩) (.inl rfl) _).put (p := ⟨w.heap.size, 2, none⟩) (.inl rfl) _).put (p := ⟨w.heap.size, 3, none⟩) (.inl rfl) _).put (p := ⟨w.heap.size, 4, none⟩) (.inl rfl) _).put (p := ⟨w.heap.size, 5, none⟩) (.inl rfl) _).put (p := ⟨w.heap.size, 6, none⟩) (.inl rfl) _).put (p := ⟨w.heap.size, 7, none⟩) (.inl rfl) _
  refine ⟨h.o.trans o (fun q e => .inr (by rw [show q = w.heap.size from e]; exact Nat.le_refl _)), ?_, o⟩
  unfold Be putAll at *
  simp [World.setCell, Array.getElem?_modify, hz]
end
theorem ix2 {s : ByteArray} {b : UInt8} {t : List UInt8} (hl : s.data.toList = b :: t) (h : 0 < s.size) : wrap64 ((((s[0]'h).toNat : Nat)) : Int) = (b.toNat : Int) := by
  have e : s[0]'h = b := by
    show s.data[0] = b
    rw [← Array.getElem_toList]
    simp [hl]
  rw [e]
  have := b.toNat_lt
  unfold wrap64
  omega
theorem frees {w : World} {b : Nat} {kd due : Int} {key : ByteArray} {x : VV} (h : Be w b kd key x due) : w.frozen? ⟨b, 0, none⟩ = false ∧ w.frozen? ⟨b, 1, none⟩ = false ∧ w.frozen? ⟨b, 2, none⟩ = false ∧ w.frozen? ⟨b, 3, none⟩ = false ∧ w.frozen? ⟨b, 4, none⟩ = false ∧ w.frozen? ⟨b, 5, none⟩ = false ∧ w.frozen? ⟨b, 6, none⟩ = false ∧ w.frozen? ⟨b, 7, none⟩ = false :=
  ⟨h.free 0, h.free 1, h.free 2, h.free 3, h.free 4, h.free 5, h.free 6, h.free 7⟩
theorem et_start (w : World) (kd : Int) : Et w (w.heap.size + 1) kd ⟨#[]⟩ vv0 0 ((w.alloc (.cells #[.int .i64 0, .string ⟨#[]⟩, .int .i64 0, .string ⟨#[]⟩, .slice none 0 0, .slice none 0 0, .slice none 0 0, .int .i64 0] 44)).alloc (.cells #[.int .i64 kd, .string ⟨#[]⟩, .int .i64 0, .string ⟨#[]⟩, .slice none 0 0, .slice none 0 0, .slice none 0 0, .int .i64 0] 44)) := by
  have hsz : (w.alloc (.cells #[.int .i64 0, .string ⟨#[]⟩, .int .i64 0, .string ⟨#[]⟩, .slice none 0 0, .slice none 0 0, .slice none 0 0, .int .i64 0] 44)).heap.size = w.heap.size + 1 := World.size_alloc ..
  have hz := heap_alloc_new w (.cells #[.int .i64 0, .string ⟨#[]⟩, .int .i64 0, .string ⟨#[]⟩, .slice none 0 0, .slice none 0 0, .slice none 0 0, .int .i64 0] 44)
  have hq := heap_alloc_new (w.alloc (.cells #[.int .i64 0, .string ⟨#[]⟩, .int .i64 0, .string ⟨#[]⟩, .slice none 0 0, .slice none 0 0, .slice none 0 0, .int .i64 0] 44)) (.cells #[.int .i64 kd, .string ⟨#[]⟩, .int .i64 0, .string ⟨#[]⟩, .slice none 0 0, .slice none 0 0, .slice none 0 0, .int .i64 0] 44)
  rw [hsz] at hq
  exact ⟨Only.alloc (Only.alloc (Only.refl _ _) _) _, hq, Be.only (S := fun _ => False) hz (Only.alloc (Only.refl _ _) _) id, Nat.lt_succ_self _⟩
/-- What is handed back. -/
def TkPost (s : ByteArray) (w : World) (e : Ending) (w' : World) : Prop :=
  ∃ (ev : EV) (rest : ByteArray) (ok : Bool), e = .returned (.tuple #[evV ev, .string rest, .bool ok]) ∧ Below w.heap.size w w' ∧ (eff1 s = none → ok = false) ∧
    (∀ p r, eff1 s = some (p, r) → ok = true ∧ rest = r ∧ peOf ev = p ∧ RdV w' ev.x ∧ NwV w.heap.size ev.x ∧ Sm ev.x)
set_option maxHeartbeats 8000000 in
theorem tk_4 (s : ByteArray) (t : List UInt8) (w : World) (hs : s.size ≤ 100000000) (hl : s.data.toList = 4 :: t) :
    Calls Tryz.prog 39 #[.string s] w (TkPost s w) := by
  obtain ⟨s1, hs1⟩ : ∃ s1, s.extract 1 s.size = s1 := ⟨_, rfl⟩
  have hz1 : s1.size ≤ 100000000 := by rw [← hs1, ByteArray.size_extract]; omega
  have hzz : s.size = t.length + 1 := by
    have h1 : s.data.toList.length = s.size := by rw [Array.length_toList]; rfl
    rw [hl, List.length_cons] at h1
    omega
  have hone : (1 : Int) ≤ ((s.size : Nat) : Int) := by omega
  have hone' : (0 : Int) < ((s.size : Nat) : Int) := by omega
  have hss : ((s.size : Nat) : Int) ≤ 100000000 := by omega
  clear hzz
  obtain ⟨y0, hy0⟩ : ∃ y, y = vv0 := ⟨_, rfl⟩
  have hef : eff1 s = some (⟨4, ⟨#[]⟩, pv0, 0⟩, s1) := by unfold eff1; rw [hl]; simp [hs1]
  have HN := Lib.hid hef
  have HL := Lib.hid hl
  have HY := Lib.hid hy0
  clear hs hl hef hy0
  go_enter Tryz.func39, Tryz.ntmps39
  go_upto_region 2 with fail
  generalize hW2 : World.alloc (World.alloc w _) _ = w2
  have E2 : Et w (w.heap.size + 1) 4 ⟨#[]⟩ y0 0 w2 := by
    rw [HY.out, ← hW2, ix2 HL.out]
    exact et_start w _
  generalize hebz : w.heap.size + 1 = eb at E2 ⊢
  have HE2 := Lib.hid E2
  clear hW2 E2 hebz
  obtain ⟨x0, x1, x2, x3, x4, x5, x6, x7⟩ := HE2.out.e.cells
  obtain ⟨h0, h1, h2, h3, h4, h5, h6, h7⟩ := frees HE2.out.e
  obtain ⟨zf0, zf1, zf2, zf3, zf4, zf5, zf6, zf7⟩ := frees HE2.out.z
  obtain ⟨zc0, zc1, zc2, zc3, zc4, zc5, zc6, zc7⟩ := HE2.out.z.cells
  go_wp2_with fail
  have q := HE2.out.putR
  unfold putAll at q
  obtain ⟨wF, hF⟩ : ∃ wF, (((((((w2.setCell ⟨w.heap.size, 0, none⟩ (.int .i64 4)).setCell ⟨w.heap.size, 1, none⟩ (.string ⟨#[]⟩)).setCell ⟨w.heap.size, 2, none⟩ (.int .i64 y0.kind)).setCell ⟨w.heap.size, 3, none⟩ (.string y0.text)).setCell ⟨w.heap.size, 4, none⟩ (.slice y0.LA y0.ln y0.lc)).setCell ⟨w.heap.size, 5, none⟩ (.slice y0.FA y0.fn y0.fc)).setCell ⟨w.heap.size, 6, none⟩ (.slice y0.KA y0.kn y0.kc)).setCell ⟨w.heap.size, 7, none⟩ (.int .i64 0) = wF := ⟨_, rfl⟩
  rw [hF] at q ⊢
  clear hF
  obtain ⟨qo, qe, qz⟩ := q
  obtain ⟨t0, t1, t2, t3, t4, t5, t6, t7⟩ := qe.cells
  have qb : Below w.heap.size w wF := qo.below (Nat.le_refl _) (fun q e => e.elim)
  refine bodyPost_ret (v := .tuple #[evV ⟨4, ⟨#[]⟩, y0, 0⟩, .string s1, .bool true]) (by simp [results, Tryz.f39, evV, go_sem, t0, t1, t2, t3, t4, t5, t6, t7]) rfl ?_
  refine ⟨_, _, _, rfl, qb, fun h => (by rw [HN.out] at h; cases h), fun p r h => ?_⟩
  rw [HN.out] at h
  injection h with h
  injection h with h1 h2
  subst h1 h2
  exact ⟨rfl, rfl, (by unfold peOf; rw [HY.out]; rfl), (by rw [HY.out]; exact rdv0 _), (by rw [HY.out]; exact nwv0 _), (by rw [HY.out]; exact sm0)⟩
theorem fixP_size (s : ByteArray) : (fixP s).2.1.size ≤ s.size := by
  unfold fixP; split
  · exact Nat.zero_le _
  · show (s.extract _ _).size ≤ _; rw [ByteArray.size_extract]; omega
theorem eff1_bad {s : ByteArray} {b : UInt8} {t : List UInt8} (hl : s.data.toList = b :: t) (h4 : b ≠ 4) (hk : (cutP (numP (s.extract 1 s.size) false).2.1 (numP (s.extract 1 s.size) false).2.2 (numP (s.extract 1 s.size) false).1).2.2 = true) : eff1 s = none := by
  unfold eff1
  rw [hl]
  dsimp only
  rw [if_neg h4]
  generalize cutP (numP (s.extract 1 s.size) false).2.1 (numP (s.extract 1 s.size) false).2.2 (numP (s.extract 1 s.size) false).1 = K at hk ⊢
  obtain ⟨k1, k2, k3⟩ := K
  dsimp only at hk ⊢
  subst hk
  by_cases h2 : b = 2
  · rw [if_pos h2, if_pos rfl]
  · rw [if_neg h2]
    have : (numP k2 true).2.2 = true := by unfold numP; rw [if_pos (.inl rfl)]
    rw [if_pos (.inl this)]
theorem no_fix {s1 : ByteArray} {n : Nat} {r : ByteArray} (hs : s1.size ≤ 100000000) (h : fixP s1 = (n, r, false)) : (cutP (numP s1 false).2.1 (numP s1 false).2.2 (numP s1 false).1).2.2 = true := by
  have hz := numP_size s1 false
  unfold cutP
  rcases fixP_no h with h | h
  · rw [if_pos (.inl h)]
  · rw [if_pos (.inr (by omega))]
theorem no_cut {s1 : ByteArray} {n : Nat} {r : ByteArray} (h : fixP s1 = (n, r, true)) (hn : r.size < n) : (cutP (numP s1 false).2.1 (numP s1 false).2.2 (numP s1 false).1).2.2 = true := by
  rw [(fixP_ok h).1]
  unfold cutP
  rw [if_pos (.inr hn)]
theorem eff1_no3 {s s2 s3 key : ByteArray} {n : Nat} {b : UInt8} {t : List UInt8} (hl : s.data.toList = b :: t) (h4 : b ≠ 4) (h2 : b ≠ 2) (hnm : numP (s.extract 1 s.size) false = (n, s2, false)) (hkm : cutP s2 false n = (key, s3, false)) (hq : (numP s3 false).2.2 = true ∨ 9007199254740992 < (numP s3 false).1) : eff1 s = none := by
  unfold eff1
  rw [hl]
  dsimp only
  rw [if_neg h4, hnm]
  dsimp only
  rw [hkm]
  dsimp only
  rw [if_neg h2, if_pos hq]
theorem eff1_no0 {s s2 s3 key : ByteArray} {n : Nat} {b : UInt8} {t : List UInt8} (hl : s.data.toList = b :: t) (h4 : b ≠ 4) (h2 : b ≠ 2) (h3 : b ≠ 3) (h1 : b = 1 → (numP s3 false).2.2 = false → (decD (numP s3 false).2.1).ok = false) (hnm : numP (s.extract 1 s.size) false = (n, s2, false)) (hkm : cutP s2 false n = (key, s3, false)) : eff1 s = none := by
  unfold eff1
  rw [hl]
  dsimp only
  rw [if_neg h4, hnm]
  dsimp only
  rw [hkm]
  dsimp only
  rw [if_neg h2]
  split
  · rfl
  · rename_i hn
    try rw [if_neg h3]
    split
    · rename_i hb
      rw [if_neg]
      rw [h1 hb (by cases hc : (numP s3 false).2.2 with
        | false => rfl
        | true => exact absurd (.inl hc) hn)]
      decide
    · rfl
set_option maxHeartbeats 8000000 in
theorem tk_2 (s : ByteArray) (t : List UInt8) (w : World) (hs : s.size ≤ 100000000) (hl : s.data.toList = 2 :: t) :
    Calls Tryz.prog 39 #[.string s] w (TkPost s w) := by
  obtain ⟨s1, hs1⟩ : ∃ s1, s.extract 1 s.size = s1 := ⟨_, rfl⟩
  have hz1 : s1.size ≤ 100000000 := by rw [← hs1, ByteArray.size_extract]; omega
  have hzz : s.size = t.length + 1 := by
    have h1 : s.data.toList.length = s.size := by rw [Array.length_toList]; rfl
    rw [hl, List.length_cons] at h1
    omega
  have hone : (1 : Int) ≤ ((s.size : Nat) : Int) := by omega
  have hone' : (0 : Int) < ((s.size : Nat) : Int) := by omega
  have hss : ((s.size : Nat) : Int) ≤ 100000000 := by omega
  clear hzz
  obtain ⟨y0, hy0⟩ : ∃ y, y = vv0 := ⟨_, rfl⟩
  obtain ⟨n, s2, ok1, hfx⟩ : ∃ n s2 ok1, fixP s1 = (n, s2, ok1) := ⟨_, _, _, rfl⟩
  have hz2 := fixP_size s1
  rw [hfx] at hz2
  dsimp only at hz2
  cases ok1 with
  | false =>
    have hef : eff1 s = none := eff1_bad hl (by decide) (by rw [hs1]; exact no_fix hz1 hfx)
    have HN := Lib.hid hef
    have HL := Lib.hid hl
    have HY := Lib.hid hy0
    clear hs hl hef hy0
    go_enter Tryz.func39, Tryz.ntmps39
    go_upto_region 2 with fail
    generalize hW2 : World.alloc (World.alloc w _) _ = w2
    have E2 : Et w (w.heap.size + 1) 2 ⟨#[]⟩ y0 0 w2 := by
      rw [HY.out, ← hW2, ix2 HL.out]
      exact et_start w _
    generalize hebz : w.heap.size + 1 = eb at E2 ⊢
    have HE2 := Lib.hid E2
    clear hW2 E2 hebz
    obtain ⟨x0, x1, x2, x3, x4, x5, x6, x7⟩ := HE2.out.e.cells
    obtain ⟨h0, h1, h2, h3, h4, h5, h6, h7⟩ := frees HE2.out.e
    have hfc := fix_calls s1 w2 (by omega)
    rw [hfx] at hfc
    dsimp only at hfc
    go_wp2_with fail
    refine hfc.mono ?_
    clear hfc
    rintro e w3 ⟨rfl, bm⟩
    have HE3 := Lib.hid (HE2.out.below bm)
    clear bm HE2
    clear x0 x1 x2 x3 x4 x5 x6 x7 h0 h1 h2 h3 h4 h5 h6 h7
    obtain ⟨x0, x1, x2, x3, x4, x5, x6, x7⟩ := HE3.out.e.cells
    obtain ⟨h0, h1, h2, h3, h4, h5, h6, h7⟩ := frees HE3.out.e
    obtain ⟨zf0, zf1, zf2, zf3, zf4, zf5, zf6, zf7⟩ := frees HE3.out.z
    obtain ⟨zc0, zc1, zc2, zc3, zc4, zc5, zc6, zc7⟩ := HE3.out.z.cells
    go_wp2_with fail
    have q := HE3.out.putR
    unfold putAll at q
    obtain ⟨wF, hF⟩ : ∃ wF, (((((((w3.setCell ⟨w.heap.size, 0, none⟩ (.int .i64 2)).setCell ⟨w.heap.size, 1, none⟩ (.string ⟨#[]⟩)).setCell ⟨w.heap.size, 2, none⟩ (.int .i64 y0.kind)).setCell ⟨w.heap.size, 3, none⟩ (.string y0.text)).setCell ⟨w.heap.size, 4, none⟩ (.slice y0.LA y0.ln y0.lc)).setCell ⟨w.heap.size, 5, none⟩ (.slice y0.FA y0.fn y0.fc)).setCell ⟨w.heap.size, 6, none⟩ (.slice y0.KA y0.kn y0.kc)).setCell ⟨w.heap.size, 7, none⟩ (.int .i64 0) = wF := ⟨_, rfl⟩
    rw [hF] at q ⊢
    clear hF
    obtain ⟨qo, qe, qz⟩ := q
    obtain ⟨t0, t1, t2, t3, t4, t5, t6, t7⟩ := qe.cells
    have qb : Below w.heap.size w wF := qo.below (Nat.le_refl _) (fun q e => e.elim)
    refine bodyPost_ret (v := .tuple #[evV ⟨2, ⟨#[]⟩, y0, 0⟩, .string ⟨#[]⟩, .bool false]) (by simp [results, Tryz.f39, evV, go_sem, t0, t1, t2, t3, t4, t5, t6, t7]) rfl ?_
    exact ⟨_, _, _, rfl, qb, fun _ => rfl, fun p r h => (by rw [HN.out] at h; cases h)⟩
  | true =>
    by_cases hn : s2.size < n
    · have hef : eff1 s = none := eff1_bad hl (by decide) (by rw [hs1]; exact no_cut hfx hn)
      have HN := Lib.hid hef
      have hg1 : decide (s2.size < n) = true := decide_eq_true hn
      have hg2 : decide ((s2.size : Int) < (n : Int)) = true := decide_eq_true (by omega)
      have HL := Lib.hid hl
      have HY := Lib.hid hy0
      clear hs hl hef hy0
      go_enter Tryz.func39, Tryz.ntmps39
      go_upto_region 2 with fail
      generalize hW2 : World.alloc (World.alloc w _) _ = w2
      have E2 : Et w (w.heap.size + 1) 2 ⟨#[]⟩ y0 0 w2 := by
        rw [HY.out, ← hW2, ix2 HL.out]
        exact et_start w _
      generalize hebz : w.heap.size + 1 = eb at E2 ⊢
      have HE2 := Lib.hid E2
      clear hW2 E2 hebz
      obtain ⟨x0, x1, x2, x3, x4, x5, x6, x7⟩ := HE2.out.e.cells
      obtain ⟨h0, h1, h2, h3, h4, h5, h6, h7⟩ := frees HE2.out.e
      have hfc := fix_calls s1 w2 (by omega)
      rw [hfx] at hfc
      dsimp only at hfc
      go_wp2_with fail
      refine hfc.mono ?_
      clear hfc
      rintro e w3 ⟨rfl, bm⟩
      have HE3 := Lib.hid (HE2.out.below bm)
      clear bm HE2
      clear x0 x1 x2 x3 x4 x5 x6 x7 h0 h1 h2 h3 h4 h5 h6 h7
      obtain ⟨x0, x1, x2, x3, x4, x5, x6, x7⟩ := HE3.out.e.cells
      obtain ⟨h0, h1, h2, h3, h4, h5, h6, h7⟩ := frees HE3.out.e
      obtain ⟨zf0, zf1, zf2, zf3, zf4, zf5, zf6, zf7⟩ := frees HE3.out.z
      obtain ⟨zc0, zc1, zc2, zc3, zc4, zc5, zc6, zc7⟩ := HE3.out.z.cells
      go_wp2_with fail
      have q := HE3.out.putR
      unfold putAll at q
      obtain ⟨wF, hF⟩ : ∃ wF, (((((((w3.setCell ⟨w.heap.size, 0, none⟩ (.int .i64 2)).setCell ⟨w.heap.size, 1, none⟩ (.string ⟨#[]⟩)).setCell ⟨w.heap.size, 2, none⟩ (.int .i64 y0.kind)).setCell ⟨w.heap.size, 3, none⟩ (.string y0.text)).setCell ⟨w.heap.size, 4, none⟩ (.slice y0.LA y0.ln y0.lc)).setCell ⟨w.heap.size, 5, none⟩ (.slice y0.FA y0.fn y0.fc)).setCell ⟨w.heap.size, 6, none⟩ (.slice y0.KA y0.kn y0.kc)).setCell ⟨w.heap.size, 7, none⟩ (.int .i64 0) = wF := ⟨_, rfl⟩
      rw [hF] at q ⊢
      clear hF
      obtain ⟨qo, qe, qz⟩ := q
      obtain ⟨t0, t1, t2, t3, t4, t5, t6, t7⟩ := qe.cells
      have qb : Below w.heap.size w wF := qo.below (Nat.le_refl _) (fun q e => e.elim)
      refine bodyPost_ret (v := .tuple #[evV ⟨2, ⟨#[]⟩, y0, 0⟩, .string ⟨#[]⟩, .bool false]) (by simp [results, Tryz.f39, evV, go_sem, t0, t1, t2, t3, t4, t5, t6, t7]) rfl ?_
      exact ⟨_, _, _, rfl, qb, fun _ => rfl, fun p r h => (by rw [HN.out] at h; cases h)⟩
    · obtain ⟨hnm, hn62⟩ := fixP_ok hfx
      obtain ⟨key, hkey⟩ : ∃ key, s2.extract 0 n = key := ⟨_, rfl⟩
      obtain ⟨s3, hs3⟩ : ∃ s3, s2.extract n s2.size = s3 := ⟨_, rfl⟩
      have hkm : cutP s2 false n = (key, s3, false) := by unfold cutP; rw [if_neg (fun e => e.elim (fun e => by cases e) hn), hkey, hs3]
      have hef : eff1 s = some (⟨2, key, pv0, 0⟩, s3) := by unfold eff1; rw [hl]; simp [hs1, hnm, hkm]
      have HN := Lib.hid hef
      have HMAY := Lib.hid (show mayP (peOf ⟨2, key, y0, 0⟩) = true by rw [hy0]; rfl)
      have hg1 : decide (s2.size < n) = false := decide_eq_false hn
      have hg2 : decide ((s2.size : Int) < (n : Int)) = false := decide_eq_false (by omega)
      have hg3 : ((n : Nat) : Int) ≤ (s2.size : Int) := by omega
      have hg4 : ((s2.size : Nat) : Int) ≤ 100000000 := by omega
      have HL := Lib.hid hl
      have HY := Lib.hid hy0
      clear hs hl hef hy0
      go_enter Tryz.func39, Tryz.ntmps39
      go_upto_region 2 with fail
      generalize hW2 : World.alloc (World.alloc w _) _ = w2
      have E2 : Et w (w.heap.size + 1) 2 ⟨#[]⟩ y0 0 w2 := by
        rw [HY.out, ← hW2, ix2 HL.out]
        exact et_start w _
      generalize hebz : w.heap.size + 1 = eb at E2 ⊢
      have HE2 := Lib.hid E2
      clear hW2 E2 hebz
      obtain ⟨x0, x1, x2, x3, x4, x5, x6, x7⟩ := HE2.out.e.cells
      obtain ⟨h0, h1, h2, h3, h4, h5, h6, h7⟩ := frees HE2.out.e
      have hfc := fix_calls s1 w2 (by omega)
      rw [hfx] at hfc
      dsimp only at hfc
      go_wp2_with fail
      refine hfc.mono ?_
      clear hfc
      rintro e w3 ⟨rfl, bm⟩
      have HE3 := Lib.hid (HE2.out.below bm)
      clear bm HE2
      clear x0 x1 x2 x3 x4 x5 x6 x7 h0 h1 h2 h3 h4 h5 h6 h7
      have HE3d := Lib.hid (HE3.out.below ((Below.refl _ _).drew))
      obtain ⟨x0, x1, x2, x3, x4, x5, x6, x7⟩ := HE3.out.e.cells
      have h1 := HE3d.out.e.free 1
      have x1d := HE3d.out.e.cells.2.1
      go_upto_region 8 with fail
      refine wp_region_held_drew (S := fun _ => True) (by kernel_rfl) (trivial) (fun hHeld => ?_)
      refine wpAnyH_take (i := 0) (v := ?_) rfl (by kernel_rfl) (by kernel_rfl) (by kernel_rfl) (fun _ _ _ h => h) (Or.inl ⟨by rfl, ?_⟩) (by assumption) ?_
      rotate_left
      · intro wz hSw
        (try dsimp only at hSw)
        first
          | (go_simp; done)
          | (go_simp; with_reducible rfl)
      try simp only [Act.put, List.getElem_toArray, List.getElem_cons_zero, List.getElem_cons_succ, List.setIfInBounds_toArray, List.set_cons_zero, List.set_cons_succ]
      refine wpAnyH_take (i := 1) (v := ?_) rfl (by kernel_rfl) (by kernel_rfl) (by kernel_rfl) (fun _ _ _ h => h) (Or.inl ⟨by rfl, ?_⟩) (by assumption) ?_
      rotate_left
      · intro wz hSw
        (try dsimp only at hSw)
        first
          | (go_simp; done)
          | (go_simp; with_reducible rfl)
      try simp only [Act.put, List.getElem_toArray, List.getElem_cons_zero, List.getElem_cons_succ, List.setIfInBounds_toArray, List.set_cons_zero, List.set_cons_succ]
      refine wpAnyH_take (i := 2) (v := ?_) rfl (by kernel_rfl) (by kernel_rfl) (by kernel_rfl) (fun _ _ _ h => h) (Or.inl ⟨by rfl, ?_⟩) (by assumption) ?_
      rotate_left
      · intro wz hSw
        (try dsimp only at hSw)
        first
          | (go_simp; done)
          | (go_simp; with_reducible rfl)
      try simp only [Act.put, List.getElem_toArray, List.getElem_cons_zero, List.getElem_cons_succ, List.setIfInBounds_toArray, List.set_cons_zero, List.set_cons_succ]
      refine wpAnyH_take (i := 3) (v := ?_) rfl (by kernel_rfl) (by kernel_rfl) (by kernel_rfl) (fun _ _ _ h => h) (Or.inl ⟨by rfl, ?_⟩) (by assumption) ?_
      rotate_left
      · intro wz hSw
        (try dsimp only at hSw)
        first
          | (go_simp; done)
          | (go_simp; with_reducible rfl)
      try simp only [Act.put, List.getElem_toArray, List.getElem_cons_zero, List.getElem_cons_succ, List.setIfInBounds_toArray, List.set_cons_zero, List.set_cons_succ]
      refine wpAnyH_take (i := 4) (v := ?_) rfl (by kernel_rfl) (by kernel_rfl) (by kernel_rfl) (fun _ _ _ h => h) (Or.inl ⟨by rfl, ?_⟩) (by assumption) ?_
      rotate_left
      · intro wz hSw
        (try dsimp only at hSw)
        first
          | (go_simp; done)
          | (go_simp; with_reducible rfl)
      try simp only [Act.put, List.getElem_toArray, List.getElem_cons_zero, List.getElem_cons_succ, List.setIfInBounds_toArray, List.set_cons_zero, List.set_cons_succ]
      refine wpAnyH_take (i := 5) (v := ?_) rfl (by kernel_rfl) (by kernel_rfl) (by kernel_rfl) (fun _ _ _ h => h) (Or.inl ⟨by rfl, ?_⟩) (by assumption) ?_
      rotate_left
      · intro wz hSw
        (try dsimp only at hSw)
        first
          | (go_simp; done)
          | (go_simp; with_reducible rfl)
      try simp only [Act.put, List.getElem_toArray, List.getElem_cons_zero, List.getElem_cons_succ, List.setIfInBounds_toArray, List.set_cons_zero, List.set_cons_succ]
      refine wpAnyH_take (i := 6) (v := ?_) rfl (by kernel_rfl) (by kernel_rfl) (by kernel_rfl) (fun _ _ _ h => h) (Or.inl ⟨by rfl, ?_⟩) (by assumption) ?_
      rotate_left
      · intro wz hSw
        (try dsimp only at hSw)
        first
          | (go_simp; done)
          | (go_simp; with_reducible rfl)
      try simp only [Act.put, List.getElem_toArray, List.getElem_cons_zero, List.getElem_cons_succ, List.setIfInBounds_toArray, List.set_cons_zero, List.set_cons_succ]
      refine wpAnyH_ready (rs := [7]) (by kernel_rfl) (by simp) ?_
      refine AllReadyH.cons rfl (fun K7 hK7 => ?_) AllReadyH.nil
      go_simp
      refine hK7.out _ _ (trivial) (fun hHeld => ?_)
      clear hK7 K7
      try simp only [Act.put, List.getElem_toArray, List.getElem_cons_zero, List.getElem_cons_succ, List.setIfInBounds_toArray, List.set_cons_zero, List.set_cons_succ]
      refine wpAnyH_take (i := 8) (v := ?_) rfl (by kernel_rfl) (by kernel_rfl) (by kernel_rfl) (fun _ _ _ h => h) (Or.inl ⟨by rfl, ?_⟩) (by assumption) ?_
      rotate_left
      · intro wz hSw
        (try dsimp only at hSw)
        first
          | (go_simp; done)
          | (go_simp; with_reducible rfl)
      try simp only [Act.put, List.getElem_toArray, List.getElem_cons_zero, List.getElem_cons_succ, List.setIfInBounds_toArray, List.set_cons_zero, List.set_cons_succ]
      refine wpAnyH_done (by kernel_rfl) ?_ _
      try simp only [hkey, hs3]
      generalize hW4 : (w3.setCell ⟨eb, 1, none⟩ (.string key)).drew = w4
      have HE4 := (HE3.out.put1 key).below ((Below.refl _ _).drew)
      rw [hW4] at HE4
      have HE4 := Lib.hid HE4
      clear hW4 HE3 HE3d hHeld x0 x1 x2 x3 x4 x5 x6 x7 h1 x1d
      obtain ⟨x0, x1, x2, x3, x4, x5, x6, x7⟩ := HE4.out.e.cells
      obtain ⟨h0, h1, h2, h3, h4, h5, h6, h7⟩ := frees HE4.out.e
      go_upto_region 18 with fail
      clear x0 x1 x2 x3 x4 x5 x6 x7 h0 h1 h2 h3 h4 h5 h6 h7
      have HEd := Lib.hid (HE4.out.below ((Below.refl _ _).drew))
      refine wp_region_held_drew (S := fun w' => EB eb (2) key y0 (0) w') (by kernel_rfl) (eb_of HEd.out.e) (fun hHeld => ?_)
      refine wpAnyH_take (i := 0) (v := ?_) rfl (by kernel_rfl) (by kernel_rfl) (by kernel_rfl) (fun _ _ _ h => h) (Or.inl ⟨by rfl, ?_⟩) (by assumption) ?_
      rotate_left
      · intro wz hSw
        (try dsimp only at hSw)
        first
          | (go_simp; done)
          | (go_simp; with_reducible rfl)
      try simp only [Act.put, List.getElem_toArray, List.getElem_cons_zero, List.getElem_cons_succ, List.setIfInBounds_toArray, List.set_cons_zero, List.set_cons_succ]
      refine wpAnyH_take (i := 1) (v := ?_) rfl (by kernel_rfl) (by kernel_rfl) (by kernel_rfl) (fun _ _ _ h => h) (Or.inl ⟨by rfl, ?_⟩) (by assumption) ?_
      rotate_left
      · intro wz hSw
        (try dsimp only at hSw)
        first
          | (go_simp; done)
          | (go_simp; with_reducible rfl)
      try simp only [Act.put, List.getElem_toArray, List.getElem_cons_zero, List.getElem_cons_succ, List.setIfInBounds_toArray, List.set_cons_zero, List.set_cons_succ]
      refine wpAnyH_take (i := 2) (v := ?_) rfl (by kernel_rfl) (by kernel_rfl) (by kernel_rfl) (fun _ _ _ h => h) (Or.inl ⟨by rfl, ?_⟩) (by assumption) ?_
      rotate_left
      · intro wz hSw
        (try dsimp only at hSw)
        first
          | (go_simp; done)
          | (go_simp; with_reducible rfl)
      try simp only [Act.put, List.getElem_toArray, List.getElem_cons_zero, List.getElem_cons_succ, List.setIfInBounds_toArray, List.set_cons_zero, List.set_cons_succ]
      refine wpAnyH_ready (rs := [3]) (by kernel_rfl) (by simp) ?_
      refine AllReadyH.cons rfl (fun K3 hK3 => ?_) AllReadyH.nil
      go_simp
      have hmy := mayR_calls ⟨2, key, y0, 0⟩ w4.drew (by rw [HY.out]; exact rdv0 _) (by rw [HY.out]; exact sm0)
      rw [show mayP (peOf ⟨2, key, y0, 0⟩) = true from HMAY.out] at hmy
      unfold evV at hmy
      dsimp only at hmy
      refine hmy.mono ?_
      clear hmy
      rintro e wM ⟨rfl, bM⟩
      have HEM := Lib.hid (HEd.out.below bM)
      obtain ⟨zf0, zf1, zf2, zf3, zf4, zf5, zf6, zf7⟩ := frees HEM.out.z
      obtain ⟨zc0, zc1, zc2, zc3, zc4, zc5, zc6, zc7⟩ := HEM.out.z.cells
      refine hK3.out _ _ (eb_of HEM.out.e) (fun hHeld => ?_)
      clear hK3 K3
      try simp only [Act.put, List.getElem_toArray, List.getElem_cons_zero, List.getElem_cons_succ, List.setIfInBounds_toArray, List.set_cons_zero, List.set_cons_succ]
      refine wpAnyH_ready (rs := [4]) (by kernel_rfl) (by simp) ?_
      refine AllReadyH.cons rfl (fun K4 hK4 => ?_) AllReadyH.nil
      go_simp
      refine hK4.out _ _ (eb_of (HEM.out.e.only HEM.out.putR.2.2 (fun h => absurd h (Nat.ne_of_gt HEM.out.le)))) (fun hHeld => ?_)
      clear hK4 K4
      try simp only [Act.put, List.getElem_toArray, List.getElem_cons_zero, List.getElem_cons_succ, List.setIfInBounds_toArray, List.set_cons_zero, List.set_cons_succ]
      refine wpAnyH_take (i := 5) (v := ?_) rfl (by kernel_rfl) (by kernel_rfl) (by kernel_rfl) (fun _ _ _ h => h) (Or.inl ⟨by rfl, ?_⟩) (by assumption) ?_
      rotate_left
      · intro wz hSw
        (try dsimp only at hSw)
        first
          | (go_simp; done)
          | (go_simp; with_reducible rfl)
      try simp only [Act.put, List.getElem_toArray, List.getElem_cons_zero, List.getElem_cons_succ, List.setIfInBounds_toArray, List.set_cons_zero, List.set_cons_succ]
      refine wpAnyH_take (i := 6) (v := ?_) rfl (by kernel_rfl) (by kernel_rfl) (by kernel_rfl) (fun _ _ _ h => h) (Or.inl ⟨by rfl, ?_⟩) (by assumption) ?_
      rotate_left
      · intro wz hSw
        (try dsimp only at hSw)
        first
          | (go_simp; done)
          | (go_simp; with_reducible rfl)
      try simp only [Act.put, List.getElem_toArray, List.getElem_cons_zero, List.getElem_cons_succ, List.setIfInBounds_toArray, List.set_cons_zero, List.set_cons_succ]
      refine wpAnyH_done (by kernel_rfl) ?_ _
      clear hHeld
      have q := HEM.out.putR
      unfold putAll at q
      obtain ⟨wF, hF⟩ : ∃ wF, (((((((wM.setCell ⟨w.heap.size, 0, none⟩ (.int .i64 2)).setCell ⟨w.heap.size, 1, none⟩ (.string key)).setCell ⟨w.heap.size, 2, none⟩ (.int .i64 y0.kind)).setCell ⟨w.heap.size, 3, none⟩ (.string y0.text)).setCell ⟨w.heap.size, 4, none⟩ (.slice y0.LA y0.ln y0.lc)).setCell ⟨w.heap.size, 5, none⟩ (.slice y0.FA y0.fn y0.fc)).setCell ⟨w.heap.size, 6, none⟩ (.slice y0.KA y0.kn y0.kc)).setCell ⟨w.heap.size, 7, none⟩ (.int .i64 0) = wF := ⟨_, rfl⟩
      rw [hF] at q ⊢
      clear hF
      obtain ⟨qo, qe, qz⟩ := q
      go_wp2_with fail
      obtain ⟨t0, t1, t2, t3, t4, t5, t6, t7⟩ := qe.cells
      have qb : Below w.heap.size w wF := qo.below (Nat.le_refl _) (fun q e => e.elim)
      refine bodyPost_ret (v := .tuple #[evV ⟨2, key, y0, 0⟩, .string s3, .bool true]) (by simp [results, Tryz.f39, evV, go_sem, t0, t1, t2, t3, t4, t5, t6, t7]) rfl ?_
      refine ⟨_, _, _, rfl, qb, fun h => (by rw [HN.out] at h; cases h), fun p r h => ?_⟩
      rw [HN.out] at h
      injection h with h
      injection h with h1 h2
      subst h1 h2
      exact ⟨rfl, rfl, (by unfold peOf; rw [HY.out]; rfl), (by rw [HY.out]; exact rdv0 _), (by rw [HY.out]; exact nwv0 _), (by rw [HY.out]; exact sm0)⟩
set_option maxHeartbeats 8000000 in
theorem tk_3 (s : ByteArray) (t : List UInt8) (w : World) (hs : s.size ≤ 100000000) (hl : s.data.toList = 3 :: t) :
    Calls Tryz.prog 39 #[.string s] w (TkPost s w) := by
  obtain ⟨s1, hs1⟩ : ∃ s1, s.extract 1 s.size = s1 := ⟨_, rfl⟩
  have hz1 : s1.size ≤ 100000000 := by rw [← hs1, ByteArray.size_extract]; omega
  have hzz : s.size = t.length + 1 := by
    have h1 : s.data.toList.length = s.size := by rw [Array.length_toList]; rfl
    rw [hl, List.length_cons] at h1
    omega
  have hone : (1 : Int) ≤ ((s.size : Nat) : Int) := by omega
  have hone' : (0 : Int) < ((s.size : Nat) : Int) := by omega
  have hss : ((s.size : Nat) : Int) ≤ 100000000 := by omega
  clear hzz
  obtain ⟨y0, hy0⟩ : ∃ y, y = vv0 := ⟨_, rfl⟩
  obtain ⟨n, s2, ok1, hfx⟩ : ∃ n s2 ok1, fixP s1 = (n, s2, ok1) := ⟨_, _, _, rfl⟩
  have hz2 := fixP_size s1
  rw [hfx] at hz2
  dsimp only at hz2
  cases ok1 with
  | false =>
    have hef : eff1 s = none := eff1_bad hl (by decide) (by rw [hs1]; exact no_fix hz1 hfx)
    have HN := Lib.hid hef
    have HL := Lib.hid hl
    have HY := Lib.hid hy0
    clear hs hl hef hy0
    go_enter Tryz.func39, Tryz.ntmps39
    go_upto_region 2 with fail
    generalize hW2 : World.alloc (World.alloc w _) _ = w2
    have E2 : Et w (w.heap.size + 1) 3 ⟨#[]⟩ y0 0 w2 := by
      rw [HY.out, ← hW2, ix2 HL.out]
      exact et_start w _
    generalize hebz : w.heap.size + 1 = eb at E2 ⊢
    have HE2 := Lib.hid E2
    clear hW2 E2 hebz
    obtain ⟨x0, x1, x2, x3, x4, x5, x6, x7⟩ := HE2.out.e.cells
    obtain ⟨h0, h1, h2, h3, h4, h5, h6, h7⟩ := frees HE2.out.e
    have hfc := fix_calls s1 w2 (by omega)
    rw [hfx] at hfc
    dsimp only at hfc
    go_wp2_with fail
    refine hfc.mono ?_
    clear hfc
    rintro e w3 ⟨rfl, bm⟩
    have HE3 := Lib.hid (HE2.out.below bm)
    clear bm HE2
    clear x0 x1 x2 x3 x4 x5 x6 x7 h0 h1 h2 h3 h4 h5 h6 h7
    obtain ⟨x0, x1, x2, x3, x4, x5, x6, x7⟩ := HE3.out.e.cells
    obtain ⟨h0, h1, h2, h3, h4, h5, h6, h7⟩ := frees HE3.out.e
    obtain ⟨zf0, zf1, zf2, zf3, zf4, zf5, zf6, zf7⟩ := frees HE3.out.z
    obtain ⟨zc0, zc1, zc2, zc3, zc4, zc5, zc6, zc7⟩ := HE3.out.z.cells
    go_wp2_with fail
    have q := HE3.out.putR
    unfold putAll at q
    obtain ⟨wF, hF⟩ : ∃ wF, (((((((w3.setCell ⟨w.heap.size, 0, none⟩ (.int .i64 3)).setCell ⟨w.heap.size, 1, none⟩ (.string ⟨#[]⟩)).setCell ⟨w.heap.size, 2, none⟩ (.int .i64 y0.kind)).setCell ⟨w.heap.size, 3, none⟩ (.string y0.text)).setCell ⟨w.heap.size, 4, none⟩ (.slice y0.LA y0.ln y0.lc)).setCell ⟨w.heap.size, 5, none⟩ (.slice y0.FA y0.fn y0.fc)).setCell ⟨w.heap.size, 6, none⟩ (.slice y0.KA y0.kn y0.kc)).setCell ⟨w.heap.size, 7, none⟩ (.int .i64 0) = wF := ⟨_, rfl⟩
    rw [hF] at q ⊢
    clear hF
    obtain ⟨qo, qe, qz⟩ := q
    obtain ⟨t0, t1, t2, t3, t4, t5, t6, t7⟩ := qe.cells
    have qb : Below w.heap.size w wF := qo.below (Nat.le_refl _) (fun q e => e.elim)
    refine bodyPost_ret (v := .tuple #[evV ⟨3, ⟨#[]⟩, y0, 0⟩, .string ⟨#[]⟩, .bool false]) (by simp [results, Tryz.f39, evV, go_sem, t0, t1, t2, t3, t4, t5, t6, t7]) rfl ?_
    exact ⟨_, _, _, rfl, qb, fun _ => rfl, fun p r h => (by rw [HN.out] at h; cases h)⟩
  | true =>
    by_cases hn : s2.size < n
    · have hef : eff1 s = none := eff1_bad hl (by decide) (by rw [hs1]; exact no_cut hfx hn)
      have HN := Lib.hid hef
      have hg1 : decide (s2.size < n) = true := decide_eq_true hn
      have hg2 : decide ((s2.size : Int) < (n : Int)) = true := decide_eq_true (by omega)
      have HL := Lib.hid hl
      have HY := Lib.hid hy0
      clear hs hl hef hy0
      go_enter Tryz.func39, Tryz.ntmps39
      go_upto_region 2 with fail
      generalize hW2 : World.alloc (World.alloc w _) _ = w2
      have E2 : Et w (w.heap.size + 1) 3 ⟨#[]⟩ y0 0 w2 := by
        rw [HY.out, ← hW2, ix2 HL.out]
        exact et_start w _
      generalize hebz : w.heap.size + 1 = eb at E2 ⊢
      have HE2 := Lib.hid E2
      clear hW2 E2 hebz
      obtain ⟨x0, x1, x2, x3, x4, x5, x6, x7⟩ := HE2.out.e.cells
      obtain ⟨h0, h1, h2, h3, h4, h5, h6, h7⟩ := frees HE2.out.e
      have hfc := fix_calls s1 w2 (by omega)
      rw [hfx] at hfc
      dsimp only at hfc
      go_wp2_with fail
      refine hfc.mono ?_
      clear hfc
      rintro e w3 ⟨rfl, bm⟩
      have HE3 := Lib.hid (HE2.out.below bm)
      clear bm HE2
      clear x0 x1 x2 x3 x4 x5 x6 x7 h0 h1 h2 h3 h4 h5 h6 h7
      obtain ⟨x0, x1, x2, x3, x4, x5, x6, x7⟩ := HE3.out.e.cells
      obtain ⟨h0, h1, h2, h3, h4, h5, h6, h7⟩ := frees HE3.out.e
      obtain ⟨zf0, zf1, zf2, zf3, zf4, zf5, zf6, zf7⟩ := frees HE3.out.z
      obtain ⟨zc0, zc1, zc2, zc3, zc4, zc5, zc6, zc7⟩ := HE3.out.z.cells
      go_wp2_with fail
      have q := HE3.out.putR
      unfold putAll at q
      obtain ⟨wF, hF⟩ : ∃ wF, (((((((w3.setCell ⟨w.heap.size, 0, none⟩ (.int .i64 3)).setCell ⟨w.heap.size, 1, none⟩ (.string ⟨#[]⟩)).setCell ⟨w.heap.size, 2, none⟩ (.int .i64 y0.kind)).setCell ⟨w.heap.size, 3, none⟩ (.string y0.text)).setCell ⟨w.heap.size, 4, none⟩ (.slice y0.LA y0.ln y0.lc)).setCell ⟨w.heap.size, 5, none⟩ (.slice y0.FA y0.fn y0.fc)).setCell ⟨w.heap.size, 6, none⟩ (.slice y0.KA y0.kn y0.kc)).setCell ⟨w.heap.size, 7, none⟩ (.int .i64 0) = wF := ⟨_, rfl⟩
      rw [hF] at q ⊢
      clear hF
      obtain ⟨qo, qe, qz⟩ := q
      obtain ⟨t0, t1, t2, t3, t4, t5, t6, t7⟩ := qe.cells
      have qb : Below w.heap.size w wF := qo.below (Nat.le_refl _) (fun q e => e.elim)
      refine bodyPost_ret (v := .tuple #[evV ⟨3, ⟨#[]⟩, y0, 0⟩, .string ⟨#[]⟩, .bool false]) (by simp [results, Tryz.f39, evV, go_sem, t0, t1, t2, t3, t4, t5, t6, t7]) rfl ?_
      exact ⟨_, _, _, rfl, qb, fun _ => rfl, fun p r h => (by rw [HN.out] at h; cases h)⟩
    · obtain ⟨hnm, hn62⟩ := fixP_ok hfx
      obtain ⟨key, hkey⟩ : ∃ key, s2.extract 0 n = key := ⟨_, rfl⟩
      obtain ⟨s3, hs3⟩ : ∃ s3, s2.extract n s2.size = s3 := ⟨_, rfl⟩
      have hkm : cutP s2 false n = (key, s3, false) := by unfold cutP; rw [if_neg (fun e => e.elim (fun e => by cases e) hn), hkey, hs3]
      have hz3 : s3.size ≤ 100000000 := by rw [← hs3, ByteArray.size_extract]; omega
      have hnm2 := hnm
      rw [← hs1] at hnm2
      obtain ⟨d, s4, ok2, hfx2⟩ : ∃ d s4 ok2, fixP s3 = (d, s4, ok2) := ⟨_, _, _, rfl⟩
      have hz4 := fixP_size s3
      rw [hfx2] at hz4
      dsimp only at hz4
      cases ok2 with
      | false =>
        have hef : eff1 s = none := eff1_no3 hl (by decide) (by decide) hnm2 hkm ((fixP_no hfx2).imp id (fun e => by omega))
        have HN := Lib.hid hef
        have hg1 : decide (s2.size < n) = false := decide_eq_false hn
        have hg2 : decide ((s2.size : Int) < (n : Int)) = false := decide_eq_false (by omega)
        have hg3 : ((n : Nat) : Int) ≤ (s2.size : Int) := by omega
        have hg4 : ((s2.size : Nat) : Int) ≤ 100000000 := by omega
        have HL := Lib.hid hl
        have HY := Lib.hid hy0
        clear hnm2
        clear hs hl hef hy0
        go_enter Tryz.func39, Tryz.ntmps39
        go_upto_region 2 with fail
        generalize hW2 : World.alloc (World.alloc w _) _ = w2
        have E2 : Et w (w.heap.size + 1) 3 ⟨#[]⟩ y0 0 w2 := by
          rw [HY.out, ← hW2, ix2 HL.out]
          exact et_start w _
        generalize hebz : w.heap.size + 1 = eb at E2 ⊢
        have HE2 := Lib.hid E2
        clear hW2 E2 hebz
        obtain ⟨x0, x1, x2, x3, x4, x5, x6, x7⟩ := HE2.out.e.cells
        obtain ⟨h0, h1, h2, h3, h4, h5, h6, h7⟩ := frees HE2.out.e
        have hfc := fix_calls s1 w2 (by omega)
        rw [hfx] at hfc
        dsimp only at hfc
        go_wp2_with fail
        refine hfc.mono ?_
        clear hfc
        rintro e w3 ⟨rfl, bm⟩
        have HE3 := Lib.hid (HE2.out.below bm)
        clear bm HE2
        clear x0 x1 x2 x3 x4 x5 x6 x7 h0 h1 h2 h3 h4 h5 h6 h7
        have HE3d := Lib.hid (HE3.out.below ((Below.refl _ _).drew))
        obtain ⟨x0, x1, x2, x3, x4, x5, x6, x7⟩ := HE3.out.e.cells
        have h1 := HE3d.out.e.free 1
        have x1d := HE3d.out.e.cells.2.1
        go_upto_region 8 with fail
        refine wp_region_held_drew (S := fun _ => True) (by kernel_rfl) (trivial) (fun hHeld => ?_)
        refine wpAnyH_take (i := 0) (v := ?_) rfl (by kernel_rfl) (by kernel_rfl) (by kernel_rfl) (fun _ _ _ h => h) (Or.inl ⟨by rfl, ?_⟩) (by assumption) ?_
        rotate_left
        · intro wz hSw
          (try dsimp only at hSw)
          first
            | (go_simp; done)
            | (go_simp; with_reducible rfl)
        try simp only [Act.put, List.getElem_toArray, List.getElem_cons_zero, List.getElem_cons_succ, List.setIfInBounds_toArray, List.set_cons_zero, List.set_cons_succ]
        refine wpAnyH_take (i := 1) (v := ?_) rfl (by kernel_rfl) (by kernel_rfl) (by kernel_rfl) (fun _ _ _ h => h) (Or.inl ⟨by rfl, ?_⟩) (by assumption) ?_
        rotate_left
        · intro wz hSw
          (try dsimp only at hSw)
          first
            | (go_simp; done)
            | (go_simp; with_reducible rfl)
        try simp only [Act.put, List.getElem_toArray, List.getElem_cons_zero, List.getElem_cons_succ, List.setIfInBounds_toArray, List.set_cons_zero, List.set_cons_succ]
        refine wpAnyH_take (i := 2) (v := ?_) rfl (by kernel_rfl) (by kernel_rfl) (by kernel_rfl) (fun _ _ _ h => h) (Or.inl ⟨by rfl, ?_⟩) (by assumption) ?_
        rotate_left
        · intro wz hSw
          (try dsimp only at hSw)
          first
            | (go_simp; done)
            | (go_simp; with_reducible rfl)
        try simp only [Act.put, List.getElem_toArray, List.getElem_cons_zero, List.getElem_cons_succ, List.setIfInBounds_toArray, List.set_cons_zero, List.set_cons_succ]
        refine wpAnyH_take (i := 3) (v := ?_) rfl (by kernel_rfl) (by kernel_rfl) (by kernel_rfl) (fun _ _ _ h => h) (Or.inl ⟨by rfl, ?_⟩) (by assumption) ?_
        rotate_left
        · intro wz hSw
          (try dsimp only at hSw)
          first
            | (go_simp; done)
            | (go_simp; with_reducible rfl)
        try simp only [Act.put, List.getElem_toArray, List.getElem_cons_zero, List.getElem_cons_succ, List.setIfInBounds_toArray, List.set_cons_zero, List.set_cons_succ]
        refine wpAnyH_take (i := 4) (v := ?_) rfl (by kernel_rfl) (by kernel_rfl) (by kernel_rfl) (fun _ _ _ h => h) (Or.inl ⟨by rfl, ?_⟩) (by assumption) ?_
        rotate_left
        · intro wz hSw
          (try dsimp only at hSw)
          first
            | (go_simp; done)
            | (go_simp; with_reducible rfl)
        try simp only [Act.put, List.getElem_toArray, List.getElem_cons_zero, List.getElem_cons_succ, List.setIfInBounds_toArray, List.set_cons_zero, List.set_cons_succ]
        refine wpAnyH_take (i := 5) (v := ?_) rfl (by kernel_rfl) (by kernel_rfl) (by kernel_rfl) (fun _ _ _ h => h) (Or.inl ⟨by rfl, ?_⟩) (by assumption) ?_
        rotate_left
        · intro wz hSw
          (try dsimp only at hSw)
          first
            | (go_simp; done)
            | (go_simp; with_reducible rfl)
        try simp only [Act.put, List.getElem_toArray, List.getElem_cons_zero, List.getElem_cons_succ, List.setIfInBounds_toArray, List.set_cons_zero, List.set_cons_succ]
        refine wpAnyH_take (i := 6) (v := ?_) rfl (by kernel_rfl) (by kernel_rfl) (by kernel_rfl) (fun _ _ _ h => h) (Or.inl ⟨by rfl, ?_⟩) (by assumption) ?_
        rotate_left
        · intro wz hSw
          (try dsimp only at hSw)
          first
            | (go_simp; done)
            | (go_simp; with_reducible rfl)
        try simp only [Act.put, List.getElem_toArray, List.getElem_cons_zero, List.getElem_cons_succ, List.setIfInBounds_toArray, List.set_cons_zero, List.set_cons_succ]
        refine wpAnyH_ready (rs := [7]) (by kernel_rfl) (by simp) ?_
        refine AllReadyH.cons rfl (fun K7 hK7 => ?_) AllReadyH.nil
        go_simp
        refine hK7.out _ _ (trivial) (fun hHeld => ?_)
        clear hK7 K7
        try simp only [Act.put, List.getElem_toArray, List.getElem_cons_zero, List.getElem_cons_succ, List.setIfInBounds_toArray, List.set_cons_zero, List.set_cons_succ]
        refine wpAnyH_take (i := 8) (v := ?_) rfl (by kernel_rfl) (by kernel_rfl) (by kernel_rfl) (fun _ _ _ h => h) (Or.inl ⟨by rfl, ?_⟩) (by assumption) ?_
        rotate_left
        · intro wz hSw
          (try dsimp only at hSw)
          first
            | (go_simp; done)
            | (go_simp; with_reducible rfl)
        try simp only [Act.put, List.getElem_toArray, List.getElem_cons_zero, List.getElem_cons_succ, List.setIfInBounds_toArray, List.set_cons_zero, List.set_cons_succ]
        refine wpAnyH_done (by kernel_rfl) ?_ _
        try simp only [hkey, hs3]
        generalize hW4 : (w3.setCell ⟨eb, 1, none⟩ (.string key)).drew = w4
        have HE4 := (HE3.out.put1 key).below ((Below.refl _ _).drew)
        rw [hW4] at HE4
        have HE4 := Lib.hid HE4
        clear hW4 HE3 HE3d hHeld x0 x1 x2 x3 x4 x5 x6 x7 h1 x1d
        obtain ⟨x0, x1, x2, x3, x4, x5, x6, x7⟩ := HE4.out.e.cells
        obtain ⟨h0, h1, h2, h3, h4, h5, h6, h7⟩ := frees HE4.out.e
        have hfc := fix_calls s3 w4 (by omega)
        rw [hfx2] at hfc
        dsimp only at hfc
        go_wp2_with fail
        refine hfc.mono ?_
        clear hfc
        rintro e w5 ⟨rfl, bm⟩
        have HE5 := Lib.hid (HE4.out.below bm)
        clear bm HE4
        clear x0 x1 x2 x3 x4 x5 x6 x7 h0 h1 h2 h3 h4 h5 h6 h7
        obtain ⟨x0, x1, x2, x3, x4, x5, x6, x7⟩ := HE5.out.e.cells
        obtain ⟨h0, h1, h2, h3, h4, h5, h6, h7⟩ := frees HE5.out.e
        go_upto_region 11 with fail
        generalize hW6 : w5.setCell ⟨eb, 7, none⟩ (.int .i64 (d : Int)) = w6
        have HE6 := HE5.out.put7 (d : Int)
        rw [hW6] at HE6
        have HE6 := Lib.hid HE6
        clear hW6 HE5
        clear x0 x1 x2 x3 x4 x5 x6 x7 h0 h1 h2 h3 h4 h5 h6 h7
        obtain ⟨x0, x1, x2, x3, x4, x5, x6, x7⟩ := HE6.out.e.cells
        obtain ⟨h0, h1, h2, h3, h4, h5, h6, h7⟩ := frees HE6.out.e
        obtain ⟨zf0, zf1, zf2, zf3, zf4, zf5, zf6, zf7⟩ := frees HE6.out.z
        obtain ⟨zc0, zc1, zc2, zc3, zc4, zc5, zc6, zc7⟩ := HE6.out.z.cells
        go_wp2_with fail
        have q := HE6.out.putR
        unfold putAll at q
        obtain ⟨wF, hF⟩ : ∃ wF, (((((((w6.setCell ⟨w.heap.size, 0, none⟩ (.int .i64 3)).setCell ⟨w.heap.size, 1, none⟩ (.string key)).setCell ⟨w.heap.size, 2, none⟩ (.int .i64 y0.kind)).setCell ⟨w.heap.size, 3, none⟩ (.string y0.text)).setCell ⟨w.heap.size, 4, none⟩ (.slice y0.LA y0.ln y0.lc)).setCell ⟨w.heap.size, 5, none⟩ (.slice y0.FA y0.fn y0.fc)).setCell ⟨w.heap.size, 6, none⟩ (.slice y0.KA y0.kn y0.kc)).setCell ⟨w.heap.size, 7, none⟩ (.int .i64 (d : Int)) = wF := ⟨_, rfl⟩
        rw [hF] at q ⊢
        clear hF
        obtain ⟨qo, qe, qz⟩ := q
        obtain ⟨t0, t1, t2, t3, t4, t5, t6, t7⟩ := qe.cells
        have qb : Below w.heap.size w wF := qo.below (Nat.le_refl _) (fun q e => e.elim)
        refine bodyPost_ret (v := .tuple #[evV ⟨3, key, y0, (d : Int)⟩, .string ⟨#[]⟩, .bool false]) (by simp [results, Tryz.f39, evV, go_sem, t0, t1, t2, t3, t4, t5, t6, t7]) rfl ?_
        exact ⟨_, _, _, rfl, qb, fun _ => rfl, fun p r h => (by rw [HN.out] at h; cases h)⟩
      | true =>
        obtain ⟨hdm, hd62⟩ := fixP_ok hfx2
        by_cases hdM : 9007199254740992 < d
        · have hef : eff1 s = none := eff1_no3 hl (by decide) (by decide) hnm2 hkm (.inr (by rw [hdm]; exact hdM))
          have HN := Lib.hid hef
          have ht : tickB (d : Int) = false := Bool.eq_false_iff.2 (fun hc => by have := (tick_iff _).1 hc; omega)
          have HMAY := Lib.hid (show mayP (peOf ⟨3, key, y0, (d : Int)⟩) = false by unfold mayP peOf; rw [hy0]; dsimp only; rw [if_neg (by decide), if_neg (by decide), if_pos rfl, ht]; exact Bool.and_false _)
          have hg1 : decide (s2.size < n) = false := decide_eq_false hn
          have hg2 : decide ((s2.size : Int) < (n : Int)) = false := decide_eq_false (by omega)
          have hg3 : ((n : Nat) : Int) ≤ (s2.size : Int) := by omega
          have hg4 : ((s2.size : Nat) : Int) ≤ 100000000 := by omega
          have HL := Lib.hid hl
          have HY := Lib.hid hy0
          clear hnm2
          clear hs hl hef hy0
          go_enter Tryz.func39, Tryz.ntmps39
          go_upto_region 2 with fail
          generalize hW2 : World.alloc (World.alloc w _) _ = w2
          have E2 : Et w (w.heap.size + 1) 3 ⟨#[]⟩ y0 0 w2 := by
            rw [HY.out, ← hW2, ix2 HL.out]
            exact et_start w _
          generalize hebz : w.heap.size + 1 = eb at E2 ⊢
          have HE2 := Lib.hid E2
          clear hW2 E2 hebz
          obtain ⟨x0, x1, x2, x3, x4, x5, x6, x7⟩ := HE2.out.e.cells
          obtain ⟨h0, h1, h2, h3, h4, h5, h6, h7⟩ := frees HE2.out.e
          have hfc := fix_calls s1 w2 (by omega)
          rw [hfx] at hfc
          dsimp only at hfc
          go_wp2_with fail
          refine hfc.mono ?_
          clear hfc
          rintro e w3 ⟨rfl, bm⟩
          have HE3 := Lib.hid (HE2.out.below bm)
          clear bm HE2
          clear x0 x1 x2 x3 x4 x5 x6 x7 h0 h1 h2 h3 h4 h5 h6 h7
          have HE3d := Lib.hid (HE3.out.below ((Below.refl _ _).drew))
          obtain ⟨x0, x1, x2, x3, x4, x5, x6, x7⟩ := HE3.out.e.cells
          have h1 := HE3d.out.e.free 1
          have x1d := HE3d.out.e.cells.2.1
          go_upto_region 8 with fail
          refine wp_region_held_drew (S := fun _ => True) (by kernel_rfl) (trivial) (fun hHeld => ?_)
          refine wpAnyH_take (i := 0) (v := ?_) rfl (by kernel_rfl) (by kernel_rfl) (by kernel_rfl) (fun _ _ _ h => h) (Or.inl ⟨by rfl, ?_⟩) (by assumption) ?_
          rotate_left
          · intro wz hSw
            (try dsimp only at hSw)
            first
              | (go_simp; done)
              | (go_simp; with_reducible rfl)
          try simp only [Act.put, List.getElem_toArray, List.getElem_cons_zero, List.getElem_cons_succ, List.setIfInBounds_toArray, List.set_cons_zero, List.set_cons_succ]
          refine wpAnyH_take (i := 1) (v := ?_) rfl (by kernel_rfl) (by kernel_rfl) (by kernel_rfl) (fun _ _ _ h => h) (Or.inl ⟨by rfl, ?_⟩) (by assumption) ?_
          rotate_left
          · intro wz hSw
            (try dsimp only at hSw)
            first
              | (go_simp; done)
              | (go_simp; with_reducible rfl)
          try simp only [Act.put, List.getElem_toArray, List.getElem_cons_zero, List.getElem_cons_succ, List.setIfInBounds_toArray, List.set_cons_zero, List.set_cons_succ]
          refine wpAnyH_take (i := 2) (v := ?_) rfl (by kernel_rfl) (by kernel_rfl) (by kernel_rfl) (fun _ _ _ h => h) (Or.inl ⟨by rfl, ?_⟩) (by assumption) ?_
          rotate_left
          · intro wz hSw
            (try dsimp only at hSw)
            first
              | (go_simp; done)
              | (go_simp; with_reducible rfl)
          try simp only [Act.put, List.getElem_toArray, List.getElem_cons_zero, List.getElem_cons_succ, List.setIfInBounds_toArray, List.set_cons_zero, List.set_cons_succ]
          refine wpAnyH_take (i := 3) (v := ?_) rfl (by kernel_rfl) (by kernel_rfl) (by kernel_rfl) (fun _ _ _ h => h) (Or.inl ⟨by rfl, ?_⟩) (by assumption) ?_
          rotate_left
          · intro wz hSw
            (try dsimp only at hSw)
            first
              | (go_simp; done)
              | (go_simp; with_reducible rfl)
          try simp only [Act.put, List.getElem_toArray, List.getElem_cons_zero, List.getElem_cons_succ, List.setIfInBounds_toArray, List.set_cons_zero, List.set_cons_succ]
          refine wpAnyH_take (i := 4) (v := ?_) rfl (by kernel_rfl) (by kernel_rfl) (by kernel_rfl) (fun _ _ _ h => h) (Or.inl ⟨by rfl, ?_⟩) (by assumption) ?_
          rotate_left
          · intro wz hSw
            (try dsimp only at hSw)
            first
              | (go_simp; done)
              | (go_simp; with_reducible rfl)
          try simp only [Act.put, List.getElem_toArray, List.getElem_cons_zero, List.getElem_cons_succ, List.setIfInBounds_toArray, List.set_cons_zero, List.set_cons_succ]
          refine wpAnyH_take (i := 5) (v := ?_) rfl (by kernel_rfl) (by kernel_rfl) (by kernel_rfl) (fun _ _ _ h => h) (Or.inl ⟨by rfl, ?_⟩) (by assumption) ?_
          rotate_left
          · intro wz hSw
            (try dsimp only at hSw)
            first
              | (go_simp; done)
              | (go_simp; with_reducible rfl)
          try simp only [Act.put, List.getElem_toArray, List.getElem_cons_zero, List.getElem_cons_succ, List.setIfInBounds_toArray, List.set_cons_zero, List.set_cons_succ]
          refine wpAnyH_take (i := 6) (v := ?_) rfl (by kernel_rfl) (by kernel_rfl) (by kernel_rfl) (fun _ _ _ h => h) (Or.inl ⟨by rfl, ?_⟩) (by assumption) ?_
          rotate_left
          · intro wz hSw
            (try dsimp only at hSw)
            first
              | (go_simp; done)
              | (go_simp; with_reducible rfl)
          try simp only [Act.put, List.getElem_toArray, List.getElem_cons_zero, List.getElem_cons_succ, List.setIfInBounds_toArray, List.set_cons_zero, List.set_cons_succ]
          refine wpAnyH_ready (rs := [7]) (by kernel_rfl) (by simp) ?_
          refine AllReadyH.cons rfl (fun K7 hK7 => ?_) AllReadyH.nil
          go_simp
          refine hK7.out _ _ (trivial) (fun hHeld => ?_)
          clear hK7 K7
          try simp only [Act.put, List.getElem_toArray, List.getElem_cons_zero, List.getElem_cons_succ, List.setIfInBounds_toArray, List.set_cons_zero, List.set_cons_succ]
          refine wpAnyH_take (i := 8) (v := ?_) rfl (by kernel_rfl) (by kernel_rfl) (by kernel_rfl) (fun _ _ _ h => h) (Or.inl ⟨by rfl, ?_⟩) (by assumption) ?_
          rotate_left
          · intro wz hSw
            (try dsimp only at hSw)
            first
              | (go_simp; done)
              | (go_simp; with_reducible rfl)
          try simp only [Act.put, List.getElem_toArray, List.getElem_cons_zero, List.getElem_cons_succ, List.setIfInBounds_toArray, List.set_cons_zero, List.set_cons_succ]
          refine wpAnyH_done (by kernel_rfl) ?_ _
          try simp only [hkey, hs3]
          generalize hW4 : (w3.setCell ⟨eb, 1, none⟩ (.string key)).drew = w4
          have HE4 := (HE3.out.put1 key).below ((Below.refl _ _).drew)
          rw [hW4] at HE4
          have HE4 := Lib.hid HE4
          clear hW4 HE3 HE3d hHeld x0 x1 x2 x3 x4 x5 x6 x7 h1 x1d
          obtain ⟨x0, x1, x2, x3, x4, x5, x6, x7⟩ := HE4.out.e.cells
          obtain ⟨h0, h1, h2, h3, h4, h5, h6, h7⟩ := frees HE4.out.e
          have hfc := fix_calls s3 w4 (by omega)
          rw [hfx2] at hfc
          dsimp only at hfc
          go_wp2_with fail
          refine hfc.mono ?_
          clear hfc
          rintro e w5 ⟨rfl, bm⟩
          have HE5 := Lib.hid (HE4.out.below bm)
          clear bm HE4
          clear x0 x1 x2 x3 x4 x5 x6 x7 h0 h1 h2 h3 h4 h5 h6 h7
          obtain ⟨x0, x1, x2, x3, x4, x5, x6, x7⟩ := HE5.out.e.cells
          obtain ⟨h0, h1, h2, h3, h4, h5, h6, h7⟩ := frees HE5.out.e
          go_upto_region 11 with fail
          generalize hW6 : w5.setCell ⟨eb, 7, none⟩ (.int .i64 (d : Int)) = w6
          have HE6 := HE5.out.put7 (d : Int)
          rw [hW6] at HE6
          have HE6 := Lib.hid HE6
          clear hW6 HE5
          clear x0 x1 x2 x3 x4 x5 x6 x7 h0 h1 h2 h3 h4 h5 h6 h7
          obtain ⟨x0, x1, x2, x3, x4, x5, x6, x7⟩ := HE6.out.e.cells
          obtain ⟨h0, h1, h2, h3, h4, h5, h6, h7⟩ := frees HE6.out.e
          go_upto_region 18 with fail
          clear x0 x1 x2 x3 x4 x5 x6 x7 h0 h1 h2 h3 h4 h5 h6 h7
          have HEd := Lib.hid (HE6.out.below ((Below.refl _ _).drew))
          refine wp_region_held_drew (S := fun w' => EB eb (3) key y0 ((d : Int)) w') (by kernel_rfl) (eb_of HEd.out.e) (fun hHeld => ?_)
          refine wpAnyH_take (i := 0) (v := ?_) rfl (by kernel_rfl) (by kernel_rfl) (by kernel_rfl) (fun _ _ _ h => h) (Or.inl ⟨by rfl, ?_⟩) (by assumption) ?_
          rotate_left
          · intro wz hSw
            (try dsimp only at hSw)
            first
              | (go_simp; done)
              | (go_simp; with_reducible rfl)
          try simp only [Act.put, List.getElem_toArray, List.getElem_cons_zero, List.getElem_cons_succ, List.setIfInBounds_toArray, List.set_cons_zero, List.set_cons_succ]
          refine wpAnyH_take (i := 1) (v := ?_) rfl (by kernel_rfl) (by kernel_rfl) (by kernel_rfl) (fun _ _ _ h => h) (Or.inl ⟨by rfl, ?_⟩) (by assumption) ?_
          rotate_left
          · intro wz hSw
            (try dsimp only at hSw)
            first
              | (go_simp; done)
              | (go_simp; with_reducible rfl)
          try simp only [Act.put, List.getElem_toArray, List.getElem_cons_zero, List.getElem_cons_succ, List.setIfInBounds_toArray, List.set_cons_zero, List.set_cons_succ]
          refine wpAnyH_take (i := 2) (v := ?_) rfl (by kernel_rfl) (by kernel_rfl) (by kernel_rfl) (fun _ _ _ h => h) (Or.inl ⟨by rfl, ?_⟩) (by assumption) ?_
          rotate_left
          · intro wz hSw
            (try dsimp only at hSw)
            first
              | (go_simp; done)
              | (go_simp; with_reducible rfl)
          try simp only [Act.put, List.getElem_toArray, List.getElem_cons_zero, List.getElem_cons_succ, List.setIfInBounds_toArray, List.set_cons_zero, List.set_cons_succ]
          refine wpAnyH_ready (rs := [3]) (by kernel_rfl) (by simp) ?_
          refine AllReadyH.cons rfl (fun K3 hK3 => ?_) AllReadyH.nil
          go_simp
          have hmy := mayR_calls ⟨3, key, y0, (d : Int)⟩ w6.drew (by rw [HY.out]; exact rdv0 _) (by rw [HY.out]; exact sm0)
          rw [show mayP (peOf ⟨3, key, y0, (d : Int)⟩) = false from HMAY.out] at hmy
          unfold evV at hmy
          dsimp only at hmy
          refine hmy.mono ?_
          clear hmy
          rintro e wM ⟨rfl, bM⟩
          have HEM := Lib.hid (HEd.out.below bM)
          obtain ⟨zf0, zf1, zf2, zf3, zf4, zf5, zf6, zf7⟩ := frees HEM.out.z
          obtain ⟨zc0, zc1, zc2, zc3, zc4, zc5, zc6, zc7⟩ := HEM.out.z.cells
          refine hK3.out _ _ (eb_of HEM.out.e) (fun hHeld => ?_)
          clear hK3 K3
          try simp only [Act.put, List.getElem_toArray, List.getElem_cons_zero, List.getElem_cons_succ, List.setIfInBounds_toArray, List.set_cons_zero, List.set_cons_succ]
          refine wpAnyH_ready (rs := [4]) (by kernel_rfl) (by simp) ?_
          refine AllReadyH.cons rfl (fun K4 hK4 => ?_) AllReadyH.nil
          go_simp
          refine hK4.out _ _ (eb_of (HEM.out.e.only HEM.out.putR.2.2 (fun h => absurd h (Nat.ne_of_gt HEM.out.le)))) (fun hHeld => ?_)
          clear hK4 K4
          try simp only [Act.put, List.getElem_toArray, List.getElem_cons_zero, List.getElem_cons_succ, List.setIfInBounds_toArray, List.set_cons_zero, List.set_cons_succ]
          refine wpAnyH_take (i := 5) (v := ?_) rfl (by kernel_rfl) (by kernel_rfl) (by kernel_rfl) (fun _ _ _ h => h) (Or.inl ⟨by rfl, ?_⟩) (by assumption) ?_
          rotate_left
          · intro wz hSw
            (try dsimp only at hSw)
            first
              | (go_simp; done)
              | (go_simp; with_reducible rfl)
          try simp only [Act.put, List.getElem_toArray, List.getElem_cons_zero, List.getElem_cons_succ, List.setIfInBounds_toArray, List.set_cons_zero, List.set_cons_succ]
          refine wpAnyH_take (i := 6) (v := ?_) rfl (by kernel_rfl) (by kernel_rfl) (by kernel_rfl) (fun _ _ _ h => h) (Or.inl ⟨by rfl, ?_⟩) (by assumption) ?_
          rotate_left
          · intro wz hSw
            (try dsimp only at hSw)
            first
              | (go_simp; done)
              | (go_simp; with_reducible rfl)
          try simp only [Act.put, List.getElem_toArray, List.getElem_cons_zero, List.getElem_cons_succ, List.setIfInBounds_toArray, List.set_cons_zero, List.set_cons_succ]
          refine wpAnyH_done (by kernel_rfl) ?_ _
          clear hHeld
          have q := HEM.out.putR
          unfold putAll at q
          obtain ⟨wF, hF⟩ : ∃ wF, (((((((wM.setCell ⟨w.heap.size, 0, none⟩ (.int .i64 3)).setCell ⟨w.heap.size, 1, none⟩ (.string key)).setCell ⟨w.heap.size, 2, none⟩ (.int .i64 y0.kind)).setCell ⟨w.heap.size, 3, none⟩ (.string y0.text)).setCell ⟨w.heap.size, 4, none⟩ (.slice y0.LA y0.ln y0.lc)).setCell ⟨w.heap.size, 5, none⟩ (.slice y0.FA y0.fn y0.fc)).setCell ⟨w.heap.size, 6, none⟩ (.slice y0.KA y0.kn y0.kc)).setCell ⟨w.heap.size, 7, none⟩ (.int .i64 (d : Int)) = wF := ⟨_, rfl⟩
          rw [hF] at q ⊢
          clear hF
          obtain ⟨qo, qe, qz⟩ := q
          go_wp2_with fail
          obtain ⟨t0, t1, t2, t3, t4, t5, t6, t7⟩ := qe.cells
          have qb : Below w.heap.size w wF := qo.below (Nat.le_refl _) (fun q e => e.elim)
          refine bodyPost_ret (v := .tuple #[evV ⟨3, key, y0, (d : Int)⟩, .string s4, .bool false]) (by simp [results, Tryz.f39, evV, go_sem, t0, t1, t2, t3, t4, t5, t6, t7]) rfl ?_
          exact ⟨_, _, _, rfl, qb, fun _ => rfl, fun p r h => (by rw [HN.out] at h; cases h)⟩
        · have hef : eff1 s = some (⟨3, key, pv0, (d : Nat)⟩, s4) := by unfold eff1; rw [hl]; simp [hs1, hnm, hkm, hdm, hdM]
          have HN := Lib.hid hef
          have HMAY := Lib.hid (show mayP (peOf ⟨3, key, y0, (d : Int)⟩) = true by unfold mayP peOf; rw [hy0]; dsimp only; rw [if_neg (by decide), if_neg (by decide), if_pos rfl, (tick_iff _).2 (by omega)]; rfl)
          have hg1 : decide (s2.size < n) = false := decide_eq_false hn
          have hg2 : decide ((s2.size : Int) < (n : Int)) = false := decide_eq_false (by omega)
          have hg3 : ((n : Nat) : Int) ≤ (s2.size : Int) := by omega
          have hg4 : ((s2.size : Nat) : Int) ≤ 100000000 := by omega
          have HL := Lib.hid hl
          have HY := Lib.hid hy0
          clear hnm2
          clear hs hl hef hy0
          go_enter Tryz.func39, Tryz.ntmps39
          go_upto_region 2 with fail
          generalize hW2 : World.alloc (World.alloc w _) _ = w2
          have E2 : Et w (w.heap.size + 1) 3 ⟨#[]⟩ y0 0 w2 := by
            rw [HY.out, ← hW2, ix2 HL.out]
            exact et_start w _
          generalize hebz : w.heap.size + 1 = eb at E2 ⊢
          have HE2 := Lib.hid E2
          clear hW2 E2 hebz
          obtain ⟨x0, x1, x2, x3, x4, x5, x6, x7⟩ := HE2.out.e.cells
          obtain ⟨h0, h1, h2, h3, h4, h5, h6, h7⟩ := frees HE2.out.e
          have hfc := fix_calls s1 w2 (by omega)
          rw [hfx] at hfc
          dsimp only at hfc
          go_wp2_with fail
          refine hfc.mono ?_
          clear hfc
          rintro e w3 ⟨rfl, bm⟩
          have HE3 := Lib.hid (HE2.out.below bm)
          clear bm HE2
          clear x0 x1 x2 x3 x4 x5 x6 x7 h0 h1 h2 h3 h4 h5 h6 h7
          have HE3d := Lib.hid (HE3.out.below ((Below.refl _ _).drew))
          obtain ⟨x0, x1, x2, x3, x4, x5, x6, x7⟩ := HE3.out.e.cells
          have h1 := HE3d.out.e.free 1
          have x1d := HE3d.out.e.cells.2.1
          go_upto_region 8 with fail
          refine wp_region_held_drew (S := fun _ => True) (by kernel_rfl) (trivial) (fun hHeld => ?_)
          refine wpAnyH_take (i := 0) (v := ?_) rfl (by kernel_rfl) (by kernel_rfl) (by kernel_rfl) (fun _ _ _ h => h) (Or.inl ⟨by rfl, ?_⟩) (by assumption) ?_
          rotate_left
          · intro wz hSw
            (try dsimp only at hSw)
            first
              | (go_simp; done)
              | (go_simp; with_reducible rfl)
          try simp only [Act.put, List.getElem_toArray, List.getElem_cons_zero, List.getElem_cons_succ, List.setIfInBounds_toArray, List.set_cons_zero, List.set_cons_succ]
          refine wpAnyH_take (i := 1) (v := ?_) rfl (by kernel_rfl) (by kernel_rfl) (by kernel_rfl) (fun _ _ _ h => h) (Or.inl ⟨by rfl, ?_⟩) (by assumption) ?_
          rotate_left
          · intro wz hSw
            (try dsimp only at hSw)
            first
              | (go_simp; done)
              | (go_simp; with_reducible rfl)
          try simp only [Act.put, List.getElem_toArray, List.getElem_cons_zero, List.getElem_cons_succ, List.setIfInBounds_toArray, List.set_cons_zero, List.set_cons_succ]
          refine wpAnyH_take (i := 2) (v := ?_) rfl (by kernel_rfl) (by kernel_rfl) (by kernel_rfl) (fun _ _ _ h => h) (Or.inl ⟨by rfl, ?_⟩) (by assumption) ?_
          rotate_left
          · intro wz hSw
            (try dsimp only at hSw)
            first
              | (go_simp; done)
              | (go_simp; with_reducible rfl)
          try simp only [Act.put, List.getElem_toArray, List.getElem_cons_zero, List.getElem_cons_succ, List.setIfInBounds_toArray, List.set_cons_zero, List.set_cons_succ]
          refine wpAnyH_take (i := 3) (v := ?_) rfl (by kernel_rfl) (by kernel_rfl) (by kernel_rfl) (fun _ _ _ h => h) (Or.inl ⟨by rfl, ?_⟩) (by assumption) ?_
          rotate_left
          · intro wz hSw
            (try dsimp only at hSw)
            first
              | (go_simp; done)
              | (go_simp; with_reducible rfl)
          try simp only [Act.put, List.getElem_toArray, List.getElem_cons_zero, List.getElem_cons_succ, List.setIfInBounds_toArray, List.set_cons_zero, List.set_cons_succ]
          refine wpAnyH_take (i := 4) (v := ?_) rfl (by kernel_rfl) (by kernel_rfl) (by kernel_rfl) (fun _ _ _ h => h) (Or.inl ⟨by rfl, ?_⟩) (by assumption) ?_
          rotate_left
          · intro wz hSw
            (try dsimp only at hSw)
            first
              | (go_simp; done)
              | (go_simp; with_reducible rfl)
          try simp only [Act.put, List.getElem_toArray, List.getElem_cons_zero, List.getElem_cons_succ, List.setIfInBounds_toArray, List.set_cons_zero, List.set_cons_succ]
          refine wpAnyH_take (i := 5) (v := ?_) rfl (by kernel_rfl) (by kernel_rfl) (by kernel_rfl) (fun _ _ _ h => h) (Or.inl ⟨by rfl, ?_⟩) (by assumption) ?_
          rotate_left
          · intro wz hSw
            (try dsimp only at hSw)
            first
              | (go_simp; done)
              | (go_simp; with_reducible rfl)
          try simp only [Act.put, List.getElem_toArray, List.getElem_cons_zero, List.getElem_cons_succ, List.setIfInBounds_toArray, List.set_cons_zero, List.set_cons_succ]
          refine wpAnyH_take (i := 6) (v := ?_) rfl (by kernel_rfl) (by kernel_rfl) (by kernel_rfl) (fun _ _ _ h => h) (Or.inl ⟨by rfl, ?_⟩) (by assumption) ?_
          rotate_left
          · intro wz hSw
            (try dsimp only at hSw)
            first
              | (go_simp; done)
              | (go_simp; with_reducible rfl)
          try simp only [Act.put, List.getElem_toArray, List.getElem_cons_zero, List.getElem_cons_succ, List.setIfInBounds_toArray, List.set_cons_zero, List.set_cons_succ]
          refine wpAnyH_ready (rs := [7]) (by kernel_rfl) (by simp) ?_
          refine AllReadyH.cons rfl (fun K7 hK7 => ?_) AllReadyH.nil
          go_simp
          refine hK7.out _ _ (trivial) (fun hHeld => ?_)
          clear hK7 K7
          try simp only [Act.put, List.getElem_toArray, List.getElem_cons_zero, List.getElem_cons_succ, List.setIfInBounds_toArray, List.set_cons_zero, List.set_cons_succ]
          refine wpAnyH_take (i := 8) (v := ?_) rfl (by kernel_rfl) (by kernel_rfl) (by kernel_rfl) (fun _ _ _ h => h) (Or.inl ⟨by rfl, ?_⟩) (by assumption) ?_
          rotate_left
          · intro wz hSw
            (try dsimp only at hSw)
            first
              | (go_simp; done)
              | (go_simp; with_reducible rfl)
          try simp only [Act.put, List.getElem_toArray, List.getElem_cons_zero, List.getElem_cons_succ, List.setIfInBounds_toArray, List.set_cons_zero, List.set_cons_succ]
          refine wpAnyH_done (by kernel_rfl) ?_ _
          try simp only [hkey, hs3]
          generalize hW4 : (w3.setCell ⟨eb, 1, none⟩ (.string key)).drew = w4
          have HE4 := (HE3.out.put1 key).below ((Below.refl _ _).drew)
          rw [hW4] at HE4
          have HE4 := Lib.hid HE4
          clear hW4 HE3 HE3d hHeld x0 x1 x2 x3 x4 x5 x6 x7 h1 x1d
          obtain ⟨x0, x1, x2, x3, x4, x5, x6, x7⟩ := HE4.out.e.cells
          obtain ⟨h0, h1, h2, h3, h4, h5, h6, h7⟩ := frees HE4.out.e
          have hfc := fix_calls s3 w4 (by omega)
          rw [hfx2] at hfc
          dsimp only at hfc
          go_wp2_with fail
          refine hfc.mono ?_
          clear hfc
          rintro e w5 ⟨rfl, bm⟩
          have HE5 := Lib.hid (HE4.out.below bm)
          clear bm HE4
          clear x0 x1 x2 x3 x4 x5 x6 x7 h0 h1 h2 h3 h4 h5 h6 h7
          obtain ⟨x0, x1, x2, x3, x4, x5, x6, x7⟩ := HE5.out.e.cells
          obtain ⟨h0, h1, h2, h3, h4, h5, h6, h7⟩ := frees HE5.out.e
          go_upto_region 11 with fail
          generalize hW6 : w5.setCell ⟨eb, 7, none⟩ (.int .i64 (d : Int)) = w6
          have HE6 := HE5.out.put7 (d : Int)
          rw [hW6] at HE6
          have HE6 := Lib.hid HE6
          clear hW6 HE5
          clear x0 x1 x2 x3 x4 x5 x6 x7 h0 h1 h2 h3 h4 h5 h6 h7
          obtain ⟨x0, x1, x2, x3, x4, x5, x6, x7⟩ := HE6.out.e.cells
          obtain ⟨h0, h1, h2, h3, h4, h5, h6, h7⟩ := frees HE6.out.e
          go_upto_region 18 with fail
          clear x0 x1 x2 x3 x4 x5 x6 x7 h0 h1 h2 h3 h4 h5 h6 h7
          have HEd := Lib.hid (HE6.out.below ((Below.refl _ _).drew))
          refine wp_region_held_drew (S := fun w' => EB eb (3) key y0 ((d : Int)) w') (by kernel_rfl) (eb_of HEd.out.e) (fun hHeld => ?_)
          refine wpAnyH_take (i := 0) (v := ?_) rfl (by kernel_rfl) (by kernel_rfl) (by kernel_rfl) (fun _ _ _ h => h) (Or.inl ⟨by rfl, ?_⟩) (by assumption) ?_
          rotate_left
          · intro wz hSw
            (try dsimp only at hSw)
            first
              | (go_simp; done)
              | (go_simp; with_reducible rfl)
          try simp only [Act.put, List.getElem_toArray, List.getElem_cons_zero, List.getElem_cons_succ, List.setIfInBounds_toArray, List.set_cons_zero, List.set_cons_succ]
          refine wpAnyH_take (i := 1) (v := ?_) rfl (by kernel_rfl) (by kernel_rfl) (by kernel_rfl) (fun _ _ _ h => h) (Or.inl ⟨by rfl, ?_⟩) (by assumption) ?_
          rotate_left
          · intro wz hSw
            (try dsimp only at hSw)
            first
              | (go_simp; done)
              | (go_simp; with_reducible rfl)
          try simp only [Act.put, List.getElem_toArray, List.getElem_cons_zero, List.getElem_cons_succ, List.setIfInBounds_toArray, List.set_cons_zero, List.set_cons_succ]
          refine wpAnyH_take (i := 2) (v := ?_) rfl (by kernel_rfl) (by kernel_rfl) (by kernel_rfl) (fun _ _ _ h => h) (Or.inl ⟨by rfl, ?_⟩) (by assumption) ?_
          rotate_left
          · intro wz hSw
            (try dsimp only at hSw)
            first
              | (go_simp; done)
              | (go_simp; with_reducible rfl)
          try simp only [Act.put, List.getElem_toArray, List.getElem_cons_zero, List.getElem_cons_succ, List.setIfInBounds_toArray, List.set_cons_zero, List.set_cons_succ]
          refine wpAnyH_ready (rs := [3]) (by kernel_rfl) (by simp) ?_
          refine AllReadyH.cons rfl (fun K3 hK3 => ?_) AllReadyH.nil
          go_simp
          have hmy := mayR_calls ⟨3, key, y0, (d : Int)⟩ w6.drew (by rw [HY.out]; exact rdv0 _) (by rw [HY.out]; exact sm0)
          rw [show mayP (peOf ⟨3, key, y0, (d : Int)⟩) = true from HMAY.out] at hmy
          unfold evV at hmy
          dsimp only at hmy
          refine hmy.mono ?_
          clear hmy
          rintro e wM ⟨rfl, bM⟩
          have HEM := Lib.hid (HEd.out.below bM)
          obtain ⟨zf0, zf1, zf2, zf3, zf4, zf5, zf6, zf7⟩ := frees HEM.out.z
          obtain ⟨zc0, zc1, zc2, zc3, zc4, zc5, zc6, zc7⟩ := HEM.out.z.cells
          refine hK3.out _ _ (eb_of HEM.out.e) (fun hHeld => ?_)
          clear hK3 K3
          try simp only [Act.put, List.getElem_toArray, List.getElem_cons_zero, List.getElem_cons_succ, List.setIfInBounds_toArray, List.set_cons_zero, List.set_cons_succ]
          refine wpAnyH_ready (rs := [4]) (by kernel_rfl) (by simp) ?_
          refine AllReadyH.cons rfl (fun K4 hK4 => ?_) AllReadyH.nil
          go_simp
          refine hK4.out _ _ (eb_of (HEM.out.e.only HEM.out.putR.2.2 (fun h => absurd h (Nat.ne_of_gt HEM.out.le)))) (fun hHeld => ?_)
          clear hK4 K4
          try simp only [Act.put, List.getElem_toArray, List.getElem_cons_zero, List.getElem_cons_succ, List.setIfInBounds_toArray, List.set_cons_zero, List.set_cons_succ]
          refine wpAnyH_take (i := 5) (v := ?_) rfl (by kernel_rfl) (by kernel_rfl) (by kernel_rfl) (fun _ _ _ h => h) (Or.inl ⟨by rfl, ?_⟩) (by assumption) ?_
          rotate_left
          · intro wz hSw
            (try dsimp only at hSw)
            first
              | (go_simp; done)
              | (go_simp; with_reducible rfl)
          try simp only [Act.put, List.getElem_toArray, List.getElem_cons_zero, List.getElem_cons_succ, List.setIfInBounds_toArray, List.set_cons_zero, List.set_cons_succ]
          refine wpAnyH_take (i := 6) (v := ?_) rfl (by kernel_rfl) (by kernel_rfl) (by kernel_rfl) (fun _ _ _ h => h) (Or.inl ⟨by rfl, ?_⟩) (by assumption) ?_
          rotate_left
          · intro wz hSw
            (try dsimp only at hSw)
            first
              | (go_simp; done)
              | (go_simp; with_reducible rfl)
          try simp only [Act.put, List.getElem_toArray, List.getElem_cons_zero, List.getElem_cons_succ, List.setIfInBounds_toArray, List.set_cons_zero, List.set_cons_succ]
          refine wpAnyH_done (by kernel_rfl) ?_ _
          clear hHeld
          have q := HEM.out.putR
          unfold putAll at q
          obtain ⟨wF, hF⟩ : ∃ wF, (((((((wM.setCell ⟨w.heap.size, 0, none⟩ (.int .i64 3)).setCell ⟨w.heap.size, 1, none⟩ (.string key)).setCell ⟨w.heap.size, 2, none⟩ (.int .i64 y0.kind)).setCell ⟨w.heap.size, 3, none⟩ (.string y0.text)).setCell ⟨w.heap.size, 4, none⟩ (.slice y0.LA y0.ln y0.lc)).setCell ⟨w.heap.size, 5, none⟩ (.slice y0.FA y0.fn y0.fc)).setCell ⟨w.heap.size, 6, none⟩ (.slice y0.KA y0.kn y0.kc)).setCell ⟨w.heap.size, 7, none⟩ (.int .i64 (d : Int)) = wF := ⟨_, rfl⟩
          rw [hF] at q ⊢
          clear hF
          obtain ⟨qo, qe, qz⟩ := q
          go_wp2_with fail
          obtain ⟨t0, t1, t2, t3, t4, t5, t6, t7⟩ := qe.cells
          have qb : Below w.heap.size w wF := qo.below (Nat.le_refl _) (fun q e => e.elim)
          refine bodyPost_ret (v := .tuple #[evV ⟨3, key, y0, (d : Int)⟩, .string s4, .bool true]) (by simp [results, Tryz.f39, evV, go_sem, t0, t1, t2, t3, t4, t5, t6, t7]) rfl ?_
          refine ⟨_, _, _, rfl, qb, fun h => (by rw [HN.out] at h; cases h), fun p r h => ?_⟩
          rw [HN.out] at h
          injection h with h
          injection h with h1 h2
          subst h1 h2
          exact ⟨rfl, rfl, (by unfold peOf; rw [HY.out]; rfl), (by rw [HY.out]; exact rdv0 _), (by rw [HY.out]; exact nwv0 _), (by rw [HY.out]; exact sm0)⟩
set_option maxHeartbeats 8000000 in
theorem tk_0 (s : ByteArray) (t : List UInt8) (w : World) (hs : s.size ≤ 100000000) (b : UInt8) (hb1 : b ≠ 1) (hb2 : b ≠ 2) (hb3 : b ≠ 3) (hb4 : b ≠ 4) (hl : s.data.toList = b :: t) :
    Calls Tryz.prog 39 #[.string s] w (TkPost s w) := by
  obtain ⟨s1, hs1⟩ : ∃ s1, s.extract 1 s.size = s1 := ⟨_, rfl⟩
  have hz1 : s1.size ≤ 100000000 := by rw [← hs1, ByteArray.size_extract]; omega
  have hzz : s.size = t.length + 1 := by
    have h1 : s.data.toList.length = s.size := by rw [Array.length_toList]; rfl
    rw [hl, List.length_cons] at h1
    omega
  have hone : (1 : Int) ≤ ((s.size : Nat) : Int) := by omega
  have hone' : (0 : Int) < ((s.size : Nat) : Int) := by omega
  have hss : ((s.size : Nat) : Int) ≤ 100000000 := by omega
  clear hzz
  obtain ⟨y0, hy0⟩ : ∃ y, y = vv0 := ⟨_, rfl⟩
  have q1 : ((b.toNat : Int) == 1) = false := by rw [beq_eq_false_iff_ne]; intro h; exact hb1 (UInt8.toNat_inj.1 (by have : (1 : UInt8).toNat = 1 := rfl; omega))
  have q2 : ((b.toNat : Int) == 2) = false := by rw [beq_eq_false_iff_ne]; intro h; exact hb2 (UInt8.toNat_inj.1 (by have : (2 : UInt8).toNat = 2 := rfl; omega))
  have q3 : ((b.toNat : Int) == 3) = false := by rw [beq_eq_false_iff_ne]; intro h; exact hb3 (UInt8.toNat_inj.1 (by have : (3 : UInt8).toNat = 3 := rfl; omega))
  have q4 : ((b.toNat : Int) == 4) = false := by rw [beq_eq_false_iff_ne]; intro h; exact hb4 (UInt8.toNat_inj.1 (by have : (4 : UInt8).toNat = 4 := rfl; omega))
  obtain ⟨n, s2, ok1, hfx⟩ : ∃ n s2 ok1, fixP s1 = (n, s2, ok1) := ⟨_, _, _, rfl⟩
  have hz2 := fixP_size s1
  rw [hfx] at hz2
  dsimp only at hz2
  cases ok1 with
  | false =>
    have hef : eff1 s = none := eff1_bad hl hb4 (by rw [hs1]; exact no_fix hz1 hfx)
    have HN := Lib.hid hef
    clear hb1 hb2 hb3 hb4
    have HL := Lib.hid hl
    have HY := Lib.hid hy0
    clear hs hl hef hy0
    go_enter Tryz.func39, Tryz.ntmps39
    go_upto_region 2 with fail
    generalize hW2 : World.alloc (World.alloc w _) _ = w2
    have E2 : Et w (w.heap.size + 1) (b.toNat : Int) ⟨#[]⟩ y0 0 w2 := by
      rw [HY.out, ← hW2, ix2 HL.out]
      exact et_start w _
    generalize hebz : w.heap.size + 1 = eb at E2 ⊢
    have HE2 := Lib.hid E2
    clear hW2 E2 hebz
    obtain ⟨x0, x1, x2, x3, x4, x5, x6, x7⟩ := HE2.out.e.cells
    obtain ⟨h0, h1, h2, h3, h4, h5, h6, h7⟩ := frees HE2.out.e
    have hfc := fix_calls s1 w2 (by omega)
    rw [hfx] at hfc
    dsimp only at hfc
    go_wp2_with fail
    refine hfc.mono ?_
    clear hfc
    rintro e w3 ⟨rfl, bm⟩
    have HE3 := Lib.hid (HE2.out.below bm)
    clear bm HE2
    clear x0 x1 x2 x3 x4 x5 x6 x7 h0 h1 h2 h3 h4 h5 h6 h7
    obtain ⟨x0, x1, x2, x3, x4, x5, x6, x7⟩ := HE3.out.e.cells
    obtain ⟨h0, h1, h2, h3, h4, h5, h6, h7⟩ := frees HE3.out.e
    obtain ⟨zf0, zf1, zf2, zf3, zf4, zf5, zf6, zf7⟩ := frees HE3.out.z
    obtain ⟨zc0, zc1, zc2, zc3, zc4, zc5, zc6, zc7⟩ := HE3.out.z.cells
    go_wp2_with fail
    have q := HE3.out.putR
    unfold putAll at q
    obtain ⟨wF, hF⟩ : ∃ wF, (((((((w3.setCell ⟨w.heap.size, 0, none⟩ (.int .i64 (b.toNat : Int))).setCell ⟨w.heap.size, 1, none⟩ (.string ⟨#[]⟩)).setCell ⟨w.heap.size, 2, none⟩ (.int .i64 y0.kind)).setCell ⟨w.heap.size, 3, none⟩ (.string y0.text)).setCell ⟨w.heap.size, 4, none⟩ (.slice y0.LA y0.ln y0.lc)).setCell ⟨w.heap.size, 5, none⟩ (.slice y0.FA y0.fn y0.fc)).setCell ⟨w.heap.size, 6, none⟩ (.slice y0.KA y0.kn y0.kc)).setCell ⟨w.heap.size, 7, none⟩ (.int .i64 0) = wF := ⟨_, rfl⟩
    rw [hF] at q ⊢
    clear hF
    obtain ⟨qo, qe, qz⟩ := q
    obtain ⟨t0, t1, t2, t3, t4, t5, t6, t7⟩ := qe.cells
    have qb : Below w.heap.size w wF := qo.below (Nat.le_refl _) (fun q e => e.elim)
    refine bodyPost_ret (v := .tuple #[evV ⟨(b.toNat : Int), ⟨#[]⟩, y0, 0⟩, .string ⟨#[]⟩, .bool false]) (by simp [results, Tryz.f39, evV, go_sem, t0, t1, t2, t3, t4, t5, t6, t7]) rfl ?_
    exact ⟨_, _, _, rfl, qb, fun _ => rfl, fun p r h => (by rw [HN.out] at h; cases h)⟩
  | true =>
    by_cases hn : s2.size < n
    · have hef : eff1 s = none := eff1_bad hl hb4 (by rw [hs1]; exact no_cut hfx hn)
      have HN := Lib.hid hef
      clear hb1 hb2 hb3 hb4
      have hg1 : decide (s2.size < n) = true := decide_eq_true hn
      have hg2 : decide ((s2.size : Int) < (n : Int)) = true := decide_eq_true (by omega)
      have HL := Lib.hid hl
      have HY := Lib.hid hy0
      clear hs hl hef hy0
      go_enter Tryz.func39, Tryz.ntmps39
      go_upto_region 2 with fail
      generalize hW2 : World.alloc (World.alloc w _) _ = w2
      have E2 : Et w (w.heap.size + 1) (b.toNat : Int) ⟨#[]⟩ y0 0 w2 := by
        rw [HY.out, ← hW2, ix2 HL.out]
        exact et_start w _
      generalize hebz : w.heap.size + 1 = eb at E2 ⊢
      have HE2 := Lib.hid E2
      clear hW2 E2 hebz
      obtain ⟨x0, x1, x2, x3, x4, x5, x6, x7⟩ := HE2.out.e.cells
      obtain ⟨h0, h1, h2, h3, h4, h5, h6, h7⟩ := frees HE2.out.e
      have hfc := fix_calls s1 w2 (by omega)
      rw [hfx] at hfc
      dsimp only at hfc
      go_wp2_with fail
      refine hfc.mono ?_
      clear hfc
      rintro e w3 ⟨rfl, bm⟩
      have HE3 := Lib.hid (HE2.out.below bm)
      clear bm HE2
      clear x0 x1 x2 x3 x4 x5 x6 x7 h0 h1 h2 h3 h4 h5 h6 h7
      obtain ⟨x0, x1, x2, x3, x4, x5, x6, x7⟩ := HE3.out.e.cells
      obtain ⟨h0, h1, h2, h3, h4, h5, h6, h7⟩ := frees HE3.out.e
      obtain ⟨zf0, zf1, zf2, zf3, zf4, zf5, zf6, zf7⟩ := frees HE3.out.z
      obtain ⟨zc0, zc1, zc2, zc3, zc4, zc5, zc6, zc7⟩ := HE3.out.z.cells
      go_wp2_with fail
      have q := HE3.out.putR
      unfold putAll at q
      obtain ⟨wF, hF⟩ : ∃ wF, (((((((w3.setCell ⟨w.heap.size, 0, none⟩ (.int .i64 (b.toNat : Int))).setCell ⟨w.heap.size, 1, none⟩ (.string ⟨#[]⟩)).setCell ⟨w.heap.size, 2, none⟩ (.int .i64 y0.kind)).setCell ⟨w.heap.size, 3, none⟩ (.string y0.text)).setCell ⟨w.heap.size, 4, none⟩ (.slice y0.LA y0.ln y0.lc)).setCell ⟨w.heap.size, 5, none⟩ (.slice y0.FA y0.fn y0.fc)).setCell ⟨w.heap.size, 6, none⟩ (.slice y0.KA y0.kn y0.kc)).setCell ⟨w.heap.size, 7, none⟩ (.int .i64 0) = wF := ⟨_, rfl⟩
      rw [hF] at q ⊢
      clear hF
      obtain ⟨qo, qe, qz⟩ := q
      obtain ⟨t0, t1, t2, t3, t4, t5, t6, t7⟩ := qe.cells
      have qb : Below w.heap.size w wF := qo.below (Nat.le_refl _) (fun q e => e.elim)
      refine bodyPost_ret (v := .tuple #[evV ⟨(b.toNat : Int), ⟨#[]⟩, y0, 0⟩, .string ⟨#[]⟩, .bool false]) (by simp [results, Tryz.f39, evV, go_sem, t0, t1, t2, t3, t4, t5, t6, t7]) rfl ?_
      exact ⟨_, _, _, rfl, qb, fun _ => rfl, fun p r h => (by rw [HN.out] at h; cases h)⟩
    · obtain ⟨hnm, hn62⟩ := fixP_ok hfx
      obtain ⟨key, hkey⟩ : ∃ key, s2.extract 0 n = key := ⟨_, rfl⟩
      obtain ⟨s3, hs3⟩ : ∃ s3, s2.extract n s2.size = s3 := ⟨_, rfl⟩
      have hkm : cutP s2 false n = (key, s3, false) := by unfold cutP; rw [if_neg (fun e => e.elim (fun e => by cases e) hn), hkey, hs3]
      have hz3 : s3.size ≤ 100000000 := by rw [← hs3, ByteArray.size_extract]; omega
      have hnm2 := hnm
      rw [← hs1] at hnm2
      have hef : eff1 s = none := eff1_no0 hl hb4 hb2 hb3 (fun e => absurd e hb1) hnm2 hkm
      have HN := Lib.hid hef
      have HMAY := Lib.hid (show mayP (peOf ⟨(b.toNat : Int), key, y0, 0⟩) = false by unfold mayP peOf; dsimp only; rw [if_neg (by simpa using q1), if_neg (by simpa using q2), if_neg (by simpa using q3), if_neg (by simpa using q4)])
      clear hb1 hb2 hb3 hb4
      have hg1 : decide (s2.size < n) = false := decide_eq_false hn
      have hg2 : decide ((s2.size : Int) < (n : Int)) = false := decide_eq_false (by omega)
      have hg3 : ((n : Nat) : Int) ≤ (s2.size : Int) := by omega
      have hg4 : ((s2.size : Nat) : Int) ≤ 100000000 := by omega
      have HL := Lib.hid hl
      have HY := Lib.hid hy0
      clear hnm2
      clear hs hl hef hy0
      go_enter Tryz.func39, Tryz.ntmps39
      go_upto_region 2 with fail
      generalize hW2 : World.alloc (World.alloc w _) _ = w2
      have E2 : Et w (w.heap.size + 1) (b.toNat : Int) ⟨#[]⟩ y0 0 w2 := by
        rw [HY.out, ← hW2, ix2 HL.out]
        exact et_start w _
      generalize hebz : w.heap.size + 1 = eb at E2 ⊢
      have HE2 := Lib.hid E2
      clear hW2 E2 hebz
      obtain ⟨x0, x1, x2, x3, x4, x5, x6, x7⟩ := HE2.out.e.cells
      obtain ⟨h0, h1, h2, h3, h4, h5, h6, h7⟩ := frees HE2.out.e
      have hfc := fix_calls s1 w2 (by omega)
      rw [hfx] at hfc
      dsimp only at hfc
      go_wp2_with fail
      refine hfc.mono ?_
      clear hfc
      rintro e w3 ⟨rfl, bm⟩
      have HE3 := Lib.hid (HE2.out.below bm)
      clear bm HE2
      clear x0 x1 x2 x3 x4 x5 x6 x7 h0 h1 h2 h3 h4 h5 h6 h7
      have HE3d := Lib.hid (HE3.out.below ((Below.refl _ _).drew))
      obtain ⟨x0, x1, x2, x3, x4, x5, x6, x7⟩ := HE3.out.e.cells
      have h1 := HE3d.out.e.free 1
      have x1d := HE3d.out.e.cells.2.1
      go_upto_region 8 with fail
      refine wp_region_held_drew (S := fun _ => True) (by kernel_rfl) (trivial) (fun hHeld => ?_)
      refine wpAnyH_take (i := 0) (v := ?_) rfl (by kernel_rfl) (by kernel_rfl) (by kernel_rfl) (fun _ _ _ h => h) (Or.inl ⟨by rfl, ?_⟩) (by assumption) ?_
      rotate_left
      · intro wz hSw
        (try dsimp only at hSw)
        first
          | (go_simp; done)
          | (go_simp; with_reducible rfl)
      try simp only [Act.put, List.getElem_toArray, List.getElem_cons_zero, List.getElem_cons_succ, List.setIfInBounds_toArray, List.set_cons_zero, List.set_cons_succ]
      refine wpAnyH_take (i := 1) (v := ?_) rfl (by kernel_rfl) (by kernel_rfl) (by kernel_rfl) (fun _ _ _ h => h) (Or.inl ⟨by rfl, ?_⟩) (by assumption) ?_
      rotate_left
      · intro wz hSw
        (try dsimp only at hSw)
        first
          | (go_simp; done)
          | (go_simp; with_reducible rfl)
      try simp only [Act.put, List.getElem_toArray, List.getElem_cons_zero, List.getElem_cons_succ, List.setIfInBounds_toArray, List.set_cons_zero, List.set_cons_succ]
      refine wpAnyH_take (i := 2) (v := ?_) rfl (by kernel_rfl) (by kernel_rfl) (by kernel_rfl) (fun _ _ _ h => h) (Or.inl ⟨by rfl, ?_⟩) (by assumption) ?_
      rotate_left
      · intro wz hSw
        (try dsimp only at hSw)
        first
          | (go_simp; done)
          | (go_simp; with_reducible rfl)
      try simp only [Act.put, List.getElem_toArray, List.getElem_cons_zero, List.getElem_cons_succ, List.setIfInBounds_toArray, List.set_cons_zero, List.set_cons_succ]
      refine wpAnyH_take (i := 3) (v := ?_) rfl (by kernel_rfl) (by kernel_rfl) (by kernel_rfl) (fun _ _ _ h => h) (Or.inl ⟨by rfl, ?_⟩) (by assumption) ?_
      rotate_left
      · intro wz hSw
        (try dsimp only at hSw)
        first
          | (go_simp; done)
          | (go_simp; with_reducible rfl)
      try simp only [Act.put, List.getElem_toArray, List.getElem_cons_zero, List.getElem_cons_succ, List.setIfInBounds_toArray, List.set_cons_zero, List.set_cons_succ]
      refine wpAnyH_take (i := 4) (v := ?_) rfl (by kernel_rfl) (by kernel_rfl) (by kernel_rfl) (fun _ _ _ h => h) (Or.inl ⟨by rfl, ?_⟩) (by assumption) ?_
      rotate_left
      · intro wz hSw
        (try dsimp only at hSw)
        first
          | (go_simp; done)
          | (go_simp; with_reducible rfl)
      try simp only [Act.put, List.getElem_toArray, List.getElem_cons_zero, List.getElem_cons_succ, List.setIfInBounds_toArray, List.set_cons_zero, List.set_cons_succ]
      refine wpAnyH_take (i := 5) (v := ?_) rfl (by kernel_rfl) (by kernel_rfl) (by kernel_rfl) (fun _ _ _ h => h) (Or.inl ⟨by rfl, ?_⟩) (by assumption) ?_
      rotate_left
      · intro wz hSw
        (try dsimp only at hSw)
        first
          | (go_simp; done)
          | (go_simp; with_reducible rfl)
      try simp only [Act.put, List.getElem_toArray, List.getElem_cons_zero, List.getElem_cons_succ, List.setIfInBounds_toArray, List.set_cons_zero, List.set_cons_succ]
      refine wpAnyH_take (i := 6) (v := ?_) rfl (by kernel_rfl) (by kernel_rfl) (by kernel_rfl) (fun _ _ _ h => h) (Or.inl ⟨by rfl, ?_⟩) (by assumption) ?_
      rotate_left
      · intro wz hSw
        (try dsimp only at hSw)
        first
          | (go_simp; done)
          | (go_simp; with_reducible rfl)
      try simp only [Act.put, List.getElem_toArray, List.getElem_cons_zero, List.getElem_cons_succ, List.setIfInBounds_toArray, List.set_cons_zero, List.set_cons_succ]
      refine wpAnyH_ready (rs := [7]) (by kernel_rfl) (by simp) ?_
      refine AllReadyH.cons rfl (fun K7 hK7 => ?_) AllReadyH.nil
      go_simp
      refine hK7.out _ _ (trivial) (fun hHeld => ?_)
      clear hK7 K7
      try simp only [Act.put, List.getElem_toArray, List.getElem_cons_zero, List.getElem_cons_succ, List.setIfInBounds_toArray, List.set_cons_zero, List.set_cons_succ]
      refine wpAnyH_take (i := 8) (v := ?_) rfl (by kernel_rfl) (by kernel_rfl) (by kernel_rfl) (fun _ _ _ h => h) (Or.inl ⟨by rfl, ?_⟩) (by assumption) ?_
      rotate_left
      · intro wz hSw
        (try dsimp only at hSw)
        first
          | (go_simp; done)
          | (go_simp; with_reducible rfl)
      try simp only [Act.put, List.getElem_toArray, List.getElem_cons_zero, List.getElem_cons_succ, List.setIfInBounds_toArray, List.set_cons_zero, List.set_cons_succ]
      refine wpAnyH_done (by kernel_rfl) ?_ _
      try simp only [hkey, hs3]
      generalize hW4 : (w3.setCell ⟨eb, 1, none⟩ (.string key)).drew = w4
      have HE4 := (HE3.out.put1 key).below ((Below.refl _ _).drew)
      rw [hW4] at HE4
      have HE4 := Lib.hid HE4
      clear hW4 HE3 HE3d hHeld x0 x1 x2 x3 x4 x5 x6 x7 h1 x1d
      obtain ⟨x0, x1, x2, x3, x4, x5, x6, x7⟩ := HE4.out.e.cells
      obtain ⟨h0, h1, h2, h3, h4, h5, h6, h7⟩ := frees HE4.out.e
      go_upto_region 18 with fail
      clear x0 x1 x2 x3 x4 x5 x6 x7 h0 h1 h2 h3 h4 h5 h6 h7
      have HEd := Lib.hid (HE4.out.below ((Below.refl _ _).drew))
      refine wp_region_held_drew (S := fun w' => EB eb ((b.toNat : Int)) key y0 (0) w') (by kernel_rfl) (eb_of HEd.out.e) (fun hHeld => ?_)
      refine wpAnyH_take (i := 0) (v := ?_) rfl (by kernel_rfl) (by kernel_rfl) (by kernel_rfl) (fun _ _ _ h => h) (Or.inl ⟨by rfl, ?_⟩) (by assumption) ?_
      rotate_left
      · intro wz hSw
        (try dsimp only at hSw)
        first
          | (go_simp; done)
          | (go_simp; with_reducible rfl)
      try simp only [Act.put, List.getElem_toArray, List.getElem_cons_zero, List.getElem_cons_succ, List.setIfInBounds_toArray, List.set_cons_zero, List.set_cons_succ]
      refine wpAnyH_take (i := 1) (v := ?_) rfl (by kernel_rfl) (by kernel_rfl) (by kernel_rfl) (fun _ _ _ h => h) (Or.inl ⟨by rfl, ?_⟩) (by assumption) ?_
      rotate_left
      · intro wz hSw
        (try dsimp only at hSw)
        first
          | (go_simp; done)
          | (go_simp; with_reducible rfl)
      try simp only [Act.put, List.getElem_toArray, List.getElem_cons_zero, List.getElem_cons_succ, List.setIfInBounds_toArray, List.set_cons_zero, List.set_cons_succ]
      refine wpAnyH_take (i := 2) (v := ?_) rfl (by kernel_rfl) (by kernel_rfl) (by kernel_rfl) (fun _ _ _ h => h) (Or.inl ⟨by rfl, ?_⟩) (by assumption) ?_
      rotate_left
      · intro wz hSw
        (try dsimp only at hSw)
        first
          | (go_simp; done)
          | (go_simp; with_reducible rfl)
      try simp only [Act.put, List.getElem_toArray, List.getElem_cons_zero, List.getElem_cons_succ, List.setIfInBounds_toArray, List.set_cons_zero, List.set_cons_succ]
      refine wpAnyH_ready (rs := [3]) (by kernel_rfl) (by simp) ?_
      refine AllReadyH.cons rfl (fun K3 hK3 => ?_) AllReadyH.nil
      go_simp
      have hmy := mayR_calls ⟨(b.toNat : Int), key, y0, 0⟩ w4.drew (by rw [HY.out]; exact rdv0 _) (by rw [HY.out]; exact sm0)
      rw [show mayP (peOf ⟨(b.toNat : Int), key, y0, 0⟩) = false from HMAY.out] at hmy
      unfold evV at hmy
      dsimp only at hmy
      refine hmy.mono ?_
      clear hmy
      rintro e wM ⟨rfl, bM⟩
      have HEM := Lib.hid (HEd.out.below bM)
      obtain ⟨zf0, zf1, zf2, zf3, zf4, zf5, zf6, zf7⟩ := frees HEM.out.z
      obtain ⟨zc0, zc1, zc2, zc3, zc4, zc5, zc6, zc7⟩ := HEM.out.z.cells
      refine hK3.out _ _ (eb_of HEM.out.e) (fun hHeld => ?_)
      clear hK3 K3
      try simp only [Act.put, List.getElem_toArray, List.getElem_cons_zero, List.getElem_cons_succ, List.setIfInBounds_toArray, List.set_cons_zero, List.set_cons_succ]
      refine wpAnyH_ready (rs := [4]) (by kernel_rfl) (by simp) ?_
      refine AllReadyH.cons rfl (fun K4 hK4 => ?_) AllReadyH.nil
      go_simp
      refine hK4.out _ _ (eb_of (HEM.out.e.only HEM.out.putR.2.2 (fun h => absurd h (Nat.ne_of_gt HEM.out.le)))) (fun hHeld => ?_)
      clear hK4 K4
      try simp only [Act.put, List.getElem_toArray, List.getElem_cons_zero, List.getElem_cons_succ, List.setIfInBounds_toArray, List.set_cons_zero, List.set_cons_succ]
      refine wpAnyH_take (i := 5) (v := ?_) rfl (by kernel_rfl) (by kernel_rfl) (by kernel_rfl) (fun _ _ _ h => h) (Or.inl ⟨by rfl, ?_⟩) (by assumption) ?_
      rotate_left
      · intro wz hSw
        (try dsimp only at hSw)
        first
          | (go_simp; done)
          | (go_simp; with_reducible rfl)
      try simp only [Act.put, List.getElem_toArray, List.getElem_cons_zero, List.getElem_cons_succ, List.setIfInBounds_toArray, List.set_cons_zero, List.set_cons_succ]
      refine wpAnyH_take (i := 6) (v := ?_) rfl (by kernel_rfl) (by kernel_rfl) (by kernel_rfl) (fun _ _ _ h => h) (Or.inl ⟨by rfl, ?_⟩) (by assumption) ?_
      rotate_left
      · intro wz hSw
        (try dsimp only at hSw)
        first
          | (go_simp; done)
          | (go_simp; with_reducible rfl)
      try simp only [Act.put, List.getElem_toArray, List.getElem_cons_zero, List.getElem_cons_succ, List.setIfInBounds_toArray, List.set_cons_zero, List.set_cons_succ]
      refine wpAnyH_done (by kernel_rfl) ?_ _
      clear hHeld
      have q := HEM.out.putR
      unfold putAll at q
      obtain ⟨wF, hF⟩ : ∃ wF, (((((((wM.setCell ⟨w.heap.size, 0, none⟩ (.int .i64 (b.toNat : Int))).setCell ⟨w.heap.size, 1, none⟩ (.string key)).setCell ⟨w.heap.size, 2, none⟩ (.int .i64 y0.kind)).setCell ⟨w.heap.size, 3, none⟩ (.string y0.text)).setCell ⟨w.heap.size, 4, none⟩ (.slice y0.LA y0.ln y0.lc)).setCell ⟨w.heap.size, 5, none⟩ (.slice y0.FA y0.fn y0.fc)).setCell ⟨w.heap.size, 6, none⟩ (.slice y0.KA y0.kn y0.kc)).setCell ⟨w.heap.size, 7, none⟩ (.int .i64 0) = wF := ⟨_, rfl⟩
      rw [hF] at q ⊢
      clear hF
      obtain ⟨qo, qe, qz⟩ := q
      go_wp2_with fail
      obtain ⟨t0, t1, t2, t3, t4, t5, t6, t7⟩ := qe.cells
      have qb : Below w.heap.size w wF := qo.below (Nat.le_refl _) (fun q e => e.elim)
      refine bodyPost_ret (v := .tuple #[evV ⟨(b.toNat : Int), key, y0, 0⟩, .string s3, .bool false]) (by simp [results, Tryz.f39, evV, go_sem, t0, t1, t2, t3, t4, t5, t6, t7]) rfl ?_
      exact ⟨_, _, _, rfl, qb, fun _ => rfl, fun p r h => (by rw [HN.out] at h; cases h)⟩
set_option maxHeartbeats 8000000 in
theorem tk_1 (s : ByteArray) (t : List UInt8) (w : World) (hs : s.size ≤ 100000000) (hl : s.data.toList = 1 :: t) :
    Calls Tryz.prog 39 #[.string s] w (TkPost s w) := by
  obtain ⟨s1, hs1⟩ : ∃ s1, s.extract 1 s.size = s1 := ⟨_, rfl⟩
  have hz1 : s1.size ≤ 100000000 := by rw [← hs1, ByteArray.size_extract]; omega
  have hzz : s.size = t.length + 1 := by
    have h1 : s.data.toList.length = s.size := by rw [Array.length_toList]; rfl
    rw [hl, List.length_cons] at h1
    omega
  have hone : (1 : Int) ≤ ((s.size : Nat) : Int) := by omega
  have hone' : (0 : Int) < ((s.size : Nat) : Int) := by omega
  have hss : ((s.size : Nat) : Int) ≤ 100000000 := by omega
  clear hzz
  obtain ⟨y0, hy0⟩ : ∃ y, y = vv0 := ⟨_, rfl⟩
  obtain ⟨n, s2, ok1, hfx⟩ : ∃ n s2 ok1, fixP s1 = (n, s2, ok1) := ⟨_, _, _, rfl⟩
  have hz2 := fixP_size s1
  rw [hfx] at hz2
  dsimp only at hz2
  cases ok1 with
  | false =>
    have hef : eff1 s = none := eff1_bad hl (by decide) (by rw [hs1]; exact no_fix hz1 hfx)
    have HN := Lib.hid hef
    have HL := Lib.hid hl
    have HY := Lib.hid hy0
    clear hs hl hef hy0
    go_enter Tryz.func39, Tryz.ntmps39
    go_upto_region 2 with fail
    generalize hW2 : World.alloc (World.alloc w _) _ = w2
    have E2 : Et w (w.heap.size + 1) 1 ⟨#[]⟩ y0 0 w2 := by
      rw [HY.out, ← hW2, ix2 HL.out]
      exact et_start w _
    generalize hebz : w.heap.size + 1 = eb at E2 ⊢
    have HE2 := Lib.hid E2
    clear hW2 E2 hebz
    obtain ⟨x0, x1, x2, x3, x4, x5, x6, x7⟩ := HE2.out.e.cells
    obtain ⟨h0, h1, h2, h3, h4, h5, h6, h7⟩ := frees HE2.out.e
    have hfc := fix_calls s1 w2 (by omega)
    rw [hfx] at hfc
    dsimp only at hfc
    go_wp2_with fail
    refine hfc.mono ?_
    clear hfc
    rintro e w3 ⟨rfl, bm⟩
    have HE3 := Lib.hid (HE2.out.below bm)
    clear bm HE2
    clear x0 x1 x2 x3 x4 x5 x6 x7 h0 h1 h2 h3 h4 h5 h6 h7
    obtain ⟨x0, x1, x2, x3, x4, x5, x6, x7⟩ := HE3.out.e.cells
    obtain ⟨h0, h1, h2, h3, h4, h5, h6, h7⟩ := frees HE3.out.e
    obtain ⟨zf0, zf1, zf2, zf3, zf4, zf5, zf6, zf7⟩ := frees HE3.out.z
    obtain ⟨zc0, zc1, zc2, zc3, zc4, zc5, zc6, zc7⟩ := HE3.out.z.cells
    go_wp2_with fail
    have q := HE3.out.putR
    unfold putAll at q
    obtain ⟨wF, hF⟩ : ∃ wF, (((((((w3.setCell ⟨w.heap.size, 0, none⟩ (.int .i64 1)).setCell ⟨w.heap.size, 1, none⟩ (.string ⟨#[]⟩)).setCell ⟨w.heap.size, 2, none⟩ (.int .i64 y0.kind)).setCell ⟨w.heap.size, 3, none⟩ (.string y0.text)).setCell ⟨w.heap.size, 4, none⟩ (.slice y0.LA y0.ln y0.lc)).setCell ⟨w.heap.size, 5, none⟩ (.slice y0.FA y0.fn y0.fc)).setCell ⟨w.heap.size, 6, none⟩ (.slice y0.KA y0.kn y0.kc)).setCell ⟨w.heap.size, 7, none⟩ (.int .i64 0) = wF := ⟨_, rfl⟩
    rw [hF] at q ⊢
    clear hF
    obtain ⟨qo, qe, qz⟩ := q
    obtain ⟨t0, t1, t2, t3, t4, t5, t6, t7⟩ := qe.cells
    have qb : Below w.heap.size w wF := qo.below (Nat.le_refl _) (fun q e => e.elim)
    refine bodyPost_ret (v := .tuple #[evV ⟨1, ⟨#[]⟩, y0, 0⟩, .string ⟨#[]⟩, .bool false]) (by simp [results, Tryz.f39, evV, go_sem, t0, t1, t2, t3, t4, t5, t6, t7]) rfl ?_
    exact ⟨_, _, _, rfl, qb, fun _ => rfl, fun p r h => (by rw [HN.out] at h; cases h)⟩
  | true =>
    by_cases hn : s2.size < n
    · have hef : eff1 s = none := eff1_bad hl (by decide) (by rw [hs1]; exact no_cut hfx hn)
      have HN := Lib.hid hef
      have hg1 : decide (s2.size < n) = true := decide_eq_true hn
      have hg2 : decide ((s2.size : Int) < (n : Int)) = true := decide_eq_true (by omega)
      have HL := Lib.hid hl
      have HY := Lib.hid hy0
      clear hs hl hef hy0
      go_enter Tryz.func39, Tryz.ntmps39
      go_upto_region 2 with fail
      generalize hW2 : World.alloc (World.alloc w _) _ = w2
      have E2 : Et w (w.heap.size + 1) 1 ⟨#[]⟩ y0 0 w2 := by
        rw [HY.out, ← hW2, ix2 HL.out]
        exact et_start w _
      generalize hebz : w.heap.size + 1 = eb at E2 ⊢
      have HE2 := Lib.hid E2
      clear hW2 E2 hebz
      obtain ⟨x0, x1, x2, x3, x4, x5, x6, x7⟩ := HE2.out.e.cells
      obtain ⟨h0, h1, h2, h3, h4, h5, h6, h7⟩ := frees HE2.out.e
      have hfc := fix_calls s1 w2 (by omega)
      rw [hfx] at hfc
      dsimp only at hfc
      go_wp2_with fail
      refine hfc.mono ?_
      clear hfc
      rintro e w3 ⟨rfl, bm⟩
      have HE3 := Lib.hid (HE2.out.below bm)
      clear bm HE2
      clear x0 x1 x2 x3 x4 x5 x6 x7 h0 h1 h2 h3 h4 h5 h6 h7
      obtain ⟨x0, x1, x2, x3, x4, x5, x6, x7⟩ := HE3.out.e.cells
      obtain ⟨h0, h1, h2, h3, h4, h5, h6, h7⟩ := frees HE3.out.e
      obtain ⟨zf0, zf1, zf2, zf3, zf4, zf5, zf6, zf7⟩ := frees HE3.out.z
      obtain ⟨zc0, zc1, zc2, zc3, zc4, zc5, zc6, zc7⟩ := HE3.out.z.cells
      go_wp2_with fail
      have q := HE3.out.putR
      unfold putAll at q
      obtain ⟨wF, hF⟩ : ∃ wF, (((((((w3.setCell ⟨w.heap.size, 0, none⟩ (.int .i64 1)).setCell ⟨w.heap.size, 1, none⟩ (.string ⟨#[]⟩)).setCell ⟨w.heap.size, 2, none⟩ (.int .i64 y0.kind)).setCell ⟨w.heap.size, 3, none⟩ (.string y0.text)).setCell ⟨w.heap.size, 4, none⟩ (.slice y0.LA y0.ln y0.lc)).setCell ⟨w.heap.size, 5, none⟩ (.slice y0.FA y0.fn y0.fc)).setCell ⟨w.heap.size, 6, none⟩ (.slice y0.KA y0.kn y0.kc)).setCell ⟨w.heap.size, 7, none⟩ (.int .i64 0) = wF := ⟨_, rfl⟩
      rw [hF] at q ⊢
      clear hF
      obtain ⟨qo, qe, qz⟩ := q
      obtain ⟨t0, t1, t2, t3, t4, t5, t6, t7⟩ := qe.cells
      have qb : Below w.heap.size w wF := qo.below (Nat.le_refl _) (fun q e => e.elim)
      refine bodyPost_ret (v := .tuple #[evV ⟨1, ⟨#[]⟩, y0, 0⟩, .string ⟨#[]⟩, .bool false]) (by simp [results, Tryz.f39, evV, go_sem, t0, t1, t2, t3, t4, t5, t6, t7]) rfl ?_
      exact ⟨_, _, _, rfl, qb, fun _ => rfl, fun p r h => (by rw [HN.out] at h; cases h)⟩
    · obtain ⟨hnm, hn62⟩ := fixP_ok hfx
      obtain ⟨key, hkey⟩ : ∃ key, s2.extract 0 n = key := ⟨_, rfl⟩
      obtain ⟨s3, hs3⟩ : ∃ s3, s2.extract n s2.size = s3 := ⟨_, rfl⟩
      have hkm : cutP s2 false n = (key, s3, false) := by unfold cutP; rw [if_neg (fun e => e.elim (fun e => by cases e) hn), hkey, hs3]
      have hz3 : s3.size ≤ 100000000 := by rw [← hs3, ByteArray.size_extract]; omega
      have hnm2 := hnm
      rw [← hs1] at hnm2
      obtain ⟨d, s4, ok2, hfx2⟩ : ∃ d s4 ok2, fixP s3 = (d, s4, ok2) := ⟨_, _, _, rfl⟩
      have hz4 := fixP_size s3
      rw [hfx2] at hz4
      dsimp only at hz4
      cases ok2 with
      | false =>
        have hef : eff1 s = none := eff1_no3 hl (by decide) (by decide) hnm2 hkm ((fixP_no hfx2).imp id (fun e => by omega))
        have HN := Lib.hid hef
        have hg1 : decide (s2.size < n) = false := decide_eq_false hn
        have hg2 : decide ((s2.size : Int) < (n : Int)) = false := decide_eq_false (by omega)
        have hg3 : ((n : Nat) : Int) ≤ (s2.size : Int) := by omega
        have hg4 : ((s2.size : Nat) : Int) ≤ 100000000 := by omega
        have HL := Lib.hid hl
        have HY := Lib.hid hy0
        clear hnm2
        clear hs hl hef hy0
        go_enter Tryz.func39, Tryz.ntmps39
        go_upto_region 2 with fail
        generalize hW2 : World.alloc (World.alloc w _) _ = w2
        have E2 : Et w (w.heap.size + 1) 1 ⟨#[]⟩ y0 0 w2 := by
          rw [HY.out, ← hW2, ix2 HL.out]
          exact et_start w _
        generalize hebz : w.heap.size + 1 = eb at E2 ⊢
        have HE2 := Lib.hid E2
        clear hW2 E2 hebz
        obtain ⟨x0, x1, x2, x3, x4, x5, x6, x7⟩ := HE2.out.e.cells
        obtain ⟨h0, h1, h2, h3, h4, h5, h6, h7⟩ := frees HE2.out.e
        have hfc := fix_calls s1 w2 (by omega)
        rw [hfx] at hfc
        dsimp only at hfc
        go_wp2_with fail
        refine hfc.mono ?_
        clear hfc
        rintro e w3 ⟨rfl, bm⟩
        have HE3 := Lib.hid (HE2.out.below bm)
        clear bm HE2
        clear x0 x1 x2 x3 x4 x5 x6 x7 h0 h1 h2 h3 h4 h5 h6 h7
        have HE3d := Lib.hid (HE3.out.below ((Below.refl _ _).drew))
        obtain ⟨x0, x1, x2, x3, x4, x5, x6, x7⟩ := HE3.out.e.cells
        have h1 := HE3d.out.e.free 1
        have x1d := HE3d.out.e.cells.2.1
        go_upto_region 8 with fail
        refine wp_region_held_drew (S := fun _ => True) (by kernel_rfl) (trivial) (fun hHeld => ?_)
        refine wpAnyH_take (i := 0) (v := ?_) rfl (by kernel_rfl) (by kernel_rfl) (by kernel_rfl) (fun _ _ _ h => h) (Or.inl ⟨by rfl, ?_⟩) (by assumption) ?_
        rotate_left
        · intro wz hSw
          (try dsimp only at hSw)
          first
            | (go_simp; done)
            | (go_simp; with_reducible rfl)
        try simp only [Act.put, List.getElem_toArray, List.getElem_cons_zero, List.getElem_cons_succ, List.setIfInBounds_toArray, List.set_cons_zero, List.set_cons_succ]
        refine wpAnyH_take (i := 1) (v := ?_) rfl (by kernel_rfl) (by kernel_rfl) (by kernel_rfl) (fun _ _ _ h => h) (Or.inl ⟨by rfl, ?_⟩) (by assumption) ?_
        rotate_left
        · intro wz hSw
          (try dsimp only at hSw)
          first
            | (go_simp; done)
            | (go_simp; with_reducible rfl)
        try simp only [Act.put, List.getElem_toArray, List.getElem_cons_zero, List.getElem_cons_succ, List.setIfInBounds_toArray, List.set_cons_zero, List.set_cons_succ]
        refine wpAnyH_take (i := 2) (v := ?_) rfl (by kernel_rfl) (by kernel_rfl) (by kernel_rfl) (fun _ _ _ h => h) (Or.inl ⟨by rfl, ?_⟩) (by assumption) ?_
        rotate_left
        · intro wz hSw
          (try dsimp only at hSw)
          first
            | (go_simp; done)
            | (go_simp; with_reducible rfl)
        try simp only [Act.put, List.getElem_toArray, List.getElem_cons_zero, List.getElem_cons_succ, List.setIfInBounds_toArray, List.set_cons_zero, List.set_cons_succ]
        refine wpAnyH_take (i := 3) (v := ?_) rfl (by kernel_rfl) (by kernel_rfl) (by kernel_rfl) (fun _ _ _ h => h) (Or.inl ⟨by rfl, ?_⟩) (by assumption) ?_
        rotate_left
        · intro wz hSw
          (try dsimp only at hSw)
          first
            | (go_simp; done)
            | (go_simp; with_reducible rfl)
        try simp only [Act.put, List.getElem_toArray, List.getElem_cons_zero, List.getElem_cons_succ, List.setIfInBounds_toArray, List.set_cons_zero, List.set_cons_succ]
        refine wpAnyH_take (i := 4) (v := ?_) rfl (by kernel_rfl) (by kernel_rfl) (by kernel_rfl) (fun _ _ _ h => h) (Or.inl ⟨by rfl, ?_⟩) (by assumption) ?_
        rotate_left
        · intro wz hSw
          (try dsimp only at hSw)
          first
            | (go_simp; done)
            | (go_simp; with_reducible rfl)
        try simp only [Act.put, List.getElem_toArray, List.getElem_cons_zero, List.getElem_cons_succ, List.setIfInBounds_toArray, List.set_cons_zero, List.set_cons_succ]
        refine wpAnyH_take (i := 5) (v := ?_) rfl (by kernel_rfl) (by kernel_rfl) (by kernel_rfl) (fun _ _ _ h => h) (Or.inl ⟨by rfl, ?_⟩) (by assumption) ?_
        rotate_left
        · intro wz hSw
          (try dsimp only at hSw)
          first
            | (go_simp; done)
            | (go_simp; with_reducible rfl)
        try simp only [Act.put, List.getElem_toArray, List.getElem_cons_zero, List.getElem_cons_succ, List.setIfInBounds_toArray, List.set_cons_zero, List.set_cons_succ]
        refine wpAnyH_take (i := 6) (v := ?_) rfl (by kernel_rfl) (by kernel_rfl) (by kernel_rfl) (fun _ _ _ h => h) (Or.inl ⟨by rfl, ?_⟩) (by assumption) ?_
        rotate_left
        · intro wz hSw
          (try dsimp only at hSw)
          first
            | (go_simp; done)
            | (go_simp; with_reducible rfl)
        try simp only [Act.put, List.getElem_toArray, List.getElem_cons_zero, List.getElem_cons_succ, List.setIfInBounds_toArray, List.set_cons_zero, List.set_cons_succ]
        refine wpAnyH_ready (rs := [7]) (by kernel_rfl) (by simp) ?_
        refine AllReadyH.cons rfl (fun K7 hK7 => ?_) AllReadyH.nil
        go_simp
        refine hK7.out _ _ (trivial) (fun hHeld => ?_)
        clear hK7 K7
        try simp only [Act.put, List.getElem_toArray, List.getElem_cons_zero, List.getElem_cons_succ, List.setIfInBounds_toArray, List.set_cons_zero, List.set_cons_succ]
        refine wpAnyH_take (i := 8) (v := ?_) rfl (by kernel_rfl) (by kernel_rfl) (by kernel_rfl) (fun _ _ _ h => h) (Or.inl ⟨by rfl, ?_⟩) (by assumption) ?_
        rotate_left
        · intro wz hSw
          (try dsimp only at hSw)
          first
            | (go_simp; done)
            | (go_simp; with_reducible rfl)
        try simp only [Act.put, List.getElem_toArray, List.getElem_cons_zero, List.getElem_cons_succ, List.setIfInBounds_toArray, List.set_cons_zero, List.set_cons_succ]
        refine wpAnyH_done (by kernel_rfl) ?_ _
        try simp only [hkey, hs3]
        generalize hW4 : (w3.setCell ⟨eb, 1, none⟩ (.string key)).drew = w4
        have HE4 := (HE3.out.put1 key).below ((Below.refl _ _).drew)
        rw [hW4] at HE4
        have HE4 := Lib.hid HE4
        clear hW4 HE3 HE3d hHeld x0 x1 x2 x3 x4 x5 x6 x7 h1 x1d
        obtain ⟨x0, x1, x2, x3, x4, x5, x6, x7⟩ := HE4.out.e.cells
        obtain ⟨h0, h1, h2, h3, h4, h5, h6, h7⟩ := frees HE4.out.e
        have hfc := fix_calls s3 w4 (by omega)
        rw [hfx2] at hfc
        dsimp only at hfc
        go_wp2_with fail
        refine hfc.mono ?_
        clear hfc
        rintro e w5 ⟨rfl, bm⟩
        have HE5 := Lib.hid (HE4.out.below bm)
        clear bm HE4
        clear x0 x1 x2 x3 x4 x5 x6 x7 h0 h1 h2 h3 h4 h5 h6 h7
        obtain ⟨x0, x1, x2, x3, x4, x5, x6, x7⟩ := HE5.out.e.cells
        obtain ⟨h0, h1, h2, h3, h4, h5, h6, h7⟩ := frees HE5.out.e
        go_upto_region 11 with fail
        generalize hW6 : w5.setCell ⟨eb, 7, none⟩ (.int .i64 (d : Int)) = w6
        have HE6 := HE5.out.put7 (d : Int)
        rw [hW6] at HE6
        have HE6 := Lib.hid HE6
        clear hW6 HE5
        clear x0 x1 x2 x3 x4 x5 x6 x7 h0 h1 h2 h3 h4 h5 h6 h7
        obtain ⟨x0, x1, x2, x3, x4, x5, x6, x7⟩ := HE6.out.e.cells
        obtain ⟨h0, h1, h2, h3, h4, h5, h6, h7⟩ := frees HE6.out.e
        obtain ⟨zf0, zf1, zf2, zf3, zf4, zf5, zf6, zf7⟩ := frees HE6.out.z
        obtain ⟨zc0, zc1, zc2, zc3, zc4, zc5, zc6, zc7⟩ := HE6.out.z.cells
        go_wp2_with fail
        have q := HE6.out.putR
        unfold putAll at q
        obtain ⟨wF, hF⟩ : ∃ wF, (((((((w6.setCell ⟨w.heap.size, 0, none⟩ (.int .i64 1)).setCell ⟨w.heap.size, 1, none⟩ (.string key)).setCell ⟨w.heap.size, 2, none⟩ (.int .i64 y0.kind)).setCell ⟨w.heap.size, 3, none⟩ (.string y0.text)).setCell ⟨w.heap.size, 4, none⟩ (.slice y0.LA y0.ln y0.lc)).setCell ⟨w.heap.size, 5, none⟩ (.slice y0.FA y0.fn y0.fc)).setCell ⟨w.heap.size, 6, none⟩ (.slice y0.KA y0.kn y0.kc)).setCell ⟨w.heap.size, 7, none⟩ (.int .i64 (d : Int)) = wF := ⟨_, rfl⟩
        rw [hF] at q ⊢
        clear hF
        obtain ⟨qo, qe, qz⟩ := q
        obtain ⟨t0, t1, t2, t3, t4, t5, t6, t7⟩ := qe.cells
        have qb : Below w.heap.size w wF := qo.below (Nat.le_refl _) (fun q e => e.elim)
        refine bodyPost_ret (v := .tuple #[evV ⟨1, key, y0, (d : Int)⟩, .string ⟨#[]⟩, .bool false]) (by simp [results, Tryz.f39, evV, go_sem, t0, t1, t2, t3, t4, t5, t6, t7]) rfl ?_
        exact ⟨_, _, _, rfl, qb, fun _ => rfl, fun p r h => (by rw [HN.out] at h; cases h)⟩
      | true =>
        obtain ⟨hdm, hd62⟩ := fixP_ok hfx2
        cases hok : (decD s4).ok with
        | false =>
          have hef : eff1 s = none := eff1_no0 hl (by decide) (by decide) (by decide) (fun _ _ => by rw [hdm]; exact hok) hnm2 hkm
          have HN := Lib.hid hef
          have hg1 : decide (s2.size < n) = false := decide_eq_false hn
          have hg2 : decide ((s2.size : Int) < (n : Int)) = false := decide_eq_false (by omega)
          have hg3 : ((n : Nat) : Int) ≤ (s2.size : Int) := by omega
          have hg4 : ((s2.size : Nat) : Int) ≤ 100000000 := by omega
          have HL := Lib.hid hl
          have HY := Lib.hid hy0
          clear hnm2
          clear hs hl hef hy0
          go_enter Tryz.func39, Tryz.ntmps39
          go_upto_region 2 with fail
          generalize hW2 : World.alloc (World.alloc w _) _ = w2
          have E2 : Et w (w.heap.size + 1) 1 ⟨#[]⟩ y0 0 w2 := by
            rw [HY.out, ← hW2, ix2 HL.out]
            exact et_start w _
          generalize hebz : w.heap.size + 1 = eb at E2 ⊢
          have HE2 := Lib.hid E2
          clear hW2 E2 hebz
          obtain ⟨x0, x1, x2, x3, x4, x5, x6, x7⟩ := HE2.out.e.cells
          obtain ⟨h0, h1, h2, h3, h4, h5, h6, h7⟩ := frees HE2.out.e
          have hfc := fix_calls s1 w2 (by omega)
          rw [hfx] at hfc
          dsimp only at hfc
          go_wp2_with fail
          refine hfc.mono ?_
          clear hfc
          rintro e w3 ⟨rfl, bm⟩
          have HE3 := Lib.hid (HE2.out.below bm)
          clear bm HE2
          clear x0 x1 x2 x3 x4 x5 x6 x7 h0 h1 h2 h3 h4 h5 h6 h7
          have HE3d := Lib.hid (HE3.out.below ((Below.refl _ _).drew))
          obtain ⟨x0, x1, x2, x3, x4, x5, x6, x7⟩ := HE3.out.e.cells
          have h1 := HE3d.out.e.free 1
          have x1d := HE3d.out.e.cells.2.1
          go_upto_region 8 with fail
          refine wp_region_held_drew (S := fun _ => True) (by kernel_rfl) (trivial) (fun hHeld => ?_)
          refine wpAnyH_take (i := 0) (v := ?_) rfl (by kernel_rfl) (by kernel_rfl) (by kernel_rfl) (fun _ _ _ h => h) (Or.inl ⟨by rfl, ?_⟩) (by assumption) ?_
          rotate_left
          · intro wz hSw
            (try dsimp only at hSw)
            first
              | (go_simp; done)
              | (go_simp; with_reducible rfl)
          try simp only [Act.put, List.getElem_toArray, List.getElem_cons_zero, List.getElem_cons_succ, List.setIfInBounds_toArray, List.set_cons_zero, List.set_cons_succ]
          refine wpAnyH_take (i := 1) (v := ?_) rfl (by kernel_rfl) (by kernel_rfl) (by kernel_rfl) (fun _ _ _ h => h) (Or.inl ⟨by rfl, ?_⟩) (by assumption) ?_
          rotate_left
          · intro wz hSw
            (try dsimp only at hSw)
            first
              | (go_simp; done)
              | (go_simp; with_reducible rfl)
          try simp only [Act.put, List.getElem_toArray, List.getElem_cons_zero, List.getElem_cons_succ, List.setIfInBounds_toArray, List.set_cons_zero, List.set_cons_succ]
          refine wpAnyH_take (i := 2) (v := ?_) rfl (by kernel_rfl) (by kernel_rfl) (by kernel_rfl) (fun _ _ _ h => h) (Or.inl ⟨by rfl, ?_⟩) (by assumption) ?_
          rotate_left
          · intro wz hSw
            (try dsimp only at hSw)
            first
              | (go_simp; done)
              | (go_simp; with_reducible rfl)
          try simp only [Act.put, List.getElem_toArray, List.getElem_cons_zero, List.getElem_cons_succ, List.setIfInBounds_toArray, List.set_cons_zero, List.set_cons_succ]
          refine wpAnyH_take (i := 3) (v := ?_) rfl (by kernel_rfl) (by kernel_rfl) (by kernel_rfl) (fun _ _ _ h => h) (Or.inl ⟨by rfl, ?_⟩) (by assumption) ?_
          rotate_left
          · intro wz hSw
            (try dsimp only at hSw)
            first
              | (go_simp; done)
              | (go_simp; with_reducible rfl)
          try simp only [Act.put, List.getElem_toArray, List.getElem_cons_zero, List.getElem_cons_succ, List.setIfInBounds_toArray, List.set_cons_zero, List.set_cons_succ]
          refine wpAnyH_take (i := 4) (v := ?_) rfl (by kernel_rfl) (by kernel_rfl) (by kernel_rfl) (fun _ _ _ h => h) (Or.inl ⟨by rfl, ?_⟩) (by assumption) ?_
          rotate_left
          · intro wz hSw
            (try dsimp only at hSw)
            first
              | (go_simp; done)
              | (go_simp; with_reducible rfl)
          try simp only [Act.put, List.getElem_toArray, List.getElem_cons_zero, List.getElem_cons_succ, List.setIfInBounds_toArray, List.set_cons_zero, List.set_cons_succ]
          refine wpAnyH_take (i := 5) (v := ?_) rfl (by kernel_rfl) (by kernel_rfl) (by kernel_rfl) (fun _ _ _ h => h) (Or.inl ⟨by rfl, ?_⟩) (by assumption) ?_
          rotate_left
          · intro wz hSw
            (try dsimp only at hSw)
            first
              | (go_simp; done)
              | (go_simp; with_reducible rfl)
          try simp only [Act.put, List.getElem_toArray, List.getElem_cons_zero, List.getElem_cons_succ, List.setIfInBounds_toArray, List.set_cons_zero, List.set_cons_succ]
          refine wpAnyH_take (i := 6) (v := ?_) rfl (by kernel_rfl) (by kernel_rfl) (by kernel_rfl) (fun _ _ _ h => h) (Or.inl ⟨by rfl, ?_⟩) (by assumption) ?_
          rotate_left
          · intro wz hSw
            (try dsimp only at hSw)
            first
              | (go_simp; done)
              | (go_simp; with_reducible rfl)
          try simp only [Act.put, List.getElem_toArray, List.getElem_cons_zero, List.getElem_cons_succ, List.setIfInBounds_toArray, List.set_cons_zero, List.set_cons_succ]
          refine wpAnyH_ready (rs := [7]) (by kernel_rfl) (by simp) ?_
          refine AllReadyH.cons rfl (fun K7 hK7 => ?_) AllReadyH.nil
          go_simp
          refine hK7.out _ _ (trivial) (fun hHeld => ?_)
          clear hK7 K7
          try simp only [Act.put, List.getElem_toArray, List.getElem_cons_zero, List.getElem_cons_succ, List.setIfInBounds_toArray, List.set_cons_zero, List.set_cons_succ]
          refine wpAnyH_take (i := 8) (v := ?_) rfl (by kernel_rfl) (by kernel_rfl) (by kernel_rfl) (fun _ _ _ h => h) (Or.inl ⟨by rfl, ?_⟩) (by assumption) ?_
          rotate_left
          · intro wz hSw
            (try dsimp only at hSw)
            first
              | (go_simp; done)
              | (go_simp; with_reducible rfl)
          try simp only [Act.put, List.getElem_toArray, List.getElem_cons_zero, List.getElem_cons_succ, List.setIfInBounds_toArray, List.set_cons_zero, List.set_cons_succ]
          refine wpAnyH_done (by kernel_rfl) ?_ _
          try simp only [hkey, hs3]
          generalize hW4 : (w3.setCell ⟨eb, 1, none⟩ (.string key)).drew = w4
          have HE4 := (HE3.out.put1 key).below ((Below.refl _ _).drew)
          rw [hW4] at HE4
          have HE4 := Lib.hid HE4
          clear hW4 HE3 HE3d hHeld x0 x1 x2 x3 x4 x5 x6 x7 h1 x1d
          obtain ⟨x0, x1, x2, x3, x4, x5, x6, x7⟩ := HE4.out.e.cells
          obtain ⟨h0, h1, h2, h3, h4, h5, h6, h7⟩ := frees HE4.out.e
          have hfc := fix_calls s3 w4 (by omega)
          rw [hfx2] at hfc
          dsimp only at hfc
          go_wp2_with fail
          refine hfc.mono ?_
          clear hfc
          rintro e w5 ⟨rfl, bm⟩
          have HE5 := Lib.hid (HE4.out.below bm)
          clear bm HE4
          clear x0 x1 x2 x3 x4 x5 x6 x7 h0 h1 h2 h3 h4 h5 h6 h7
          obtain ⟨x0, x1, x2, x3, x4, x5, x6, x7⟩ := HE5.out.e.cells
          obtain ⟨h0, h1, h2, h3, h4, h5, h6, h7⟩ := frees HE5.out.e
          go_upto_region 11 with fail
          generalize hW6 : w5.setCell ⟨eb, 7, none⟩ (.int .i64 (d : Int)) = w6
          have HE6 := HE5.out.put7 (d : Int)
          rw [hW6] at HE6
          have HE6 := Lib.hid HE6
          clear hW6 HE5
          clear x0 x1 x2 x3 x4 x5 x6 x7 h0 h1 h2 h3 h4 h5 h6 h7
          obtain ⟨x0, x1, x2, x3, x4, x5, x6, x7⟩ := HE6.out.e.cells
          obtain ⟨h0, h1, h2, h3, h4, h5, h6, h7⟩ := frees HE6.out.e
          have hdc := VcL.decR_calls s4 w6 (by omega)
          unfold DecPost at hdc
          rw [hok] at hdc
          simp only [if_true, Bool.false_eq_true, if_false] at hdc
          go_wp2_with fail
          refine hdc.mono ?_
          clear hdc
          rintro e w7 ⟨y, rfl, hyp, rdy, nwy, b7⟩
          have HE7 := Lib.hid (HE6.out.below b7)
          have HYY := Lib.hid (And.intro hyp (And.intro rdy nwy.1))
          have HZ := Lib.hid (And.intro HE6.out.e.lt b7.size)
          clear hyp rdy nwy b7
          try unfold VV.val
          go_upto_region 15 with fail
          generalize hW8 : w7.alloc _ = w8
          have b8 : Below w7.heap.size w7 w8 := by rw [← hW8]; exact (Below.refl _ _).alloc (Nat.le_refl _) _
          have bv : VaT.Bv w8 w7.heap.size y.kind y.text (.slice y.LA y.ln y.lc) (.slice y.FA y.fn y.fc) (.slice y.KA y.kn y.kc) := by rw [← hW8]; exact heap_alloc_new w7 _
          generalize hvb : w7.heap.size = vb at bv ⊢
          have HE8 := Lib.hid (HE7.out.below b8)
          have HB8 := Lib.hid b8
          clear b8 hW8 hvb
          clear x0 x1 x2 x3 x4 x5 x6 x7 h0 h1 h2 h3 h4 h5 h6 h7
          obtain ⟨x0, x1, x2, x3, x4, x5, x6, x7⟩ := HE8.out.e.cells
          obtain ⟨h0, h1, h2, h3, h4, h5, h6, h7⟩ := frees HE8.out.e
          obtain ⟨zf0, zf1, zf2, zf3, zf4, zf5, zf6, zf7⟩ := frees HE8.out.z
          obtain ⟨zc0, zc1, zc2, zc3, zc4, zc5, zc6, zc7⟩ := HE8.out.z.cells
          go_wp2_with fail
          have q := HE8.out.putR
          unfold putAll at q
          obtain ⟨wF, hF⟩ : ∃ wF, (((((((w8.setCell ⟨w.heap.size, 0, none⟩ (.int .i64 1)).setCell ⟨w.heap.size, 1, none⟩ (.string key)).setCell ⟨w.heap.size, 2, none⟩ (.int .i64 y0.kind)).setCell ⟨w.heap.size, 3, none⟩ (.string y0.text)).setCell ⟨w.heap.size, 4, none⟩ (.slice y0.LA y0.ln y0.lc)).setCell ⟨w.heap.size, 5, none⟩ (.slice y0.FA y0.fn y0.fc)).setCell ⟨w.heap.size, 6, none⟩ (.slice y0.KA y0.kn y0.kc)).setCell ⟨w.heap.size, 7, none⟩ (.int .i64 (d : Int)) = wF := ⟨_, rfl⟩
          rw [hF] at q ⊢
          clear hF
          obtain ⟨qo, qe, qz⟩ := q
          obtain ⟨t0, t1, t2, t3, t4, t5, t6, t7⟩ := qe.cells
          have qb : Below w.heap.size w wF := qo.below (Nat.le_refl _) (fun q e => e.elim)
          refine bodyPost_ret (v := .tuple #[evV ⟨1, key, y0, (d : Int)⟩, .string ⟨#[]⟩, .bool false]) (by simp [results, Tryz.f39, evV, go_sem, t0, t1, t2, t3, t4, t5, t6, t7]) rfl ?_
          exact ⟨_, _, _, rfl, qb, fun _ => rfl, fun p r h => (by rw [HN.out] at h; cases h)⟩
        | true =>
          obtain ⟨kk, hkk⟩ : ∃ kk, (decD s4).st.k = kk := ⟨_, rfl⟩
          obtain ⟨s5, hs5⟩ : ∃ s5, s4.extract kk s4.size = s5 := ⟨_, rfl⟩
          have hkB := (VcR.dec_is hok).2.1
          rw [hkk] at hkB
          have hk6 : ((kk : Nat) : Int) ≤ ((s4.size : Nat) : Int) := by omega
          have hk7 : ((s4.size : Nat) : Int) ≤ 100000000 := by omega
          have HOK := Lib.hid hok
          by_cases hdM : 9007199254740992 < d
          · have hef : eff1 s = none := eff1_no3 hl (by decide) (by decide) hnm2 hkm (.inr (by rw [hdm]; exact hdM))
            have HN := Lib.hid hef
            have ht : tickB (d : Int) = false := Bool.eq_false_iff.2 (fun hc => by have := (tick_iff _).1 hc; omega)
            have HTI := Lib.hid ht
            clear ht
            have hg1 : decide (s2.size < n) = false := decide_eq_false hn
            have hg2 : decide ((s2.size : Int) < (n : Int)) = false := decide_eq_false (by omega)
            have hg3 : ((n : Nat) : Int) ≤ (s2.size : Int) := by omega
            have hg4 : ((s2.size : Nat) : Int) ≤ 100000000 := by omega
            have HL := Lib.hid hl
            have HY := Lib.hid hy0
            clear hnm2
            clear hs hl hef hy0
            go_enter Tryz.func39, Tryz.ntmps39
            go_upto_region 2 with fail
            generalize hW2 : World.alloc (World.alloc w _) _ = w2
            have E2 : Et w (w.heap.size + 1) 1 ⟨#[]⟩ y0 0 w2 := by
              rw [HY.out, ← hW2, ix2 HL.out]
              exact et_start w _
            generalize hebz : w.heap.size + 1 = eb at E2 ⊢
            have HE2 := Lib.hid E2
            clear hW2 E2 hebz
            obtain ⟨x0, x1, x2, x3, x4, x5, x6, x7⟩ := HE2.out.e.cells
            obtain ⟨h0, h1, h2, h3, h4, h5, h6, h7⟩ := frees HE2.out.e
            have hfc := fix_calls s1 w2 (by omega)
            rw [hfx] at hfc
            dsimp only at hfc
            go_wp2_with fail
            refine hfc.mono ?_
            clear hfc
            rintro e w3 ⟨rfl, bm⟩
            have HE3 := Lib.hid (HE2.out.below bm)
            clear bm HE2
            clear x0 x1 x2 x3 x4 x5 x6 x7 h0 h1 h2 h3 h4 h5 h6 h7
            have HE3d := Lib.hid (HE3.out.below ((Below.refl _ _).drew))
            obtain ⟨x0, x1, x2, x3, x4, x5, x6, x7⟩ := HE3.out.e.cells
            have h1 := HE3d.out.e.free 1
            have x1d := HE3d.out.e.cells.2.1
            go_upto_region 8 with fail
            refine wp_region_held_drew (S := fun _ => True) (by kernel_rfl) (trivial) (fun hHeld => ?_)
            refine wpAnyH_take (i := 0) (v := ?_) rfl (by kernel_rfl) (by kernel_rfl) (by kernel_rfl) (fun _ _ _ h => h) (Or.inl ⟨by rfl, ?_⟩) (by assumption) ?_
            rotate_left
            · intro wz hSw
              (try dsimp only at hSw)
              first
                | (go_simp; done)
                | (go_simp; with_reducible rfl)
            try simp only [Act.put, List.getElem_toArray, List.getElem_cons_zero, List.getElem_cons_succ, List.setIfInBounds_toArray, List.set_cons_zero, List.set_cons_succ]
            refine wpAnyH_take (i := 1) (v := ?_) rfl (by kernel_rfl) (by kernel_rfl) (by kernel_rfl) (fun _ _ _ h => h) (Or.inl ⟨by rfl, ?_⟩) (by assumption) ?_
            rotate_left
            · intro wz hSw
              (try dsimp only at hSw)
              first
                | (go_simp; done)
                | (go_simp; with_reducible rfl)
            try simp only [Act.put, List.getElem_toArray, List.getElem_cons_zero, List.getElem_cons_succ, List.setIfInBounds_toArray, List.set_cons_zero, List.set_cons_succ]
            refine wpAnyH_take (i := 2) (v := ?_) rfl (by kernel_rfl) (by kernel_rfl) (by kernel_rfl) (fun _ _ _ h => h) (Or.inl ⟨by rfl, ?_⟩) (by assumption) ?_
            rotate_left
            · intro wz hSw
              (try dsimp only at hSw)
              first
                | (go_simp; done)
                | (go_simp; with_reducible rfl)
            try simp only [Act.put, List.getElem_toArray, List.getElem_cons_zero, List.getElem_cons_succ, List.setIfInBounds_toArray, List.set_cons_zero, List.set_cons_succ]
            refine wpAnyH_take (i := 3) (v := ?_) rfl (by kernel_rfl) (by kernel_rfl) (by kernel_rfl) (fun _ _ _ h => h) (Or.inl ⟨by rfl, ?_⟩) (by assumption) ?_
            rotate_left
            · intro wz hSw
              (try dsimp only at hSw)
              first
                | (go_simp; done)
                | (go_simp; with_reducible rfl)
            try simp only [Act.put, List.getElem_toArray, List.getElem_cons_zero, List.getElem_cons_succ, List.setIfInBounds_toArray, List.set_cons_zero, List.set_cons_succ]
            refine wpAnyH_take (i := 4) (v := ?_) rfl (by kernel_rfl) (by kernel_rfl) (by kernel_rfl) (fun _ _ _ h => h) (Or.inl ⟨by rfl, ?_⟩) (by assumption) ?_
            rotate_left
            · intro wz hSw
              (try dsimp only at hSw)
              first
                | (go_simp; done)
                | (go_simp; with_reducible rfl)
            try simp only [Act.put, List.getElem_toArray, List.getElem_cons_zero, List.getElem_cons_succ, List.setIfInBounds_toArray, List.set_cons_zero, List.set_cons_succ]
            refine wpAnyH_take (i := 5) (v := ?_) rfl (by kernel_rfl) (by kernel_rfl) (by kernel_rfl) (fun _ _ _ h => h) (Or.inl ⟨by rfl, ?_⟩) (by assumption) ?_
            rotate_left
            · intro wz hSw
              (try dsimp only at hSw)
              first
                | (go_simp; done)
                | (go_simp; with_reducible rfl)
            try simp only [Act.put, List.getElem_toArray, List.getElem_cons_zero, List.getElem_cons_succ, List.setIfInBounds_toArray, List.set_cons_zero, List.set_cons_succ]
            refine wpAnyH_take (i := 6) (v := ?_) rfl (by kernel_rfl) (by kernel_rfl) (by kernel_rfl) (fun _ _ _ h => h) (Or.inl ⟨by rfl, ?_⟩) (by assumption) ?_
            rotate_left
            · intro wz hSw
              (try dsimp only at hSw)
              first
                | (go_simp; done)
                | (go_simp; with_reducible rfl)
            try simp only [Act.put, List.getElem_toArray, List.getElem_cons_zero, List.getElem_cons_succ, List.setIfInBounds_toArray, List.set_cons_zero, List.set_cons_succ]
            refine wpAnyH_ready (rs := [7]) (by kernel_rfl) (by simp) ?_
            refine AllReadyH.cons rfl (fun K7 hK7 => ?_) AllReadyH.nil
            go_simp
            refine hK7.out _ _ (trivial) (fun hHeld => ?_)
            clear hK7 K7
            try simp only [Act.put, List.getElem_toArray, List.getElem_cons_zero, List.getElem_cons_succ, List.setIfInBounds_toArray, List.set_cons_zero, List.set_cons_succ]
            refine wpAnyH_take (i := 8) (v := ?_) rfl (by kernel_rfl) (by kernel_rfl) (by kernel_rfl) (fun _ _ _ h => h) (Or.inl ⟨by rfl, ?_⟩) (by assumption) ?_
            rotate_left
            · intro wz hSw
              (try dsimp only at hSw)
              first
                | (go_simp; done)
                | (go_simp; with_reducible rfl)
            try simp only [Act.put, List.getElem_toArray, List.getElem_cons_zero, List.getElem_cons_succ, List.setIfInBounds_toArray, List.set_cons_zero, List.set_cons_succ]
            refine wpAnyH_done (by kernel_rfl) ?_ _
            try simp only [hkey, hs3]
            generalize hW4 : (w3.setCell ⟨eb, 1, none⟩ (.string key)).drew = w4
            have HE4 := (HE3.out.put1 key).below ((Below.refl _ _).drew)
            rw [hW4] at HE4
            have HE4 := Lib.hid HE4
            clear hW4 HE3 HE3d hHeld x0 x1 x2 x3 x4 x5 x6 x7 h1 x1d
            obtain ⟨x0, x1, x2, x3, x4, x5, x6, x7⟩ := HE4.out.e.cells
            obtain ⟨h0, h1, h2, h3, h4, h5, h6, h7⟩ := frees HE4.out.e
            have hfc := fix_calls s3 w4 (by omega)
            rw [hfx2] at hfc
            dsimp only at hfc
            go_wp2_with fail
            refine hfc.mono ?_
            clear hfc
            rintro e w5 ⟨rfl, bm⟩
            have HE5 := Lib.hid (HE4.out.below bm)
            clear bm HE4
            clear x0 x1 x2 x3 x4 x5 x6 x7 h0 h1 h2 h3 h4 h5 h6 h7
            obtain ⟨x0, x1, x2, x3, x4, x5, x6, x7⟩ := HE5.out.e.cells
            obtain ⟨h0, h1, h2, h3, h4, h5, h6, h7⟩ := frees HE5.out.e
            go_upto_region 11 with fail
            generalize hW6 : w5.setCell ⟨eb, 7, none⟩ (.int .i64 (d : Int)) = w6
            have HE6 := HE5.out.put7 (d : Int)
            rw [hW6] at HE6
            have HE6 := Lib.hid HE6
            clear hW6 HE5
            clear x0 x1 x2 x3 x4 x5 x6 x7 h0 h1 h2 h3 h4 h5 h6 h7
            obtain ⟨x0, x1, x2, x3, x4, x5, x6, x7⟩ := HE6.out.e.cells
            obtain ⟨h0, h1, h2, h3, h4, h5, h6, h7⟩ := frees HE6.out.e
            have hdc := VcL.decR_calls s4 w6 (by omega)
            unfold DecPost at hdc
            rw [hok] at hdc
            simp only [if_true, Bool.false_eq_true, if_false] at hdc
            rw [hkk] at hdc
            go_wp2_with fail
            refine hdc.mono ?_
            clear hdc
            rintro e w7 ⟨y, rfl, hyp, rdy, nwy, b7⟩
            have HE7 := Lib.hid (HE6.out.below b7)
            have HYY := Lib.hid (And.intro hyp (And.intro rdy nwy.1))
            have HZ := Lib.hid (And.intro HE6.out.e.lt b7.size)
            clear hyp rdy nwy b7
            try unfold VV.val
            go_upto_region 15 with fail
            generalize hW8 : w7.alloc _ = w8
            have b8 : Below w7.heap.size w7 w8 := by rw [← hW8]; exact (Below.refl _ _).alloc (Nat.le_refl _) _
            have bv : VaT.Bv w8 w7.heap.size y.kind y.text (.slice y.LA y.ln y.lc) (.slice y.FA y.fn y.fc) (.slice y.KA y.kn y.kc) := by rw [← hW8]; exact heap_alloc_new w7 _
            obtain ⟨vb, hvb⟩ : ∃ vb, w7.heap.size = vb := ⟨_, rfl⟩
            rw [hvb] at bv ⊢
            have HVB := Lib.hid hvb
            have hvne : ¬ vb = eb := fun e => by have h1 := HZ.out.1; have h2 := HZ.out.2; have h3 := HVB.out; omega
            have HE8 := Lib.hid (HE7.out.below b8)
            have HB8 := Lib.hid b8
            clear b8 hW8 hvb
            clear x0 x1 x2 x3 x4 x5 x6 x7 h0 h1 h2 h3 h4 h5 h6 h7
            obtain ⟨b0, b1, b2, b3, b4⟩ := bv.cells
            obtain ⟨x0, x1, x2, x3, x4, x5, x6, x7⟩ := HE8.out.e.cells
            obtain ⟨h0, h1, h2, h3, h4, h5, h6, h7⟩ := frees HE8.out.e
            go_upto_region 17 with fail
            clear x0 x1 x2 x3 x4 x5 x6 x7 h0 h1 h2 h3 h4 h5 h6 h7
            have HE8d := Lib.hid (HE8.out.below ((Below.refl _ _).drew))
            have h2 := HE8.out.e.free 2
            have h3 := HE8.out.e.free 3
            have h4 := HE8.out.e.free 4
            have h5 := HE8.out.e.free 5
            have h6 := HE8.out.e.free 6
            obtain ⟨x0, x1, x2, x3, x4, x5, x6, x7⟩ := HE8.out.e.cells
            refine wp_region_held_drew (S := fun w' => w'.cell? ⟨vb, 0, none⟩ = some (.int .i64 y.kind) ∧ w'.cell? ⟨vb, 1, none⟩ = some (.string y.text) ∧ w'.cell? ⟨vb, 2, none⟩ = some (.slice y.LA y.ln y.lc) ∧ w'.cell? ⟨vb, 3, none⟩ = some (.slice y.FA y.fn y.fc) ∧ w'.cell? ⟨vb, 4, none⟩ = some (.slice y.KA y.kn y.kc)) (by kernel_rfl) (⟨b0, b1, b2, b3, b4⟩) (fun hHeld => ?_)
            refine wpAnyH_take (i := 0) (v := ?_) rfl (by kernel_rfl) (by kernel_rfl) (by kernel_rfl) (fun _ _ _ h => h) (Or.inl ⟨by rfl, ?_⟩) (by assumption) ?_
            rotate_left
            · intro wz hSw
              (try dsimp only at hSw)
              first
                | (go_simp; done)
                | (go_simp; with_reducible rfl)
            try simp only [Act.put, List.getElem_toArray, List.getElem_cons_zero, List.getElem_cons_succ, List.setIfInBounds_toArray, List.set_cons_zero, List.set_cons_succ]
            refine wpAnyH_take (i := 1) (v := ?_) rfl (by kernel_rfl) (by kernel_rfl) (by kernel_rfl) (fun _ _ _ h => h) (Or.inl ⟨by rfl, ?_⟩) (by assumption) ?_
            rotate_left
            · intro wz hSw
              (try dsimp only at hSw)
              first
                | (go_simp; done)
                | (go_simp; with_reducible rfl)
            try simp only [Act.put, List.getElem_toArray, List.getElem_cons_zero, List.getElem_cons_succ, List.setIfInBounds_toArray, List.set_cons_zero, List.set_cons_succ]
            refine wpAnyH_take (i := 2) (v := ?_) rfl (by kernel_rfl) (by kernel_rfl) (by kernel_rfl) (fun _ _ _ h => h) (Or.inl ⟨by rfl, ?_⟩) (by assumption) ?_
            rotate_left
            · intro wz hSw
              (try dsimp only at hSw)
              first
                | (go_simp; done)
                | (go_simp; with_reducible rfl)
            try simp only [Act.put, List.getElem_toArray, List.getElem_cons_zero, List.getElem_cons_succ, List.setIfInBounds_toArray, List.set_cons_zero, List.set_cons_succ]
            refine wpAnyH_take (i := 3) (v := ?_) rfl (by kernel_rfl) (by kernel_rfl) (by kernel_rfl) (fun _ _ _ h => h) (Or.inl ⟨by rfl, ?_⟩) (by assumption) ?_
            rotate_left
            · intro wz hSw
              (try dsimp only at hSw)
              first
                | (go_simp; done)
                | (go_simp; with_reducible rfl)
            try simp only [Act.put, List.getElem_toArray, List.getElem_cons_zero, List.getElem_cons_succ, List.setIfInBounds_toArray, List.set_cons_zero, List.set_cons_succ]
            refine wpAnyH_take (i := 4) (v := ?_) rfl (by kernel_rfl) (by kernel_rfl) (by kernel_rfl) (fun _ _ _ h => h) (Or.inl ⟨by rfl, ?_⟩) (by assumption) ?_
            rotate_left
            · intro wz hSw
              (try dsimp only at hSw)
              first
                | (go_simp; done)
                | (go_simp; with_reducible rfl)
            try simp only [Act.put, List.getElem_toArray, List.getElem_cons_zero, List.getElem_cons_succ, List.setIfInBounds_toArray, List.set_cons_zero, List.set_cons_succ]
            refine wpAnyH_ready (rs := [5]) (by kernel_rfl) (by simp) ?_
            refine AllReadyH.cons rfl (fun K5 hK5 => ?_) AllReadyH.nil
            go_simp
            have HPV := Lib.hid (Only.refl (fun k => k = eb) w8 |>.put (p := ⟨eb, 2, none⟩) (.inl rfl) (.int .i64 y.kind) |>.put (p := ⟨eb, 3, none⟩) (.inl rfl) (.string y.text) |>.put (p := ⟨eb, 4, none⟩) (.inl rfl) (.slice y.LA y.ln y.lc) |>.put (p := ⟨eb, 5, none⟩) (.inl rfl) (.slice y.FA y.fn y.fc) |>.put (p := ⟨eb, 6, none⟩) (.inl rfl) (.slice y.KA y.kn y.kc))
            refine hK5.out _ _ ((Bv.only bv (HPV.out.trans (SpU.only_b ((Below.refl _ _).drew) : Only (fun k => k = eb) _ _) (fun q e => .inl e)) hvne).cells) (fun hHeld => ?_)
            clear hK5 K5
            try simp only [Act.put, List.getElem_toArray, List.getElem_cons_zero, List.getElem_cons_succ, List.setIfInBounds_toArray, List.set_cons_zero, List.set_cons_succ]
            refine wpAnyH_take (i := 6) (v := ?_) rfl (by kernel_rfl) (by kernel_rfl) (by kernel_rfl) (fun _ _ _ h => h) (Or.inl ⟨by rfl, ?_⟩) (by assumption) ?_
            rotate_left
            · intro wz hSw
              (try dsimp only at hSw)
              first
                | (go_simp; done)
                | (go_simp; with_reducible rfl)
            try simp only [Act.put, List.getElem_toArray, List.getElem_cons_zero, List.getElem_cons_succ, List.setIfInBounds_toArray, List.set_cons_zero, List.set_cons_succ]
            refine wpAnyH_done (by kernel_rfl) ?_ _
            try simp only [hs5]
            generalize hW9 : (((((w8.setCell ⟨eb, 2, none⟩ (.int .i64 y.kind)).setCell ⟨eb, 3, none⟩ (.string y.text)).setCell ⟨eb, 4, none⟩ (.slice y.LA y.ln y.lc)).setCell ⟨eb, 5, none⟩ (.slice y.FA y.fn y.fc)).setCell ⟨eb, 6, none⟩ (.slice y.KA y.kn y.kc)).drew = w9
            have HE9 := (HE8.out.putV y).below ((Below.refl _ _).drew)
            unfold putVv at HE9
            rw [hW9] at HE9
            have HE9 := Lib.hid HE9
            have o79 : Only (fun k => k < w6.heap.size) w7 w9 := by
              rw [← hW9]
              have o1 : Only (fun k => k = eb) w8 (putVv w8 eb y) := by
                unfold putVv
                exact (((((Only.refl (fun k => k = eb) w8).put (p := ⟨eb, 2, none⟩) (.inl rfl) _).put (p := ⟨eb, 3, none⟩) (.inl rfl) _).put (p := ⟨eb, 4, none⟩) (.inl rfl) _).put (p := ⟨eb, 5, none⟩) (.inl rfl) _).put (p := ⟨eb, 6, none⟩) (.inl rfl) _
              exact ((SpU.only_b HB8.out : Only (fun k => k < w6.heap.size) w7 w8).trans o1 (fun q e => .inl (by rw [show q = eb from e]; exact HZ.out.1))).trans (SpU.only_b ((Below.refl _ _).drew) : Only (fun k => k < w6.heap.size) _ _) (fun q e => .inl e)
            have H79 := Lib.hid o79
            clear hW9 HE8 HE8d hHeld o79 b0 b1 b2 b3 b4 bv x0 x1 x2 x3 x4 x5 x6 x7 h2 h3 h4 h5 h6
            have hpv : pvOf y = pvOf (decD s4).v := by obtain ⟨a, b, c, d, e⟩ := HYY.out.1; unfold pvOf; rw [a, b, c, d, e]; rfl
            obtain ⟨smy, chy, -⟩ := dec_sm (w := w7) (by omega) HOK.out HYY.out.2.1 hpv
            have HSM := Lib.hid (And.intro smy hpv)
            have HMAY := Lib.hid (show mayP (peOf ⟨1, key, y, (d : Int)⟩) = false by unfold mayP peOf; dsimp only; rw [if_pos rfl, HTI.out]; exact Bool.and_false _)
            clear smy chy hpv
            obtain ⟨x0, x1, x2, x3, x4, x5, x6, x7⟩ := HE9.out.e.cells
            obtain ⟨h0, h1, h2, h3, h4, h5, h6, h7⟩ := frees HE9.out.e
            go_upto_region 18 with fail
            clear x0 x1 x2 x3 x4 x5 x6 x7 h0 h1 h2 h3 h4 h5 h6 h7
            have HEd := Lib.hid (HE9.out.below ((Below.refl _ _).drew))
            refine wp_region_held_drew (S := fun w' => EB eb (1) key y ((d : Int)) w') (by kernel_rfl) (eb_of HEd.out.e) (fun hHeld => ?_)
            refine wpAnyH_take (i := 0) (v := ?_) rfl (by kernel_rfl) (by kernel_rfl) (by kernel_rfl) (fun _ _ _ h => h) (Or.inl ⟨by rfl, ?_⟩) (by assumption) ?_
            rotate_left
            · intro wz hSw
              (try dsimp only at hSw)
              first
                | (go_simp; done)
                | (go_simp; with_reducible rfl)
            try simp only [Act.put, List.getElem_toArray, List.getElem_cons_zero, List.getElem_cons_succ, List.setIfInBounds_toArray, List.set_cons_zero, List.set_cons_succ]
            refine wpAnyH_take (i := 1) (v := ?_) rfl (by kernel_rfl) (by kernel_rfl) (by kernel_rfl) (fun _ _ _ h => h) (Or.inl ⟨by rfl, ?_⟩) (by assumption) ?_
            rotate_left
            · intro wz hSw
              (try dsimp only at hSw)
              first
                | (go_simp; done)
                | (go_simp; with_reducible rfl)
            try simp only [Act.put, List.getElem_toArray, List.getElem_cons_zero, List.getElem_cons_succ, List.setIfInBounds_toArray, List.set_cons_zero, List.set_cons_succ]
            refine wpAnyH_take (i := 2) (v := ?_) rfl (by kernel_rfl) (by kernel_rfl) (by kernel_rfl) (fun _ _ _ h => h) (Or.inl ⟨by rfl, ?_⟩) (by assumption) ?_
            rotate_left
            · intro wz hSw
              (try dsimp only at hSw)
              first
                | (go_simp; done)
                | (go_simp; with_reducible rfl)
            try simp only [Act.put, List.getElem_toArray, List.getElem_cons_zero, List.getElem_cons_succ, List.setIfInBounds_toArray, List.set_cons_zero, List.set_cons_succ]
            refine wpAnyH_ready (rs := [3]) (by kernel_rfl) (by simp) ?_
            refine AllReadyH.cons rfl (fun K3 hK3 => ?_) AllReadyH.nil
            go_simp
            have hmy := mayR_calls ⟨1, key, y, (d : Int)⟩ w9.drew (rdv_keep HYY.out.2.1 HYY.out.2.2 (H79.out.trans (SpU.only_b ((Below.refl _ _).drew) : Only (fun k => k < w6.heap.size) w9 w9.drew) (fun q e => .inl e))) HSM.out.1
            rw [show mayP (peOf ⟨1, key, y, (d : Int)⟩) = false from HMAY.out] at hmy
            unfold evV at hmy
            dsimp only at hmy
            refine hmy.mono ?_
            clear hmy
            rintro e wM ⟨rfl, bM⟩
            have HEM := Lib.hid (HEd.out.below bM)
            obtain ⟨zf0, zf1, zf2, zf3, zf4, zf5, zf6, zf7⟩ := frees HEM.out.z
            obtain ⟨zc0, zc1, zc2, zc3, zc4, zc5, zc6, zc7⟩ := HEM.out.z.cells
            refine hK3.out _ _ (eb_of HEM.out.e) (fun hHeld => ?_)
            clear hK3 K3
            try simp only [Act.put, List.getElem_toArray, List.getElem_cons_zero, List.getElem_cons_succ, List.setIfInBounds_toArray, List.set_cons_zero, List.set_cons_succ]
            refine wpAnyH_ready (rs := [4]) (by kernel_rfl) (by simp) ?_
            refine AllReadyH.cons rfl (fun K4 hK4 => ?_) AllReadyH.nil
            go_simp
            refine hK4.out _ _ (eb_of (HEM.out.e.only HEM.out.putR.2.2 (fun h => absurd h (Nat.ne_of_gt HEM.out.le)))) (fun hHeld => ?_)
            clear hK4 K4
            try simp only [Act.put, List.getElem_toArray, List.getElem_cons_zero, List.getElem_cons_succ, List.setIfInBounds_toArray, List.set_cons_zero, List.set_cons_succ]
            refine wpAnyH_take (i := 5) (v := ?_) rfl (by kernel_rfl) (by kernel_rfl) (by kernel_rfl) (fun _ _ _ h => h) (Or.inl ⟨by rfl, ?_⟩) (by assumption) ?_
            rotate_left
            · intro wz hSw
              (try dsimp only at hSw)
              first
                | (go_simp; done)
                | (go_simp; with_reducible rfl)
            try simp only [Act.put, List.getElem_toArray, List.getElem_cons_zero, List.getElem_cons_succ, List.setIfInBounds_toArray, List.set_cons_zero, List.set_cons_succ]
            refine wpAnyH_take (i := 6) (v := ?_) rfl (by kernel_rfl) (by kernel_rfl) (by kernel_rfl) (fun _ _ _ h => h) (Or.inl ⟨by rfl, ?_⟩) (by assumption) ?_
            rotate_left
            · intro wz hSw
              (try dsimp only at hSw)
              first
                | (go_simp; done)
                | (go_simp; with_reducible rfl)
            try simp only [Act.put, List.getElem_toArray, List.getElem_cons_zero, List.getElem_cons_succ, List.setIfInBounds_toArray, List.set_cons_zero, List.set_cons_succ]
            refine wpAnyH_done (by kernel_rfl) ?_ _
            clear hHeld
            have q := HEM.out.putR
            unfold putAll at q
            obtain ⟨wF, hF⟩ : ∃ wF, (((((((wM.setCell ⟨w.heap.size, 0, none⟩ (.int .i64 1)).setCell ⟨w.heap.size, 1, none⟩ (.string key)).setCell ⟨w.heap.size, 2, none⟩ (.int .i64 y.kind)).setCell ⟨w.heap.size, 3, none⟩ (.string y.text)).setCell ⟨w.heap.size, 4, none⟩ (.slice y.LA y.ln y.lc)).setCell ⟨w.heap.size, 5, none⟩ (.slice y.FA y.fn y.fc)).setCell ⟨w.heap.size, 6, none⟩ (.slice y.KA y.kn y.kc)).setCell ⟨w.heap.size, 7, none⟩ (.int .i64 (d : Int)) = wF := ⟨_, rfl⟩
            rw [hF] at q ⊢
            clear hF
            obtain ⟨qo, qe, qz⟩ := q
            go_wp2_with fail
            obtain ⟨t0, t1, t2, t3, t4, t5, t6, t7⟩ := qe.cells
            have qb : Below w.heap.size w wF := qo.below (Nat.le_refl _) (fun q e => e.elim)
            refine bodyPost_ret (v := .tuple #[evV ⟨1, key, y, (d : Int)⟩, .string s5, .bool false]) (by simp [results, Tryz.f39, evV, go_sem, t0, t1, t2, t3, t4, t5, t6, t7]) rfl ?_
            exact ⟨_, _, _, rfl, qb, fun _ => rfl, fun p r h => (by rw [HN.out] at h; cases h)⟩
          · have hef : eff1 s = some (⟨1, key, pvOf (decD s4).v, (d : Nat)⟩, s5) := by unfold eff1; rw [hl]; simp [hs1, hnm, hkm, hdm, hdM, hok, hkk, hs5]
            have HN := Lib.hid hef
            have ht : tickB (d : Int) = true := (tick_iff _).2 (by omega)
            have HTI := Lib.hid ht
            clear ht
            have hg1 : decide (s2.size < n) = false := decide_eq_false hn
            have hg2 : decide ((s2.size : Int) < (n : Int)) = false := decide_eq_false (by omega)
            have hg3 : ((n : Nat) : Int) ≤ (s2.size : Int) := by omega
            have hg4 : ((s2.size : Nat) : Int) ≤ 100000000 := by omega
            have HL := Lib.hid hl
            have HY := Lib.hid hy0
            clear hnm2
            clear hs hl hef hy0
            go_enter Tryz.func39, Tryz.ntmps39
            go_upto_region 2 with fail
            generalize hW2 : World.alloc (World.alloc w _) _ = w2
            have E2 : Et w (w.heap.size + 1) 1 ⟨#[]⟩ y0 0 w2 := by
              rw [HY.out, ← hW2, ix2 HL.out]
              exact et_start w _
            generalize hebz : w.heap.size + 1 = eb at E2 ⊢
            have HE2 := Lib.hid E2
            clear hW2 E2 hebz
            obtain ⟨x0, x1, x2, x3, x4, x5, x6, x7⟩ := HE2.out.e.cells
            obtain ⟨h0, h1, h2, h3, h4, h5, h6, h7⟩ := frees HE2.out.e
            have hfc := fix_calls s1 w2 (by omega)
            rw [hfx] at hfc
            dsimp only at hfc
            go_wp2_with fail
            refine hfc.mono ?_
            clear hfc
            rintro e w3 ⟨rfl, bm⟩
            have HE3 := Lib.hid (HE2.out.below bm)
            clear bm HE2
            clear x0 x1 x2 x3 x4 x5 x6 x7 h0 h1 h2 h3 h4 h5 h6 h7
            have HE3d := Lib.hid (HE3.out.below ((Below.refl _ _).drew))
            obtain ⟨x0, x1, x2, x3, x4, x5, x6, x7⟩ := HE3.out.e.cells
            have h1 := HE3d.out.e.free 1
            have x1d := HE3d.out.e.cells.2.1
            go_upto_region 8 with fail
            refine wp_region_held_drew (S := fun _ => True) (by kernel_rfl) (trivial) (fun hHeld => ?_)
            refine wpAnyH_take (i := 0) (v := ?_) rfl (by kernel_rfl) (by kernel_rfl) (by kernel_rfl) (fun _ _ _ h => h) (Or.inl ⟨by rfl, ?_⟩) (by assumption) ?_
            rotate_left
            · intro wz hSw
              (try dsimp only at hSw)
              first
                | (go_simp; done)
                | (go_simp; with_reducible rfl)
            try simp only [Act.put, List.getElem_toArray, List.getElem_cons_zero, List.getElem_cons_succ, List.setIfInBounds_toArray, List.set_cons_zero, List.set_cons_succ]
            refine wpAnyH_take (i := 1) (v := ?_) rfl (by kernel_rfl) (by kernel_rfl) (by kernel_rfl) (fun _ _ _ h => h) (Or.inl ⟨by rfl, ?_⟩) (by assumption) ?_
            rotate_left
            · intro wz hSw
              (try dsimp only at hSw)
              first
                | (go_simp; done)
                | (go_simp; with_reducible rfl)
            try simp only [Act.put, List.getElem_toArray, List.getElem_cons_zero, List.getElem_cons_succ, List.setIfInBounds_toArray, List.set_cons_zero, List.set_cons_succ]
            refine wpAnyH_take (i := 2) (v := ?_) rfl (by kernel_rfl) (by kernel_rfl) (by kernel_rfl) (fun _ _ _ h => h) (Or.inl ⟨by rfl, ?_⟩) (by assumption) ?_
            rotate_left
            · intro wz hSw
              (try dsimp only at hSw)
              first
                | (go_simp; done)
                | (go_simp; with_reducible rfl)
            try simp only [Act.put, List.getElem_toArray, List.getElem_cons_zero, List.getElem_cons_succ, List.setIfInBounds_toArray, List.set_cons_zero, List.set_cons_succ]
            refine wpAnyH_take (i := 3) (v := ?_) rfl (by kernel_rfl) (by kernel_rfl) (by kernel_rfl) (fun _ _ _ h => h) (Or.inl ⟨by rfl, ?_⟩) (by assumption) ?_
            rotate_left
            · intro wz hSw
              (try dsimp only at hSw)
              first
                | (go_simp; done)
                | (go_simp; with_reducible rfl)
            try simp only [Act.put, List.getElem_toArray, List.getElem_cons_zero, List.getElem_cons_succ, List.setIfInBounds_toArray, List.set_cons_zero, List.set_cons_succ]
            refine wpAnyH_take (i := 4) (v := ?_) rfl (by kernel_rfl) (by kernel_rfl) (by kernel_rfl) (fun _ _ _ h => h) (Or.inl ⟨by rfl, ?_⟩) (by assumption) ?_
            rotate_left
            · intro wz hSw
              (try dsimp only at hSw)
              first
                | (go_simp; done)
                | (go_simp; with_reducible rfl)
            try simp only [Act.put, List.getElem_toArray, List.getElem_cons_zero, List.getElem_cons_succ, List.setIfInBounds_toArray, List.set_cons_zero, List.set_cons_succ]
            refine wpAnyH_take (i := 5) (v := ?_) rfl (by kernel_rfl) (by kernel_rfl) (by kernel_rfl) (fun _ _ _ h => h) (Or.inl ⟨by rfl, ?_⟩) (by assumption) ?_
            rotate_left
            · intro wz hSw
              (try dsimp only at hSw)
              first
                | (go_simp; done)
                | (go_simp; with_reducible rfl)
            try simp only [Act.put, List.getElem_toArray, List.getElem_cons_zero, List.getElem_cons_succ, List.setIfInBounds_toArray, List.set_cons_zero, List.set_cons_succ]
            refine wpAnyH_take (i := 6) (v := ?_) rfl (by kernel_rfl) (by kernel_rfl) (by kernel_rfl) (fun _ _ _ h => h) (Or.inl ⟨by rfl, ?_⟩) (by assumption) ?_
            rotate_left
            · intro wz hSw
              (try dsimp only at hSw)
              first
                | (go_simp; done)
                | (go_simp; with_reducible rfl)
            try simp only [Act.put, List.getElem_toArray, List.getElem_cons_zero, List.getElem_cons_succ, List.setIfInBounds_toArray, List.set_cons_zero, List.set_cons_succ]
            refine wpAnyH_ready (rs := [7]) (by kernel_rfl) (by simp) ?_
            refine AllReadyH.cons rfl (fun K7 hK7 => ?_) AllReadyH.nil
            go_simp
            refine hK7.out _ _ (trivial) (fun hHeld => ?_)
            clear hK7 K7
            try simp only [Act.put, List.getElem_toArray, List.getElem_cons_zero, List.getElem_cons_succ, List.setIfInBounds_toArray, List.set_cons_zero, List.set_cons_succ]
            refine wpAnyH_take (i := 8) (v := ?_) rfl (by kernel_rfl) (by kernel_rfl) (by kernel_rfl) (fun _ _ _ h => h) (Or.inl ⟨by rfl, ?_⟩) (by assumption) ?_
            rotate_left
            · intro wz hSw
              (try dsimp only at hSw)
              first
                | (go_simp; done)
                | (go_simp; with_reducible rfl)
            try simp only [Act.put, List.getElem_toArray, List.getElem_cons_zero, List.getElem_cons_succ, List.setIfInBounds_toArray, List.set_cons_zero, List.set_cons_succ]
            refine wpAnyH_done (by kernel_rfl) ?_ _
            try simp only [hkey, hs3]
            generalize hW4 : (w3.setCell ⟨eb, 1, none⟩ (.string key)).drew = w4
            have HE4 := (HE3.out.put1 key).below ((Below.refl _ _).drew)
            rw [hW4] at HE4
            have HE4 := Lib.hid HE4
            clear hW4 HE3 HE3d hHeld x0 x1 x2 x3 x4 x5 x6 x7 h1 x1d
            obtain ⟨x0, x1, x2, x3, x4, x5, x6, x7⟩ := HE4.out.e.cells
            obtain ⟨h0, h1, h2, h3, h4, h5, h6, h7⟩ := frees HE4.out.e
            have hfc := fix_calls s3 w4 (by omega)
            rw [hfx2] at hfc
            dsimp only at hfc
            go_wp2_with fail
            refine hfc.mono ?_
            clear hfc
            rintro e w5 ⟨rfl, bm⟩
            have HE5 := Lib.hid (HE4.out.below bm)
            clear bm HE4
            clear x0 x1 x2 x3 x4 x5 x6 x7 h0 h1 h2 h3 h4 h5 h6 h7
            obtain ⟨x0, x1, x2, x3, x4, x5, x6, x7⟩ := HE5.out.e.cells
            obtain ⟨h0, h1, h2, h3, h4, h5, h6, h7⟩ := frees HE5.out.e
            go_upto_region 11 with fail
            generalize hW6 : w5.setCell ⟨eb, 7, none⟩ (.int .i64 (d : Int)) = w6
            have HE6 := HE5.out.put7 (d : Int)
            rw [hW6] at HE6
            have HE6 := Lib.hid HE6
            clear hW6 HE5
            clear x0 x1 x2 x3 x4 x5 x6 x7 h0 h1 h2 h3 h4 h5 h6 h7
            obtain ⟨x0, x1, x2, x3, x4, x5, x6, x7⟩ := HE6.out.e.cells
            obtain ⟨h0, h1, h2, h3, h4, h5, h6, h7⟩ := frees HE6.out.e
            have hdc := VcL.decR_calls s4 w6 (by omega)
            unfold DecPost at hdc
            rw [hok] at hdc
            simp only [if_true, Bool.false_eq_true, if_false] at hdc
            rw [hkk] at hdc
            go_wp2_with fail
            refine hdc.mono ?_
            clear hdc
            rintro e w7 ⟨y, rfl, hyp, rdy, nwy, b7⟩
            have HE7 := Lib.hid (HE6.out.below b7)
            have HYY := Lib.hid (And.intro hyp (And.intro rdy nwy.1))
            have HZ := Lib.hid (And.intro HE6.out.e.lt b7.size)
            clear hyp rdy nwy b7
            try unfold VV.val
            go_upto_region 15 with fail
            generalize hW8 : w7.alloc _ = w8
            have b8 : Below w7.heap.size w7 w8 := by rw [← hW8]; exact (Below.refl _ _).alloc (Nat.le_refl _) _
            have bv : VaT.Bv w8 w7.heap.size y.kind y.text (.slice y.LA y.ln y.lc) (.slice y.FA y.fn y.fc) (.slice y.KA y.kn y.kc) := by rw [← hW8]; exact heap_alloc_new w7 _
            obtain ⟨vb, hvb⟩ : ∃ vb, w7.heap.size = vb := ⟨_, rfl⟩
            rw [hvb] at bv ⊢
            have HVB := Lib.hid hvb
            have hvne : ¬ vb = eb := fun e => by have h1 := HZ.out.1; have h2 := HZ.out.2; have h3 := HVB.out; omega
            have HE8 := Lib.hid (HE7.out.below b8)
            have HB8 := Lib.hid b8
            clear b8 hW8 hvb
            clear x0 x1 x2 x3 x4 x5 x6 x7 h0 h1 h2 h3 h4 h5 h6 h7
            obtain ⟨b0, b1, b2, b3, b4⟩ := bv.cells
            obtain ⟨x0, x1, x2, x3, x4, x5, x6, x7⟩ := HE8.out.e.cells
            obtain ⟨h0, h1, h2, h3, h4, h5, h6, h7⟩ := frees HE8.out.e
            go_upto_region 17 with fail
            clear x0 x1 x2 x3 x4 x5 x6 x7 h0 h1 h2 h3 h4 h5 h6 h7
            have HE8d := Lib.hid (HE8.out.below ((Below.refl _ _).drew))
            have h2 := HE8.out.e.free 2
            have h3 := HE8.out.e.free 3
            have h4 := HE8.out.e.free 4
            have h5 := HE8.out.e.free 5
            have h6 := HE8.out.e.free 6
            obtain ⟨x0, x1, x2, x3, x4, x5, x6, x7⟩ := HE8.out.e.cells
            refine wp_region_held_drew (S := fun w' => w'.cell? ⟨vb, 0, none⟩ = some (.int .i64 y.kind) ∧ w'.cell? ⟨vb, 1, none⟩ = some (.string y.text) ∧ w'.cell? ⟨vb, 2, none⟩ = some (.slice y.LA y.ln y.lc) ∧ w'.cell? ⟨vb, 3, none⟩ = some (.slice y.FA y.fn y.fc) ∧ w'.cell? ⟨vb, 4, none⟩ = some (.slice y.KA y.kn y.kc)) (by kernel_rfl) (⟨b0, b1, b2, b3, b4⟩) (fun hHeld => ?_)
            refine wpAnyH_take (i := 0) (v := ?_) rfl (by kernel_rfl) (by kernel_rfl) (by kernel_rfl) (fun _ _ _ h => h) (Or.inl ⟨by rfl, ?_⟩) (by assumption) ?_
            rotate_left
            · intro wz hSw
              (try dsimp only at hSw)
              first
                | (go_simp; done)
                | (go_simp; with_reducible rfl)
            try simp only [Act.put, List.getElem_toArray, List.getElem_cons_zero, List.getElem_cons_succ, List.setIfInBounds_toArray, List.set_cons_zero, List.set_cons_succ]
            refine wpAnyH_take (i := 1) (v := ?_) rfl (by kernel_rfl) (by kernel_rfl) (by kernel_rfl) (fun _ _ _ h => h) (Or.inl ⟨by rfl, ?_⟩) (by assumption) ?_
            rotate_left
            · intro wz hSw
              (try dsimp only at hSw)
              first
                | (go_simp; done)
                | (go_simp; with_reducible rfl)
            try simp only [Act.put, List.getElem_toArray, List.getElem_cons_zero, List.getElem_cons_succ, List.setIfInBounds_toArray, List.set_cons_zero, List.set_cons_succ]
            refine wpAnyH_take (i := 2) (v := ?_) rfl (by kernel_rfl) (by kernel_rfl) (by kernel_rfl) (fun _ _ _ h => h) (Or.inl ⟨by rfl, ?_⟩) (by assumption) ?_
            rotate_left
            · intro wz hSw
              (try dsimp only at hSw)
              first
                | (go_simp; done)
                | (go_simp; with_reducible rfl)
            try simp only [Act.put, List.getElem_toArray, List.getElem_cons_zero, List.getElem_cons_succ, List.setIfInBounds_toArray, List.set_cons_zero, List.set_cons_succ]
            refine wpAnyH_take (i := 3) (v := ?_) rfl (by kernel_rfl) (by kernel_rfl) (by kernel_rfl) (fun _ _ _ h => h) (Or.inl ⟨by rfl, ?_⟩) (by assumption) ?_
            rotate_left
            · intro wz hSw
              (try dsimp only at hSw)
              first
                | (go_simp; done)
                | (go_simp; with_reducible rfl)
            try simp only [Act.put, List.getElem_toArray, List.getElem_cons_zero, List.getElem_cons_succ, List.setIfInBounds_toArray, List.set_cons_zero, List.set_cons_succ]
            refine wpAnyH_take (i := 4) (v := ?_) rfl (by kernel_rfl) (by kernel_rfl) (by kernel_rfl) (fun _ _ _ h => h) (Or.inl ⟨by rfl, ?_⟩) (by assumption) ?_
            rotate_left
            · intro wz hSw
              (try dsimp only at hSw)
              first
                | (go_simp; done)
                | (go_simp; with_reducible rfl)
            try simp only [Act.put, List.getElem_toArray, List.getElem_cons_zero, List.getElem_cons_succ, List.setIfInBounds_toArray, List.set_cons_zero, List.set_cons_succ]
            refine wpAnyH_ready (rs := [5]) (by kernel_rfl) (by simp) ?_
            refine AllReadyH.cons rfl (fun K5 hK5 => ?_) AllReadyH.nil
            go_simp
            have HPV := Lib.hid (Only.refl (fun k => k = eb) w8 |>.put (p := ⟨eb, 2, none⟩) (.inl rfl) (.int .i64 y.kind) |>.put (p := ⟨eb, 3, none⟩) (.inl rfl) (.string y.text) |>.put (p := ⟨eb, 4, none⟩) (.inl rfl) (.slice y.LA y.ln y.lc) |>.put (p := ⟨eb, 5, none⟩) (.inl rfl) (.slice y.FA y.fn y.fc) |>.put (p := ⟨eb, 6, none⟩) (.inl rfl) (.slice y.KA y.kn y.kc))
            refine hK5.out _ _ ((Bv.only bv (HPV.out.trans (SpU.only_b ((Below.refl _ _).drew) : Only (fun k => k = eb) _ _) (fun q e => .inl e)) hvne).cells) (fun hHeld => ?_)
            clear hK5 K5
            try simp only [Act.put, List.getElem_toArray, List.getElem_cons_zero, List.getElem_cons_succ, List.setIfInBounds_toArray, List.set_cons_zero, List.set_cons_succ]
            refine wpAnyH_take (i := 6) (v := ?_) rfl (by kernel_rfl) (by kernel_rfl) (by kernel_rfl) (fun _ _ _ h => h) (Or.inl ⟨by rfl, ?_⟩) (by assumption) ?_
            rotate_left
            · intro wz hSw
              (try dsimp only at hSw)
              first
                | (go_simp; done)
                | (go_simp; with_reducible rfl)
            try simp only [Act.put, List.getElem_toArray, List.getElem_cons_zero, List.getElem_cons_succ, List.setIfInBounds_toArray, List.set_cons_zero, List.set_cons_succ]
            refine wpAnyH_done (by kernel_rfl) ?_ _
            try simp only [hs5]
            generalize hW9 : (((((w8.setCell ⟨eb, 2, none⟩ (.int .i64 y.kind)).setCell ⟨eb, 3, none⟩ (.string y.text)).setCell ⟨eb, 4, none⟩ (.slice y.LA y.ln y.lc)).setCell ⟨eb, 5, none⟩ (.slice y.FA y.fn y.fc)).setCell ⟨eb, 6, none⟩ (.slice y.KA y.kn y.kc)).drew = w9
            have HE9 := (HE8.out.putV y).below ((Below.refl _ _).drew)
            unfold putVv at HE9
            rw [hW9] at HE9
            have HE9 := Lib.hid HE9
            have o79 : Only (fun k => k < w6.heap.size) w7 w9 := by
              rw [← hW9]
              have o1 : Only (fun k => k = eb) w8 (putVv w8 eb y) := by
                unfold putVv
                exact (((((Only.refl (fun k => k = eb) w8).put (p := ⟨eb, 2, none⟩) (.inl rfl) _).put (p := ⟨eb, 3, none⟩) (.inl rfl) _).put (p := ⟨eb, 4, none⟩) (.inl rfl) _).put (p := ⟨eb, 5, none⟩) (.inl rfl) _).put (p := ⟨eb, 6, none⟩) (.inl rfl) _
              exact ((SpU.only_b HB8.out : Only (fun k => k < w6.heap.size) w7 w8).trans o1 (fun q e => .inl (by rw [show q = eb from e]; exact HZ.out.1))).trans (SpU.only_b ((Below.refl _ _).drew) : Only (fun k => k < w6.heap.size) _ _) (fun q e => .inl e)
            have H79 := Lib.hid o79
            clear hW9 HE8 HE8d hHeld o79 b0 b1 b2 b3 b4 bv x0 x1 x2 x3 x4 x5 x6 x7 h2 h3 h4 h5 h6
            have hpv : pvOf y = pvOf (decD s4).v := by obtain ⟨a, b, c, d, e⟩ := HYY.out.1; unfold pvOf; rw [a, b, c, d, e]; rfl
            obtain ⟨smy, chy, -⟩ := dec_sm (w := w7) (by omega) HOK.out HYY.out.2.1 hpv
            have HSM := Lib.hid (And.intro smy hpv)
            have HMAY := Lib.hid (show mayP (peOf ⟨1, key, y, (d : Int)⟩) = true by unfold mayP peOf; dsimp only; rw [if_pos rfl, HTI.out, chy]; rfl)
            clear smy chy hpv
            obtain ⟨x0, x1, x2, x3, x4, x5, x6, x7⟩ := HE9.out.e.cells
            obtain ⟨h0, h1, h2, h3, h4, h5, h6, h7⟩ := frees HE9.out.e
            go_upto_region 18 with fail
            clear x0 x1 x2 x3 x4 x5 x6 x7 h0 h1 h2 h3 h4 h5 h6 h7
            have HEd := Lib.hid (HE9.out.below ((Below.refl _ _).drew))
            refine wp_region_held_drew (S := fun w' => EB eb (1) key y ((d : Int)) w') (by kernel_rfl) (eb_of HEd.out.e) (fun hHeld => ?_)
            refine wpAnyH_take (i := 0) (v := ?_) rfl (by kernel_rfl) (by kernel_rfl) (by kernel_rfl) (fun _ _ _ h => h) (Or.inl ⟨by rfl, ?_⟩) (by assumption) ?_
            rotate_left
            · intro wz hSw
              (try dsimp only at hSw)
              first
                | (go_simp; done)
                | (go_simp; with_reducible rfl)
            try simp only [Act.put, List.getElem_toArray, List.getElem_cons_zero, List.getElem_cons_succ, List.setIfInBounds_toArray, List.set_cons_zero, List.set_cons_succ]
            refine wpAnyH_take (i := 1) (v := ?_) rfl (by kernel_rfl) (by kernel_rfl) (by kernel_rfl) (fun _ _ _ h => h) (Or.inl ⟨by rfl, ?_⟩) (by assumption) ?_
            rotate_left
            · intro wz hSw
              (try dsimp only at hSw)
              first
                | (go_simp; done)
                | (go_simp; with_reducible rfl)
            try simp only [Act.put, List.getElem_toArray, List.getElem_cons_zero, List.getElem_cons_succ, List.setIfInBounds_toArray, List.set_cons_zero, List.set_cons_succ]
            refine wpAnyH_take (i := 2) (v := ?_) rfl (by kernel_rfl) (by kernel_rfl) (by kernel_rfl) (fun _ _ _ h => h) (Or.inl ⟨by rfl, ?_⟩) (by assumption) ?_
            rotate_left
            · intro wz hSw
              (try dsimp only at hSw)
              first
                | (go_simp; done)
                | (go_simp; with_reducible rfl)
            try simp only [Act.put, List.getElem_toArray, List.getElem_cons_zero, List.getElem_cons_succ, List.setIfInBounds_toArray, List.set_cons_zero, List.set_cons_succ]
            refine wpAnyH_ready (rs := [3]) (by kernel_rfl) (by simp) ?_
            refine AllReadyH.cons rfl (fun K3 hK3 => ?_) AllReadyH.nil
            go_simp
            have hmy := mayR_calls ⟨1, key, y, (d : Int)⟩ w9.drew (rdv_keep HYY.out.2.1 HYY.out.2.2 (H79.out.trans (SpU.only_b ((Below.refl _ _).drew) : Only (fun k => k < w6.heap.size) w9 w9.drew) (fun q e => .inl e))) HSM.out.1
            rw [show mayP (peOf ⟨1, key, y, (d : Int)⟩) = true from HMAY.out] at hmy
            unfold evV at hmy
            dsimp only at hmy
            refine hmy.mono ?_
            clear hmy
            rintro e wM ⟨rfl, bM⟩
            have HEM := Lib.hid (HEd.out.below bM)
            obtain ⟨zf0, zf1, zf2, zf3, zf4, zf5, zf6, zf7⟩ := frees HEM.out.z
            obtain ⟨zc0, zc1, zc2, zc3, zc4, zc5, zc6, zc7⟩ := HEM.out.z.cells
            refine hK3.out _ _ (eb_of HEM.out.e) (fun hHeld => ?_)
            clear hK3 K3
            try simp only [Act.put, List.getElem_toArray, List.getElem_cons_zero, List.getElem_cons_succ, List.setIfInBounds_toArray, List.set_cons_zero, List.set_cons_succ]
            refine wpAnyH_ready (rs := [4]) (by kernel_rfl) (by simp) ?_
            refine AllReadyH.cons rfl (fun K4 hK4 => ?_) AllReadyH.nil
            go_simp
            refine hK4.out _ _ (eb_of (HEM.out.e.only HEM.out.putR.2.2 (fun h => absurd h (Nat.ne_of_gt HEM.out.le)))) (fun hHeld => ?_)
            clear hK4 K4
            try simp only [Act.put, List.getElem_toArray, List.getElem_cons_zero, List.getElem_cons_succ, List.setIfInBounds_toArray, List.set_cons_zero, List.set_cons_succ]
            refine wpAnyH_take (i := 5) (v := ?_) rfl (by kernel_rfl) (by kernel_rfl) (by kernel_rfl) (fun _ _ _ h => h) (Or.inl ⟨by rfl, ?_⟩) (by assumption) ?_
            rotate_left
            · intro wz hSw
              (try dsimp only at hSw)
              first
                | (go_simp; done)
                | (go_simp; with_reducible rfl)
            try simp only [Act.put, List.getElem_toArray, List.getElem_cons_zero, List.getElem_cons_succ, List.setIfInBounds_toArray, List.set_cons_zero, List.set_cons_succ]
            refine wpAnyH_take (i := 6) (v := ?_) rfl (by kernel_rfl) (by kernel_rfl) (by kernel_rfl) (fun _ _ _ h => h) (Or.inl ⟨by rfl, ?_⟩) (by assumption) ?_
            rotate_left
            · intro wz hSw
              (try dsimp only at hSw)
              first
                | (go_simp; done)
                | (go_simp; with_reducible rfl)
            try simp only [Act.put, List.getElem_toArray, List.getElem_cons_zero, List.getElem_cons_succ, List.setIfInBounds_toArray, List.set_cons_zero, List.set_cons_succ]
            refine wpAnyH_done (by kernel_rfl) ?_ _
            clear hHeld
            have q := HEM.out.putR
            unfold putAll at q
            obtain ⟨wF, hF⟩ : ∃ wF, (((((((wM.setCell ⟨w.heap.size, 0, none⟩ (.int .i64 1)).setCell ⟨w.heap.size, 1, none⟩ (.string key)).setCell ⟨w.heap.size, 2, none⟩ (.int .i64 y.kind)).setCell ⟨w.heap.size, 3, none⟩ (.string y.text)).setCell ⟨w.heap.size, 4, none⟩ (.slice y.LA y.ln y.lc)).setCell ⟨w.heap.size, 5, none⟩ (.slice y.FA y.fn y.fc)).setCell ⟨w.heap.size, 6, none⟩ (.slice y.KA y.kn y.kc)).setCell ⟨w.heap.size, 7, none⟩ (.int .i64 (d : Int)) = wF := ⟨_, rfl⟩
            rw [hF] at q ⊢
            clear hF
            obtain ⟨qo, qe, qz⟩ := q
            go_wp2_with fail
            obtain ⟨t0, t1, t2, t3, t4, t5, t6, t7⟩ := qe.cells
            have qb : Below w.heap.size w wF := qo.below (Nat.le_refl _) (fun q e => e.elim)
            refine bodyPost_ret (v := .tuple #[evV ⟨1, key, y, (d : Int)⟩, .string s5, .bool true]) (by simp [results, Tryz.f39, evV, go_sem, t0, t1, t2, t3, t4, t5, t6, t7]) rfl ?_
            refine ⟨_, _, _, rfl, qb, fun h => (by rw [HN.out] at h; cases h), fun p r h => ?_⟩
            rw [HN.out] at h
            injection h with h
            injection h with h1 h2
            subst h1 h2
            refine ⟨rfl, rfl, (by unfold peOf; rw [HSM.out.2]), rdv_keep HYY.out.2.1 HYY.out.2.2 (((H79.out.trans (SpU.only_b ((Below.refl _ _).drew) : Only (fun k => k < w6.heap.size) w9 w9.drew) (fun q e => .inl e)).trans (SpU.only_b bM : Only (fun k => k < w6.heap.size) w9.drew wM) (fun q e => .inl e)).trans qz (fun q e => .inl (by rw [show q = w.heap.size from e]; exact Nat.lt_of_lt_of_le HE9.out.le (Nat.le_of_lt HZ.out.1)))), ?_, HSM.out.1⟩
            obtain ⟨n1, n2, n3⟩ := HYY.out.2.2
            have hle : w.heap.size ≤ w6.heap.size := Nat.le_of_lt (Nat.lt_trans HE9.out.le HZ.out.1)
            exact ⟨fun ad e => Nat.le_trans hle (n1 ad e), fun ad e => Nat.le_trans hle (n2 ad e), fun ad e => Nat.le_trans hle (n3 ad e)⟩
theorem take_calls (s : ByteArray) (w : World) (hs : s.size ≤ 100000000) (hne : s.size ≠ 0) :
    Calls Tryz.prog 39 #[.string s] w (TkPost s w) := by
  have hz : s.data.toList.length = s.size := by rw [Array.length_toList]; rfl
  cases hl : s.data.toList with
  | nil => rw [hl] at hz; exact absurd hz.symm hne
  | cons b t =>
    by_cases h4 : b = 4
    · subst h4; exact tk_4 s t w hs hl
    by_cases h2 : b = 2
    · subst h2; exact tk_2 s t w hs hl
    by_cases h3 : b = 3
    · subst h3; exact tk_3 s t w hs hl
    by_cases h1 : b = 1
    · subst h1; exact tk_1 s t w hs hl
    exact tk_0 s t w hs b h1 h2 h3 h4 hl
end Go.Proofs.YtgmnnpbbiejbnaaGreat.EfN
