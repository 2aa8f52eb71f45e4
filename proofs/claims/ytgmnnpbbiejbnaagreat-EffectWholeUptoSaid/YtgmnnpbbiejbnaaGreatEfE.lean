/-
  The program's reader of effects: one effect. Conditions: as stated.
-/
import Derived.Test.YtgmnnpbbiejbnaaGreatEfD
set_option maxRecDepth 100000
set_option linter.unusedSimpArgs false
set_option linter.unusedVariables false
namespace Go.Proofs.YtgmnnpbbiejbnaaGreat.EfE
open Go.RowKit Go.Proofs.YtgmnnpbbiejbnaaGreat.Mem Go.Proofs.YtgmnnpbbiejbnaaGreat.VaA Go.Proofs.YtgmnnpbbiejbnaaGreat.VaC Go.Proofs.YtgmnnpbbiejbnaaGreat.VaE Go.Proofs.YtgmnnpbbiejbnaaGreat.VaH Go.Proofs.YtgmnnpbbiejbnaaGreat.VaI Go.Proofs.YtgmnnpbbiejbnaaGreat.VaX Go.Proofs.YtgmnnpbbiejbnaaGreat.DuA Go.Proofs.YtgmnnpbbiejbnaaGreat.SpA Go.Proofs.YtgmnnpbbiejbnaaGreat.SpB Go.Proofs.YtgmnnpbbiejbnaaGreat.SpC Go.Proofs.YtgmnnpbbiejbnaaGreat.SpD Go.Proofs.YtgmnnpbbiejbnaaGreat.SpE Go.Proofs.YtgmnnpbbiejbnaaGreat.SpF Go.Proofs.YtgmnnpbbiejbnaaGreat.SpG Go.Proofs.YtgmnnpbbiejbnaaGreat.EfA Go.Proofs.YtgmnnpbbiejbnaaGreat.EfB Go.Proofs.YtgmnnpbbiejbnaaGreat.EfD
open Go.Proofs.YtgmnnpbbiejbnaaGreat.VaP (unle unle_lt)
open Go.Proofs.YtgmnnpbbiejbnaaGreat.VbA (decD)
open Go.Proofs.YtgmnnpbbiejbnaaGreat.VbB (NwW DecPost)

/-- The effect with which bytes begin, and what stands behind it. -/
def eff1 (s : ByteArray) : Option (PE × ByteArray) :=
  match s.data.toList with
  | [] => none
  | b :: _ =>
    if b = 4 then some (⟨4, ⟨#[]⟩, pv0, 0⟩, s.extract 1 s.size) else
    let n := numP (s.extract 1 s.size) false
    let k := cutP n.2.1 n.2.2 n.1
    if b = 2 then (if k.2.2 = true then none else some (⟨2, k.1, pv0, 0⟩, k.2.1)) else
    let d := numP k.2.1 k.2.2
    if d.2.2 = true ∨ 9007199254740992 < d.1 then none
    else if b = 3 then some (⟨3, k.1, pv0, (d.1 : Nat)⟩, d.2.1)
    else if b = 1 then (if (decD d.2.1).ok = true then some (⟨1, k.1, pvOf (decD d.2.1).v, (d.1 : Nat)⟩, d.2.1.extract (decD d.2.1).st.k d.2.1.size) else none)
    else none
/-- What is known of the reader and of the boxes meanwhile. -/
structure Es (w : World) (g eb : Nat) (s : ByteArray) (bad : Bool) (kd : Int) (key : ByteArray) (x : VV) (due : Int) (wz : World) : Prop where
  o : Only (fun k => k = g) w wz
  r : Rr wz g s bad
  e : Be wz eb kd key x due
  z : Be wz w.heap.size 0 ⟨#[]⟩ vv0 0
  le : w.heap.size < eb
  gl : g < w.heap.size
section
variable {w wz w' : World} {g eb : Nat} {kd due : Int} {key s s' : ByteArray} {x : VV} {bad bad' : Bool}
theorem Es.turn (h : Es w g eb s bad kd key x due wz) (r : Rr w' g s' bad') (o : Only (fun k => k = g) wz w') : Es w g eb s' bad' kd key x due w' := by
  have h1 := h.le
  have h2 := h.gl
  exact ⟨h.o.trans o (fun q e => .inl e), r, h.e.only o (by show ¬ eb = g; omega), h.z.only o (by show ¬ w.heap.size = g; omega), h.le, h.gl⟩
theorem Es.below (h : Es w g eb s bad kd key x due wz) (hb : Below wz.heap.size wz w') : Es w g eb s bad kd key x due w' :=
  have o : Only (fun _ => False) wz w' := SpU.only_b hb
  ⟨h.o.trans o (fun q e => e.elim), h.r.only o id, h.e.only o id, h.z.only o id, h.le, h.gl⟩
theorem Es.putE (h : Es w g eb s bad kd key x due wz) (j : Nat) (u : Value) {key' : ByteArray} {x' : VV} {due' : Int} (he : Be (wz.setCell ⟨eb, j, none⟩ u) eb kd key' x' due') : Es w g eb s bad kd key' x' due' (wz.setCell ⟨eb, j, none⟩ u) := by
  have h1 := h.le
  have h2 := h.gl
  have o : Only (fun k => k = eb) wz (wz.setCell ⟨eb, j, none⟩ u) := put_g wz j u
  exact ⟨h.o.put (p := ⟨eb, j, none⟩) (.inr (Nat.le_of_lt h.le)) u, h.r.only o (by show ¬ g = eb; omega), he, h.z.only o (by show ¬ w.heap.size = eb; omega), h.le, h.gl⟩
theorem Es.put1 (h : Es w g eb s bad kd key x due wz) (k : ByteArray) : Es w g eb s bad kd k x due (wz.setCell ⟨eb, 1, none⟩ (.string k)) := h.putE 1 _ (h.e.put1 k)
theorem Es.put7 (h : Es w g eb s bad kd key x due wz) (d : Int) : Es w g eb s bad kd key x d (wz.setCell ⟨eb, 7, none⟩ (.int .i64 d)) := h.putE 7 _ (h.e.put7 d)
theorem Es.putB (h : Es w g eb s bad kd key x due wz) (c : Bool) : Es w g eb s c kd key x due (wz.setCell ⟨g, 1, none⟩ (.bool c)) := h.turn (h.r.put1 c) (put_g wz 1 _)
end
theorem numP_size (s : ByteArray) (bad : Bool) : (numP s bad).2.1.size ≤ s.size := by
  unfold numP; split
  · exact Nat.le_refl _
  · show (s.extract _ _).size ≤ _; rw [ByteArray.size_extract]; omega
theorem cutP_size (s : ByteArray) (bad : Bool) (n : Nat) : (cutP s bad n).2.1.size ≤ s.size ∧ (cutP s bad n).1.size ≤ s.size := by
  unfold cutP; split
  · exact ⟨Nat.le_refl _, Nat.zero_le _⟩
  · exact ⟨by show (s.extract _ _).size ≤ _; rw [ByteArray.size_extract]; omega, by show (s.extract _ _).size ≤ _; rw [ByteArray.size_extract]; omega⟩
theorem numP_lt (s : ByteArray) (bad : Bool) : (numP s bad).1 ≤ 18446744073709551615 := by
  unfold numP; split
  · exact Nat.zero_le _
  · rename_i h
    have := unle_lt (s.extract 0 8).data.toList
    have hl : (s.extract 0 8).data.toList.length = 8 := by rw [Array.length_toList]; show (s.extract 0 8).size = 8; rw [ByteArray.size_extract]; have : ¬ s.size < 8 := fun e => h (.inr e); omega
    rw [hl] at this
    show unle _ ≤ _
    have h2 : (256 : Nat) ^ 8 = 18446744073709551616 := by decide
    omega
theorem first_of {s : ByteArray} {b : UInt8} {t : List UInt8} (h : s.data.toList = b :: t) : cutP s false 1 = (⟨#[b]⟩, s.extract 1 s.size, false) := by
  have hz : s.size = t.length + 1 := by
    have h1 : s.data.toList.length = s.size := by rw [Array.length_toList]; rfl
    rw [h, List.length_cons] at h1
    omega
  unfold cutP
  rw [if_neg (fun h1 => h1.elim (fun e => by cases e) (fun e => by omega))]
  congr 1
  have e : (s.extract 0 1).data.toList = [b] := by
    rw [show (s.extract 0 1).data.toList = (s.data.toList.drop 0).take (1 - 0) from by rw [ByteArray.data_extract, Array.toList_extract]]
    rw [h]; rfl
  exact ByteArray.ext (Array.toList_inj.1 e)
/-- What is handed back. -/
def putAll (w : World) (b : Nat) (kd : Int) (key : ByteArray) (x : VV) (due : Int) : World := (((((((w.setCell ⟨b, 0, none⟩ (.int .i64 kd)).setCell ⟨b, 1, none⟩ (.string key)).setCell ⟨b, 2, none⟩ (.int .i64 x.kind)).setCell ⟨b, 3, none⟩ (.string x.text)).setCell ⟨b, 4, none⟩ (.slice x.LA x.ln x.lc)).setCell ⟨b, 5, none⟩ (.slice x.FA x.fn x.fc)).setCell ⟨b, 6, none⟩ (.slice x.KA x.kn x.kc)).setCell ⟨b, 7, none⟩ (.int .i64 due)
theorem Es.putR {w wz : World} {g eb : Nat} {kd due : Int} {key s : ByteArray} {x : VV} {bad : Bool} (h : Es w g eb s bad kd key x due wz) : Only (fun k => k = g) w (putAll wz w.heap.size kd key x due) ∧ Rr (putAll wz w.heap.size kd key x due) g s bad ∧ Be (putAll wz w.heap.size kd key x due) w.heap.size kd key x due := by
  have hz := h.z
  have hgl := h.gl
  have o : Only (fun k => k = w.heap.size) wz (putAll wz w.heap.size kd key x due) := by
    unfold putAll
    exact ((((((((Only.refl (fun k => k = w.heap.size) wz).put (p := ⟨w.heap.size, 0, none⟩) (.inl rfl) _).put (p := ⟨w.heap.size, 1, none⟩) (.inl rfl) _).put (p := ⟨w.heap.size, 2, none⟩) (.inl rfl) _).put (p := ⟨w.heap.size, 3, none⟩) (.inl rfl) _).put (p := ⟨w.heap.size, 4, none⟩) (.inl rfl) _).put (p := ⟨w.heap.size, 5, none⟩) (.inl rfl) _).put (p := ⟨w.heap.size, 6, none⟩) (.inl rfl) _).put (p := ⟨w.heap.size, 7, none⟩) (.inl rfl) _
  refine ⟨h.o.trans o (fun q e => .inr (by rw [show q = w.heap.size from e]; exact Nat.le_refl _)), h.r.only o (by show ¬ g = w.heap.size; omega), ?_⟩
  unfold Be putAll at *
  simp [World.setCell, Array.getElem?_modify, hz]
/-- All its memory lies from there on. -/
def NwV (B : Nat) (x : VV) : Prop := VaT.Nw B x.LA ∧ VaT.Nw B x.FA ∧ VaT.Nw B x.KA
theorem nwv0 (B : Nat) : NwV B vv0 := ⟨VbB.nw_none _, VbB.nw_none _, VbB.nw_none _⟩
def EffPost (g : Nat) (s : ByteArray) (w : World) (e : Ending) (w' : World) : Prop :=
  ∃ ev : EV, e = .returned (evV ev) ∧ Only (fun k => k = g) w w' ∧ (eff1 s = none → ∃ s', Rr w' g s' true) ∧
    (∀ p rest, eff1 s = some (p, rest) → Rr w' g rest false ∧ peOf ev = p ∧ RdV w' ev.x ∧ NwV w.heap.size ev.x ∧ Sm ev.x)
theorem ix1 (b : UInt8) (h : 0 < (⟨#[b]⟩ : ByteArray).size) : wrap64 ((((⟨#[b]⟩ : ByteArray)[0]'h).toNat : Nat) : Int) = (b.toNat : Int) := by
  show wrap64 ((b.toNat : Nat) : Int) = _
  have := b.toNat_lt
  unfold wrap64
  omega
theorem sm0 : Sm vv0 := ⟨by decide, by decide, by decide, by decide, by decide, by decide, by decide, fun y hy => by cases hy⟩
set_option maxHeartbeats 8000000 in
theorem eff_4 (g : Nat) (s : ByteArray) (t : List UInt8) (w : World) (h : Rr w g s false) (hs : s.size ≤ 100000000) (hl : s.data.toList = 4 :: t) :
    Calls Tryz.prog 38 #[.pointer (some ⟨g, 0, none⟩)] w (EffPost g s w) := by
  obtain ⟨s1, hs1⟩ : ∃ s1, s.extract 1 s.size = s1 := ⟨_, rfl⟩
  have hz1 : s1.size ≤ 100000000 := by rw [← hs1, ByteArray.size_extract]; omega
  have hct := cut_calls g 1 s false (w.alloc (.cells #[.int .i64 0, .string ⟨#[]⟩, .int .i64 0, .string ⟨#[]⟩, .slice none 0 0, .slice none 0 0, .slice none 0 0, .int .i64 0] 44)) (h.only (Only.alloc (Only.refl (fun _ => False) w) _) id) (by decide) (by omega)
  rw [first_of hl, hs1] at hct
  dsimp only at hct
  obtain ⟨y0, hy0⟩ : ∃ y, y = vv0 := ⟨_, rfl⟩
  have hef : eff1 s = some (⟨4, ⟨#[]⟩, pv0, 0⟩, s1) := by unfold eff1; rw [hl]; simp; exact hs1
  have HMAY := Lib.hid (show mayP (peOf ⟨4, ⟨#[]⟩, y0, 0⟩) = true by rw [hy0]; rfl)
  have HN := Lib.hid hef
  have H := Lib.hid (And.intro h (And.intro hs hl))
  have HY := Lib.hid hy0
  have hnu4 : ((4 : UInt8).toNat : Int) = 4 := rfl
  clear h hs hl hef hs1 hz1 hy0
  go_enter Tryz.func38, Tryz.ntmps38
  go_wp2_with fail
  refine hct.mono ?_
  clear hct
  rintro e w1 ⟨rfl, r1, o1⟩
  go_upto_region 2 with fail
  generalize hw2 : w1.alloc _ = w2
  have E2 : Es w g w1.heap.size s1 false 4 ⟨#[]⟩ y0 0 w2 := by
    rw [HY.out]
    have hb : Be w2 w1.heap.size 4 ⟨#[]⟩ vv0 0 := by
      rw [← hw2]
      refine (heap_alloc_new w1 _).trans (congrArg some ?_)
      rw [ix1]
      rfl
    have o2 : Only (fun _ => False) w1 w2 := by rw [← hw2]; exact Only.alloc (Only.refl _ _) _
    have hz := heap_alloc_new w (.cells #[.int .i64 0, .string ⟨#[]⟩, .int .i64 0, .string ⟨#[]⟩, .slice none 0 0, .slice none 0 0, .slice none 0 0, .int .i64 0] 44)
    have hgl := H.out.1.lt
    have hsz : (w.alloc (.cells #[.int .i64 0, .string ⟨#[]⟩, .int .i64 0, .string ⟨#[]⟩, .slice none 0 0, .slice none 0 0, .slice none 0 0, .int .i64 0] 44)).heap.size = w.heap.size + 1 := World.size_alloc ..
    refine ⟨((Only.alloc (Only.refl (fun k => k = g) w) _).trans o1 (fun q e => .inl e)).trans o2 (fun q e => e.elim), r1.only o2 id, hb, ?_, ?_, hgl⟩
    · exact Be.only (Be.only (S := fun k => k = g) hz o1 (by show ¬ w.heap.size = g; omega)) o2 id
    · have := o1.size; omega
  generalize w1.heap.size = eb at E2 ⊢
  have HE2 := Lib.hid E2
  clear hw2 r1 o1 E2
  obtain ⟨c0, c1⟩ := HE2.out.r.cells
  have f1 := HE2.out.r.free 1
  obtain ⟨x0, x1, x2, x3, x4, x5, x6, x7⟩ := HE2.out.e.cells
  have h0 := HE2.out.e.free 0
  have h1 := HE2.out.e.free 1
  have h2 := HE2.out.e.free 2
  have h3 := HE2.out.e.free 3
  have h4 := HE2.out.e.free 4
  have h5 := HE2.out.e.free 5
  have h6 := HE2.out.e.free 6
  have h7 := HE2.out.e.free 7
  have hmy := may_calls ⟨4, ⟨#[]⟩, y0, 0⟩ w2 (by rw [HY.out]; exact rdv0 _) (by rw [HY.out]; exact sm0)
  rw [show mayP (peOf ⟨4, ⟨#[]⟩, y0, 0⟩) = true from HMAY.out] at hmy
  unfold evV at hmy
  dsimp only at hmy
  go_wp2_with fail
  refine hmy.mono ?_
  clear hmy
  rintro e w3 ⟨rfl, bm⟩
  have HE3 := Lib.hid (HE2.out.below bm)
  have HBM := Lib.hid bm
  clear bm HE2
  clear c0 c1 f1 x0 x1 x2 x3 x4 x5 x6 x7 h0 h1 h2 h3 h4 h5 h6 h7
  obtain ⟨c0, c1⟩ := HE3.out.r.cells
  have f1 := HE3.out.r.free 1
  obtain ⟨x0, x1, x2, x3, x4, x5, x6, x7⟩ := HE3.out.e.cells
  have h0 := HE3.out.e.free 0
  have h1 := HE3.out.e.free 1
  have h2 := HE3.out.e.free 2
  have h3 := HE3.out.e.free 3
  have h4 := HE3.out.e.free 4
  have h5 := HE3.out.e.free 5
  have h6 := HE3.out.e.free 6
  have h7 := HE3.out.e.free 7
  go_upto_region 14 with fail
  generalize hW90 : w3.setCell ⟨g, 1, none⟩ (.bool false) = w90
  have HE90 := HE3.out.putB false
  rw [hW90] at HE90
  have HE90 := Lib.hid HE90
  clear hW90 HE3
  clear c0 c1 f1 x0 x1 x2 x3 x4 x5 x6 x7 h0 h1 h2 h3 h4 h5 h6 h7
  obtain ⟨c0, c1⟩ := HE90.out.r.cells
  have f1 := HE90.out.r.free 1
  obtain ⟨x0, x1, x2, x3, x4, x5, x6, x7⟩ := HE90.out.e.cells
  have h0 := HE90.out.e.free 0
  have h1 := HE90.out.e.free 1
  have h2 := HE90.out.e.free 2
  have h3 := HE90.out.e.free 3
  have h4 := HE90.out.e.free 4
  have h5 := HE90.out.e.free 5
  have h6 := HE90.out.e.free 6
  have h7 := HE90.out.e.free 7
  have zf0 := HE90.out.z.free 0
  have zf1 := HE90.out.z.free 1
  have zf2 := HE90.out.z.free 2
  have zf3 := HE90.out.z.free 3
  have zf4 := HE90.out.z.free 4
  have zf5 := HE90.out.z.free 5
  have zf6 := HE90.out.z.free 6
  have zf7 := HE90.out.z.free 7
  obtain ⟨zc0, zc1, zc2, zc3, zc4, zc5, zc6, zc7⟩ := HE90.out.z.cells
  go_wp2_with fail
  have q := HE90.out.putR
  unfold putAll at q
  obtain ⟨wF, hF⟩ : ∃ wF, (((((((w90.setCell ⟨w.heap.size, 0, none⟩ (.int .i64 4)).setCell ⟨w.heap.size, 1, none⟩ (.string ⟨#[]⟩)).setCell ⟨w.heap.size, 2, none⟩ (.int .i64 y0.kind)).setCell ⟨w.heap.size, 3, none⟩ (.string y0.text)).setCell ⟨w.heap.size, 4, none⟩ (.slice y0.LA y0.ln y0.lc)).setCell ⟨w.heap.size, 5, none⟩ (.slice y0.FA y0.fn y0.fc)).setCell ⟨w.heap.size, 6, none⟩ (.slice y0.KA y0.kn y0.kc)).setCell ⟨w.heap.size, 7, none⟩ (.int .i64 0) = wF := ⟨_, rfl⟩
  rw [hF] at q ⊢
  clear hF
  obtain ⟨qo, qr, qe⟩ := q
  obtain ⟨t0, t1, t2, t3, t4, t5, t6, t7⟩ := qe.cells
  refine bodyPost_ret (v := evV ⟨4, ⟨#[]⟩, y0, 0⟩) (by simp [results, Tryz.f38, evV, go_sem, t0, t1, t2, t3, t4, t5, t6, t7]) rfl ?_
  refine ⟨_, rfl, qo, fun h => (by rw [HN.out] at h; cases h), fun p rest h => ?_⟩
  rw [HN.out] at h
  injection h with h
  injection h with h1 h2
  subst h1 h2
  exact ⟨qr, (by unfold peOf; rw [HY.out]; rfl), (by rw [HY.out]; exact rdv0 _), (by rw [HY.out]; exact nwv0 _), (by rw [HY.out]; exact sm0)⟩
set_option maxHeartbeats 8000000 in
theorem eff_2 (g : Nat) (s : ByteArray) (t : List UInt8) (w : World) (h : Rr w g s false) (hs : s.size ≤ 100000000) (hl : s.data.toList = 2 :: t) :
    Calls Tryz.prog 38 #[.pointer (some ⟨g, 0, none⟩)] w (EffPost g s w) := by
  obtain ⟨s1, hs1⟩ : ∃ s1, s.extract 1 s.size = s1 := ⟨_, rfl⟩
  have hz1 : s1.size ≤ 100000000 := by rw [← hs1, ByteArray.size_extract]; omega
  have hct := cut_calls g 1 s false (w.alloc (.cells #[.int .i64 0, .string ⟨#[]⟩, .int .i64 0, .string ⟨#[]⟩, .slice none 0 0, .slice none 0 0, .slice none 0 0, .int .i64 0] 44)) (h.only (Only.alloc (Only.refl (fun _ => False) w) _) id) (by decide) (by omega)
  rw [first_of hl, hs1] at hct
  dsimp only at hct
  obtain ⟨y0, hy0⟩ : ∃ y, y = vv0 := ⟨_, rfl⟩
  obtain ⟨n, s2, bd2, hnm⟩ : ∃ n s2 bd2, numP s1 false = (n, s2, bd2) := ⟨_, _, _, rfl⟩
  obtain ⟨key, s3, bd3, hkm⟩ : ∃ key s3 bd3, cutP s2 bd2 n = (key, s3, bd3) := ⟨_, _, _, rfl⟩
  have hnl := numP_lt s1 false
  have hz2 := numP_size s1 false
  rw [hnm] at hnl hz2
  have hz3 := cutP_size s2 bd2 n
  rw [hkm] at hz3
  dsimp only at hnl hz2 hz3
  obtain ⟨hz3, hzk⟩ := hz3
  cases bd3 with
  | true =>
    have hef : eff1 s = none := by unfold eff1; rw [hl]; simp [hs1, hnm, hkm]
    have HN := Lib.hid hef
    have H := Lib.hid (And.intro h (And.intro hs hl))
    have HY := Lib.hid hy0
    clear h hs hl hef hs1 hy0
    go_enter Tryz.func38, Tryz.ntmps38
    go_wp2_with fail
    refine hct.mono ?_
    clear hct
    rintro e w1 ⟨rfl, r1, o1⟩
    go_upto_region 2 with fail
    generalize hw2 : w1.alloc _ = w2
    have E2 : Es w g w1.heap.size s1 false 2 ⟨#[]⟩ y0 0 w2 := by
      rw [HY.out]
      have hb : Be w2 w1.heap.size 2 ⟨#[]⟩ vv0 0 := by
        rw [← hw2]
        refine (heap_alloc_new w1 _).trans (congrArg some ?_)
        rw [ix1]
        rfl
      have o2 : Only (fun _ => False) w1 w2 := by rw [← hw2]; exact Only.alloc (Only.refl _ _) _
      have hz := heap_alloc_new w (.cells #[.int .i64 0, .string ⟨#[]⟩, .int .i64 0, .string ⟨#[]⟩, .slice none 0 0, .slice none 0 0, .slice none 0 0, .int .i64 0] 44)
      have hgl := H.out.1.lt
      have hsz : (w.alloc (.cells #[.int .i64 0, .string ⟨#[]⟩, .int .i64 0, .string ⟨#[]⟩, .slice none 0 0, .slice none 0 0, .slice none 0 0, .int .i64 0] 44)).heap.size = w.heap.size + 1 := World.size_alloc ..
      refine ⟨((Only.alloc (Only.refl (fun k => k = g) w) _).trans o1 (fun q e => .inl e)).trans o2 (fun q e => e.elim), r1.only o2 id, hb, ?_, ?_, hgl⟩
      · exact Be.only (Be.only (S := fun k => k = g) hz o1 (by show ¬ w.heap.size = g; omega)) o2 id
      · have := o1.size; omega
    generalize w1.heap.size = eb at E2 ⊢
    have HE2 := Lib.hid E2
    clear hw2 r1 o1 E2
    obtain ⟨c0, c1⟩ := HE2.out.r.cells
    have f1 := HE2.out.r.free 1
    obtain ⟨x0, x1, x2, x3, x4, x5, x6, x7⟩ := HE2.out.e.cells
    have h0 := HE2.out.e.free 0
    have h1 := HE2.out.e.free 1
    have h2 := HE2.out.e.free 2
    have h3 := HE2.out.e.free 3
    have h4 := HE2.out.e.free 4
    have h5 := HE2.out.e.free 5
    have h6 := HE2.out.e.free 6
    have h7 := HE2.out.e.free 7
    have hnu := number_calls g s1 false _ HE2.out.r (by omega)
    rw [hnm] at hnu
    go_wp2_with fail
    refine hnu.mono ?_
    clear hnu
    rintro e w3 ⟨rfl, r, o⟩
    have HE3 := Lib.hid (HE2.out.turn r o)
    clear r o HE2
    clear c0 c1 f1 x0 x1 x2 x3 x4 x5 x6 x7 h0 h1 h2 h3 h4 h5 h6 h7
    obtain ⟨c0, c1⟩ := HE3.out.r.cells
    have f1 := HE3.out.r.free 1
    obtain ⟨x0, x1, x2, x3, x4, x5, x6, x7⟩ := HE3.out.e.cells
    have h0 := HE3.out.e.free 0
    have h1 := HE3.out.e.free 1
    have h2 := HE3.out.e.free 2
    have h3 := HE3.out.e.free 3
    have h4 := HE3.out.e.free 4
    have h5 := HE3.out.e.free 5
    have h6 := HE3.out.e.free 6
    have h7 := HE3.out.e.free 7
    have hcu := cut_calls g n s2 bd2 _ HE3.out.r (by omega) (by omega)
    rw [hkm] at hcu
    go_wp2_with fail
    refine hcu.mono ?_
    clear hcu
    rintro e w4 ⟨rfl, r, o⟩
    have HE4 := Lib.hid (HE3.out.turn r o)
    clear r o HE3
    clear c0 c1 f1 x0 x1 x2 x3 x4 x5 x6 x7 h0 h1 h2 h3 h4 h5 h6 h7
    obtain ⟨c0, c1⟩ := HE4.out.r.cells
    have f1 := HE4.out.r.free 1
    obtain ⟨x0, x1, x2, x3, x4, x5, x6, x7⟩ := HE4.out.e.cells
    have h0 := HE4.out.e.free 0
    have h1 := HE4.out.e.free 1
    have h2 := HE4.out.e.free 2
    have h3 := HE4.out.e.free 3
    have h4 := HE4.out.e.free 4
    have h5 := HE4.out.e.free 5
    have h6 := HE4.out.e.free 6
    have h7 := HE4.out.e.free 7
    go_upto_region 4 with fail
    generalize hW5 : w4.setCell ⟨eb, 1, none⟩ (.string key) = w5
    have HE5 := HE4.out.put1 key
    rw [hW5] at HE5
    have HE5 := Lib.hid HE5
    clear hW5 HE4
    clear c0 c1 f1 x0 x1 x2 x3 x4 x5 x6 x7 h0 h1 h2 h3 h4 h5 h6 h7
    obtain ⟨c0, c1⟩ := HE5.out.r.cells
    have f1 := HE5.out.r.free 1
    obtain ⟨x0, x1, x2, x3, x4, x5, x6, x7⟩ := HE5.out.e.cells
    have h0 := HE5.out.e.free 0
    have h1 := HE5.out.e.free 1
    have h2 := HE5.out.e.free 2
    have h3 := HE5.out.e.free 3
    have h4 := HE5.out.e.free 4
    have h5 := HE5.out.e.free 5
    have h6 := HE5.out.e.free 6
    have h7 := HE5.out.e.free 7
    go_upto_region 14 with fail
    generalize hW90 : w5.setCell ⟨g, 1, none⟩ (.bool true) = w90
    have HE90 := HE5.out.putB true
    rw [hW90] at HE90
    have HE90 := Lib.hid HE90
    clear hW90 HE5
    clear c0 c1 f1 x0 x1 x2 x3 x4 x5 x6 x7 h0 h1 h2 h3 h4 h5 h6 h7
    obtain ⟨c0, c1⟩ := HE90.out.r.cells
    have f1 := HE90.out.r.free 1
    obtain ⟨x0, x1, x2, x3, x4, x5, x6, x7⟩ := HE90.out.e.cells
    have h0 := HE90.out.e.free 0
    have h1 := HE90.out.e.free 1
    have h2 := HE90.out.e.free 2
    have h3 := HE90.out.e.free 3
    have h4 := HE90.out.e.free 4
    have h5 := HE90.out.e.free 5
    have h6 := HE90.out.e.free 6
    have h7 := HE90.out.e.free 7
    have zf0 := HE90.out.z.free 0
    have zf1 := HE90.out.z.free 1
    have zf2 := HE90.out.z.free 2
    have zf3 := HE90.out.z.free 3
    have zf4 := HE90.out.z.free 4
    have zf5 := HE90.out.z.free 5
    have zf6 := HE90.out.z.free 6
    have zf7 := HE90.out.z.free 7
    obtain ⟨zc0, zc1, zc2, zc3, zc4, zc5, zc6, zc7⟩ := HE90.out.z.cells
    go_wp2_with fail
    have q := HE90.out.putR
    unfold putAll at q
    obtain ⟨wF, hF⟩ : ∃ wF, (((((((w90.setCell ⟨w.heap.size, 0, none⟩ (.int .i64 2)).setCell ⟨w.heap.size, 1, none⟩ (.string key)).setCell ⟨w.heap.size, 2, none⟩ (.int .i64 y0.kind)).setCell ⟨w.heap.size, 3, none⟩ (.string y0.text)).setCell ⟨w.heap.size, 4, none⟩ (.slice y0.LA y0.ln y0.lc)).setCell ⟨w.heap.size, 5, none⟩ (.slice y0.FA y0.fn y0.fc)).setCell ⟨w.heap.size, 6, none⟩ (.slice y0.KA y0.kn y0.kc)).setCell ⟨w.heap.size, 7, none⟩ (.int .i64 0) = wF := ⟨_, rfl⟩
    rw [hF] at q ⊢
    clear hF
    obtain ⟨qo, qr, qe⟩ := q
    obtain ⟨t0, t1, t2, t3, t4, t5, t6, t7⟩ := qe.cells
    refine bodyPost_ret (v := evV ⟨2, key, y0, 0⟩) (by simp [results, Tryz.f38, evV, go_sem, t0, t1, t2, t3, t4, t5, t6, t7]) rfl ?_
    exact ⟨_, rfl, qo, fun _ => ⟨_, qr⟩, fun p rest h => (by rw [HN.out] at h; cases h)⟩
  | false =>
    have hef : eff1 s = some (⟨2, key, pv0, 0⟩, s3) := by unfold eff1; rw [hl]; simp [hs1, hnm, hkm]
    have HN := Lib.hid hef
    have HMAY := Lib.hid (show mayP (peOf ⟨2, key, y0, 0⟩) = true by rw [hy0]; rfl)
    have H := Lib.hid (And.intro h (And.intro hs hl))
    have HY := Lib.hid hy0
    clear h hs hl hef hs1 hy0
    go_enter Tryz.func38, Tryz.ntmps38
    go_wp2_with fail
    refine hct.mono ?_
    clear hct
    rintro e w1 ⟨rfl, r1, o1⟩
    go_upto_region 2 with fail
    generalize hw2 : w1.alloc _ = w2
    have E2 : Es w g w1.heap.size s1 false 2 ⟨#[]⟩ y0 0 w2 := by
      rw [HY.out]
      have hb : Be w2 w1.heap.size 2 ⟨#[]⟩ vv0 0 := by
        rw [← hw2]
        refine (heap_alloc_new w1 _).trans (congrArg some ?_)
        rw [ix1]
        rfl
      have o2 : Only (fun _ => False) w1 w2 := by rw [← hw2]; exact Only.alloc (Only.refl _ _) _
      have hz := heap_alloc_new w (.cells #[.int .i64 0, .string ⟨#[]⟩, .int .i64 0, .string ⟨#[]⟩, .slice none 0 0, .slice none 0 0, .slice none 0 0, .int .i64 0] 44)
      have hgl := H.out.1.lt
      have hsz : (w.alloc (.cells #[.int .i64 0, .string ⟨#[]⟩, .int .i64 0, .string ⟨#[]⟩, .slice none 0 0, .slice none 0 0, .slice none 0 0, .int .i64 0] 44)).heap.size = w.heap.size + 1 := World.size_alloc ..
      refine ⟨((Only.alloc (Only.refl (fun k => k = g) w) _).trans o1 (fun q e => .inl e)).trans o2 (fun q e => e.elim), r1.only o2 id, hb, ?_, ?_, hgl⟩
      · exact Be.only (Be.only (S := fun k => k = g) hz o1 (by show ¬ w.heap.size = g; omega)) o2 id
      · have := o1.size; omega
    generalize w1.heap.size = eb at E2 ⊢
    have HE2 := Lib.hid E2
    clear hw2 r1 o1 E2
    obtain ⟨c0, c1⟩ := HE2.out.r.cells
    have f1 := HE2.out.r.free 1
    obtain ⟨x0, x1, x2, x3, x4, x5, x6, x7⟩ := HE2.out.e.cells
    have h0 := HE2.out.e.free 0
    have h1 := HE2.out.e.free 1
    have h2 := HE2.out.e.free 2
    have h3 := HE2.out.e.free 3
    have h4 := HE2.out.e.free 4
    have h5 := HE2.out.e.free 5
    have h6 := HE2.out.e.free 6
    have h7 := HE2.out.e.free 7
    have hnu := number_calls g s1 false _ HE2.out.r (by omega)
    rw [hnm] at hnu
    go_wp2_with fail
    refine hnu.mono ?_
    clear hnu
    rintro e w3 ⟨rfl, r, o⟩
    have HE3 := Lib.hid (HE2.out.turn r o)
    clear r o HE2
    clear c0 c1 f1 x0 x1 x2 x3 x4 x5 x6 x7 h0 h1 h2 h3 h4 h5 h6 h7
    obtain ⟨c0, c1⟩ := HE3.out.r.cells
    have f1 := HE3.out.r.free 1
    obtain ⟨x0, x1, x2, x3, x4, x5, x6, x7⟩ := HE3.out.e.cells
    have h0 := HE3.out.e.free 0
    have h1 := HE3.out.e.free 1
    have h2 := HE3.out.e.free 2
    have h3 := HE3.out.e.free 3
    have h4 := HE3.out.e.free 4
    have h5 := HE3.out.e.free 5
    have h6 := HE3.out.e.free 6
    have h7 := HE3.out.e.free 7
    have hcu := cut_calls g n s2 bd2 _ HE3.out.r (by omega) (by omega)
    rw [hkm] at hcu
    go_wp2_with fail
    refine hcu.mono ?_
    clear hcu
    rintro e w4 ⟨rfl, r, o⟩
    have HE4 := Lib.hid (HE3.out.turn r o)
    clear r o HE3
    clear c0 c1 f1 x0 x1 x2 x3 x4 x5 x6 x7 h0 h1 h2 h3 h4 h5 h6 h7
    obtain ⟨c0, c1⟩ := HE4.out.r.cells
    have f1 := HE4.out.r.free 1
    obtain ⟨x0, x1, x2, x3, x4, x5, x6, x7⟩ := HE4.out.e.cells
    have h0 := HE4.out.e.free 0
    have h1 := HE4.out.e.free 1
    have h2 := HE4.out.e.free 2
    have h3 := HE4.out.e.free 3
    have h4 := HE4.out.e.free 4
    have h5 := HE4.out.e.free 5
    have h6 := HE4.out.e.free 6
    have h7 := HE4.out.e.free 7
    go_upto_region 4 with fail
    generalize hW5 : w4.setCell ⟨eb, 1, none⟩ (.string key) = w5
    have HE5 := HE4.out.put1 key
    rw [hW5] at HE5
    have HE5 := Lib.hid HE5
    clear hW5 HE4
    clear c0 c1 f1 x0 x1 x2 x3 x4 x5 x6 x7 h0 h1 h2 h3 h4 h5 h6 h7
    obtain ⟨c0, c1⟩ := HE5.out.r.cells
    have f1 := HE5.out.r.free 1
    obtain ⟨x0, x1, x2, x3, x4, x5, x6, x7⟩ := HE5.out.e.cells
    have h0 := HE5.out.e.free 0
    have h1 := HE5.out.e.free 1
    have h2 := HE5.out.e.free 2
    have h3 := HE5.out.e.free 3
    have h4 := HE5.out.e.free 4
    have h5 := HE5.out.e.free 5
    have h6 := HE5.out.e.free 6
    have h7 := HE5.out.e.free 7
    have hmy := may_calls ⟨2, key, y0, 0⟩ w5 (by rw [HY.out]; exact rdv0 _) (by rw [HY.out]; exact sm0)
    rw [show mayP (peOf ⟨2, key, y0, 0⟩) = true from HMAY.out] at hmy
    unfold evV at hmy
    dsimp only at hmy
    go_wp2_with fail
    refine hmy.mono ?_
    clear hmy
    rintro e w6 ⟨rfl, bm⟩
    have HE6 := Lib.hid (HE5.out.below bm)
    have HBM := Lib.hid bm
    clear bm HE5
    clear c0 c1 f1 x0 x1 x2 x3 x4 x5 x6 x7 h0 h1 h2 h3 h4 h5 h6 h7
    obtain ⟨c0, c1⟩ := HE6.out.r.cells
    have f1 := HE6.out.r.free 1
    obtain ⟨x0, x1, x2, x3, x4, x5, x6, x7⟩ := HE6.out.e.cells
    have h0 := HE6.out.e.free 0
    have h1 := HE6.out.e.free 1
    have h2 := HE6.out.e.free 2
    have h3 := HE6.out.e.free 3
    have h4 := HE6.out.e.free 4
    have h5 := HE6.out.e.free 5
    have h6 := HE6.out.e.free 6
    have h7 := HE6.out.e.free 7
    go_upto_region 14 with fail
    generalize hW90 : w6.setCell ⟨g, 1, none⟩ (.bool false) = w90
    have HE90 := HE6.out.putB false
    rw [hW90] at HE90
    have HE90 := Lib.hid HE90
    clear hW90 HE6
    clear c0 c1 f1 x0 x1 x2 x3 x4 x5 x6 x7 h0 h1 h2 h3 h4 h5 h6 h7
    obtain ⟨c0, c1⟩ := HE90.out.r.cells
    have f1 := HE90.out.r.free 1
    obtain ⟨x0, x1, x2, x3, x4, x5, x6, x7⟩ := HE90.out.e.cells
    have h0 := HE90.out.e.free 0
    have h1 := HE90.out.e.free 1
    have h2 := HE90.out.e.free 2
    have h3 := HE90.out.e.free 3
    have h4 := HE90.out.e.free 4
    have h5 := HE90.out.e.free 5
    have h6 := HE90.out.e.free 6
    have h7 := HE90.out.e.free 7
    have zf0 := HE90.out.z.free 0
    have zf1 := HE90.out.z.free 1
    have zf2 := HE90.out.z.free 2
    have zf3 := HE90.out.z.free 3
    have zf4 := HE90.out.z.free 4
    have zf5 := HE90.out.z.free 5
    have zf6 := HE90.out.z.free 6
    have zf7 := HE90.out.z.free 7
    obtain ⟨zc0, zc1, zc2, zc3, zc4, zc5, zc6, zc7⟩ := HE90.out.z.cells
    go_wp2_with fail
    have q := HE90.out.putR
    unfold putAll at q
    obtain ⟨wF, hF⟩ : ∃ wF, (((((((w90.setCell ⟨w.heap.size, 0, none⟩ (.int .i64 2)).setCell ⟨w.heap.size, 1, none⟩ (.string key)).setCell ⟨w.heap.size, 2, none⟩ (.int .i64 y0.kind)).setCell ⟨w.heap.size, 3, none⟩ (.string y0.text)).setCell ⟨w.heap.size, 4, none⟩ (.slice y0.LA y0.ln y0.lc)).setCell ⟨w.heap.size, 5, none⟩ (.slice y0.FA y0.fn y0.fc)).setCell ⟨w.heap.size, 6, none⟩ (.slice y0.KA y0.kn y0.kc)).setCell ⟨w.heap.size, 7, none⟩ (.int .i64 0) = wF := ⟨_, rfl⟩
    rw [hF] at q ⊢
    clear hF
    obtain ⟨qo, qr, qe⟩ := q
    obtain ⟨t0, t1, t2, t3, t4, t5, t6, t7⟩ := qe.cells
    refine bodyPost_ret (v := evV ⟨2, key, y0, 0⟩) (by simp [results, Tryz.f38, evV, go_sem, t0, t1, t2, t3, t4, t5, t6, t7]) rfl ?_
    refine ⟨_, rfl, qo, fun h => (by rw [HN.out] at h; cases h), fun p rest h => ?_⟩
    rw [HN.out] at h
    injection h with h
    injection h with h1 h2
    subst h1 h2
    exact ⟨qr, (by unfold peOf; rw [HY.out]; rfl), (by rw [HY.out]; exact rdv0 _), (by rw [HY.out]; exact nwv0 _), (by rw [HY.out]; exact sm0)⟩
set_option maxHeartbeats 8000000 in
theorem eff_0 (g : Nat) (s : ByteArray) (t : List UInt8) (w : World) (h : Rr w g s false) (hs : s.size ≤ 100000000) (b : UInt8) (hb1 : b ≠ 1) (hb2 : b ≠ 2) (hb3 : b ≠ 3) (hb4 : b ≠ 4) (hl : s.data.toList = b :: t) :
    Calls Tryz.prog 38 #[.pointer (some ⟨g, 0, none⟩)] w (EffPost g s w) := by
  obtain ⟨s1, hs1⟩ : ∃ s1, s.extract 1 s.size = s1 := ⟨_, rfl⟩
  have hz1 : s1.size ≤ 100000000 := by rw [← hs1, ByteArray.size_extract]; omega
  have hct := cut_calls g 1 s false (w.alloc (.cells #[.int .i64 0, .string ⟨#[]⟩, .int .i64 0, .string ⟨#[]⟩, .slice none 0 0, .slice none 0 0, .slice none 0 0, .int .i64 0] 44)) (h.only (Only.alloc (Only.refl (fun _ => False) w) _) id) (by decide) (by omega)
  rw [first_of hl, hs1] at hct
  dsimp only at hct
  obtain ⟨y0, hy0⟩ : ∃ y, y = vv0 := ⟨_, rfl⟩
  obtain ⟨n, s2, bd2, hnm⟩ : ∃ n s2 bd2, numP s1 false = (n, s2, bd2) := ⟨_, _, _, rfl⟩
  obtain ⟨key, s3, bd3, hkm⟩ : ∃ key s3 bd3, cutP s2 bd2 n = (key, s3, bd3) := ⟨_, _, _, rfl⟩
  have hnl := numP_lt s1 false
  have hz2 := numP_size s1 false
  rw [hnm] at hnl hz2
  have hz3 := cutP_size s2 bd2 n
  rw [hkm] at hz3
  dsimp only at hnl hz2 hz3
  obtain ⟨hz3, hzk⟩ := hz3
  have q1 : ((b.toNat : Int) == 1) = false := by rw [beq_eq_false_iff_ne]; intro h; exact hb1 (UInt8.toNat_inj.1 (by have : (1 : UInt8).toNat = 1 := rfl; omega))
  have q2 : ((b.toNat : Int) == 2) = false := by rw [beq_eq_false_iff_ne]; intro h; exact hb2 (UInt8.toNat_inj.1 (by have : (2 : UInt8).toNat = 2 := rfl; omega))
  have q3 : ((b.toNat : Int) == 3) = false := by rw [beq_eq_false_iff_ne]; intro h; exact hb3 (UInt8.toNat_inj.1 (by have : (3 : UInt8).toNat = 3 := rfl; omega))
  have q4 : ((b.toNat : Int) == 4) = false := by rw [beq_eq_false_iff_ne]; intro h; exact hb4 (UInt8.toNat_inj.1 (by have : (4 : UInt8).toNat = 4 := rfl; omega))
  have q5 : ((b.toNat : Int) != 4) = true := by simp only [bne, q4]; rfl
  cases bd3 with
  | true =>
    have hef : eff1 s = none := by unfold eff1; rw [hl]; simp [hs1, hnm, hkm, hb1, hb2, hb3, hb4]
    have HN := Lib.hid hef
    clear hb1 hb2 hb3 hb4
    have H := Lib.hid (And.intro h (And.intro hs hl))
    have HY := Lib.hid hy0
    clear h hs hl hef hs1 hy0
    go_enter Tryz.func38, Tryz.ntmps38
    go_wp2_with fail
    refine hct.mono ?_
    clear hct
    rintro e w1 ⟨rfl, r1, o1⟩
    go_upto_region 2 with fail
    generalize hw2 : w1.alloc _ = w2
    have E2 : Es w g w1.heap.size s1 false (b.toNat : Int) ⟨#[]⟩ y0 0 w2 := by
      rw [HY.out]
      have hb : Be w2 w1.heap.size (b.toNat : Int) ⟨#[]⟩ vv0 0 := by
        rw [← hw2]
        refine (heap_alloc_new w1 _).trans (congrArg some ?_)
        rw [ix1]
        rfl
      have o2 : Only (fun _ => False) w1 w2 := by rw [← hw2]; exact Only.alloc (Only.refl _ _) _
      have hz := heap_alloc_new w (.cells #[.int .i64 0, .string ⟨#[]⟩, .int .i64 0, .string ⟨#[]⟩, .slice none 0 0, .slice none 0 0, .slice none 0 0, .int .i64 0] 44)
      have hgl := H.out.1.lt
      have hsz : (w.alloc (.cells #[.int .i64 0, .string ⟨#[]⟩, .int .i64 0, .string ⟨#[]⟩, .slice none 0 0, .slice none 0 0, .slice none 0 0, .int .i64 0] 44)).heap.size = w.heap.size + 1 := World.size_alloc ..
      refine ⟨((Only.alloc (Only.refl (fun k => k = g) w) _).trans o1 (fun q e => .inl e)).trans o2 (fun q e => e.elim), r1.only o2 id, hb, ?_, ?_, hgl⟩
      · exact Be.only (Be.only (S := fun k => k = g) hz o1 (by show ¬ w.heap.size = g; omega)) o2 id
      · have := o1.size; omega
    generalize w1.heap.size = eb at E2 ⊢
    have HE2 := Lib.hid E2
    clear hw2 r1 o1 E2
    obtain ⟨c0, c1⟩ := HE2.out.r.cells
    have f1 := HE2.out.r.free 1
    obtain ⟨x0, x1, x2, x3, x4, x5, x6, x7⟩ := HE2.out.e.cells
    have h0 := HE2.out.e.free 0
    have h1 := HE2.out.e.free 1
    have h2 := HE2.out.e.free 2
    have h3 := HE2.out.e.free 3
    have h4 := HE2.out.e.free 4
    have h5 := HE2.out.e.free 5
    have h6 := HE2.out.e.free 6
    have h7 := HE2.out.e.free 7
    have hnu := number_calls g s1 false _ HE2.out.r (by omega)
    rw [hnm] at hnu
    go_wp2_with fail
    refine hnu.mono ?_
    clear hnu
    rintro e w3 ⟨rfl, r, o⟩
    have HE3 := Lib.hid (HE2.out.turn r o)
    clear r o HE2
    clear c0 c1 f1 x0 x1 x2 x3 x4 x5 x6 x7 h0 h1 h2 h3 h4 h5 h6 h7
    obtain ⟨c0, c1⟩ := HE3.out.r.cells
    have f1 := HE3.out.r.free 1
    obtain ⟨x0, x1, x2, x3, x4, x5, x6, x7⟩ := HE3.out.e.cells
    have h0 := HE3.out.e.free 0
    have h1 := HE3.out.e.free 1
    have h2 := HE3.out.e.free 2
    have h3 := HE3.out.e.free 3
    have h4 := HE3.out.e.free 4
    have h5 := HE3.out.e.free 5
    have h6 := HE3.out.e.free 6
    have h7 := HE3.out.e.free 7
    have hcu := cut_calls g n s2 bd2 _ HE3.out.r (by omega) (by omega)
    rw [hkm] at hcu
    go_wp2_with fail
    refine hcu.mono ?_
    clear hcu
    rintro e w4 ⟨rfl, r, o⟩
    have HE4 := Lib.hid (HE3.out.turn r o)
    clear r o HE3
    clear c0 c1 f1 x0 x1 x2 x3 x4 x5 x6 x7 h0 h1 h2 h3 h4 h5 h6 h7
    obtain ⟨c0, c1⟩ := HE4.out.r.cells
    have f1 := HE4.out.r.free 1
    obtain ⟨x0, x1, x2, x3, x4, x5, x6, x7⟩ := HE4.out.e.cells
    have h0 := HE4.out.e.free 0
    have h1 := HE4.out.e.free 1
    have h2 := HE4.out.e.free 2
    have h3 := HE4.out.e.free 3
    have h4 := HE4.out.e.free 4
    have h5 := HE4.out.e.free 5
    have h6 := HE4.out.e.free 6
    have h7 := HE4.out.e.free 7
    go_upto_region 4 with fail
    generalize hW5 : w4.setCell ⟨eb, 1, none⟩ (.string key) = w5
    have HE5 := HE4.out.put1 key
    rw [hW5] at HE5
    have HE5 := Lib.hid HE5
    clear hW5 HE4
    clear c0 c1 f1 x0 x1 x2 x3 x4 x5 x6 x7 h0 h1 h2 h3 h4 h5 h6 h7
    obtain ⟨c0, c1⟩ := HE5.out.r.cells
    have f1 := HE5.out.r.free 1
    obtain ⟨x0, x1, x2, x3, x4, x5, x6, x7⟩ := HE5.out.e.cells
    have h0 := HE5.out.e.free 0
    have h1 := HE5.out.e.free 1
    have h2 := HE5.out.e.free 2
    have h3 := HE5.out.e.free 3
    have h4 := HE5.out.e.free 4
    have h5 := HE5.out.e.free 5
    have h6 := HE5.out.e.free 6
    have h7 := HE5.out.e.free 7
    go_upto_region 14 with fail
    generalize hW90 : w5.setCell ⟨g, 1, none⟩ (.bool true) = w90
    have HE90 := HE5.out.putB true
    rw [hW90] at HE90
    have HE90 := Lib.hid HE90
    clear hW90 HE5
    clear c0 c1 f1 x0 x1 x2 x3 x4 x5 x6 x7 h0 h1 h2 h3 h4 h5 h6 h7
    obtain ⟨c0, c1⟩ := HE90.out.r.cells
    have f1 := HE90.out.r.free 1
    obtain ⟨x0, x1, x2, x3, x4, x5, x6, x7⟩ := HE90.out.e.cells
    have h0 := HE90.out.e.free 0
    have h1 := HE90.out.e.free 1
    have h2 := HE90.out.e.free 2
    have h3 := HE90.out.e.free 3
    have h4 := HE90.out.e.free 4
    have h5 := HE90.out.e.free 5
    have h6 := HE90.out.e.free 6
    have h7 := HE90.out.e.free 7
    have zf0 := HE90.out.z.free 0
    have zf1 := HE90.out.z.free 1
    have zf2 := HE90.out.z.free 2
    have zf3 := HE90.out.z.free 3
    have zf4 := HE90.out.z.free 4
    have zf5 := HE90.out.z.free 5
    have zf6 := HE90.out.z.free 6
    have zf7 := HE90.out.z.free 7
    obtain ⟨zc0, zc1, zc2, zc3, zc4, zc5, zc6, zc7⟩ := HE90.out.z.cells
    go_wp2_with fail
    have q := HE90.out.putR
    unfold putAll at q
    obtain ⟨wF, hF⟩ : ∃ wF, (((((((w90.setCell ⟨w.heap.size, 0, none⟩ (.int .i64 (b.toNat : Int))).setCell ⟨w.heap.size, 1, none⟩ (.string key)).setCell ⟨w.heap.size, 2, none⟩ (.int .i64 y0.kind)).setCell ⟨w.heap.size, 3, none⟩ (.string y0.text)).setCell ⟨w.heap.size, 4, none⟩ (.slice y0.LA y0.ln y0.lc)).setCell ⟨w.heap.size, 5, none⟩ (.slice y0.FA y0.fn y0.fc)).setCell ⟨w.heap.size, 6, none⟩ (.slice y0.KA y0.kn y0.kc)).setCell ⟨w.heap.size, 7, none⟩ (.int .i64 0) = wF := ⟨_, rfl⟩
    rw [hF] at q ⊢
    clear hF
    obtain ⟨qo, qr, qe⟩ := q
    obtain ⟨t0, t1, t2, t3, t4, t5, t6, t7⟩ := qe.cells
    refine bodyPost_ret (v := evV ⟨(b.toNat : Int), key, y0, 0⟩) (by simp [results, Tryz.f38, evV, go_sem, t0, t1, t2, t3, t4, t5, t6, t7]) rfl ?_
    exact ⟨_, rfl, qo, fun _ => ⟨_, qr⟩, fun p rest h => (by rw [HN.out] at h; cases h)⟩
  | false =>
    have hef : eff1 s = none := by unfold eff1; rw [hl]; simp [hs1, hnm, hkm, hb1, hb2, hb3, hb4]
    have HN := Lib.hid hef
    have HMAY := Lib.hid (show mayP (peOf ⟨(b.toNat : Int), key, y0, 0⟩) = false by unfold mayP peOf; dsimp only; rw [if_neg (by simpa using q1), if_neg (by simpa using q2), if_neg (by simpa using q3), if_neg (by simpa using q4)])
    clear hb1 hb2 hb3 hb4
    have H := Lib.hid (And.intro h (And.intro hs hl))
    have HY := Lib.hid hy0
    clear h hs hl hef hs1 hy0
    go_enter Tryz.func38, Tryz.ntmps38
    go_wp2_with fail
    refine hct.mono ?_
    clear hct
    rintro e w1 ⟨rfl, r1, o1⟩
    go_upto_region 2 with fail
    generalize hw2 : w1.alloc _ = w2
    have E2 : Es w g w1.heap.size s1 false (b.toNat : Int) ⟨#[]⟩ y0 0 w2 := by
      rw [HY.out]
      have hb : Be w2 w1.heap.size (b.toNat : Int) ⟨#[]⟩ vv0 0 := by
        rw [← hw2]
        refine (heap_alloc_new w1 _).trans (congrArg some ?_)
        rw [ix1]
        rfl
      have o2 : Only (fun _ => False) w1 w2 := by rw [← hw2]; exact Only.alloc (Only.refl _ _) _
      have hz := heap_alloc_new w (.cells #[.int .i64 0, .string ⟨#[]⟩, .int .i64 0, .string ⟨#[]⟩, .slice none 0 0, .slice none 0 0, .slice none 0 0, .int .i64 0] 44)
      have hgl := H.out.1.lt
      have hsz : (w.alloc (.cells #[.int .i64 0, .string ⟨#[]⟩, .int .i64 0, .string ⟨#[]⟩, .slice none 0 0, .slice none 0 0, .slice none 0 0, .int .i64 0] 44)).heap.size = w.heap.size + 1 := World.size_alloc ..
      refine ⟨((Only.alloc (Only.refl (fun k => k = g) w) _).trans o1 (fun q e => .inl e)).trans o2 (fun q e => e.elim), r1.only o2 id, hb, ?_, ?_, hgl⟩
      · exact Be.only (Be.only (S := fun k => k = g) hz o1 (by show ¬ w.heap.size = g; omega)) o2 id
      · have := o1.size; omega
    generalize w1.heap.size = eb at E2 ⊢
    have HE2 := Lib.hid E2
    clear hw2 r1 o1 E2
    obtain ⟨c0, c1⟩ := HE2.out.r.cells
    have f1 := HE2.out.r.free 1
    obtain ⟨x0, x1, x2, x3, x4, x5, x6, x7⟩ := HE2.out.e.cells
    have h0 := HE2.out.e.free 0
    have h1 := HE2.out.e.free 1
    have h2 := HE2.out.e.free 2
    have h3 := HE2.out.e.free 3
    have h4 := HE2.out.e.free 4
    have h5 := HE2.out.e.free 5
    have h6 := HE2.out.e.free 6
    have h7 := HE2.out.e.free 7
    have hnu := number_calls g s1 false _ HE2.out.r (by omega)
    rw [hnm] at hnu
    go_wp2_with fail
    refine hnu.mono ?_
    clear hnu
    rintro e w3 ⟨rfl, r, o⟩
    have HE3 := Lib.hid (HE2.out.turn r o)
    clear r o HE2
    clear c0 c1 f1 x0 x1 x2 x3 x4 x5 x6 x7 h0 h1 h2 h3 h4 h5 h6 h7
    obtain ⟨c0, c1⟩ := HE3.out.r.cells
    have f1 := HE3.out.r.free 1
    obtain ⟨x0, x1, x2, x3, x4, x5, x6, x7⟩ := HE3.out.e.cells
    have h0 := HE3.out.e.free 0
    have h1 := HE3.out.e.free 1
    have h2 := HE3.out.e.free 2
    have h3 := HE3.out.e.free 3
    have h4 := HE3.out.e.free 4
    have h5 := HE3.out.e.free 5
    have h6 := HE3.out.e.free 6
    have h7 := HE3.out.e.free 7
    have hcu := cut_calls g n s2 bd2 _ HE3.out.r (by omega) (by omega)
    rw [hkm] at hcu
    go_wp2_with fail
    refine hcu.mono ?_
    clear hcu
    rintro e w4 ⟨rfl, r, o⟩
    have HE4 := Lib.hid (HE3.out.turn r o)
    clear r o HE3
    clear c0 c1 f1 x0 x1 x2 x3 x4 x5 x6 x7 h0 h1 h2 h3 h4 h5 h6 h7
    obtain ⟨c0, c1⟩ := HE4.out.r.cells
    have f1 := HE4.out.r.free 1
    obtain ⟨x0, x1, x2, x3, x4, x5, x6, x7⟩ := HE4.out.e.cells
    have h0 := HE4.out.e.free 0
    have h1 := HE4.out.e.free 1
    have h2 := HE4.out.e.free 2
    have h3 := HE4.out.e.free 3
    have h4 := HE4.out.e.free 4
    have h5 := HE4.out.e.free 5
    have h6 := HE4.out.e.free 6
    have h7 := HE4.out.e.free 7
    go_upto_region 4 with fail
    generalize hW5 : w4.setCell ⟨eb, 1, none⟩ (.string key) = w5
    have HE5 := HE4.out.put1 key
    rw [hW5] at HE5
    have HE5 := Lib.hid HE5
    clear hW5 HE4
    clear c0 c1 f1 x0 x1 x2 x3 x4 x5 x6 x7 h0 h1 h2 h3 h4 h5 h6 h7
    obtain ⟨c0, c1⟩ := HE5.out.r.cells
    have f1 := HE5.out.r.free 1
    obtain ⟨x0, x1, x2, x3, x4, x5, x6, x7⟩ := HE5.out.e.cells
    have h0 := HE5.out.e.free 0
    have h1 := HE5.out.e.free 1
    have h2 := HE5.out.e.free 2
    have h3 := HE5.out.e.free 3
    have h4 := HE5.out.e.free 4
    have h5 := HE5.out.e.free 5
    have h6 := HE5.out.e.free 6
    have h7 := HE5.out.e.free 7
    have hmy := may_calls ⟨(b.toNat : Int), key, y0, 0⟩ w5 (by rw [HY.out]; exact rdv0 _) (by rw [HY.out]; exact sm0)
    rw [show mayP (peOf ⟨(b.toNat : Int), key, y0, 0⟩) = false from HMAY.out] at hmy
    unfold evV at hmy
    dsimp only at hmy
    go_wp2_with fail
    refine hmy.mono ?_
    clear hmy
    rintro e w6 ⟨rfl, bm⟩
    have HE6 := Lib.hid (HE5.out.below bm)
    have HBM := Lib.hid bm
    clear bm HE5
    clear c0 c1 f1 x0 x1 x2 x3 x4 x5 x6 x7 h0 h1 h2 h3 h4 h5 h6 h7
    obtain ⟨c0, c1⟩ := HE6.out.r.cells
    have f1 := HE6.out.r.free 1
    obtain ⟨x0, x1, x2, x3, x4, x5, x6, x7⟩ := HE6.out.e.cells
    have h0 := HE6.out.e.free 0
    have h1 := HE6.out.e.free 1
    have h2 := HE6.out.e.free 2
    have h3 := HE6.out.e.free 3
    have h4 := HE6.out.e.free 4
    have h5 := HE6.out.e.free 5
    have h6 := HE6.out.e.free 6
    have h7 := HE6.out.e.free 7
    go_upto_region 14 with fail
    generalize hW90 : w6.setCell ⟨g, 1, none⟩ (.bool true) = w90
    have HE90 := HE6.out.putB true
    rw [hW90] at HE90
    have HE90 := Lib.hid HE90
    clear hW90 HE6
    clear c0 c1 f1 x0 x1 x2 x3 x4 x5 x6 x7 h0 h1 h2 h3 h4 h5 h6 h7
    obtain ⟨c0, c1⟩ := HE90.out.r.cells
    have f1 := HE90.out.r.free 1
    obtain ⟨x0, x1, x2, x3, x4, x5, x6, x7⟩ := HE90.out.e.cells
    have h0 := HE90.out.e.free 0
    have h1 := HE90.out.e.free 1
    have h2 := HE90.out.e.free 2
    have h3 := HE90.out.e.free 3
    have h4 := HE90.out.e.free 4
    have h5 := HE90.out.e.free 5
    have h6 := HE90.out.e.free 6
    have h7 := HE90.out.e.free 7
    have zf0 := HE90.out.z.free 0
    have zf1 := HE90.out.z.free 1
    have zf2 := HE90.out.z.free 2
    have zf3 := HE90.out.z.free 3
    have zf4 := HE90.out.z.free 4
    have zf5 := HE90.out.z.free 5
    have zf6 := HE90.out.z.free 6
    have zf7 := HE90.out.z.free 7
    obtain ⟨zc0, zc1, zc2, zc3, zc4, zc5, zc6, zc7⟩ := HE90.out.z.cells
    go_wp2_with fail
    have q := HE90.out.putR
    unfold putAll at q
    obtain ⟨wF, hF⟩ : ∃ wF, (((((((w90.setCell ⟨w.heap.size, 0, none⟩ (.int .i64 (b.toNat : Int))).setCell ⟨w.heap.size, 1, none⟩ (.string key)).setCell ⟨w.heap.size, 2, none⟩ (.int .i64 y0.kind)).setCell ⟨w.heap.size, 3, none⟩ (.string y0.text)).setCell ⟨w.heap.size, 4, none⟩ (.slice y0.LA y0.ln y0.lc)).setCell ⟨w.heap.size, 5, none⟩ (.slice y0.FA y0.fn y0.fc)).setCell ⟨w.heap.size, 6, none⟩ (.slice y0.KA y0.kn y0.kc)).setCell ⟨w.heap.size, 7, none⟩ (.int .i64 0) = wF := ⟨_, rfl⟩
    rw [hF] at q ⊢
    clear hF
    obtain ⟨qo, qr, qe⟩ := q
    obtain ⟨t0, t1, t2, t3, t4, t5, t6, t7⟩ := qe.cells
    refine bodyPost_ret (v := evV ⟨(b.toNat : Int), key, y0, 0⟩) (by simp [results, Tryz.f38, evV, go_sem, t0, t1, t2, t3, t4, t5, t6, t7]) rfl ?_
    exact ⟨_, rfl, qo, fun _ => ⟨_, qr⟩, fun p rest h => (by rw [HN.out] at h; cases h)⟩
end Go.Proofs.YtgmnnpbbiejbnaaGreat.EfE
