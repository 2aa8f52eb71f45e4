/-
  Effects read off bytes: the program's Decode. Conditions: as stated.
-/
import Derived.Test.YtgmnnpbbiejbnaaGreatEfF
import Derived.Test.YtgmnnpbbiejbnaaGreatSqD
set_option maxRecDepth 100000
set_option linter.unusedSimpArgs false
set_option linter.unusedVariables false
namespace Go.Proofs.YtgmnnpbbiejbnaaGreat.EfG
open Go.RowKit Go.Proofs.YtgmnnpbbiejbnaaGreat.Mem Go.Proofs.YtgmnnpbbiejbnaaGreat.VaA Go.Proofs.YtgmnnpbbiejbnaaGreat.VaC Go.Proofs.YtgmnnpbbiejbnaaGreat.VaE Go.Proofs.YtgmnnpbbiejbnaaGreat.VaH Go.Proofs.YtgmnnpbbiejbnaaGreat.VaI Go.Proofs.YtgmnnpbbiejbnaaGreat.VaX Go.Proofs.YtgmnnpbbiejbnaaGreat.DuA Go.Proofs.YtgmnnpbbiejbnaaGreat.SpA Go.Proofs.YtgmnnpbbiejbnaaGreat.SpB Go.Proofs.YtgmnnpbbiejbnaaGreat.SpC Go.Proofs.YtgmnnpbbiejbnaaGreat.SpD Go.Proofs.YtgmnnpbbiejbnaaGreat.SpE Go.Proofs.YtgmnnpbbiejbnaaGreat.SpF Go.Proofs.YtgmnnpbbiejbnaaGreat.SpG Go.Proofs.YtgmnnpbbiejbnaaGreat.EfA Go.Proofs.YtgmnnpbbiejbnaaGreat.EfB Go.Proofs.YtgmnnpbbiejbnaaGreat.EfD Go.Proofs.YtgmnnpbbiejbnaaGreat.EfE Go.Proofs.YtgmnnpbbiejbnaaGreat.EfF
open Go.Proofs.YtgmnnpbbiejbnaaGreat.VaP (unle unle_lt)
open Go.Proofs.YtgmnnpbbiejbnaaGreat.VbA (decD)
open Go.Proofs.YtgmnnpbbiejbnaaGreat.VbB (NwW DecPost)
open Go.Proofs.YtgmnnpbbiejbnaaGreat.SpO (EN FrEn ENs RdEn)

/-- Effects in memory from B on. -/
structure Fv (w : World) (B : Nat) (v : Value) (es : List EV) (l : List PE) : Prop where
  own : OwnEv w B v es
  rel : EVs w (fun q => q < B ∨ v.ownBlock = some q) es l
theorem Fv.nil (w : World) (B : Nat) : Fv w B (.slice none 0 0) [] [] := ⟨World.ownsRow_nil .., ⟨rfl, fun i e p he => by simp at he⟩⟩
theorem Fv.below {w w' : World} {B : Nat} {v : Value} {es : List EV} {l : List PE} (h : Fv w B v es l) (hb : Below w.heap.size w w') : Fv w' B v es l :=
  ⟨own_only h.own (Only.of_below hb) (fun k hk e => by have := (h.own.lt k hk).2; omega), h.rel.move (Only.of_below hb) (fun k hk e => by omega) (fun k _ e => e)⟩
theorem Fv.only {w w' : World} {B : Nat} {v : Value} {es : List EV} {l : List PE} (h : Fv w B v es l) (ho : Only (fun k => k < B) w w') : Fv w' B v es l :=
  ⟨own_only h.own ho (fun k hk e => by have := (h.own.lt k hk).1; omega), h.rel.move ho (fun k hk e => .inl e) (fun k _ e => e)⟩
theorem Fv.less {w : World} {B B' : Nat} {v : Value} {es : List EV} {l : List PE} (h : Fv w B v es l) (hB : B' ≤ B) : Fv w B' v es l :=
  ⟨own_less h.own hB, h.rel.move (Only.refl (fun _ => False) w) (fun k _ e => e.elim) (fun k _ e => e.imp (fun e => Nat.lt_of_lt_of_le e hB) id)⟩
theorem Fv.next {w4 w6 : World} {o : Obj} {B : Nat} {v v6 : Value} {es : List EV} {l : List PE} {e : EV} {p : PE} (h : Fv w4 B v es l) (he : RdEv w4 (fun q => q < B ∨ v.ownBlock = some q) e p)
    (h6 : w6.ownsRow B 44 8 v6 (es.length + 1) (rows EV.cells es ++ e.cells)) (f6 : Only (fun k => v.ownBlock = some k) (w4.alloc o) w6) (n6 : v6.ownBlock = v.ownBlock ∨ v6.ownBlock = some (w4.alloc o).heap.size) : Fv w6 B v6 (es ++ [e]) (l ++ [p]) := by
  have hsz : (w4.alloc o).heap.size = w4.heap.size + 1 := World.size_alloc ..
  have O : Only (fun k => v.ownBlock = some k) w4 w6 := ((Only.refl (fun k => v.ownBlock = some k) w4).alloc o).trans f6 (fun k e => .inl e)
  have hv6 : ∀ k, v6.ownBlock = some k → v.ownBlock = some k ∨ w4.heap.size ≤ k := by
    intro k hk
    rcases n6 with n6 | n6
    · exact .inl (n6 ▸ hk)
    · rw [n6] at hk; injection hk with hk; exact .inr (by omega)
  exact ⟨ev_push h6, (h.rel.push he).move O (fun k _ e => .inr e) (fun k hk e => e.imp id (fun e => (hv6 k e).elim id (fun hge => absurd hk (by omega))))⟩
theorem eff1_lt {s r : ByteArray} {p : PE} (h : eff1 s = some (p, r)) : r.size < s.size := by
  have hz : s.data.toList.length = s.size := by rw [Array.length_toList]; rfl
  unfold eff1 at h
  cases hl : s.data.toList with
  | nil => rw [hl] at h; cases h
  | cons b t =>
    rw [hl] at h hz
    have h1 : (s.extract 1 s.size).size < s.size := by rw [ByteArray.size_extract]; simp at hz; omega
    dsimp only at h
    have n1 := numP_size (s.extract 1 s.size) false
    generalize numP (s.extract 1 s.size) false = N at h n1
    have k1 := (cutP_size N.2.1 N.2.2 N.1).1
    generalize cutP N.2.1 N.2.2 N.1 = K at h k1
    have d1 := numP_size K.2.1 K.2.2
    generalize numP K.2.1 K.2.2 = D at h d1
    obtain ⟨N1, N2, N3⟩ := N
    obtain ⟨K1, K2, K3⟩ := K
    obtain ⟨D1, D2, D3⟩ := D
    dsimp only at h n1 k1 d1
    clear hz hl
    split at h
    · injection h with h; injection h with _ h; subst h; exact h1
    · split at h
      · split at h
        · cases h
        · injection h with h; injection h with _ h; subst h; omega
      · split at h
        · cases h
        · split at h
          · injection h with h; injection h with _ h; subst h; omega
          · split at h
            · split at h
              · injection h with h; injection h with _ h; subst h
                rw [ByteArray.size_extract]; omega
              · cases h
            · cases h
def decF : Nat → ByteArray → Option (List PE)
  | 0, s => if s.size = 0 then some [] else none
  | f + 1, s => if s.size = 0 then some [] else match eff1 s with | none => none | some (p, r) => (decF f r).map (p :: ·)
def decAll (s : ByteArray) : Option (List PE) := decF s.size s
theorem decF_end {f : Nat} {s : ByteArray} (h : s.size = 0) : decF f s = some [] := by cases f <;> simp [decF, h]
theorem decF_none {f : Nat} {s : ByteArray} (h : s.size ≠ 0) (he : eff1 s = none) : decF f s = none := by cases f <;> simp [decF, h, he]
theorem decF_some {f : Nat} {s r : ByteArray} {p : PE} (h : s.size ≠ 0) (hf : s.size ≤ f) (he : eff1 s = some (p, r)) : decF f s = (decF (f - 1) r).map (p :: ·) := by
  cases f with
  | zero => omega
  | succ f => simp [decF, h, he]
/-- What is handed back. -/
def DcPost (s : ByteArray) (w : World) (e : Ending) (w' : World) : Prop :=
  Below w.heap.size w w' ∧ match decAll s with
    | none => e = .returned (.tuple #[.slice none 0 0, .int .i64 160])
    | some l => ∃ v es, e = .returned (.tuple #[v, .int .i64 0]) ∧ Fv w' w.heap.size v es l
theorem str_empty {s : ByteArray} : s.toList.isEmpty = decide (s.size = 0) := by
  rw [kempty]
  by_cases h : s.size = 0
  · rw [decide_eq_true h, decide_eq_true]
    exact ByteArray.ext (Array.eq_empty_of_size_eq_zero h)
  · rw [decide_eq_false h, decide_eq_false]
    rintro rfl; exact h rfl
set_option maxHeartbeats 4000000 in
theorem decode_calls (s : ByteArray) (w : World) (hs : s.size ≤ 100000000) :
    Calls Tryz.prog 13 #[.string s] w (DcPost s w) := by
  obtain ⟨W1, hW1⟩ : ∃ W1, w.alloc (.cells #[.string s, .bool false] 80) = W1 := ⟨_, rfl⟩
  have hr1 : Rr W1 w.heap.size s false := by rw [← hW1]; exact heap_alloc_new w _
  have hb1 : Below w.heap.size w W1 := by rw [← hW1]; exact (Below.refl _ _).alloc (Nat.le_refl _) _
  have hz1 : W1.heap.size = w.heap.size + 1 := by rw [← hW1]; exact World.size_alloc ..
  obtain ⟨g, hg⟩ : ∃ g, w.heap.size = g := ⟨_, rfl⟩
  have HW := Lib.hid hW1
  have H := Lib.hid (And.intro hr1 (And.intro hb1 (And.intro hz1 hg)))
  clear hW1 hr1 hb1 hz1
  go_enter Tryz.func13, Tryz.ntmps13
  go_upto_region 2 with fail
  rw [HW.out]
  go_wp2_with fail
  go_loopw [5] (fun v wr => ∃ (r : ByteArray) (es : List EV) (l : List PE) (f : Nat), Rr wr g r false ∧ Fv wr (g + 1) v es l ∧ r.size ≤ f ∧ r.size + l.length ≤ s.size ∧ decAll s = (decF f r).map (l ++ ·) ∧ Below g w wr) (fun _ wr => match wr.cell? ⟨g, 0, none⟩ with | some (.string r) => r.size | _ => 0)
  case atStart =>
    obtain ⟨hr1, hb1, hz1, hg⟩ := H.out
    exact ⟨s, [], [], s.size, by rw [← hg]; exact hr1, Fv.nil _ _, Nat.le_refl _, Nat.le_refl _, by unfold decAll; cases decF s.size s <;> rfl, by rw [← hg]; exact hb1⟩
  case round =>
    obtain ⟨r, es, l, f, hr, hF, hf, hrl, hd, hb⟩ := hrel
    obtain ⟨A, c, rfl⟩ := own_form hF.own
    obtain ⟨c0, c1⟩ := hr.cells
    have hwg : g < wr.heap.size := hr.lt
    by_cases h0 : r.size = 0
    · have hE : r.toList.isEmpty = true := by rw [str_empty]; exact decide_eq_true h0
      have hd2 : decAll s = some l := by rw [hd, decF_end h0]; simp
      have HX := Lib.hid (And.intro hF (And.intro hb hd2))
      clear hF hb hd hd2 hr hf hrl h0
      go_wp2_with fail
      go_ret2
      obtain ⟨hF, hb, hd2⟩ := HX.out
      obtain ⟨-, -, -, hg⟩ := H.out
      unfold DcPost
      rw [hd2]
      exact ⟨by rw [hg]; exact hb, _, es, rfl, by rw [hg]; exact hF.less (Nat.le_succ _)⟩
    · have hE : r.toList.isEmpty = false := by rw [str_empty]; exact decide_eq_false h0
      have hef := effect_calls g r wr hr (by omega) h0
      have HX := Lib.hid (And.intro hF (And.intro hb (And.intro hd (And.intro hf (And.intro hrl h0)))))
      have hln : es.length = l.length := hF.rel.1
      have hlen : es.length ≤ 100000000 := by omega
      have hr0 := Lib.hid hr
      clear hF hb hd hr hf hrl h0 hln
      go_wp2_with fail
      refine hef.mono ?_
      clear hef c0 c1
      rintro e w4 ⟨ev, rfl, o4, hno, hso⟩
      obtain ⟨hF, hb, hd, hf, hrl, h0⟩ := HX.out
      have hF4 : Fv w4 (g + 1) (.slice A es.length c) es l := hF.only (o4.mono (fun k e => by show k < g + 1; have : k = g := e; omega))
      have hb4 : Below g w w4 := hb.trans (o4.below (Nat.le_of_lt hwg) (fun q e => by rw [show q = g from e]; exact Nat.le_refl _))
      have hsz4 := o4.size
      have hoA := own_only hF4.own ((Only.refl (fun _ => False) w4).alloc (.cells #[.int .i64 ev.kind, .string ev.key, .int .i64 ev.x.kind, .string ev.x.text, .slice ev.x.LA ev.x.ln ev.x.lc, .slice ev.x.FA ev.x.fn ev.x.fc, .slice ev.x.KA ev.x.kn ev.x.kc, .int .i64 ev.due] 44)) (fun _ _ h => h)
      have hgA : g + 1 ≤ (w4.alloc (.cells #[.int .i64 ev.kind, .string ev.key, .int .i64 ev.x.kind, .string ev.x.text, .slice ev.x.LA ev.x.ln ev.x.lc, .slice ev.x.FA ev.x.fn ev.x.fc, .slice ev.x.KA ev.x.kn ev.x.kc, .int .i64 ev.due] 44)).heap.size := by rw [World.size_alloc]; omega
      cases hc : eff1 r with
      | none =>
        obtain ⟨s', hr'⟩ := hno hc
        have hd2 : decAll s = none := by rw [hd, decF_none h0 hc]; rfl
        have HN := Lib.hid (And.intro hr' (And.intro hd2 (And.intro hb4 hF4.own)))
        clear hF hb hd hf hrl h0 hF4 hb4 hr' hd2 hno hso hc o4
        have HR6 := Lib.hid (fun (w6 : World) (o : Only (fun k => (Value.slice A es.length c).ownBlock = some k) (w4.alloc (.cells #[.int .i64 ev.kind, .string ev.key, .int .i64 ev.x.kind, .string ev.x.text, .slice ev.x.LA ev.x.ln ev.x.lc, .slice ev.x.FA ev.x.fn ev.x.fc, .slice ev.x.KA ev.x.kn ev.x.kc, .int .i64 ev.due] 44)) w6) => ((HN.out.1.only (Only.alloc (Only.refl (fun _ => False) w4) _) id).only o (fun e => by have := (HN.out.2.2.2.lt g e).1; omega) : Rr w6 g s' true))
        unfold evV
        go_wp2_with (at_builtin; refine wpList_app rfl (.tmp 14) (.tmp 17) elEv rfl (g + 1) (.slice A es.length c) es.length (rows EV.cells es) rfl hoA (some ⟨w4.heap.size, 0, none⟩) 1 1 ev.cells rfl (rd_new w4 ev.cells 44 8 rfl) (ev_one _) (by unfold maxLen; omega) (by omega) hgA ?_; intro v6 w6 h1 h2 h3; have HA := Lib.hid (And.intro h1 (And.intro h2 h3)); clear h1 h2 h3; have hr6 := HR6.out w6 HA.out.2.1; obtain ⟨c0, c1⟩ := hr6.cells)
        go_ret2
        obtain ⟨-, hd2, hb4, hown⟩ := HN.out
        unfold DcPost
        rw [hd2]
        have hb6 : Below g w w6 := HA.out.2.1.after (hb4.alloc (Nat.le_trans (Nat.le_of_lt hwg) hsz4) _) (Nat.le_of_eq H.out.2.2.2.symm) (fun q e => by have := (hown.lt q e).1; omega)
        exact ⟨by rw [H.out.2.2.2]; exact hb6, rfl⟩
      | some pr =>
        obtain ⟨p, r'⟩ := pr
        have hr := hr0.out
        obtain ⟨hr', hpe, hrv, hnw, hsm⟩ := hso p r' hc
        have hlt := eff1_lt hc
        have hre : RdEv w4 (fun q => q < g + 1 ∨ (Value.slice A es.length c).ownBlock = some q) ev p := by
          subst hpe
          exact ⟨rfl, rfl, rfl, Vok.new (B := wr.heap.size) hrv rfl ((sm_pv hrv).1 hsm) hnw (fun k e => e.elim (fun e => by omega) (fun e => (hF.own.lt k e).2))⟩
        have hd2 : decAll s = (decF (f - 1) r').map ((l ++ [p]) ++ ·) := by rw [hd, decF_some h0 hf hc]; cases decF (f - 1) r' <;> simp
        have hl2 : r'.size + (l ++ [p]).length ≤ s.size := by rw [List.length_append, List.length_singleton]; omega
        have HN := Lib.hid (And.intro hr' (And.intro hd2 (And.intro hb4 (And.intro hF4 (And.intro hre (And.intro hl2 (And.intro hlt (And.intro hf hr))))))))
        have HR6 := Lib.hid (fun (w6 : World) (o : Only (fun k => (Value.slice A es.length c).ownBlock = some k) (w4.alloc (.cells #[.int .i64 ev.kind, .string ev.key, .int .i64 ev.x.kind, .string ev.x.text, .slice ev.x.LA ev.x.ln ev.x.lc, .slice ev.x.FA ev.x.fn ev.x.fc, .slice ev.x.KA ev.x.kn ev.x.kc, .int .i64 ev.due] 44)) w6) => ((HN.out.1.only (Only.alloc (Only.refl (fun _ => False) w4) _) id).only o (fun e => by have := (HN.out.2.2.2.1.own.lt g e).1; omega) : Rr w6 g r' false))
        clear hF hb hd hf hrl h0 hF4 hb4 hr' hd2 hno hso hc o4 hre hl2 hlt hpe hrv hnw hsm hr
        unfold evV
        go_wp2_with (at_builtin; refine wpList_app rfl (.tmp 14) (.tmp 17) elEv rfl (g + 1) (.slice A es.length c) es.length (rows EV.cells es) rfl hoA (some ⟨w4.heap.size, 0, none⟩) 1 1 ev.cells rfl (rd_new w4 ev.cells 44 8 rfl) (ev_one _) (by unfold maxLen; omega) (by omega) hgA ?_; intro v6 w6 h1 h2 h3; have HA := Lib.hid (And.intro h1 (And.intro h2 h3)); clear h1 h2 h3; have hr6 := HR6.out w6 HA.out.2.1; obtain ⟨c0, c1⟩ := hr6.cells)
        obtain ⟨-, hd2, hb4, hF4, hre, hl2, hlt, hf, hr⟩ := HN.out
        obtain ⟨h1, h2, h3⟩ := HA.out
        have hb6 : Below g w w6 := h2.after (hb4.alloc (Nat.le_trans (Nat.le_of_lt hwg) hsz4) _) (Nat.le_of_eq H.out.2.2.2.symm) (fun q e => by have := (hF4.own.lt q e).1; omega)
        refine ⟨⟨r', es ++ [ev], l ++ [p], f - 1, hr6, hF4.next hre h1 h2 h3, by omega, hl2, hd2, hb6⟩, ?_⟩
        rw [hr6.cells.1, hr.cells.1]
        exact hlt
end Go.Proofs.YtgmnnpbbiejbnaaGreat.EfG
