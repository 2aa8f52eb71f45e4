/-
  note; Put, Drop, SetDue of a space. Conditions: as stated.
  Drop, SetDue; what is asked of a key. Conditions: as stated.
  What is asked of a key; Mark, Keep. Conditions: as stated.
  Due, Version, Counter, Over; Mark, Keep. Conditions: as stated.
-/
import Derived.Test.YtgmnnpbbiejbnaaGreatSqA
import Derived.Test.YtgmnnpbbiejbnaaGreatVdA
import Derived.Deep.Cut
import Derived.Laws.ResultCell
set_option maxRecDepth 100000
set_option linter.unusedSimpArgs false
set_option linter.unusedVariables false
namespace Go.Proofs.YtgmnnpbbiejbnaaGreat.SpF
open Go.RowKit Go.Proofs.YtgmnnpbbiejbnaaGreat.Mem Go.Proofs.YtgmnnpbbiejbnaaGreat.VaC Go.Proofs.YtgmnnpbbiejbnaaGreat.VaE Go.Proofs.YtgmnnpbbiejbnaaGreat.VaH Go.Proofs.YtgmnnpbbiejbnaaGreat.VaI Go.Proofs.YtgmnnpbbiejbnaaGreat.VaX Go.Proofs.YtgmnnpbbiejbnaaGreat.DuA Go.Proofs.YtgmnnpbbiejbnaaGreat.SpA Go.Proofs.YtgmnnpbbiejbnaaGreat.SpB Go.Proofs.YtgmnnpbbiejbnaaGreat.SpC Go.Proofs.YtgmnnpbbiejbnaaGreat.SpD Go.Proofs.YtgmnnpbbiejbnaaGreat.SpE
open Go.Proofs.YtgmnnpbbiejbnaaGreat.DsH (Ix IxS okk keyed key_of)

theorem step_of_list {P : Program} {ops : Array Oper} {o : Oper} {a : Act} {w : World} {K : Act → World → Prop} {Q : Exit → Act → World → Prop} {E : Prop} (hgd : o.guard = none)
    (h : wpList P ops (fun e a' w' => e = .normal ∧ K a' w') [o] a w) : if Region.wanted o (yielded ops a.tmps) = true then Oper.wp P o a w K Q else E := by
  have hw : Region.wanted o (yielded ops a.tmps) = true := by simp [Region.wanted, hgd]
  rw [if_pos hw]
  unfold wpList at h
  rw [if_pos hw] at h
  rcases h with h | ⟨-, a', w', h, -⟩
  · have h1 : Oper.wp P o a w K (fun e a' w' => e = .normal ∧ K a' w') := Oper.wp_mono (fun a w h => h.2) h
    unfold Oper.wp at h1 ⊢
    generalize (execOp a.eval o).run P w = r at h1 ⊢
    cases r with
    | ok n w' =>
      cases n <;> simp only [Oper.upon] at h1 ⊢ <;>
        first
          | exact h1
          | exact Calls.mono h1 (fun e w'' he => by
              cases e
              · exact he
              · exact absurd he.1 (by simp)
              · obtain ⟨a, w, he, _⟩ := he
                exact absurd he (by simp))
          | exact absurd h1.1 (by simp)
    | halt x w' =>
      cases x <;> simp only [Oper.upon] at h1 ⊢ <;> first | exact h1 | exact absurd h1.1 (by simp) | (obtain ⟨a, w, he, _⟩ := h1; exact absurd he (by simp))
  · exact absurd h (by simp)
theorem cell_al {w : World} {p : Addr} {v : Value} (h : w.cell? p = some v) (o : Obj) : (w.alloc o).cell? p = some v := ((Only.refl (fun _ => False) w).alloc o).cell h id
/-- A box of flat cells, made now. -/
theorem rd_new (w : World) (l : List Value) (T : TypeId) (n : Nat) (hl : l.length = n) : Rd (w.alloc (.cells l.toArray T)) n (some ⟨w.heap.size, 0, none⟩) 1 1 l :=
  ⟨by omega, Nat.le_refl _, by unfold maxLen; omega, fun j x hx => ⟨_, rfl, by
    have h := heap_alloc_new w (.cells l.toArray T)
    rw [add_mk, Nat.zero_add]
    simp only [World.cell?]
    rw [h]
    simpa using hx⟩⟩
theorem _root_.Go.Proofs.YtgmnnpbbiejbnaaGreat.SpD.Sp.chset {w w1 : World} {B : Nat} {F : Lay} {N : Nat} {s : PS} (h : Sp w B F N s) {v' : Value} {es : List EV} {ch : List PE} (ho : Only (fun k => F.cv.ownBlock = some k) w w1) (hown : OwnEv w1 B v' es) (hev : EVs w (Fx F) es ch)
    (hv : v'.ownBlock = F.cv.ownBlock ∨ ∃ k, v'.ownBlock = some k ∧ w.heap.size ≤ k) :
    Sp (w1.setCell ⟨F.g, 6, none⟩ v') B { F with cv := v' } N { s with ch := ch } ∧ Moves F { F with cv := v' } w (w1.setCell ⟨F.g, 6, none⟩ v') := by
  have hlt := h.lt
  have ap := h.sq.ap
  have hp1 := ho.heap h.hp (fun e => ap.gc.1 e)
  have o2 : Only (fun k => k = F.g ∨ F.cv.ownBlock = some k) w (w1.setCell ⟨F.g, 6, none⟩ v') := (ho.mono (fun k e => .inr e)).put (p := ⟨F.g, 6, none⟩) (.inl (.inl rfl)) v'
  have hF : ∀ k, (k = F.g ∨ F.cv.ownBlock = some k) → Ft F k := fun k e => e.elim (fun e => .inl e) (fun e => .inr (.inr (.inr (.inr e))))
  have hsub : ∀ k, Ft { F with cv := v' } k → Ft F k ∨ w.heap.size ≤ k := by
    intro k hk
    rcases hk with hk | hk | hk | hk | hk
    · exact .inl (.inl hk)
    · exact .inl (.inr (.inl hk))
    · exact .inl (.inr (.inr (.inl hk)))
    · exact .inl (.inr (.inr (.inr (.inl hk))))
    · have hk : v'.ownBlock = some k := hk
      rcases hv with hv | ⟨k', e, hge⟩
      · exact .inl (.inr (.inr (.inr (.inr (hv ▸ hk)))))
      · rw [e] at hk; injection hk with hk; subst hk; exact .inr hge
  have hd : ∀ k, k < w.heap.size → (k = F.g ∨ F.cv.ownBlock = some k) → Fx F k := fun k _ e => .inl (hF k e)
  have hs' : ∀ k, k < w.heap.size → Fx { F with cv := v' } k → Fx F k := fun k hk e => e.elim (fun e => (hsub k e).elim .inl (fun h => absurd hk (by omega))) .inr
  have hcv : ∀ k, v'.ownBlock = some k → F.cv.ownBlock = some k ∨ w.heap.size ≤ k := by
    intro k hk
    rcases hv with hv | ⟨k', e, hge⟩
    · exact .inl (hv ▸ hk)
    · rw [e] at hk; injection hk with hk; subst hk; exact .inr hge
  have hgv : v'.ownBlock ≠ some F.g := fun e => (hcv _ e).elim (fun e => ap.gc.1 e) (fun hge => by have := (hlt F.g (.inl rfl)).2; exact absurd this (Nat.not_lt.2 hge))
  obtain ⟨⟨L, hmm, htl⟩, ix, bp, -, gB, mB, -⟩ := h.sq
  refine ⟨⟨by simp [World.setCell, Array.getElem?_modify, hp1], ⟨⟨L, hmm.only o2 (fun e => e.elim (fun e => ap.gm e.symm) (fun e => ap.gc.2 e)), htl.move o2 hd hs'⟩, ix.only o2 (fun k hk e => e.elim (fun e => (ap.gx k hk).1 e) (fun e => (ap.gx k hk).2.2.2 e)), ?_, ⟨es, ?_, hev.move o2 hd hs'⟩, gB, mB, ⟨ap.gm, ?_, ap.gb, ⟨hgv, ?_⟩, ?_⟩⟩, h.on, { h.inv with }⟩, ⟨o2.mono hF, hsub, rfl, rfl⟩⟩
  · rcases bp with bp | ⟨b, e, hb, L3, hm3, ht3⟩
    · exact .inl bp
    · exact .inr ⟨b, e, hb, L3, hm3.only o2 (fun e' => e'.elim (fun e' => ap.gb.1 (e' ▸ e)) (fun e' => ap.bc b e e')), ht3.move o2 hd hs'⟩
  · exact own_only hown ((Only.refl (fun k => k = F.g) w1).put (p := ⟨F.g, 6, none⟩) (.inl rfl) v') (fun k hk e => hgv (by rw [← e]; exact hk))
  · intro k hk
    obtain ⟨a1, a2, a3, a4⟩ := ap.gx k hk
    refine ⟨a1, a2, a3, fun e => (hcv k e).elim a4 (fun hge => ?_)⟩
    have := (hlt k (.inr (.inr (.inl hk)))).2; omega
  · intro e
    refine (hcv _ e).elim ap.gc.2 (fun hge => ?_)
    have := (hlt F.m (.inr (.inl rfl))).2; exact absurd this (Nat.not_lt.2 hge)
  · intro b hb e
    refine (hcv _ e).elim (ap.bc b hb) (fun hge => ?_)
    have := (hlt b (.inr (.inr (.inr (.inl hb))))).2; omega
theorem ev_at {w : World} {b : Nat} {e : EV} (h : w.heap[b]? = some (.cells e.cells.toArray 44 (0, 0))) :
    w.cell? ⟨b, 0, none⟩ = some (.int .i64 e.kind) ∧ w.cell? ⟨b, 1, none⟩ = some (.string e.key) ∧ w.cell? ⟨b, 2, none⟩ = some (.int .i64 e.x.kind) ∧ w.cell? ⟨b, 3, none⟩ = some (.string e.x.text) ∧ w.cell? ⟨b, 4, none⟩ = some (.slice e.x.LA e.x.ln e.x.lc) ∧
      w.cell? ⟨b, 5, none⟩ = some (.slice e.x.FA e.x.fn e.x.fc) ∧ w.cell? ⟨b, 6, none⟩ = some (.slice e.x.KA e.x.kn e.x.kc) ∧ w.cell? ⟨b, 7, none⟩ = some (.int .i64 e.due) := by
  refine ⟨?_, ?_, ?_, ?_, ?_, ?_, ?_, ?_⟩ <;> simp [World.cell?, h, EV.cells]
theorem ev_push {w : World} {B : Nat} {v : Value} {es : List EV} {e : EV} (h : w.ownsRow B 44 8 v (es.length + 1) (rows EV.cells es ++ e.cells)) : OwnEv w B v (es ++ [e]) := by
  unfold OwnEv
  rw [rows_app, List.length_append]
  have e1 : rows EV.cells [e] = e.cells := by simp [rows]
  rw [e1]
  exact h
def evV (e : EV) : Value := .agg #[.int .i64 e.kind, .string e.key, .int .i64 e.x.kind, .string e.x.text, .slice e.x.LA e.x.ln e.x.lc, .slice e.x.FA e.x.fn e.x.fc, .slice e.x.KA e.x.kn e.x.kc, .int .i64 e.due]
def peOf (e : EV) : PE := ⟨e.kind, e.key, pvOf e.x, e.due⟩
set_option maxHeartbeats 2000000 in
theorem note_calls (B : Nat) (F : Lay) (N : Nat) (s : PS) (ev : EV) (w : World) (h : Sp w B F N s) (hB : B ≤ w.heap.size) (hx : RdV w ev.x) (hs : SmP (pvOf ev.x)) (hX : ∀ k, F.X k → k < w.heap.size) (hch : s.ch.length ≤ 1000000000) :
    Calls Tryz.prog 76 #[.pointer (some ⟨F.g, 0, none⟩), evV ev] w fun e w' => e = .returned (.tuple #[]) ∧ ∃ F', Sp w' B F' N (noteP s (peOf ev)) ∧ Moves F F' w w' := by
  obtain ⟨c0, c1, c2, c3, c4, c5, c6⟩ := h.cells
  cases hm : s.on
  · rw [hm] at c3
    have e1 : noteP s (peOf ev) = s := by unfold noteP; rw [hm]; cases s; simp_all
    rw [e1]
    obtain ⟨W1, hW1⟩ : ∃ W1, w.alloc (.cells ev.cells.toArray 44) = W1 := ⟨_, rfl⟩
    have b1 : Below w.heap.size w W1 := by rw [← hW1]; exact (Below.refl _ _).alloc (Nat.le_refl _) _
    have d3 : W1.cell? ⟨F.g, 3, none⟩ = some (.bool false) := (Only.of_below b1).cell c3 (by have := h.glt; simp; omega)
    have H := Lib.hid (And.intro (h.below b1) (Moves.below (F := F) b1))
    have HW := Lib.hid hW1
    unfold evV
    clear h hx hs hm e1 b1 hW1
    go_enter Tryz.func76, Tryz.ntmps76
    go_upto_region 1 with fail
    have HW1 := HW.out
    unfold EV.cells at HW1
    rw [HW1]
    clear HW1
    go_wp2_with fail
    refine bodyPost_end (results_none rfl _ _ _) rfl ?_
    exact ⟨rfl, F, H.out.1, H.out.2⟩
  · rw [hm] at c3
    have e1 : noteP s (peOf ev) = { s with ch := s.ch ++ [peOf ev] } := by unfold noteP; simp [hm]
    rw [e1]
    obtain ⟨W1, hW1⟩ : ∃ W1, w.alloc (.cells ev.cells.toArray 44) = W1 := ⟨_, rfl⟩
    have b1 : Below w.heap.size w W1 := by rw [← hW1]; exact (Below.refl _ _).alloc (Nat.le_refl _) _
    have hbx : W1.heap[w.heap.size]? = some (.cells ev.cells.toArray 44 (0, 0)) := by rw [← hW1]; exact heap_alloc_new w _
    have hcp := VaT.copy_calls ev.x W1 (hx.below b1) ((sm_pv hx).2 hs)
    obtain ⟨y0, y1, y2, y3, y4, y5, y6, y7⟩ := ev_at hbx
    have d3 : W1.cell? ⟨F.g, 3, none⟩ = some (.bool true) := (Only.of_below b1).cell c3 (by have := h.glt; simp; omega)
    have H := Lib.hid (And.intro h (And.intro b1 hbx))
    have HW := Lib.hid hW1
    unfold VV.val at hcp
    unfold evV
    clear h hx hm e1 b1 hbx hW1
    go_enter Tryz.func76, Tryz.ntmps76
    go_upto_region 1 with fail
    have HW1 := HW.out
    unfold EV.cells at HW1
    rw [HW1]
    clear HW1
    go_wp2_with fail
    refine hcp.mono ?_
    rintro e w2 ⟨y, rfl, hy1, hy2, hy3, hy4, hy5, hyr, hyn, b2⟩
    obtain ⟨h, b1, hbx⟩ := H.out
    have hbx2 := (Only.of_below b2).heap hbx (by have := (Array.getElem?_eq_some_iff.1 hbx).1; omega)
    obtain ⟨z0, z1, z2, z3, z4, z5, z6, z7⟩ := ev_at hbx2
    have zf : ∀ j, w2.frozen? ⟨w.heap.size, j, none⟩ = false := fun j => by simp [World.frozen?, hbx2]
    obtain ⟨ev2, hev2⟩ : ∃ ev2 : EV, ev2 = ⟨ev.kind, ev.key, y, ev.due⟩ := ⟨_, rfl⟩
    have H2 := Lib.hid (And.intro hy1 (And.intro hy2 (And.intro hy3 (And.intro hy4 (And.intro hy5 (And.intro hyr (And.intro hyn (And.intro b2 (And.intro hbx2 hev2)))))))))
    clear hy1 hy2 hy3 hy4 hy5 hyr hyn b2 hbx2 hev2 hbx h b1 y0 y1 y2 y3 y4 y5 y6 y7 d3 hcp
    go_upto_region 3 with fail
    obtain ⟨W3, hW3⟩ : ∃ W3, (((((w2.setCell ⟨w.heap.size, 2, none⟩ (.int .i64 y.kind)).setCell ⟨w.heap.size, 3, none⟩ (.string y.text)).setCell ⟨w.heap.size, 4, none⟩ (.slice y.LA y.ln y.lc)).setCell ⟨w.heap.size, 5, none⟩ (.slice y.FA y.fn y.fc)).setCell ⟨w.heap.size, 6, none⟩ (.slice y.KA y.kn y.kc)) = W3 := ⟨_, rfl⟩
    rw [hW3]
    obtain ⟨hy1, hy2, hy3, hy4, hy5, hyr, hyn, b2, hbx2, hev2⟩ := H2.out
    obtain ⟨h, b1, hbx⟩ := H.out
    have hbx3 : W3.heap[w.heap.size]? = some (.cells ev2.cells.toArray 44 (0, 0)) := by
      rw [← hW3, hev2]
      simp [World.setCell, Array.getElem?_modify, hbx2, EV.cells]
    have o3 : Only (fun k => k = w.heap.size) w2 W3 := by
      rw [← hW3]
      exact (((((Only.refl (fun k => k = w.heap.size) w2).put (p := ⟨w.heap.size, 2, none⟩) (.inl rfl) _).put (p := ⟨w.heap.size, 3, none⟩) (.inl rfl) _).put (p := ⟨w.heap.size, 4, none⟩) (.inl rfl) _).put (p := ⟨w.heap.size, 5, none⟩) (.inl rfl) _).put (p := ⟨w.heap.size, 6, none⟩) (.inl rfl) _
    have hs1 : w.heap.size < W1.heap.size := (Array.getElem?_eq_some_iff.1 hbx).1
    have hvy : Vok W3 (Fx F) y (pvOf ev.x) := by
      have v2 : Vok w2 (fun k => k = w.heap.size ∨ Fx F k) y (pvOf ev.x) := Vok.new hyr (by unfold pvOf; rw [hy1, hy2, hy3, hy4, hy5]) hs hyn (fun k e => e.elim (fun e => by omega) (fun e => e.elim (fun e => by have := (h.lt k e).2; omega) (fun e => by have := hX k e; omega)))
      exact v2.move o3 (fun k _ e => .inl e) (fun k _ e => .inr e)
    have b3 : Below w.heap.size w W3 := (b1.trans (b2.mono b1.size)).trans (o3.below (Nat.le_of_lt (Nat.lt_of_lt_of_le hs1 b2.size)) (fun k e => Nat.le_of_eq e.symm))
    have h3 := h.below b3
    obtain ⟨-, -, -, -, -, -, g6⟩ := h3.cells
    have gf := h3.free 6
    obtain ⟨es, oes, hes⟩ := h3.sq.ch
    have hlen := hes.1
    have hre : RdEv W3 (Fx F) ev2 (peOf ev) := by rw [hev2]; exact ⟨rfl, rfl, rfl, hvy⟩
    obtain ⟨z0, z1, z2, z3, z4, z5, z6, z7⟩ := ev_at hbx3
    obtain ⟨Ac, cc, hform⟩ := own_form oes
    have gx : ∀ o, (W3.alloc o).cell? ⟨F.g, 6, none⟩ = some (.slice Ac es.length cc) := fun o => by rw [← hform]; exact cell_al g6 o
    rw [hform] at g6 oes
    have hX : Sp (W3.alloc (.cells #[.int .i64 ev2.kind, .string ev2.key, .int .i64 ev2.x.kind, .string ev2.x.text, .slice ev2.x.LA ev2.x.ln ev2.x.lc, .slice ev2.x.FA ev2.x.fn ev2.x.fc, .slice ev2.x.KA ev2.x.kn ev2.x.kc, .int .i64 ev2.due] 44)).drew B F N s := h3.below (((Below.refl _ _).alloc (Nat.le_refl _) _).drew)
    have oX : Only (fun _ => False) W3 (W3.alloc (.cells #[.int .i64 ev2.kind, .string ev2.key, .int .i64 ev2.x.kind, .string ev2.x.text, .slice ev2.x.LA ev2.x.ln ev2.x.lc, .slice ev2.x.FA ev2.x.fn ev2.x.fc, .slice ev2.x.KA ev2.x.kn ev2.x.kc, .int .i64 ev2.due] 44)).drew := ((Only.refl _ _).alloc _).drew
    have eX : EVs (W3.alloc (.cells #[.int .i64 ev2.kind, .string ev2.key, .int .i64 ev2.x.kind, .string ev2.x.text, .slice ev2.x.LA ev2.x.ln ev2.x.lc, .slice ev2.x.FA ev2.x.fn ev2.x.fc, .slice ev2.x.KA ev2.x.kn ev2.x.kc, .int .i64 ev2.due] 44)).drew (Fx F) (es ++ [ev2]) (s.ch ++ [peOf ev]) := (hes.push hre).move oX (fun k _ e => e.elim) (fun k _ e => e)
    have ownX : OwnEv (W3.alloc (.cells #[.int .i64 ev2.kind, .string ev2.key, .int .i64 ev2.x.kind, .string ev2.x.text, .slice ev2.x.LA ev2.x.ln ev2.x.lc, .slice ev2.x.FA ev2.x.fn ev2.x.fc, .slice ev2.x.KA ev2.x.kn ev2.x.kc, .int .i64 ev2.due] 44)).drew B (.slice Ac es.length cc) es := own_only oes oX (fun _ _ h => h)
    have rdX : Rd (W3.alloc (.cells #[.int .i64 ev2.kind, .string ev2.key, .int .i64 ev2.x.kind, .string ev2.x.text, .slice ev2.x.LA ev2.x.ln ev2.x.lc, .slice ev2.x.FA ev2.x.fn ev2.x.fc, .slice ev2.x.KA ev2.x.kn ev2.x.kc, .int .i64 ev2.due] 44)).drew 8 (some ⟨W3.heap.size, 0, none⟩) 1 1 ev2.cells := (rd_new W3 ev2.cells 44 8 rfl).drawn 1
    have MX : Moves F F w (W3.alloc (.cells #[.int .i64 ev2.kind, .string ev2.key, .int .i64 ev2.x.kind, .string ev2.x.text, .slice ev2.x.LA ev2.x.ln ev2.x.lc, .slice ev2.x.FA ev2.x.fn ev2.x.fc, .slice ev2.x.KA ev2.x.kn ev2.x.kc, .int .i64 ev2.due] 44)).drew := Moves.below ((b3.alloc b3.size _).drew)
    have szX : B ≤ (W3.alloc (.cells #[.int .i64 ev2.kind, .string ev2.key, .int .i64 ev2.x.kind, .string ev2.x.text, .slice ev2.x.LA ev2.x.ln ev2.x.lc, .slice ev2.x.FA ev2.x.fn ev2.x.fc, .slice ev2.x.KA ev2.x.kn ev2.x.kc, .int .i64 ev2.due] 44)).drew.heap.size := by have := hX.lt F.g (.inl rfl); omega
    have FIN : ∀ v' w', OwnEv w' B v' (es ++ [ev2]) → Only (fun k => (Value.slice Ac es.length cc).ownBlock = some k) (W3.alloc (.cells #[.int .i64 ev2.kind, .string ev2.key, .int .i64 ev2.x.kind, .string ev2.x.text, .slice ev2.x.LA ev2.x.ln ev2.x.lc, .slice ev2.x.FA ev2.x.fn ev2.x.fc, .slice ev2.x.KA ev2.x.kn ev2.x.kc, .int .i64 ev2.due] 44)).drew w' → (v'.ownBlock = (Value.slice Ac es.length cc).ownBlock ∨ v'.ownBlock = some (W3.alloc (.cells #[.int .i64 ev2.kind, .string ev2.key, .int .i64 ev2.x.kind, .string ev2.x.text, .slice ev2.x.LA ev2.x.ln ev2.x.lc, .slice ev2.x.FA ev2.x.fn ev2.x.fc, .slice ev2.x.KA ev2.x.kn ev2.x.kc, .int .i64 ev2.due] 44)).drew.heap.size) →
        ∃ F', Sp (w'.setCell ⟨F.g, 6, none⟩ v') B F' N { s with ch := s.ch ++ [peOf ev] } ∧ Moves F F' w (w'.setCell ⟨F.g, 6, none⟩ v') := by
      intro v' w' h1 h2 h3
      rw [← hform] at h2 h3
      obtain ⟨r1, r2⟩ := hX.chset h2 h1 eX (h3.imp id (fun e => ⟨_, e, Nat.le_refl _⟩))
      exact ⟨_, r1, MX.trans r2⟩
    have HF := Lib.hid FIN
    have gfX : ∀ (v' : Value) (w' : World), Only (fun k => (Value.slice Ac es.length cc).ownBlock = some k) (W3.alloc (.cells #[.int .i64 ev2.kind, .string ev2.key, .int .i64 ev2.x.kind, .string ev2.x.text, .slice ev2.x.LA ev2.x.ln ev2.x.lc, .slice ev2.x.FA ev2.x.fn ev2.x.fc, .slice ev2.x.KA ev2.x.kn ev2.x.kc, .int .i64 ev2.due] 44)).drew w' → w'.frozen? ⟨F.g, 6, none⟩ = false ∧ w'.cell? ⟨F.g, 6, none⟩ = some (.slice Ac es.length cc) := by
      intro v' w' h2
      have hp' := h2.heap hX.hp (fun e => by rw [← hform] at e; exact hX.sq.ap.gc.1 e)
      exact ⟨by simp [World.frozen?, hp'], by simp [World.cell?, hp', hform]⟩
    have HG := Lib.hid gfX
    have hn1 : es.length + 1 ≤ 1000000001 := by omega
    have Hown := Lib.hid (And.intro ownX (And.intro rdX szX))
    clear FIN gfX ownX rdX szX MX eX oX hX hes hre hlen oes h3 b3 hvy hs1 o3 hbx3 hbx b1 h hev2 hbx2 b2 hyn hyr hy1 hy2 hy3 hy4 hy5 hW3 H H2 HW hform c0 c1 c2 c3 c4 c5 c6 zf
    go_region_law (refine step_of_list rfl ?_; refine wpList_app (w := (W3.alloc (.cells #[.int .i64 ev2.kind, .string ev2.key, .int .i64 ev2.x.kind, .string ev2.x.text, .slice ev2.x.LA ev2.x.ln ev2.x.lc, .slice ev2.x.FA ev2.x.fn ev2.x.fc, .slice ev2.x.KA ev2.x.kn ev2.x.kc, .int .i64 ev2.due] 44)).drew) rfl (.tmp 16) (.tmp 18) elEv rfl B (.slice Ac es.length cc) es.length (rows EV.cells es) rfl Hown.out.1 (some ⟨W3.heap.size, 0, none⟩) 1 1 ev2.cells rfl Hown.out.2.1 (ev_one ev2) (by have := hn1; unfold maxLen; omega) (by have := hn1; omega) Hown.out.2.2 ?_; intro v' w' h1 h2 h3; refine ⟨rfl, ?_⟩; obtain ⟨u1, u2⟩ := HG.out v' w' h2; obtain ⟨A', c', rfl⟩ := own_form h1)
    all_goals (
      refine bodyPost_end (results_none rfl _ _ _) rfl ?_
      exact ⟨rfl, HF.out _ _ (ev_push h1) h2 h3⟩)
theorem tick_calls (n : Int) (w : World) : Calls Tryz.prog 44 #[.int .i64 n] w fun e w' => e = .returned (.bool (tickB n)) ∧ w' = w := by
  by_cases h0 : 0 ≤ n
  · by_cases h1 : n ≤ 9007199254740992
    · have e1 : tickB n = true := decide_eq_true ⟨h0, h1⟩
      rw [e1]
      go_enter Tryz.func44, Tryz.ntmps44
      go_wp2_with fail
      go_ret
      exact ⟨rfl, rfl⟩
    · have e1 : tickB n = false := decide_eq_false (fun h => h1 h.2)
      have h1' : 9007199254740992 < n := by omega
      rw [e1]
      go_enter Tryz.func44, Tryz.ntmps44
      go_wp2_with fail
      go_ret
      exact ⟨rfl, rfl⟩
  · have e1 : tickB n = false := decide_eq_false (fun h => h0 h.1)
    have h0' : n < 0 := by omega
    rw [e1]
    go_enter Tryz.func44, Tryz.ntmps44
    go_wp2_with fail
    go_ret
    exact ⟨rfl, rfl⟩
theorem over_calls (d n : Int) (w : World) : Calls Tryz.prog 85 #[.int .i64 d, .int .i64 n] w fun e w' => e = .returned (.bool (overB d n)) ∧ w' = w := by
  unfold overB
  by_cases h0 : d = 0
  · subst h0
    go_enter Tryz.func85, Tryz.ntmps85
    go_wp2_with fail
    go_ret
    exact ⟨rfl, rfl⟩
  · have e1 : (d != 0) = true := by simpa using h0
    rw [e1]
    by_cases h1 : d ≤ n
    · have e2 : decide (d ≤ n) = true := decide_eq_true h1
      rw [e2]
      go_enter Tryz.func85, Tryz.ntmps85
      go_wp2_with fail
      go_ret
      exact ⟨rfl, rfl⟩
    · have e2 : decide (d ≤ n) = false := decide_eq_false h1
      have h1' : n < d := by omega
      rw [e2]
      go_enter Tryz.func85, Tryz.ntmps85
      go_wp2_with fail
      go_ret
      exact ⟨rfl, rfl⟩
theorem on_touch {s : PS} (h : s.on = true) (k : ByteArray) : (getK (bfT s k) k).isSome = true := by
  unfold bfT
  by_cases hb : (getK s.bf k).isSome = false
  · rw [if_pos ⟨h, hb⟩, get_set, if_pos rfl]; rfl
  · rw [if_neg (fun e => hb e.2)]; cases hc : (getK s.bf k).isSome <;> simp_all
theorem inv_put {s : PS} (h : Inv s) {k : ByteArray} {v : PV} {due : Int} (hk : k.size ≤ 100000000) (hd : 0 ≤ due ∧ due ≤ 9007199254740992) (hc : chkP v = 0) : Inv { touchP s k with l := setK lt s.l k ⟨v, due, s.cnt + 1⟩ } :=
  inv_set (s := touchP s k) (inv_touch h k hk) (p := ⟨v, due, s.cnt + 1⟩) hk hd ⟨by simp, .inr (Nat.le_refl _)⟩ hc (fun ho hn => by
    have := on_touch (s := s) ho k
    have hn' : (getK (bfT s k) k).isSome = false := hn
    rw [this] at hn'; cases hn')

abbrev Pc (w' : World) (b : Nat) (x : VV) : Prop := w'.cell? ⟨b, 0, none⟩ = some (.int .i64 x.kind) ∧ w'.cell? ⟨b, 1, none⟩ = some (.string x.text) ∧ w'.cell? ⟨b, 2, none⟩ = some (.slice x.LA x.ln x.lc) ∧ w'.cell? ⟨b, 3, none⟩ = some (.slice x.FA x.fn x.fc) ∧ w'.cell? ⟨b, 4, none⟩ = some (.slice x.KA x.kn x.kc)
theorem pc_at {w : World} {b : Nat} {x : VV} (h : w.heap[b]? = some (.cells x.cells 42 (0, 0))) : Pc w b x := by
  refine ⟨?_, ?_, ?_, ?_, ?_⟩ <;> simp [World.cell?, h, VV.cells]
abbrev Pq (w' : World) (b g : Nat) (x : VV) (n : Nat) : Prop := Pc w' b x ∧ w'.cell? ⟨g, 2, none⟩ = some (.int .u64 n)
theorem Pc.only {S : Nat → Prop} {w w' : World} {b : Nat} {x : VV} (h : Pc w b x) (ho : Only S w w') (hb : ¬ S b) : Pc w' b x :=
  ⟨ho.cell h.1 hb, ho.cell h.2.1 hb, ho.cell h.2.2.1 hb, ho.cell h.2.2.2.1 hb, ho.cell h.2.2.2.2 hb⟩
theorem below_c {w w' : World} {q : Addr} {u : Value} (hc : w.cell? q = some u) (hb : Below w.heap.size w w') : w'.cell? q = some u := (Only.of_below hb).cell hc (fun e => by have := VaB.cell_lt hc; omega)
theorem Pc.below {w w' : World} {b : Nat} {x : VV} (h : Pc w b x) (hb : Below w.heap.size w w') : Pc w' b x :=
  ⟨below_c h.1 hb, below_c h.2.1 hb, below_c h.2.2.1 hb, below_c h.2.2.2.1 hb, below_c h.2.2.2.2 hb⟩
theorem Pq.below {w w' : World} {b g n : Nat} {x : VV} (h : Pq w b g x n) (hb : Below w.heap.size w w') : Pq w' b g x n := ⟨h.1.below hb, below_c h.2 hb⟩
theorem Pq.lay {w w' : World} {B b n N : Nat} {x : VV} {F F' : Lay} {s : PS} (h : Pq w b F.g x n) (hm : Moves F F' w w') (hb : ¬ Ft F b) (hs : Sp w' B F' N s) (hn : s.cnt = n) : Pq w' b F.g x n :=
  ⟨h.1.only hm.only hb, by have := hs.cells.2.2.1; rw [hm.g, hn] at this; exact this⟩
theorem copy_vok {x : VV} {p : PV} {w : World} {S S' : Nat → Prop} (hx : Vok w S' x p) (hS : ∀ k, S k → k < w.heap.size) :
    Calls Tryz.prog 46 #[x.val] w fun e w' => ∃ y : VV, e = .returned y.val ∧ Vok w' S y p ∧ VdA.WrV w' y ∧ (VaT.Nw w.heap.size y.LA ∧ VaT.Nw w.heap.size y.FA ∧ VaT.Nw w.heap.size y.KA) ∧ Below w.heap.size w w' := by
  refine (VdA.copyW_calls x w hx.rd ((sm_pv hx.rd).2 (by rw [hx.pv]; exact hx.sm))).mono ?_
  rintro e w' ⟨y, rfl, h1, h2, h3, h4, h5, hr, hwr, hn, hb⟩
  exact ⟨y, rfl, Vok.new hr (by rw [← hx.pv]; unfold pvOf; rw [h1, h2, h3, h4, h5]) hx.sm hn hS, hwr, hn, hb⟩
set_option maxHeartbeats 4000000 in
theorem put_calls (B : Nat) (F : Lay) (N : Nat) (s : PS) (k : ByteArray) (x : VV) (p : PV) (due : Int) (w : World) (h : Sp w B F N s) (hB : B ≤ w.heap.size) (hk : k.size ≤ 100000000) (hx : Vok w (Ft F) x p) (hX : ∀ k, F.X k → k < w.heap.size) (hN : N ≤ 999999999) (hc : s.cnt ≤ 4611686118427387903) (hch : s.ch.length ≤ 1000000000) :
    Calls Tryz.prog 47 #[.pointer (some ⟨F.g, 0, none⟩), .string k, x.val, .int .i64 due] w fun e w' => e = .returned (.int .i64 (putE p due)) ∧ ∃ F', Sp w' B F' (N + 2) (putS s k p due) ∧ Moves F F' w w' := by
  obtain ⟨W1, hW1⟩ : ∃ W1, w.alloc (.cells x.cells 42) = W1 := ⟨_, rfl⟩
  have b1 : Below w.heap.size w W1 := by rw [← hW1]; exact (Below.refl _ _).alloc (Nat.le_refl _) _
  have hbx : W1.heap[w.heap.size]? = some (.cells x.cells 42 (0, 0)) := by rw [← hW1]; exact heap_alloc_new w _
  have hbF : ¬ Ft F w.heap.size := fun e => Nat.lt_irrefl _ (h.lt _ e).2
  have h1 := h.below b1
  have x1 := hx.below b1
  have M1 : Moves F F w W1 := Moves.below b1
  have hsm := (sm_pv x1.rd).2 (by rw [x1.pv]; exact x1.sm)
  have hck := check_calls x W1 x1.rd hsm.kn hsm.z
  have e0 : chk x = chkP p := by rw [chk_pv x1.rd, x1.pv]
  rw [e0] at hck
  obtain ⟨c, hcp⟩ : ∃ c, chkP p = c := ⟨_, rfl⟩
  rw [hcp] at hck
  have hP0 := pc_at hbx
  obtain ⟨y0, y1, y2, y3, y4⟩ := hP0
  have HW := Lib.hid hW1
  unfold VV.val at hck ⊢
  by_cases hz : c = 0
  rotate_left
  · have e1 : putE p due = c := by unfold putE; rw [hcp, if_pos hz]
    have e2 : putS s k p due = s := by unfold putS; rw [e1, if_neg hz]
    rw [e1, e2]
    have hz' : (c == 0) = false := by simpa using hz
    have hz2 : (c != 0) = true := by simpa using hz
    have H := Lib.hid (And.intro h1 M1)
    clear h hx h1 x1 hbx b1 hsm e0 hcp e1 e2 hW1 hz M1
    go_enter Tryz.func47, Tryz.ntmps47
    go_upto_region 1 with fail
    have HW1 := HW.out
    unfold VV.cells at HW1
    rw [HW1]
    clear HW1
    go_wp2_with fail
    refine hck.mono ?_
    rintro e w2 ⟨rfl, b2⟩
    go_wp2_with fail
    go_ret
    exact ⟨rfl, F, (H.out.1.below b2).more (by omega), H.out.2.trans (Moves.below b2)⟩
  subst hz
  cases htb : tickB due
  · have e1 : putE p due = 70 := by unfold putE; rw [hcp]; simp [htb]
    have e2 : putS s k p due = s := by unfold putS; rw [e1, if_neg (by decide)]
    rw [e1, e2]
    have htk := fun w => tick_calls due w
    rw [htb] at htk
    have H := Lib.hid (And.intro h1 M1)
    clear h hx h1 x1 hbx b1 hsm e0 hcp e1 e2 hW1 M1 htb
    go_enter Tryz.func47, Tryz.ntmps47
    go_upto_region 1 with fail
    have HW1 := HW.out
    unfold VV.cells at HW1
    rw [HW1]
    clear HW1
    go_wp2_with fail
    refine hck.mono ?_
    rintro e w2 ⟨rfl, b2⟩
    go_wp2_with fail
    refine (htk _).mono ?_
    rintro e w3 ⟨rfl, rfl⟩
    go_wp2_with fail
    go_ret
    exact ⟨rfl, F, (H.out.1.below b2).more (by omega), H.out.2.trans (Moves.below b2)⟩
  · have e1 : putE p due = 0 := by unfold putE; rw [hcp]; simp [htb]
    have e2 : putS s k p due = putP s k p due := by unfold putS; rw [e1, if_pos rfl]
    rw [e1, e2]
    have htk := fun w => tick_calls due w
    rw [htb] at htk
    have hdd : 0 ≤ due ∧ due ≤ 9007199254740992 := of_decide_eq_true htb
    have hI := inv_put (due := due) h.inv hk hdd hcp
    have H := Lib.hid (And.intro h1 (And.intro M1 (And.intro x1 (And.intro hbx (And.intro hI (And.intro b1 hsm))))))
    clear h hx h1 x1 hbx b1 hsm e0 hcp e1 e2 hW1 M1 htb hI
    go_enter Tryz.func47, Tryz.ntmps47
    go_upto_region 1 with fail
    have HW1 := HW.out
    unfold VV.cells at HW1
    rw [HW1]
    clear HW1
    go_wp2_with fail
    refine hck.mono ?_
    rintro e w2 ⟨rfl, b2⟩
    go_wp2_with fail
    refine (htk _).mono ?_
    rintro e w3 ⟨rfl, rfl⟩
    obtain ⟨h1, M1, x1, hbx, hI, b1, hsm⟩ := H.out
    have h3 := h1.below b2
    have x3 := x1.below b2
    have M3 := M1.trans (Moves.below b2)
    have hbx3 := (Only.of_below b2).heap hbx (by have := (Array.getElem?_eq_some_iff.1 hbx).1; omega)
    have hB3 : B ≤ w3.heap.size := by have := (h3.lt F.g (.inl rfl)); omega
    have htc := touch_calls B F N s k w3 h3 hk (by omega) (by omega)
    have H3 := Lib.hid (And.intro h3 (And.intro x3 (And.intro M3 (And.intro hbx3 (And.intro hB3 (And.intro hI hsm))))))
    clear h1 M1 x1 hbx hI b1 hsm h3 x3 M3 hbx3 hB3 b2 H
    go_wp2_with fail
    refine htc.mono ?_
    rintro e w4 ⟨rfl, h4, o4⟩
    obtain ⟨h3, x3, M3, hbx3, hB3, hI, hsm⟩ := H3.out
    have M4 : Moves F F w w4 := M3.trans ⟨o4, fun k h => .inl h, rfl, rfl⟩
    have x4 := x3.move (S' := Ft F) o4 (fun k _ e => e) (fun k _ e => e)
    have hbx4 := o4.heap hbx3 hbF
    obtain ⟨n1, hn1⟩ : ∃ n1, s.cnt + 1 = n1 := ⟨_, rfl⟩
    have c4 := h4.cells.2.2.1
    rw [show (touchP s k).cnt = n1 from hn1] at c4
    have hq4 : Pq w4.drew w.heap.size F.g x n1 := ⟨pc_at hbx4, c4⟩
    have h4d := h4.drawn 1
    have x4d := x4.below (w' := w4.drew) ((Below.refl _ _).drew)
    have hcp := copy_vok (S := Fx F) x4d (fun k e => e.elim (fun e => (h4d.lt k e).2) (fun e => Nat.lt_of_lt_of_le (hX k e) M4.only.size))
    have ep : putP s k p due = noteP { touchP s k with l := setK lt s.l k ⟨p, due, n1⟩ } ⟨1, k, p, due⟩ := by unfold putP; rw [hn1]
    rw [hn1] at hI
    have HE := Lib.hid ep
    have HC : Hid ((touchP s k).cnt = n1) := hn1
    have H4 := Lib.hid (And.intro h4d (And.intro x4d (And.intro M4 (And.intro hI (And.intro hn1 (And.intro (Nat.le_trans hB3 o4.size) hq4))))))
    obtain ⟨⟨q0, q1, q2, q3, q4⟩, q5⟩ := hq4
    unfold VV.val at hcp
    clear h3 x3 M3 hbx3 hB3 hI hsm M4 x4 hbx4 hn1 c4 ep h4 o4 h4d x4d H3
    have hN1 : N + 1 ≤ 1000000000 := by omega
    go_upto_region 9 with fail
    go_region_held3 (fun w' => Pc w' w.heap.size x ∧ w'.cell? ⟨F.g, 2, none⟩ = some (.int .u64 n1))
      (first | with_reducible exact H4.out.2.2.2.2.2.2 | with_reducible exact Pq.below H4.out.2.2.2.2.2.2 b5 | with_reducible exact Pq.lay (Pq.below H4.out.2.2.2.2.2.2 b5) M6 hbF h6 HC.out)
      (first
        | (go_at_call 46; refine hcp.mono ?_; rintro e w5 ⟨y, rfl, v5, -, -, b5⟩)
        | (go_at_call 45
           have hl5 := lay_calls B F (N + 1) (touchP s k) k y ⟨p, due, n1⟩ w5 (H4.out.1.below b5) hk hN1 (Nat.le_trans H4.out.2.2.2.2.2.1 b5.size) v5 hdd H4.out.2.2.2.1
           unfold hval at hl5
           refine hl5.mono ?_; rintro e w6 ⟨rfl, F6, h6, M6⟩))
    obtain ⟨h4, x4, M4, hI, hn1, hB4, hq4⟩ := H4.out
    have hq6 := Pq.lay (Pq.below hq4 b5) M6 hbF h6 HC.out
    have x6 : Vok w6 (Ft F6) x p := (x4.below b5).move M6.only (fun k _ e => e) (fun k hk e => (M6.sub k e).elim id (fun hge => absurd hk (Nat.not_lt.2 hge)))
    have hnt := note_calls B F6 (N + 2) _ ⟨1, k, x, due⟩ w6 h6 (Nat.le_trans hB4 (Nat.le_trans b5.size M6.only.size)) x6.rd (by show SmP (pvOf x); rw [x6.pv]; exact x6.sm) (fun k e => by rw [M6.x] at e; exact Nat.lt_of_lt_of_le (hX k e) (Nat.le_trans M4.only.size (Nat.le_trans b5.size M6.only.size))) hch
    rw [M6.g] at hnt
    have M46 : Moves F F6 w w6 := (M4.trans (Moves.below (((Below.refl _ _).drew).trans (b5.mono (Nat.le_refl _))))).trans M6
    have epo : peOf ⟨1, k, x, due⟩ = ⟨1, k, p, due⟩ := by unfold peOf; rw [← x6.pv]
    rw [epo] at hnt
    have H6 := Lib.hid (And.intro M46 epo)
    obtain ⟨⟨r0, r1, r2, r3, r4⟩, r5⟩ := hq6
    unfold evV at hnt
    clear h4 x4 M4 hI hn1 hB4 hq4 x6 M46 epo q0 q1 q2 q3 q4 q5 v5 b5 hcp M6 h6 y0 y1 y2 y3 y4
    go_wp2_with fail
    refine hnt.mono ?_
    rintro e w7 ⟨rfl, F7, h7, M7⟩
    go_wp2_with fail
    go_ret
    refine ⟨rfl, F7, ?_, H6.out.1.trans M7⟩
    rw [HE.out]
    exact h7
end Go.Proofs.YtgmnnpbbiejbnaaGreat.SpF
set_option maxRecDepth 100000
set_option linter.unusedSimpArgs false
set_option linter.unusedVariables false
namespace Go.Proofs.YtgmnnpbbiejbnaaGreat.SpG
open Go.RowKit Go.Proofs.YtgmnnpbbiejbnaaGreat.Mem Go.Proofs.YtgmnnpbbiejbnaaGreat.VaC Go.Proofs.YtgmnnpbbiejbnaaGreat.VaE Go.Proofs.YtgmnnpbbiejbnaaGreat.VaH Go.Proofs.YtgmnnpbbiejbnaaGreat.VaI Go.Proofs.YtgmnnpbbiejbnaaGreat.VaX Go.Proofs.YtgmnnpbbiejbnaaGreat.DuA Go.Proofs.YtgmnnpbbiejbnaaGreat.SpA Go.Proofs.YtgmnnpbbiejbnaaGreat.SpB Go.Proofs.YtgmnnpbbiejbnaaGreat.SpC Go.Proofs.YtgmnnpbbiejbnaaGreat.SpD Go.Proofs.YtgmnnpbbiejbnaaGreat.SpE Go.Proofs.YtgmnnpbbiejbnaaGreat.SpF
open Go.Proofs.YtgmnnpbbiejbnaaGreat.DsH (Ix IxS okk keyed key_of)

theorem inv_gone {s : PS} (h : Inv s) (k : ByteArray) (hk : k.size ≤ 100000000) : Inv (goneP s k) := inv_drop (s := touchP s k) (inv_touch h k hk) k
theorem getD_of {α : Type} {o : Option α} {z : α} (h : o.isSome = true) : ∃ a, o = some a ∧ o.getD z = a := by
  obtain ⟨a, ha⟩ := Option.isSome_iff_exists.1 h
  exact ⟨a, ha, by rw [ha]; rfl⟩
/-- What a look-up in the keys gives, once for all. -/
theorem look_s {B : Nat} {F : Lay} {N : Nat} {s : PS} {w : World} (h : Sp w B F N s) {k : ByteArray} (hk : k.size ≤ 100000000) :
    ∃ x : VV, Vok w (Fx F) x ((getK s.l k).getD ph0).v ∧
      (Instr.lookup 86 (.map (some F.m)) (.string k) true).run Tryz.prog w = .ok (.tuple #[.agg #[.int .i64 x.kind, .string x.text, .slice x.LA x.ln x.lc, .slice x.FA x.fn x.fc, .slice x.KA x.kn x.kc, .int .i64 ((getK s.l k).getD ph0).due, .int .u64 ((getK s.l k).getD ph0).ver], .bool (getK s.l k).isSome]) w ∧
      (Instr.lookup 86 (.map (some F.m)) (.string k) false).run Tryz.prog w = .ok (.agg #[.int .i64 x.kind, .string x.text, .slice x.LA x.ln x.lc, .slice x.FA x.fn x.fc, .slice x.KA x.kn x.kc, .int .i64 ((getK s.l k).getD ph0).due, .int .u64 ((getK s.l k).getD ph0).ver]) w := by
  have hok : okk k := by unfold okk maxLen; omega
  obtain ⟨L, hmm, htt⟩ := h.sq.mp
  obtain ⟨x, hx, hv⟩ := htt.at0 k
  refine ⟨x, hv, ?_, ?_⟩
  · rw [hmm.look Tryz.underlying86 zero_held hok, hx, htt.is k]; rfl
  · rw [hmm.look1 Tryz.underlying86 zero_held hok, hx]; rfl
set_option maxHeartbeats 4000000 in
theorem drop_calls (B : Nat) (F : Lay) (N : Nat) (s : PS) (k : ByteArray) (w : World) (h : Sp w B F N s) (hB : B ≤ w.heap.size) (hk : k.size ≤ 100000000) (hX : ∀ k, F.X k → k < w.heap.size) (hN : N ≤ 999999999) (hc : s.cnt ≤ 4611686118427387903) (hch : s.ch.length ≤ 1000000000) :
    Calls Tryz.prog 48 #[.pointer (some ⟨F.g, 0, none⟩), .string k] w fun e w' => e = .returned (.bool (getK s.l k).isSome) ∧ ∃ F', Sp w' B F' (N + 1) (dropS s k) ∧ Moves F F' w w' := by
  obtain ⟨c0, -, -, -, -, -, -⟩ := h.cells
  obtain ⟨x, hx, hl1, -⟩ := look_s h hk
  obtain ⟨d, hd⟩ : ∃ d, ((getK s.l k).getD ph0).due = d := ⟨_, rfl⟩
  obtain ⟨n, hn⟩ : ∃ n, ((getK s.l k).getD ph0).ver = n := ⟨_, rfl⟩
  rw [hd, hn] at hl1
  clear hd hn hx
  have b1 : Below w.heap.size w (w.alloc (.cells #[.int .i64 x.kind, .string x.text, .slice x.LA x.ln x.lc, .slice x.FA x.fn x.fc, .slice x.KA x.kn x.kc, .int .i64 d, .int .u64 n] 97)) := (Below.refl _ _).alloc (Nat.le_refl _) _
  cases hg : (getK s.l k).isSome
  · rw [hg] at hl1
    have e1 : dropS s k = s := by unfold dropS; rw [hg]; rfl
    rw [e1]
    have H := Lib.hid (And.intro (h.below b1) (Moves.below (F := F) b1))
    clear h b1 e1 hg
    go_enter Tryz.func48, Tryz.ntmps48
    go_wp2_with fail
    go_ret
    exact ⟨rfl, F, H.out.1.more (by omega), H.out.2⟩
  · rw [hg] at hl1
    have e1 : dropS s k = noteP (goneP s k) ⟨2, k, pv0, 0⟩ := by unfold dropS; rw [hg]; rfl
    rw [e1]
    have htc := touch_calls B F N s k _ (h.below b1) hk (by omega) (by omega)
    have HM := Lib.hid (And.intro hB (Moves.below (F := F) b1))
    clear h b1 e1 hg hB
    go_enter Tryz.func48, Tryz.ntmps48
    go_wp2_with fail
    refine htc.mono ?_
    rintro e w2 ⟨rfl, h2, o2⟩
    have hB2 : B ≤ w2.heap.size := by have := (h2.lt F.g (.inl rfl)); omega
    have hfc := free_calls B F (N + 1) (touchP s k) k w2 h2 hk (by omega) hB2
    clear h2
    go_wp2_with fail
    refine hfc.mono ?_
    rintro e w3 ⟨rfl, F3, h3, M3⟩
    have hB3 : B ≤ w3.heap.size := by have := (h3.lt F3.g (.inl rfl)); omega
    have hnt := note_calls B F3 (N + 1) (goneP s k) ⟨2, k, vv0, 0⟩ w3 h3 hB3 (vok0 w3 (fun _ => False)).rd (vok0 w3 (fun _ => False)).sm (fun k e => by rw [M3.x] at e; exact Nat.lt_of_lt_of_le (hX k e) (Nat.le_trans HM.out.2.only.size (Nat.le_trans o2.size M3.only.size))) hch
    rw [M3.g] at hnt
    have e3 : peOf ⟨2, k, vv0, 0⟩ = ⟨2, k, pv0, 0⟩ := rfl
    rw [e3] at hnt
    have H3 := Lib.hid (HM.out.2.trans ((Moves.mk o2 (fun k h => .inl h) rfl rfl : Moves F F _ _).trans M3))
    unfold evV vv0 at hnt
    simp only at hnt
    clear h3 M3 o2 HM htc hfc
    go_wp2_with fail
    refine hnt.mono ?_
    rintro e w4 ⟨rfl, F4, h4, M4⟩
    go_wp2_with fail
    go_ret
    exact ⟨rfl, F4, h4, H3.out.trans M4⟩
/-- With what is kept away from besides, and without. -/
theorem _root_.Go.Proofs.YtgmnnpbbiejbnaaGreat.SpD.Moves.unx {F F' : Lay} {w w' : World} {X' : Nat → Prop} (h : Moves { F with X := X' } F' w w') : Moves F { F' with X := F.X } w w' := ⟨h.only, h.sub, h.g, rfl⟩
set_option maxHeartbeats 4000000 in
theorem setDue_calls (B : Nat) (F : Lay) (N : Nat) (s : PS) (k : ByteArray) (due : Int) (w : World) (h : Sp w B F N s) (hB : B ≤ w.heap.size) (hk : k.size ≤ 100000000) (hX : ∀ k, F.X k → k < w.heap.size) (hN : N ≤ 999999999) (hc : s.cnt ≤ 4611686118427387903) (hch : s.ch.length ≤ 1000000000) :
    Calls Tryz.prog 49 #[.pointer (some ⟨F.g, 0, none⟩), .string k, .int .i64 due] w fun e w' => e = .returned (.bool (dueB s k due)) ∧ ∃ F', Sp w' B F' (N + 2) (dueS s k due) ∧ Moves F F' w w' := by
  have htk := fun w => tick_calls due w
  cases htb : tickB due
  · rw [htb] at htk
    have e1 : dueS s k due = s := by unfold dueS; rw [htb]; rfl
    have e2 : dueB s k due = false := by unfold dueB; rw [htb]; rfl
    rw [e1, e2]
    have H := Lib.hid h
    clear h e1 e2 htb
    go_enter Tryz.func49, Tryz.ntmps49
    go_wp2_with fail
    refine (htk _).mono ?_
    rintro e w2 ⟨rfl, rfl⟩
    go_wp2_with fail
    go_ret
    exact ⟨rfl, F, H.out.more (by omega), Moves.refl _ _⟩
  rw [htb] at htk
  have hdd : 0 ≤ due ∧ due ≤ 9007199254740992 := of_decide_eq_true htb
  obtain ⟨c0, -, -, -, -, -, -⟩ := h.cells
  obtain ⟨x, hx, hl1, -⟩ := look_s h hk
  obtain ⟨d, hd⟩ : ∃ d, ((getK s.l k).getD ph0).due = d := ⟨_, rfl⟩
  obtain ⟨n, hn⟩ : ∃ n, ((getK s.l k).getD ph0).ver = n := ⟨_, rfl⟩
  rw [hd, hn] at hl1
  clear hd hn
  cases hg : (getK s.l k).isSome
  · rw [hg] at hl1
    have b1 : Below w.heap.size w (w.alloc (.cells #[.int .i64 x.kind, .string x.text, .slice x.LA x.ln x.lc, .slice x.FA x.fn x.fc, .slice x.KA x.kn x.kc, .int .i64 d, .int .u64 n] 97)) := (Below.refl _ _).alloc (Nat.le_refl _) _
    have e1 : dueS s k due = s := by
      unfold dueS; rw [htb]
      cases hgk : getK s.l k
      · rfl
      · rw [hgk] at hg; cases hg
    have e2 : dueB s k due = false := by unfold dueB; rw [htb, hg]; rfl
    rw [e1, e2]
    have H := Lib.hid (And.intro (h.below b1) (Moves.below (F := F) b1))
    clear h b1 e1 e2 hg htb hx
    go_enter Tryz.func49, Tryz.ntmps49
    go_wp2_with fail
    refine (htk _).mono ?_
    rintro e w2 ⟨rfl, rfl⟩
    go_wp2_with fail
    go_ret
    exact ⟨rfl, F, H.out.1.more (by omega), H.out.2⟩
  · rw [hg] at hl1
    obtain ⟨p, hp, hpd⟩ := getD_of (z := ph0) hg
    rw [hpd] at hx
    obtain ⟨n1, hn1⟩ : ∃ n1, s.cnt + 1 = n1 := ⟨_, rfl⟩
    have e1 : dueS s k due = noteP { touchP s k with l := setK lt s.l k ⟨p.v, due, n1⟩ } ⟨3, k, pv0, due⟩ := by unfold dueS; rw [htb, hp]; simp only [if_true]; unfold dueP; rw [hn1]
    have e2 : dueB s k due = true := by unfold dueB; rw [htb, hg]; rfl
    rw [e1, e2]
    have hcp : chkP p.v = 0 := h.inv.chk _ ((mem_getR DuB.linS h.inv.ris).1 hp)
    have hI := inv_put (due := due) h.inv hk hdd hcp
    rw [hn1] at hI
    obtain ⟨W1, hW1⟩ : ∃ W1, w.alloc (.cells (hcells x d n) 97) = W1 := ⟨_, rfl⟩
    have b1 : Below w.heap.size w W1 := by rw [← hW1]; exact (Below.refl _ _).alloc (Nat.le_refl _) _
    have hbx : W1.heap[w.heap.size]? = some (.cells (hcells x d n) 97 (0, 0)) := by rw [← hW1]; exact heap_alloc_new w _
    obtain ⟨F1, hF1⟩ : ∃ F1 : Lay, F1 = { F with X := fun k => F.X k ∨ k = w.heap.size } := ⟨_, rfl⟩
    have hg1 : Sp w B F1 N s := by rw [hF1]; exact h.ghost (fun k hk e => e.elim id (fun e => absurd hk (by omega)))
    have hxF : F1.X w.heap.size := by rw [hF1]; exact .inr rfl
    have hX1 : ∀ k, F1.X k → k < W1.heap.size := by
      intro k e
      rw [hF1] at e
      have hs := (Array.getElem?_eq_some_iff.1 hbx).1
      rcases e with e | e
      · exact Nat.lt_of_lt_of_le (hX k e) b1.size
      · omega
    have hx1 : Vok w (Fx F1) x p.v := hx.move (Only.refl (fun _ => False) w) (fun k _ e => e.elim) (fun k hk e => by
      rw [hF1] at e
      rcases e with e | e | e
      · exact .inl e
      · exact .inr e
      · exact absurd hk (by omega))
    have hgF : F1.g = F.g := by rw [hF1]
    have hmF : F1.m = F.m := by rw [hF1]
    have hbF : ¬ Ft F1 w.heap.size := fun e => Nat.lt_irrefl _ (hg1.lt _ e).2
    have htc := touch_calls B F1 N s k W1 (hg1.below b1) hk (by omega) (by omega)
    rw [hgF] at htc
    have H := Lib.hid (And.intro (hg1.below b1) (And.intro (Moves.below (F := F1) b1) (And.intro (hx1.below b1) (And.intro hbx (And.intro hI (And.intro hn1 (And.intro hB (And.intro hX1 hgF))))))))
    have HF1 := Lib.hid hF1
    have HW := Lib.hid hW1
    unfold hcells at HW
    clear h b1 e1 e2 hg htb hx hp hpd hn1 hW1 hbx hI hB hcp hg1 hX1 hx1 hF1 hgF hmF hX
    go_enter Tryz.func49, Tryz.ntmps49
    go_wp2_with fail
    refine (htk _).mono ?_
    rintro e w2 ⟨rfl, rfl⟩
    go_wp2_with fail
    rw [HW.out]
    refine htc.mono ?_
    rintro e w3 ⟨rfl, h3, o3⟩
    obtain ⟨h1, M1, hx1, hbx, hI, hn1, hB, hX1, hgF⟩ := H.out
    have hbx3 := o3.heap hbx hbF
    have hx3 := hx1.move (S' := Fx F1) o3 (fun k _ e => .inl e) (fun k _ e => e)
    have M3 : Moves F1 F1 w2 w3 := M1.trans ⟨o3, fun k h => .inl h, rfl, rfl⟩
    have hc1 : (touchP s k).cnt = n1 := hn1
    have cn := h3.cells.2.2.1
    rw [hc1, hgF] at cn
    obtain ⟨y0, y1, y2, y3, y4, y5, y6⟩ := hcells_at hbx3
    have zf : ∀ j, w3.frozen? ⟨w2.heap.size, j, none⟩ = false := fun j => by simp [World.frozen?, hbx3]
    have H3 := Lib.hid (And.intro h3 (And.intro M3 (And.intro hx3 (And.intro hbx3 (And.intro hI (And.intro hB (And.intro (fun k e => Nat.lt_of_lt_of_le (hX1 k e) o3.size : ∀ k, F1.X k → k < w3.heap.size) hgF)))))))
    clear h1 M1 hx1 hbx hI hn1 hB h3 o3 hbx3 hx3 M3 hc1 H HW htc c0 hl1 hX1 hgF
    go_upto_region 7 with fail
    go_region_law (fail)
    all_goals (
      obtain ⟨W5, hW5⟩ : ∃ W5, ((w3.setCell ⟨w2.heap.size, 5, none⟩ (.int .i64 due)).setCell ⟨w2.heap.size, 6, none⟩ (.int .u64 n1)).drew = W5 := ⟨_, rfl⟩
      rw [hW5]
      obtain ⟨h3, M3, hx3, hbx3, hI, hB, hX3, hgF⟩ := H3.out
      have hbx5 : W5.heap[w2.heap.size]? = some (.cells (hcells x due n1) 97 (0, 0)) := by
        rw [← hW5]
        simp [World.drew, World.setCell, Array.getElem?_modify, hbx3, hcells]
      have o5 : Only (fun k => k = w2.heap.size) w3 W5 := by
        rw [← hW5]
        exact (((Only.refl (fun k => k = w2.heap.size) w3).put (p := ⟨w2.heap.size, 5, none⟩) (.inl rfl) _).put (p := ⟨w2.heap.size, 6, none⟩) (.inl rfl) _).drew
      have hd5 : ∀ q, q < w3.heap.size → q = w2.heap.size → Fx F1 q := fun q _ e => by subst e; exact .inr hxF
      have h5 : Sp W5 B F1 (N + 1) (touchP s k) := ⟨o5.heap h3.hp (fun e => hbF (by rw [← e]; exact .inl rfl)), h3.sq.only o5 (fun q hq _ e => hbF (by rw [← e]; exact hq)) hd5, h3.on, h3.inv⟩
      have hx5 : Vok W5 (Fx F1) x p.v := hx3.move o5 hd5 (fun q _ e => e)
      have hB5 : B ≤ W5.heap.size := Nat.le_trans hB (Nat.le_trans M3.only.size o5.size)
      have M5 : Moves F1 F1 w2 W5 := ⟨M3.only.trans o5 (fun q e => .inr (Nat.le_of_eq e.symm)), fun q e => .inl e, rfl, rfl⟩
      have hl5 := lay_calls B F1 (N + 1) (touchP s k) k x ⟨p.v, due, n1⟩ W5 h5 hk (by omega) hB5 hx5 hdd hI
      rw [hgF] at hl5
      obtain ⟨q0, q1, q2, q3, q4, q5, q6⟩ := hcells_at hbx5
      unfold hval at hl5
      have H5 := Lib.hid (And.intro M5 (And.intro hB5 (And.intro (fun q e => Nat.lt_of_lt_of_le (hX3 q e) o5.size : ∀ q, F1.X q → q < W5.heap.size) hgF)))
      clear h3 M3 hx3 hbx3 hI hB hX3 hgF hbx5 o5 hd5 h5 hx5 hB5 M5 hW5 y0 y1 y2 y3 y4 y5 y6 zf cn
      go_wp2_with fail
      refine hl5.mono ?_
      rintro e w6 ⟨rfl, F6, h6, M6⟩
      obtain ⟨M5, hB5, hX5, hgF⟩ := H5.out
      have hnt := note_calls B F6 (N + 2) _ ⟨3, k, vv0, due⟩ w6 h6 (Nat.le_trans hB5 M6.only.size) (vok0 w6 (fun _ => False)).rd (vok0 w6 (fun _ => False)).sm (fun q e => by rw [M6.x] at e; exact Nat.lt_of_lt_of_le (hX5 q e) M6.only.size) hch
      rw [M6.g, hgF] at hnt
      have e3 : peOf ⟨3, k, vv0, due⟩ = ⟨3, k, pv0, due⟩ := rfl
      rw [e3] at hnt
      unfold evV vv0 at hnt
      simp only at hnt
      have H6 := Lib.hid (M5.trans M6)
      clear M5 hB5 hX5 hgF h6 M6 H5 hl5
      go_wp2_with fail
      refine hnt.mono ?_
      rintro e w7 ⟨rfl, F7, h7, M7⟩
      go_wp2_with fail
      go_ret
      have MM := H6.out.trans M7
      rw [HF1.out] at MM
      exact ⟨rfl, { F7 with X := F.X }, h7.ghost (fun q _ e => by rw [MM.x]; exact .inl e), MM.unx⟩)
end Go.Proofs.YtgmnnpbbiejbnaaGreat.SpG
set_option maxRecDepth 100000
set_option linter.unusedSimpArgs false
set_option linter.unusedVariables false
namespace Go.Proofs.YtgmnnpbbiejbnaaGreat.SpH
open Go.RowKit Go.Proofs.YtgmnnpbbiejbnaaGreat.Mem Go.Proofs.YtgmnnpbbiejbnaaGreat.VaC Go.Proofs.YtgmnnpbbiejbnaaGreat.VaE Go.Proofs.YtgmnnpbbiejbnaaGreat.VaH Go.Proofs.YtgmnnpbbiejbnaaGreat.VaI Go.Proofs.YtgmnnpbbiejbnaaGreat.VaX Go.Proofs.YtgmnnpbbiejbnaaGreat.DuA Go.Proofs.YtgmnnpbbiejbnaaGreat.SpA Go.Proofs.YtgmnnpbbiejbnaaGreat.SpB Go.Proofs.YtgmnnpbbiejbnaaGreat.SpC Go.Proofs.YtgmnnpbbiejbnaaGreat.SpD Go.Proofs.YtgmnnpbbiejbnaaGreat.SpE Go.Proofs.YtgmnnpbbiejbnaaGreat.SpF Go.Proofs.YtgmnnpbbiejbnaaGreat.SpG
open Go.Proofs.YtgmnnpbbiejbnaaGreat.DsH (Ix IxS okk keyed key_of)

/-- What is seen of a key at now. -/
def seenP (s : PS) (k : ByteArray) (now : Int) : Option PH := (getK s.l k).bind (fun h => if overB h.due now then none else some h)
def HV (x : VV) (d : Int) (n : Nat) : Value := .agg #[.int .i64 x.kind, .string x.text, .slice x.LA x.ln x.lc, .slice x.FA x.fn x.fc, .slice x.KA x.kn x.kc, .int .i64 d, .int .u64 n]
theorem only_alloc2 (w : World) (o o' c : Obj) : Only (fun k => k = w.heap.size) (w.alloc o) ((w.alloc o').alloc c) := by
  refine ⟨rfl, rfl, rfl, by simp, fun k hk hn => ?_⟩
  rw [World.size_alloc] at hk
  rw [RowKit.Below.heap_alloc _ _ _ (by rw [World.size_alloc]; omega), RowKit.Below.heap_alloc _ _ _ (by omega), RowKit.Below.heap_alloc _ _ _ (by omega)]
set_option maxHeartbeats 2000000 in
theorem seen_calls (B : Nat) (F : Lay) (N : Nat) (s : PS) (k : ByteArray) (now : Int) (w : World) (h : Sp w B F N s) (hk : k.size ≤ 100000000) :
    Calls Tryz.prog 60 #[.pointer (some ⟨F.g, 0, none⟩), .string k, .int .i64 now] w fun e w' => ∃ (x : VV) (d : Int) (n : Nat), e = .returned (.tuple #[HV x d n, .bool (seenP s k now).isSome]) ∧
      Vok w' (Fx F) x ((seenP s k now).getD ph0).v ∧ d = ((seenP s k now).getD ph0).due ∧ n = ((seenP s k now).getD ph0).ver ∧ Below w.heap.size w w' := by
  have b0 : Below w.heap.size w (w.alloc (.cells #[.int .i64 0, .string ⟨#[]⟩, .slice none 0 0, .slice none 0 0, .slice none 0 0, .int .i64 0, .int .u64 0] 97)) := (Below.refl _ _).alloc (Nat.le_refl _) _
  obtain ⟨F1, hF1⟩ : ∃ F1 : Lay, F1 = { F with X := fun k => F.X k ∨ k = w.heap.size } := ⟨_, rfl⟩
  have hg1 : Sp w B F1 N s := by rw [hF1]; exact h.ghost (fun k hk e => e.elim id (fun e => absurd hk (by omega)))
  have h0 := hg1.below b0
  have hFx : ∀ k, Fx F k → Fx F1 k := fun k e => by rw [hF1]; exact e.elim .inl (fun e => .inr (.inl e))
  have hFn : Fx F1 w.heap.size := by rw [hF1]; exact .inr (.inr rfl)
  have hgF : F1.g = F.g := by rw [hF1]
  have hmF : F1.m = F.m := by rw [hF1]
  obtain ⟨c0, -, -, -, -, -, -⟩ := h0.cells
  obtain ⟨x, hx', hl1, -⟩ := look_s h0 hk
  rw [hgF, hmF] at c0
  rw [hmF] at hl1
  obtain ⟨d, hd⟩ : ∃ d, ((getK s.l k).getD ph0).due = d := ⟨_, rfl⟩
  obtain ⟨n, hn⟩ : ∃ n, ((getK s.l k).getD ph0).ver = n := ⟨_, rfl⟩
  rw [hd, hn] at hl1
  have hov := fun w => over_calls d now w
  cases hg : (getK s.l k).isSome
  · rw [hg] at hl1
    have e1 : seenP s k now = none := by
      unfold seenP
      cases hgk : getK s.l k
      · rfl
      · rw [hgk] at hg; cases hg
    rw [e1]
    clear hd hn hg hx' e1 h0 h hg1 hF1 hFx hFn hgF hmF
    go_enter Tryz.func60, Tryz.ntmps60
    go_wp2_with fail
    (try simp only [Exit.inBlock, Exit.then])
    refine bodyPost_ret (v := .tuple #[.agg #[.int .i64 0, .string ⟨#[]⟩, .slice none 0 0, .slice none 0 0, .slice none 0 0, .int .i64 0, .int .u64 0], .bool false]) ?_ rfl ⟨vv0, 0, 0, rfl, vok0 _ _, rfl, rfl, ?_⟩
    · rw [results_cell_tmp rfl]
      go_simp
    · first
        | exact ((Below.refl _ _).alloc (Nat.le_refl _) _).alloc (by simp) _
        | exact (((Below.refl _ _).alloc (Nat.le_refl _) _).alloc (by simp) _).drew
  · rw [hg] at hl1
    obtain ⟨p, hp, hpd⟩ := getD_of (z := ph0) hg
    rw [hpd] at hx' hd hn
    cases ho : overB d now
    · rw [ho] at hov
      have e1 : seenP s k now = some p := by unfold seenP; rw [hp]; simp [hd, ho]
      rw [e1]
      have hX := Lib.hid (And.intro hx' (And.intro hd (And.intro hn (And.intro hFx hFn))))
      clear hd hn hg hx' h0 hp hpd e1 ho hg1 hF1 hgF hmF hFx hFn h
      go_enter Tryz.func60, Tryz.ntmps60
      go_wp2_with fail
      refine (hov _).mono ?_
      rintro e w2 ⟨rfl, rfl⟩
      go_wp2_with fail
      (try simp only [Exit.inBlock, Exit.then])
      obtain ⟨hx', hd, hn, hFx, hFn⟩ := hX.out
      refine bodyPost_ret (v := .tuple #[.agg #[.int .i64 x.kind, .string x.text, .slice x.LA x.ln x.lc, .slice x.FA x.fn x.fc, .slice x.KA x.kn x.kc, .int .i64 d, .int .u64 n], .bool true]) ?_ rfl ⟨x, d, n, rfl, ?_, hd.symm, hn.symm, ?_⟩
      · rw [results_cell_tmp rfl]
        go_simp
      · exact hx'.move (only_alloc2 _ _ _ _) (fun k _ e => by subst e; exact hFn) (fun k _ e => hFx k e)
      · exact ((Below.refl _ _).alloc (Nat.le_refl _) _).alloc (by simp) _
    · rw [ho] at hov
      have e1 : seenP s k now = none := by unfold seenP; rw [hp]; simp [hd, ho]
      rw [e1]
      clear hd hn hg hx' h0 hp hpd e1 ho hg1 hF1 hgF hmF hFx hFn h
      go_enter Tryz.func60, Tryz.ntmps60
      go_wp2_with fail
      refine (hov _).mono ?_
      rintro e w2 ⟨rfl, rfl⟩
      go_wp2_with fail
      (try simp only [Exit.inBlock, Exit.then])
      refine bodyPost_ret (v := .tuple #[.agg #[.int .i64 0, .string ⟨#[]⟩, .slice none 0 0, .slice none 0 0, .slice none 0 0, .int .i64 0, .int .u64 0], .bool false]) ?_ rfl ⟨vv0, 0, 0, rfl, vok0 _ _, rfl, rfl, ?_⟩
      · rw [results_cell_tmp rfl]
        go_simp
      · first
          | exact ((Below.refl _ _).alloc (Nat.le_refl _) _).alloc (by simp) _
          | exact (((Below.refl _ _).alloc (Nat.le_refl _) _).alloc (by simp) _).drew
/-- A box with a value. -/
theorem box5 {w : World} {b : Nat} {o : Array Value} (T : TypeId) (y : VV) (h : w.heap[b]? = some (.cells #[o[0]!, o[1]!, o[2]!, o[3]!, o[4]!] T (0, 0))) :
    (((((w.setCell ⟨b, 0, none⟩ (.int .i64 y.kind)).setCell ⟨b, 1, none⟩ (.string y.text)).setCell ⟨b, 2, none⟩ (.slice y.LA y.ln y.lc)).setCell ⟨b, 3, none⟩ (.slice y.FA y.fn y.fc)).setCell ⟨b, 4, none⟩ (.slice y.KA y.kn y.kc)).heap[b]? = some (.cells y.cells T (0, 0)) := by
  simp [World.setCell, Array.getElem?_modify, h, VV.cells]
end Go.Proofs.YtgmnnpbbiejbnaaGreat.SpH
set_option maxRecDepth 100000
set_option linter.unusedSimpArgs false
set_option linter.unusedVariables false
namespace Go.Proofs.YtgmnnpbbiejbnaaGreat.SpI
open Go.RowKit Go.Proofs.YtgmnnpbbiejbnaaGreat.Mem Go.Proofs.YtgmnnpbbiejbnaaGreat.VaC Go.Proofs.YtgmnnpbbiejbnaaGreat.VaE Go.Proofs.YtgmnnpbbiejbnaaGreat.VaH Go.Proofs.YtgmnnpbbiejbnaaGreat.VaI Go.Proofs.YtgmnnpbbiejbnaaGreat.VaX Go.Proofs.YtgmnnpbbiejbnaaGreat.DuA Go.Proofs.YtgmnnpbbiejbnaaGreat.SpA Go.Proofs.YtgmnnpbbiejbnaaGreat.SpB Go.Proofs.YtgmnnpbbiejbnaaGreat.SpC Go.Proofs.YtgmnnpbbiejbnaaGreat.SpD Go.Proofs.YtgmnnpbbiejbnaaGreat.SpE Go.Proofs.YtgmnnpbbiejbnaaGreat.SpF Go.Proofs.YtgmnnpbbiejbnaaGreat.SpG Go.Proofs.YtgmnnpbbiejbnaaGreat.SpH
open Go.Proofs.YtgmnnpbbiejbnaaGreat.DsH (Ix IxS okk keyed key_of)

theorem fld_due (a b c d e f g : Value) (w : World) : (Instr.field 97 (.agg #[a, b, c, d, e, f, g]) 1).run Tryz.prog w = .ok f w := by kernel_rfl
theorem fld_ver (a b c d e f g : Value) (w : World) : (Instr.field 97 (.agg #[a, b, c, d, e, f, g]) 2).run Tryz.prog w = .ok g w := by kernel_rfl
attribute [local go_sem] fld_due fld_ver
theorem due_calls (B : Nat) (F : Lay) (N : Nat) (s : PS) (k : ByteArray) (now : Int) (w : World) (h : Sp w B F N s) (hk : k.size ≤ 100000000) :
    Calls Tryz.prog 37 #[.pointer (some ⟨F.g, 0, none⟩), .string k, .int .i64 now] w fun e w' => e = .returned (.tuple #[.int .i64 ((seenP s k now).getD ph0).due, .bool (seenP s k now).isSome]) ∧ Below w.heap.size w w' := by
  have hsn := seen_calls B F N s k now _ h hk
  obtain ⟨q, hq⟩ : ∃ q, seenP s k now = q := ⟨_, rfl⟩
  rw [hq] at hsn ⊢
  obtain ⟨bb, hbb⟩ : ∃ bb, q.isSome = bb := ⟨_, rfl⟩
  rw [hbb] at hsn ⊢
  clear hbb hq h
  go_enter Tryz.func37, Tryz.ntmps37
  go_wp2_with fail
  refine hsn.mono ?_
  rintro e w2 ⟨x, d, n, rfl, hx, hd, hn, b2⟩
  have HD := Lib.hid hd
  clear hd hn
  unfold HV
  go_wp2_with fail
  go_ret2
  refine ⟨?_, b2.alloc b2.size _⟩
  rw [← HD.out]
  rfl
theorem counter_calls (B : Nat) (F : Lay) (N : Nat) (s : PS) (w : World) (h : Sp w B F N s) :
    Calls Tryz.prog 25 #[.pointer (some ⟨F.g, 0, none⟩)] w fun e w' => e = .returned (.int .u64 s.cnt) ∧ w' = w := by
  obtain ⟨-, -, c2, -, -, -, -⟩ := h.cells
  obtain ⟨n, hn⟩ : ∃ n, s.cnt = n := ⟨_, rfl⟩
  rw [hn] at c2 ⊢
  clear hn h
  go_enter Tryz.func25, Tryz.ntmps25
  go_wp2_with fail
  go_ret
  exact ⟨rfl, rfl⟩
def overS (s : PS) (k : ByteArray) (now : Int) : Bool := overB ((getK s.l k).getD ph0).due now
theorem inv_end {s : PS} (h : Inv s) : Inv (endP s) :=
  { ris := h.ris, risb := Ris.nil, key := h.key, keyb := fun e he => (by cases he), due := h.due, dueb := fun e he => (by cases he), ver := h.ver, verb := fun e he => (by cases he), atc := fun e => (by cases e), chk := h.chk, chkb := fun e he => (by cases he), unt := fun e => (by cases e) }
theorem inv_mark {s : PS} (h : Inv s) (hld : s.ld = false) : Inv { s with on := true, at_ := s.cnt, bf := [], ch := [] } :=
  { ris := h.ris, risb := Ris.nil, key := h.key, keyb := fun e he => (by cases he), due := h.due, dueb := fun e he => (by cases he), ver := h.ver, verb := fun e he => (by cases he), atc := fun _ => Nat.le_refl _, chk := h.chk, chkb := fun e he => (by cases he), unt := fun _ e he _ => (h.ver e he).2.elim (fun x => by rw [hld] at x; cases x) id }
/-- The mark is taken away, or set. -/
theorem _root_.Go.Proofs.YtgmnnpbbiejbnaaGreat.SpD.Sp.anew {w w2 : World} {B : Nat} {F : Lay} {N : Nat} {s : PS} (h : Sp w B F N s) {bm : Option Nat} {c a : Nat} {on : Bool} (ho : Only (fun k => k = F.g) w w2) (hp : w2.heap[F.g]? = some (.cells #[.map (some F.m), .pointer (some ⟨F.gd, 0, none⟩), .int .u64 c, .bool on, .map bm, .int .u64 a, .slice none 0 0] 90 (0, 0)))
    (hb : bm = none ∨ ∃ b, bm = some b ∧ B ≤ b ∧ Mv w2 b 0 [] ∧ w.heap.size ≤ b) (hon : on = bm.isSome) (hI : Inv ⟨s.l, c, on, [], a, [], s.ld⟩) :
    Sp w2 B { F with bm := bm, cv := .slice none 0 0 } N ⟨s.l, c, on, [], a, [], s.ld⟩ ∧ Moves F { F with bm := bm, cv := .slice none 0 0 } w w2 := by
  have hlt := h.lt
  have hsub : ∀ k, Ft { F with bm := bm, cv := .slice none 0 0 } k → Ft F k ∨ w.heap.size ≤ k := by
    intro k hk
    rcases hk with hk | hk | hk | hk | hk
    · exact .inl (.inl hk)
    · exact .inl (.inr (.inl hk))
    · exact .inl (.inr (.inr (.inl hk)))
    · have hk : bm = some k := hk
      rcases hb with e | ⟨b, e, _, _, hge⟩
      · rw [e] at hk; cases hk
      · rw [e] at hk; injection hk with hk; subst hk; exact .inr hge
    · cases hk
  have hd : ∀ k, k < w.heap.size → k = F.g → Fx F k := fun k _ e => .inl (.inl e)
  have hs' : ∀ k, k < w.heap.size → Fx { F with bm := bm, cv := .slice none 0 0 } k → Fx F k := fun k hk e => e.elim (fun e => (hsub k e).elim .inl (fun h => absurd hk (by omega))) .inr
  have hbn : ∀ k, bm = some k → Ft F k → False := by
    intro k e hF
    have := (hlt k hF).2
    rcases hb with e' | ⟨b, e', _, _, hge⟩
    · rw [e'] at e; cases e
    · rw [e'] at e; injection e with e; subst e; omega
  obtain ⟨⟨L, hm, htl⟩, ix, bp, ⟨es, oe, he⟩, gB, mB, ap⟩ := h.sq
  refine ⟨⟨hp, ⟨⟨L, hm.only ho (fun e => ap.gm e.symm), htl.move ho hd hs'⟩, ix.only ho (fun k hk e => (ap.gx k hk).1 e), ?_, ⟨[], World.ownsRow_nil .., EVs.nil⟩, gB, mB, ⟨ap.gm, fun k hk => ⟨(ap.gx k hk).1, (ap.gx k hk).2.1, fun e => hbn k e (.inr (.inr (.inl hk))), (fun e => by cases e)⟩, ⟨fun e => hbn _ e (.inl rfl), fun e => hbn _ e (.inr (.inl rfl))⟩, ⟨(fun e => by cases e), (fun e => by cases e)⟩, (fun b _ e => by cases e)⟩⟩, hon, hI⟩, ⟨ho.mono (fun k e => .inl e), hsub, rfl, rfl⟩⟩
  rcases hb with e | ⟨b, e, hB, hM, _⟩
  · exact .inl ⟨e, rfl⟩
  · exact .inr ⟨b, e, hB, [], hM.mono (Nat.zero_le _), Tel.nil⟩
set_option maxHeartbeats 1000000 in
theorem end_calls (B : Nat) (F : Lay) (N : Nat) (s : PS) (w : World) (h : Sp w B F N s) :
    Calls Tryz.prog 53 #[.pointer (some ⟨F.g, 0, none⟩)] w fun e w' => e = .returned (.tuple #[]) ∧ ∃ F', Sp w' B F' N (endP s) ∧ Moves F F' w w' := by
  obtain ⟨c0, c1, c2, c3, c4, c5, c6⟩ := h.cells
  have fr := h.free
  have H := Lib.hid h
  clear h
  go_enter Tryz.func53, Tryz.ntmps53
  go_wp2_with fail
  refine bodyPost_end (results_none rfl _ _ _) rfl ?_
  have h := H.out
  have hp := h.hp
  obtain ⟨r1, r2⟩ := h.anew (bm := none) (c := s.cnt) (a := s.at_) (on := false) ((((Only.refl (fun k => k = F.g) w).put (p := ⟨F.g, 3, none⟩) (.inl rfl) (.bool false)).put (p := ⟨F.g, 4, none⟩) (.inl rfl) (.map none)).put (p := ⟨F.g, 6, none⟩) (.inl rfl) (.slice none 0 0)) (by simp [World.setCell, Array.getElem?_modify, hp]) (.inl rfl) rfl (inv_end h.inv)
  exact ⟨rfl, _, r1, r2⟩
set_option maxHeartbeats 1000000 in
theorem keep_calls (B : Nat) (F : Lay) (N : Nat) (s : PS) (w : World) (h : Sp w B F N s) :
    Calls Tryz.prog 26 #[.pointer (some ⟨F.g, 0, none⟩)] w fun e w' => e = .returned (.int .i64 (if s.on then 0 else 140)) ∧ ∃ F', Sp w' B F' N (keepS s) ∧ Moves F F' w w' := by
  obtain ⟨-, -, -, c3, -, -, -⟩ := h.cells
  have hen := end_calls B F N s w h
  cases hm : s.on
  · rw [hm] at c3
    have e1 : keepS s = s := by unfold keepS; rw [hm]; rfl
    rw [e1]
    have H := Lib.hid h
    clear h hen hm e1
    go_enter Tryz.func26, Tryz.ntmps26
    go_wp2_with fail
    go_ret
    exact ⟨rfl, F, H.out, Moves.refl _ _⟩
  · rw [hm] at c3
    have e1 : keepS s = endP s := by unfold keepS; rw [hm]; rfl
    rw [e1]
    clear h hm e1
    go_enter Tryz.func26, Tryz.ntmps26
    go_wp2_with fail
    refine hen.mono ?_
    rintro e w2 ⟨rfl, F2, h2, M2⟩
    go_wp2_with fail
    go_ret
    exact ⟨rfl, F2, h2, M2⟩
theorem mk_held (w : World) : (Instr.makeMap 86 none).run Tryz.prog w = .ok (.map (some w.heap.size)) (w.alloc (.map #[] 0)) := by
  simp [Instr.makeMap, run_underlying Tryz.underlying86, Result.andThen]
set_option maxHeartbeats 1000000 in
theorem mark_calls (B : Nat) (F : Lay) (N : Nat) (s : PS) (w : World) (h : Sp w B F N s) (hld : s.ld = false) :
    Calls Tryz.prog 23 #[.pointer (some ⟨F.g, 0, none⟩)] w fun e w' => e = .returned (.int .i64 (if s.on then 140 else 0)) ∧ ∃ F', Sp w' B F' N (markS s) ∧ Moves F F' w w' := by
  have HLD := Lib.hid hld
  clear hld
  obtain ⟨c0, c1, c2, c3, c4, c5, c6⟩ := h.cells
  have fr := h.free
  cases hm : s.on
  · rw [hm] at c3
    have e1 : markS s = ⟨s.l, s.cnt, true, [], s.cnt, [], s.ld⟩ := by unfold markS; rw [hm]; rfl
    rw [e1]
    have hmk := mk_held w
    have hM := Mv.made w
    have b1 : Below w.heap.size w (w.alloc (.map #[] 0)) := (Below.refl _ _).alloc (Nat.le_refl _) _
    have h1 := h.below b1
    obtain ⟨d0, d1, d2, d3, d4, d5, d6⟩ := h1.cells
    have fr1 := h1.free
    have H := Lib.hid (And.intro h (And.intro h1 (And.intro hM b1)))
    clear h h1 hm e1 hM b1
    go_enter Tryz.func23, Tryz.ntmps23
    go_wp2_with fail
    obtain ⟨h, h1, hM, b1⟩ := H.out
    have hp := h1.hp
    have hgl := h.glt
    have o2 : Only (fun k => k = F.g) (w.alloc (.map #[] 0)) (((((w.alloc (.map #[] 0)).setCell ⟨F.g, 3, none⟩ (.bool true)).setCell ⟨F.g, 5, none⟩ (.int .u64 s.cnt)).setCell ⟨F.g, 4, none⟩ (.map (some w.heap.size))).setCell ⟨F.g, 6, none⟩ (.slice none 0 0)) :=
      ((((Only.refl (fun k => k = F.g) _).put (p := ⟨F.g, 3, none⟩) (.inl rfl) _).put (p := ⟨F.g, 5, none⟩) (.inl rfl) _).put (p := ⟨F.g, 4, none⟩) (.inl rfl) _).put (p := ⟨F.g, 6, none⟩) (.inl rfl) _
    have o1 : Only (fun k => k = F.g) w (w.alloc (.map #[] 0)) := (Only.refl _ _).alloc _
    obtain ⟨r1, r2⟩ := h.anew (bm := some w.heap.size) (c := s.cnt) (a := s.cnt) (on := true) (o1.trans o2 (fun k e => .inl e)) (by simp [World.setCell, Array.getElem?_modify, hp]) (.inr ⟨w.heap.size, rfl, Nat.le_trans h.sq.gB (Nat.le_of_lt hgl), hM.only o2 (fun e => by omega), Nat.le_refl _⟩) rfl (inv_mark h.inv HLD.out)
    go_ret
    exact ⟨rfl, _, r1, r2⟩
  · rw [hm] at c3
    have e1 : markS s = s := by unfold markS; rw [hm]; rfl
    rw [e1]
    have H := Lib.hid h
    clear h hm e1
    go_enter Tryz.func23, Tryz.ntmps23
    go_wp2_with fail
    go_ret
    exact ⟨rfl, F, H.out, Moves.refl _ _⟩
end Go.Proofs.YtgmnnpbbiejbnaaGreat.SpI
