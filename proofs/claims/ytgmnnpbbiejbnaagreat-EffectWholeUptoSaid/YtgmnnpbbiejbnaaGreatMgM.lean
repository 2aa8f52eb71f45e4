/-
  The whole of a space as effects. Conditions: as stated.
  Effects done on a space: Apply. Conditions: as stated.
  What must come whatever the input is: the law's sure. Conditions: as stated.
-/
import Derived.Test.YtgmnnpbbiejbnaaGreatEfH
import Derived.Test.YtgmnnpbbiejbnaaGreatSqE
import Derived.Test.YtgmnnpbbiejbnaaGreatMgL
import Derived.Test.YtgmnnpbbiejbnaaGreatSqF
set_option maxRecDepth 100000
set_option linter.unusedSimpArgs false
set_option linter.unusedVariables false
namespace Go.Proofs.YtgmnnpbbiejbnaaGreat.EfJ
open Go.RowKit Go.Proofs.YtgmnnpbbiejbnaaGreat.Mem Go.Proofs.YtgmnnpbbiejbnaaGreat.VaA Go.Proofs.YtgmnnpbbiejbnaaGreat.VaC Go.Proofs.YtgmnnpbbiejbnaaGreat.VaE Go.Proofs.YtgmnnpbbiejbnaaGreat.VaH Go.Proofs.YtgmnnpbbiejbnaaGreat.VaI Go.Proofs.YtgmnnpbbiejbnaaGreat.VaX Go.Proofs.YtgmnnpbbiejbnaaGreat.DuA Go.Proofs.YtgmnnpbbiejbnaaGreat.SpA Go.Proofs.YtgmnnpbbiejbnaaGreat.SpB Go.Proofs.YtgmnnpbbiejbnaaGreat.SpC Go.Proofs.YtgmnnpbbiejbnaaGreat.SpD Go.Proofs.YtgmnnpbbiejbnaaGreat.SpE Go.Proofs.YtgmnnpbbiejbnaaGreat.SpF Go.Proofs.YtgmnnpbbiejbnaaGreat.SpG Go.Proofs.YtgmnnpbbiejbnaaGreat.EfA Go.Proofs.YtgmnnpbbiejbnaaGreat.EfB Go.Proofs.YtgmnnpbbiejbnaaGreat.EfD Go.Proofs.YtgmnnpbbiejbnaaGreat.EfE Go.Proofs.YtgmnnpbbiejbnaaGreat.EfF Go.Proofs.YtgmnnpbbiejbnaaGreat.EfG Go.Proofs.YtgmnnpbbiejbnaaGreat.EfH Go.Proofs.YtgmnnpbbiejbnaaGreat.SpH Go.Proofs.YtgmnnpbbiejbnaaGreat.SpI Go.Proofs.YtgmnnpbbiejbnaaGreat.SpJ Go.Proofs.YtgmnnpbbiejbnaaGreat.SpK Go.Proofs.YtgmnnpbbiejbnaaGreat.SpM Go.Proofs.YtgmnnpbbiejbnaaGreat.SpO Go.Proofs.YtgmnnpbbiejbnaaGreat.SpP Go.Proofs.YtgmnnpbbiejbnaaGreat.SpR Go.Proofs.YtgmnnpbbiejbnaaGreat.SpV Go.Proofs.YtgmnnpbbiejbnaaGreat.SpZ Go.Proofs.YtgmnnpbbiejbnaaGreat.SrC
open Go.Proofs.YtgmnnpbbiejbnaaGreat.VaP (unle unle_lt)
open Go.Proofs.YtgmnnpbbiejbnaaGreat.VbA (decD)
open Go.Proofs.YtgmnnpbbiejbnaaGreat.VbB (NwW DecPost)

theorem bb {w w1 w2 : World} (h1 : Below w.heap.size w w1) (h2 : Below w1.heap.size w1 w2) : Below w.heap.size w w2 := h1.trans (h2.mono h1.size)
def snapP (l : List (ByteArray × PH)) : List PE := l.map (fun e => ⟨1, e.1, e.2.v, e.2.due⟩)
set_option maxHeartbeats 4000000 in
theorem snap_su {w : World} {B g N : Nat} {s : PS} {Kp : Nat → Prop} (h : Su w B g N s Kp) (hN : N ≤ 400000000) (hl : s.l.length ≤ 100000000) :
    Calls Tryz.prog 21 #[.pointer (some ⟨g, 0, none⟩)] w fun e w' => ∃ v es, e = .returned v ∧ Fv w' w.heap.size v es (snapP s.l) ∧ Below w.heap.size w w' := by
  have hen := entries_su h (l := s.l) rfl hN
  clear h
  obtain ⟨n, hn⟩ : ∃ n, s.l.length = n := ⟨_, rfl⟩
  have Hn := Lib.hid hn
  rw [hn] at hl
  clear hn
  go_enter Tryz.func21, Tryz.ntmps21
  go_wp2_with fail
  refine hen.mono ?_
  clear hen
  rintro e w2 ⟨v2, es2, rfl, F2, B2⟩
  obtain ⟨A2, c2, rfl⟩ := own_form F2.own
  have hl2 : es2.length = n := F2.rel.1.trans Hn.out
  rw [hl2]
  have rd2 := Rd.of_own F2.own
  rw [hl2] at rd2
  have H := Lib.hid (And.intro F2.rel (And.intro B2 (And.intro rd2 hl2)))
  have hcap := rd2.cap
  have hbig := rd2.big
  unfold maxLen at hbig
  clear F2 rd2 hl2
  have hB2 := B2.size
  clear B2
  go_wp2_with fail
  go_loopw [3, 9] (fun v i wr => ∃ (k : Nat) (es : List EV), k ≤ n ∧ i = .int .i64 k ∧ Fv wr w.heap.size v es (snapP (s.l.take k)) ∧ (∀ q, v.ownBlock = some q → w2.heap.size ≤ q) ∧ Below w2.heap.size w2 wr) (fun _ i _ => n - (intOf i).toNat)
  case atStart => exact ⟨0, [], Nat.zero_le _, rfl, Fv.nil _ _, fun q e => (by cases e), Below.refl _ _⟩
  case round =>
    obtain ⟨k, es, hk, rfl, hF, hob, hb⟩ := hrel
    obtain ⟨A3, c3, rfl⟩ := own_form hF.own
    by_cases hlt : k < n
    · obtain ⟨rel, B2, rd2, hl2⟩ := H.out
      obtain ⟨e0, he0⟩ : ∃ e0, es2[k]? = some e0 := ⟨_, List.getElem?_eq_getElem (by omega)⟩
      obtain ⟨p0, hp0⟩ : ∃ p0, s.l[k]? = some p0 := ⟨_, List.getElem?_eq_getElem (by rw [Hn.out]; exact hlt)⟩
      obtain ⟨r1, r2, r3, r4⟩ := rel.2 k e0 p0 he0 hp0
      obtain ⟨pa, rfl, cx⟩ := rd_rows_get SpO.en_len rd2 he0 (by decide)
      obtain ⟨key, x, due, ver⟩ := e0
      dsimp only at r1 r2 r3 r4
      have g0 : wr.cell? (pa.add (k * 8)) = some (.string key) := below_c (cx 0 _ rfl) hb
      have g1 : wr.cell? ⟨(pa.add (k * 8)).block, (pa.add (k * 8)).off + 1, none⟩ = some (.int .i64 x.kind) := below_c (cx 1 _ rfl) hb
      have g2 : wr.cell? ⟨(pa.add (k * 8)).block, (pa.add (k * 8)).off + 2, none⟩ = some (.string x.text) := below_c (cx 2 _ rfl) hb
      have g3 : wr.cell? ⟨(pa.add (k * 8)).block, (pa.add (k * 8)).off + 3, none⟩ = some (.slice x.LA x.ln x.lc) := below_c (cx 3 _ rfl) hb
      have g4 : wr.cell? ⟨(pa.add (k * 8)).block, (pa.add (k * 8)).off + 4, none⟩ = some (.slice x.FA x.fn x.fc) := below_c (cx 4 _ rfl) hb
      have g5 : wr.cell? ⟨(pa.add (k * 8)).block, (pa.add (k * 8)).off + 5, none⟩ = some (.slice x.KA x.kn x.kc) := below_c (cx 5 _ rfl) hb
      have g6 : wr.cell? ⟨(pa.add (k * 8)).block, (pa.add (k * 8)).off + 6, none⟩ = some (.int .i64 due) := below_c (cx 6 _ rfl) hb
      have g7 : wr.cell? ⟨(pa.add (k * 8)).block, (pa.add (k * 8)).off + 7, none⟩ = some (.int .u64 ver) := below_c (cx 7 _ rfl) hb
      have hkn : ((k : Nat) : Int) < (n : Int) := by omega
      have hlb : es.length ≤ 100000000 := by have h1 := hF.rel.1; unfold snapP at h1; rw [List.length_map, List.length_take] at h1; omega
      have hel : snapP (s.l.take (k + 1)) = snapP (s.l.take k) ++ [⟨1, key, p0.2.v, due⟩] := by
        rw [List.take_add_one, hp0, Option.toList_some]; unfold snapP; rw [List.map_append, List.map_singleton, r1, r2]
      have HQ := Lib.hid (And.intro hF (And.intro hob (And.intro hb (And.intro r4 hel))))
      clear rel B2 rd2 hl2 he0 hp0 r1 r2 r3 r4 cx hF hob hb hel
      go_upto_region 5 with fail
      generalize hW3 : wr.alloc _ = W3
      have b3 : Below wr.heap.size wr W3 := by rw [← hW3]; exact (Below.refl _ _).alloc (Nat.le_refl _) _
      have hbx : W3.heap[wr.heap.size]? = some (.cells #[.string key, .int .i64 x.kind, .string x.text, .slice x.LA x.ln x.lc, .slice x.FA x.fn x.fc, .slice x.KA x.kn x.kc, .int .i64 due, .int .u64 ver] 92 (0, 0)) := by rw [← hW3]; exact heap_alloc_new wr _
      obtain ⟨bx, hbx9⟩ : ∃ bx, wr.heap.size = bx := ⟨_, rfl⟩
      rw [hbx9] at hbx ⊢
      have z0 : W3.cell? ⟨bx, 0, none⟩ = some (.string key) := by simp [World.cell?, hbx]
      have z1 : W3.cell? ⟨bx, 1, none⟩ = some (.int .i64 x.kind) := by simp [World.cell?, hbx]
      have z2 : W3.cell? ⟨bx, 2, none⟩ = some (.string x.text) := by simp [World.cell?, hbx]
      have z3 : W3.cell? ⟨bx, 3, none⟩ = some (.slice x.LA x.ln x.lc) := by simp [World.cell?, hbx]
      have z4 : W3.cell? ⟨bx, 4, none⟩ = some (.slice x.FA x.fn x.fc) := by simp [World.cell?, hbx]
      have z5 : W3.cell? ⟨bx, 5, none⟩ = some (.slice x.KA x.kn x.kc) := by simp [World.cell?, hbx]
      have z6 : W3.cell? ⟨bx, 6, none⟩ = some (.int .i64 due) := by simp [World.cell?, hbx]
      have z7 : W3.cell? ⟨bx, 7, none⟩ = some (.int .u64 ver) := by simp [World.cell?, hbx]
      obtain ⟨hF, hob, hb, r4, hel⟩ := HQ.out
      have hF3 := hF.below b3
      have hb3 : Below w2.heap.size w2 W3 := hb.trans (b3.mono hb.size)
      have hre : RdEv W3 (fun q => q < w.heap.size ∨ (Value.slice A3 es.length c3).ownBlock = some q) ⟨1, key, x, due⟩ ⟨1, key, p0.2.v, due⟩ :=
        ⟨rfl, rfl, rfl, r4.move (Only.of_below hb3) (fun q hq e => by omega) (fun q hq e => e.elim .inl (fun e => by have := hob q e; omega))⟩
      have hoA := own_only hF3.own ((Only.refl (fun _ => False) W3).alloc (.cells #[.int .i64 1, .string key, .int .i64 x.kind, .string x.text, .slice x.LA x.ln x.lc, .slice x.FA x.fn x.fc, .slice x.KA x.kn x.kc, .int .i64 due] 44)) (fun _ _ h => h)
      have hgA : w.heap.size ≤ (W3.alloc (.cells #[.int .i64 1, .string key, .int .i64 x.kind, .string x.text, .slice x.LA x.ln x.lc, .slice x.FA x.fn x.fc, .slice x.KA x.kn x.kc, .int .i64 due] 44)).heap.size := by rw [World.size_alloc]; have := hb3.size; omega
      have HN := Lib.hid (And.intro hF3 (And.intro hre (And.intro hb3 (And.intro hob hel))))
      clear hF hob hb r4 hel hF3 hre hb3 b3 hW3 hbx hbx9 g0 g1 g2 g3 g4 g5 g6 g7 HQ
      go_wp2_with (at_builtin; refine wpList_app rfl (.tmp 13) (.tmp 21) elEv rfl w.heap.size (.slice A3 es.length c3) es.length (rows EV.cells es) rfl hoA (some ⟨W3.heap.size, 0, none⟩) 1 1 (EV.cells ⟨1, key, x, due⟩) rfl (rd_new W3 (EV.cells ⟨1, key, x, due⟩) 44 8 rfl) (ev_one _) (by unfold maxLen; omega) (by omega) hgA ?_; intro v6 w6 h1 h2 h3)
      obtain ⟨hF3, hre, hb3, hob, hel⟩ := HN.out
      refine ⟨⟨k + 1, es ++ [⟨1, key, x, due⟩], by omega, by go_num, by rw [hel]; exact hF3.next hre h1 h2 h3, fun q e => ?_, ?_⟩, by simp [intOf]; omega⟩
      · rcases h3 with h3 | h3
        · rw [h3] at e; exact hob q e
        · rw [h3] at e; injection e with e; have hz := World.size_alloc W3 (.cells #[.int .i64 1, .string key, .int .i64 x.kind, .string x.text, .slice x.LA x.ln x.lc, .slice x.FA x.fn x.fc, .slice x.KA x.kn x.kc, .int .i64 due] 44); have := hb3.size; omega
      · exact h2.after (hb3.alloc hb3.size _) (Nat.le_refl _) (fun q e => hob q e)
    · obtain rfl : k = n := by omega
      rw [List.take_of_length_le (Nat.le_of_eq Hn.out)] at hF
      have HX := Lib.hid (And.intro hF hb)
      clear hF hb hob
      go_wp2_with fail
      go_ret
      exact ⟨_, es, rfl, HX.out.1, H.out.2.1.trans (HX.out.2.mono hB2)⟩
end Go.Proofs.YtgmnnpbbiejbnaaGreat.EfJ
set_option maxRecDepth 100000
set_option linter.unusedSimpArgs false
set_option linter.unusedVariables false
namespace Go.Proofs.YtgmnnpbbiejbnaaGreat.EfK
open Go.RowKit Go.Proofs.YtgmnnpbbiejbnaaGreat.Mem Go.Proofs.YtgmnnpbbiejbnaaGreat.VaA Go.Proofs.YtgmnnpbbiejbnaaGreat.VaC Go.Proofs.YtgmnnpbbiejbnaaGreat.VaE Go.Proofs.YtgmnnpbbiejbnaaGreat.VaH Go.Proofs.YtgmnnpbbiejbnaaGreat.VaI Go.Proofs.YtgmnnpbbiejbnaaGreat.VaX Go.Proofs.YtgmnnpbbiejbnaaGreat.DuA Go.Proofs.YtgmnnpbbiejbnaaGreat.SpA Go.Proofs.YtgmnnpbbiejbnaaGreat.SpB Go.Proofs.YtgmnnpbbiejbnaaGreat.SpC Go.Proofs.YtgmnnpbbiejbnaaGreat.SpD Go.Proofs.YtgmnnpbbiejbnaaGreat.SpE Go.Proofs.YtgmnnpbbiejbnaaGreat.SpF Go.Proofs.YtgmnnpbbiejbnaaGreat.SpG Go.Proofs.YtgmnnpbbiejbnaaGreat.EfA Go.Proofs.YtgmnnpbbiejbnaaGreat.EfB Go.Proofs.YtgmnnpbbiejbnaaGreat.EfD Go.Proofs.YtgmnnpbbiejbnaaGreat.EfE Go.Proofs.YtgmnnpbbiejbnaaGreat.EfF Go.Proofs.YtgmnnpbbiejbnaaGreat.EfG Go.Proofs.YtgmnnpbbiejbnaaGreat.EfH Go.Proofs.YtgmnnpbbiejbnaaGreat.EfJ Go.Proofs.YtgmnnpbbiejbnaaGreat.SpH Go.Proofs.YtgmnnpbbiejbnaaGreat.SpI Go.Proofs.YtgmnnpbbiejbnaaGreat.SpJ Go.Proofs.YtgmnnpbbiejbnaaGreat.SpK Go.Proofs.YtgmnnpbbiejbnaaGreat.SpM Go.Proofs.YtgmnnpbbiejbnaaGreat.SpO Go.Proofs.YtgmnnpbbiejbnaaGreat.SpP Go.Proofs.YtgmnnpbbiejbnaaGreat.SpR Go.Proofs.YtgmnnpbbiejbnaaGreat.SpV Go.Proofs.YtgmnnpbbiejbnaaGreat.SpZ Go.Proofs.YtgmnnpbbiejbnaaGreat.SrC
open Go.Proofs.YtgmnnpbbiejbnaaGreat.VaP (unle unle_lt)
open Go.Proofs.YtgmnnpbbiejbnaaGreat.VbA (decD)
open Go.Proofs.YtgmnnpbbiejbnaaGreat.VbB (NwW DecPost)

theorem dn1 {u : PS} {p : PE} (h : p.kind = 1) : doneS u (opOf p) = putS u p.key p.v p.due := by unfold doneS opOf; simp [h]
theorem dn2 {u : PS} {p : PE} (h : p.kind = 2) : doneS u (opOf p) = dropS u p.key := by unfold doneS opOf; simp [h]
theorem dn3 {u : PS} {p : PE} (h : p.kind = 3) : doneS u (opOf p) = dueS u p.key p.due := by unfold doneS opOf; simp [h]
theorem dn4 {u : PS} {p : PE} (h : p.kind = 4) : doneS u (opOf p) = clearS u := by unfold doneS opOf; simp [h]
theorem nn1 {u : PS} {N : Nat} {p : PE} (h : p.kind = 1) : doneN u N (opOf p) = N + 2 := by unfold doneN opOf; simp [h]
theorem nn2 {u : PS} {N : Nat} {p : PE} (h : p.kind = 2) : doneN u N (opOf p) = N + 1 := by unfold doneN opOf; simp [h]
theorem nn3 {u : PS} {N : Nat} {p : PE} (h : p.kind = 3) : doneN u N (opOf p) = N + 2 := by unfold doneN opOf; simp [h]
theorem nn4 {u : PS} {N : Nat} {p : PE} (h : p.kind = 4) : doneN u N (opOf p) = N + u.l.length := by unfold doneN opOf; simp [h]
theorem may_kind {p : PE} (h : mayP p = true) : 1 ≤ p.kind ∧ p.kind ≤ 4 := by
  unfold mayP at h
  split at h
  · omega
  split at h
  · omega
  split at h
  · omega
  split at h
  · omega
  · cases h
theorem apply_nil (w : World) : Calls Tryz.prog 18 #[.pointer none, .slice none 0 0] w fun e w' => e = .returned (.int .i64 1) ∧ w' = w := by
  go_enter Tryz.func18, Tryz.ntmps18
  go_wp2_with fail
  go_ret
  exact ⟨rfl, rfl⟩
set_option maxHeartbeats 8000000 in
theorem apply_su {w : World} {B g N j : Nat} {s : PS} {Kp : Nat → Prop} (h : Su w B g N s Kp) (A : Option Addr) (n c : Nat) (es : List EV) (ch : List PE) (hr : Rd w 8 A n c (rows EV.cells es)) (hA : ∀ ad, A = some ad → Kp ad.block) (he : EVs w (fun q => ¬ Kp q) es ch) (hm : ch.all mayP = true) (hky : ∀ e ∈ ch, e.key.size ≤ 100000000)
    (hB : ∃ Z, Bo s N j Z) (hj : j + n ≤ 10000000) :
    Calls Tryz.prog 18 #[.pointer (some ⟨g, 0, none⟩), .slice A n c] w fun e w' => e = .returned (.int .i64 0) ∧ ∃ N', Su w' B g N' (againS s ch) Kp ∧ (∃ Z, Bo (againS s ch) N' (j + n) Z) ∧ Only (fun k => ¬ Kp k) w w' := by
  have hen : es.length = n := rd_rows_len ev_len (by decide) hr
  have hln : ch.length = n := by rw [← he.1]; exact hen
  have hcap := hr.cap
  have hbig := hr.big
  unfold maxLen at hbig
  have H := Lib.hid (And.intro h (And.intro hr (And.intro hA (And.intro he (And.intro hm (And.intro hky (And.intro hB (And.intro hen hln))))))))
  clear h hr hA he hm hky hB hen hln
  go_enter Tryz.func18, Tryz.ntmps18
  go_wp2_with fail
  go_loopw [17] (fun i wr => ∃ k : Nat, k ≤ n ∧ i = .int .i64 k ∧ Below w.heap.size w wr) (fun i _ => n - (intOf i).toNat)
  case atStart => exact ⟨0, Nat.zero_le _, rfl, Below.refl _ _⟩
  case round =>
    obtain ⟨k, hk, rfl, hb⟩ := hrel
    by_cases hlt : k < n
    · obtain ⟨h, hr, hA, he, hm, hky, hB, hen, hln⟩ := H.out
      obtain ⟨e0, he0⟩ : ∃ e0, es[k]? = some e0 := ⟨_, List.getElem?_eq_getElem (by omega)⟩
      obtain ⟨p0, hp0⟩ : ∃ p0, ch[k]? = some p0 := ⟨_, List.getElem?_eq_getElem (by omega)⟩
      have hmp : mayP p0 = true := List.all_eq_true.1 hm p0 (List.mem_of_getElem? hp0)
      obtain ⟨hmap, hval⟩ := evs_map he
      have hpe : peOf e0 = p0 := by
        have : (es.map peOf)[k]? = ch[k]? := by rw [hmap]
        rw [List.getElem?_map, he0, hp0] at this
        injection this
      obtain ⟨rv, sm⟩ := hval e0 (List.mem_of_getElem? he0)
      obtain ⟨pa, rfl, cx⟩ := rd_rows_get ev_len hr he0 (by decide)
      rw [← hpe] at hmp
      obtain ⟨kd, key, x, due⟩ := e0
      dsimp only at rv sm
      have g0 : wr.cell? (pa.add (k * 8)) = some (.int .i64 kd) := below_c (cx 0 _ rfl) hb
      have g1 : wr.cell? ⟨(pa.add (k * 8)).block, (pa.add (k * 8)).off + 1, none⟩ = some (.string key) := below_c (cx 1 _ rfl) hb
      have g2 : wr.cell? ⟨(pa.add (k * 8)).block, (pa.add (k * 8)).off + 2, none⟩ = some (.int .i64 x.kind) := below_c (cx 2 _ rfl) hb
      have g3 : wr.cell? ⟨(pa.add (k * 8)).block, (pa.add (k * 8)).off + 3, none⟩ = some (.string x.text) := below_c (cx 3 _ rfl) hb
      have g4 : wr.cell? ⟨(pa.add (k * 8)).block, (pa.add (k * 8)).off + 4, none⟩ = some (.slice x.LA x.ln x.lc) := below_c (cx 4 _ rfl) hb
      have g5 : wr.cell? ⟨(pa.add (k * 8)).block, (pa.add (k * 8)).off + 5, none⟩ = some (.slice x.FA x.fn x.fc) := below_c (cx 5 _ rfl) hb
      have g6 : wr.cell? ⟨(pa.add (k * 8)).block, (pa.add (k * 8)).off + 6, none⟩ = some (.slice x.KA x.kn x.kc) := below_c (cx 6 _ rfl) hb
      have g7 : wr.cell? ⟨(pa.add (k * 8)).block, (pa.add (k * 8)).off + 7, none⟩ = some (.int .i64 due) := below_c (cx 7 _ rfl) hb
      have hkn : ((k : Nat) : Int) < (n : Int) := by omega
      have hrv := rv.below hb
      have HQ := Lib.hid (And.intro hb (And.intro hrv (And.intro sm hmp)))
      clear h hr hA he hm hky hB hen hln he0 hp0 hmap hval hpe rv sm cx hb hrv hmp
      go_upto_region 6 with fail
      generalize hW2 : wr.alloc _ = W2
      have b2 : Below wr.heap.size wr W2 := by rw [← hW2]; exact (Below.refl _ _).alloc (Nat.le_refl _) _
      have hbx : Be W2 wr.heap.size kd key x due := by rw [← hW2]; exact heap_alloc_new wr _
      generalize hgz : wr.heap.size = bx at hbx ⊢
      obtain ⟨hb, hrv, sm, hmp⟩ := HQ.out
      have hmy := may_calls ⟨kd, key, x, due⟩ W2 (hrv.below b2) sm
      rw [hmp] at hmy
      unfold evV at hmy
      dsimp only at hmy
      have hb2 := EfJ.bb hb b2
      obtain ⟨x0, x1, x2, x3, x4, x5, x6, x7⟩ := hbx.cells
      have HB2 := Lib.hid hb2
      clear hb hrv sm hmp b2 hbx hW2 hb2 g0 g1 g2 g3 g4 g5 g6 g7
      go_wp2_with fail
      refine hmy.mono ?_
      clear hmy x0 x1 x2 x3 x4 x5 x6 x7
      rintro e w4 ⟨rfl, b4⟩
      have hb4 := EfJ.bb HB2.out b4
      clear b4
      go_wp2_with fail
      exact ⟨⟨k + 1, by omega, by go_num, hb4⟩, by simp [intOf]; omega⟩
    · obtain rfl : k = n := by omega
      have HB1 := Lib.hid hb
      clear hb
      go_wp2_with fail
      go_loopw [35] (fun i wq => ∃ (k2 N' : Nat), k2 ≤ k ∧ i = .int .i64 k2 ∧ Su wq B g N' (againS s (ch.take k2)) Kp ∧ (∃ Z, Bo (againS s (ch.take k2)) N' (j + k2) Z) ∧ Only (fun q => ¬ Kp q) w wq) (fun i _ => k - (intOf i).toNat)
      case atStart => exact ⟨0, N, Nat.zero_le _, rfl, H.out.1.below HB1.out, H.out.2.2.2.2.2.2.1, SpU.only_b HB1.out⟩
      case round =>
        obtain ⟨k2, N', hk2, rfl, hS, ⟨Z, hB⟩, ho⟩ := hrel
        by_cases hlt : k2 < k
        · obtain ⟨-, hr, hA, he, hm, hky, -, hen, hln⟩ := H.out
          obtain ⟨e0, he0⟩ : ∃ e0, es[k2]? = some e0 := ⟨_, List.getElem?_eq_getElem (by omega)⟩
          obtain ⟨p0, hp0⟩ : ∃ p0, ch[k2]? = some p0 := ⟨_, List.getElem?_eq_getElem (by omega)⟩
          have hmem : p0 ∈ ch := List.mem_of_getElem? hp0
          have hk4 := may_kind (List.all_eq_true.1 hm p0 hmem)
          obtain ⟨r1, r2, r3, r4⟩ := he.2 k2 e0 p0 he0 hp0
          obtain ⟨pa, rfl, cx⟩ := rd_rows_get ev_len hr he0 (by decide)
          have hpa : ∀ m, Kp (pa.add m).block := fun m => by rw [Mem.add_block]; exact hA pa rfl
          obtain ⟨kd, key, x, due⟩ := e0
          dsimp only at r1 r2 r3 r4
          have g0 : wr.cell? (pa.add (k2 * 8)) = some (.int .i64 kd) := ho.cell (cx 0 _ rfl) (fun q => q (hpa _))
          have g1 : wr.cell? ⟨(pa.add (k2 * 8)).block, (pa.add (k2 * 8)).off + 1, none⟩ = some (.string key) := ho.cell (cx 1 _ rfl) (fun q => q (hpa _))
          have g2 : wr.cell? ⟨(pa.add (k2 * 8)).block, (pa.add (k2 * 8)).off + 2, none⟩ = some (.int .i64 x.kind) := ho.cell (cx 2 _ rfl) (fun q => q (hpa _))
          have g3 : wr.cell? ⟨(pa.add (k2 * 8)).block, (pa.add (k2 * 8)).off + 3, none⟩ = some (.string x.text) := ho.cell (cx 3 _ rfl) (fun q => q (hpa _))
          have g4 : wr.cell? ⟨(pa.add (k2 * 8)).block, (pa.add (k2 * 8)).off + 4, none⟩ = some (.slice x.LA x.ln x.lc) := ho.cell (cx 4 _ rfl) (fun q => q (hpa _))
          have g5 : wr.cell? ⟨(pa.add (k2 * 8)).block, (pa.add (k2 * 8)).off + 5, none⟩ = some (.slice x.FA x.fn x.fc) := ho.cell (cx 5 _ rfl) (fun q => q (hpa _))
          have g6 : wr.cell? ⟨(pa.add (k2 * 8)).block, (pa.add (k2 * 8)).off + 6, none⟩ = some (.slice x.KA x.kn x.kc) := ho.cell (cx 6 _ rfl) (fun q => q (hpa _))
          have g7 : wr.cell? ⟨(pa.add (k2 * 8)).block, (pa.add (k2 * 8)).off + 7, none⟩ = some (.int .i64 due) := ho.cell (cx 7 _ rfl) (fun q => q (hpa _))
          have hkn : ((k2 : Nat) : Int) < (k : Int) := by omega
          have hkey : key.size ≤ 100000000 := by rw [r2]; exact hky p0 hmem
          have hv : Vok wr (fun q => ¬ Kp q) x p0.v := r4.move ho (fun _ _ e => e) (fun _ _ e => e)
          have e9 : againS s (ch.take (k2 + 1)) = doneS (againS s (ch.take k2)) (opOf p0) := by rw [List.take_add_one, hp0]; exact again_snoc _ _ _
          have B2 := bo_done hB hS.inv (opOf p0)
          rw [Nat.add_assoc] at B2
          have HQ := Lib.hid (And.intro hS (And.intro hB (And.intro ho (And.intro hv (And.intro hkey (And.intro e9 (And.intro B2 (And.intro r1 (And.intro r2 (And.intro r3 hk4))))))))))
          clear hr hA he hm hky hen hln he0 hp0 hmem hk4 r1 r2 r3 r4 cx hpa hkey hv e9 B2 hS hB ho
          go_upto_region 13 with fail
          generalize hW2 : wr.alloc _ = W2
          have b2 : Below wr.heap.size wr W2 := by rw [← hW2]; exact (Below.refl _ _).alloc (Nat.le_refl _) _
          have hbx : Be W2 wr.heap.size kd key x due := by rw [← hW2]; exact heap_alloc_new wr _
          generalize hgz : wr.heap.size = bx at hbx ⊢
          obtain ⟨x0, x1, x2, x3, x4, x5, x6, x7⟩ := hbx.cells
          have HB2 := Lib.hid b2
          clear b2 hbx hW2 hgz g0 g1 g2 g3 g4 g5 g6 g7
          by_cases kk1 : kd = 1
          · subst kk1
            obtain ⟨hS, hB, ho, hv, hkey, e9, B2, r1, r2, r3, hk4⟩ := HQ.out
            have hp9 : p0.kind = 1 := r1.symm
            rw [dn1 hp9] at e9
            rw [nn1 hp9, dn1 hp9] at B2
            rw [← r2] at e9 B2
            rw [← r3] at e9 B2
            have hS9 := hS.below HB2.out
            have hd := put_su hS9 key (x := x) (p := p0.v) due rfl rfl hkey (hv.below HB2.out) (by have := hB.n; omega) (by have := hB.c; omega) (by have := hB.h; omega)
            unfold VV.val at hd
            have HO := Lib.hid (And.intro ho (And.intro e9 B2))
            clear hS hB ho hv hkey e9 B2 r1 r2 r3 hk4 hp9 hS9 HQ
            go_wp2_with fail
            refine hd.mono ?_
            clear hd x0 x1 x2 x3 x4 x5 x6 x7
            rintro e w4 ⟨rfl, S4, O4⟩
            have O5 : Only (fun q => ¬ Kp q) wr w4 := (SpU.only_b HB2.out : Only (fun q => ¬ Kp q) wr W2).trans O4 (fun q e => .inl e)
            go_wp2_with fail
            exact ⟨⟨k2 + 1, _, by omega, by go_num, by rw [HO.out.2.1]; exact S4, by rw [HO.out.2.1]; exact ⟨_, HO.out.2.2⟩, HO.out.1.trans O5 (fun q e => .inl e)⟩, by simp [intOf]; omega⟩
          by_cases kk2 : kd = 2
          · subst kk2
            obtain ⟨hS, hB, ho, hv, hkey, e9, B2, r1, r2, r3, hk4⟩ := HQ.out
            have hp9 : p0.kind = 2 := r1.symm
            rw [dn2 hp9] at e9
            rw [nn2 hp9, dn2 hp9] at B2
            rw [← r2] at e9 B2
            have hS9 := hS.below HB2.out
            have hd := drop_su hS9 key rfl rfl hkey (by have := hB.n; omega) (by have := hB.c; omega) (by have := hB.h; omega)
            have HO := Lib.hid (And.intro ho (And.intro e9 B2))
            clear hS hB ho hv hkey e9 B2 r1 r2 r3 hk4 hp9 hS9 HQ
            go_wp2_with fail
            refine hd.mono ?_
            clear hd x0 x1 x2 x3 x4 x5 x6 x7
            rintro e w4 ⟨rfl, S4, O4⟩
            have O5 : Only (fun q => ¬ Kp q) wr w4 := (SpU.only_b HB2.out : Only (fun q => ¬ Kp q) wr W2).trans O4 (fun q e => .inl e)
            go_wp2_with fail
            exact ⟨⟨k2 + 1, _, by omega, by go_num, by rw [HO.out.2.1]; exact S4, by rw [HO.out.2.1]; exact ⟨_, HO.out.2.2⟩, HO.out.1.trans O5 (fun q e => .inl e)⟩, by simp [intOf]; omega⟩
          by_cases kk3 : kd = 3
          · subst kk3
            obtain ⟨hS, hB, ho, hv, hkey, e9, B2, r1, r2, r3, hk4⟩ := HQ.out
            have hp9 : p0.kind = 3 := r1.symm
            rw [dn3 hp9] at e9
            rw [nn3 hp9, dn3 hp9] at B2
            rw [← r2] at e9 B2
            rw [← r3] at e9 B2
            have hS9 := hS.below HB2.out
            have hd := setDue_su hS9 key due rfl rfl hkey (by have := hB.n; omega) (by have := hB.c; omega) (by have := hB.h; omega)
            have HO := Lib.hid (And.intro ho (And.intro e9 B2))
            clear hS hB ho hv hkey e9 B2 r1 r2 r3 hk4 hp9 hS9 HQ
            go_wp2_with fail
            refine hd.mono ?_
            clear hd x0 x1 x2 x3 x4 x5 x6 x7
            rintro e w4 ⟨rfl, S4, O4⟩
            have O5 : Only (fun q => ¬ Kp q) wr w4 := (SpU.only_b HB2.out : Only (fun q => ¬ Kp q) wr W2).trans O4 (fun q e => .inl e)
            go_wp2_with fail
            exact ⟨⟨k2 + 1, _, by omega, by go_num, by rw [HO.out.2.1]; exact S4, by rw [HO.out.2.1]; exact ⟨_, HO.out.2.2⟩, HO.out.1.trans O5 (fun q e => .inl e)⟩, by simp [intOf]; omega⟩
          · obtain rfl : kd = 4 := by obtain ⟨-, -, -, -, -, -, -, r1, -, -, hk4⟩ := HQ.out; omega
            obtain ⟨hS, hB, ho, hv, hkey, e9, B2, r1, r2, r3, hk4⟩ := HQ.out
            have hp9 : p0.kind = 4 := r1.symm
            rw [dn4 hp9] at e9
            rw [nn4 hp9, dn4 hp9] at B2
            have hS9 := hS.below HB2.out
            have hd := clear_su hS9 rfl rfl (by have := hB.n; omega) (by have := hB.c; omega) (by have := hB.h; omega)
            have HO := Lib.hid (And.intro ho (And.intro e9 B2))
            clear hS hB ho hv hkey e9 B2 r1 r2 r3 hk4 hp9 hS9 HQ
            go_wp2_with fail
            refine hd.mono ?_
            clear hd x0 x1 x2 x3 x4 x5 x6 x7
            rintro e w4 ⟨rfl, S4, O4⟩
            have O5 : Only (fun q => ¬ Kp q) wr w4 := (SpU.only_b HB2.out : Only (fun q => ¬ Kp q) wr W2).trans O4 (fun q e => .inl e)
            go_wp2_with fail
            exact ⟨⟨k2 + 1, _, by omega, by go_num, by rw [HO.out.2.1]; exact S4, by rw [HO.out.2.1]; exact ⟨_, HO.out.2.2⟩, HO.out.1.trans O5 (fun q e => .inl e)⟩, by simp [intOf]; omega⟩
        · obtain rfl : k2 = k := by omega
          rw [List.take_of_length_le (Nat.le_of_eq H.out.2.2.2.2.2.2.2.2)] at hS hB
          have HX := Lib.hid (And.intro hS (And.intro hB ho))
          clear hS hB ho
          go_wp2_with fail
          go_ret
          exact ⟨rfl, N', HX.out.1, ⟨Z, HX.out.2.1⟩, HX.out.2.2⟩
end Go.Proofs.YtgmnnpbbiejbnaaGreat.EfK
set_option maxRecDepth 100000
set_option linter.unusedSimpArgs false
set_option linter.unusedVariables false
namespace Go.Proofs.YtgmnnpbbiejbnaaGreat.EfL
open Go.RowKit Go.Proofs.YtgmnnpbbiejbnaaGreat.Mem Go.Proofs.YtgmnnpbbiejbnaaGreat.VaA Go.Proofs.YtgmnnpbbiejbnaaGreat.VaC Go.Proofs.YtgmnnpbbiejbnaaGreat.VaE Go.Proofs.YtgmnnpbbiejbnaaGreat.VaH Go.Proofs.YtgmnnpbbiejbnaaGreat.VaI Go.Proofs.YtgmnnpbbiejbnaaGreat.VaX Go.Proofs.YtgmnnpbbiejbnaaGreat.DuA Go.Proofs.YtgmnnpbbiejbnaaGreat.SpA Go.Proofs.YtgmnnpbbiejbnaaGreat.SpB Go.Proofs.YtgmnnpbbiejbnaaGreat.SpC Go.Proofs.YtgmnnpbbiejbnaaGreat.SpD Go.Proofs.YtgmnnpbbiejbnaaGreat.SpE Go.Proofs.YtgmnnpbbiejbnaaGreat.SpF Go.Proofs.YtgmnnpbbiejbnaaGreat.SpG Go.Proofs.YtgmnnpbbiejbnaaGreat.EfA Go.Proofs.YtgmnnpbbiejbnaaGreat.EfB Go.Proofs.YtgmnnpbbiejbnaaGreat.EfD Go.Proofs.YtgmnnpbbiejbnaaGreat.EfE Go.Proofs.YtgmnnpbbiejbnaaGreat.EfF Go.Proofs.YtgmnnpbbiejbnaaGreat.EfG Go.Proofs.YtgmnnpbbiejbnaaGreat.EfH Go.Proofs.YtgmnnpbbiejbnaaGreat.EfJ Go.Proofs.YtgmnnpbbiejbnaaGreat.EfK Go.Proofs.YtgmnnpbbiejbnaaGreat.SpH Go.Proofs.YtgmnnpbbiejbnaaGreat.SpI Go.Proofs.YtgmnnpbbiejbnaaGreat.SpJ Go.Proofs.YtgmnnpbbiejbnaaGreat.SpK Go.Proofs.YtgmnnpbbiejbnaaGreat.SpM Go.Proofs.YtgmnnpbbiejbnaaGreat.SpO Go.Proofs.YtgmnnpbbiejbnaaGreat.SpP Go.Proofs.YtgmnnpbbiejbnaaGreat.SpR Go.Proofs.YtgmnnpbbiejbnaaGreat.SpV Go.Proofs.YtgmnnpbbiejbnaaGreat.SpZ Go.Proofs.YtgmnnpbbiejbnaaGreat.SrC
open Go.Proofs.YtgmnnpbbiejbnaaGreat.VaP (unle unle_lt)
open Go.Proofs.YtgmnnpbbiejbnaaGreat.VbA (decD)
open Go.Proofs.YtgmnnpbbiejbnaaGreat.VbB (NwW DecPost)
open Go.Proofs.YtgmnnpbbiejbnaaGreat.SpW (tx tv rd_cells vok_tx)

abbrev sa : ByteArray := ⟨#[97]⟩
abbrev sx : ByteArray := ⟨#[120]⟩
abbrev sq : ByteArray := ⟨#[113]⟩
def es0 : List EV := [⟨2, sa, vv0, 0⟩, ⟨4, ⟨#[]⟩, vv0, 0⟩]
abbrev S0 : ByteArray := ⟨#[2, 1, 0, 0, 0, 0, 0, 0, 0, 97, 4]⟩
theorem p1 : EfB.encR (es0.map peOf) = (S0, 0) := by rfl
theorem p1z : (encL (es0.map peOf)).length ≤ 1000000000000 := by decide
theorem p2 : ∃ l, decAll S0 = some l ∧ l.length = 2 := ⟨[⟨2, sa, pv0, 0⟩, ⟨4, ⟨#[]⟩, pv0, 0⟩], by rfl, rfl⟩
theorem p3 : decAll ⟨#[5]⟩ = none := by rfl
def ch0 : List PE := [⟨1, sa, tx sx, 0⟩, ⟨2, sq, pv0, 0⟩, ⟨3, sa, pv0, 7⟩]
def es1 : List EV := [⟨1, sa, tv sx, 0⟩, ⟨2, sq, vv0, 0⟩, ⟨3, sa, vv0, 7⟩]
theorem p4 : ch0.all mayP = true := by rfl
def u0 : PS := { ps0 with l := [(sa, ⟨tx sx, 7, 2⟩)], cnt := 2 }
theorem p5 : againS ps0 ch0 = u0 := by rfl
theorem p6 : seenP u0 sa 0 = some ⟨tx sx, 7, 2⟩ := by rfl
theorem text_calls (s : ByteArray) (w : World) : Calls Tryz.prog 36 #[.string s] w fun e w' => e = .returned (.agg #[.int .i64 1, .string s, .slice none 0 0, .slice none 0 0, .slice none 0 0]) ∧ Below w.heap.size w w' := by
  go_enter Tryz.func36, Tryz.ntmps36
  go_wp2_with fail
  first
    | (go_ret; exact ⟨rfl, Below.refl _ _⟩)
    | (refine bodyPost_ret (v := .agg #[.int .i64 1, .string s, .slice none 0 0, .slice none 0 0, .slice none 0 0]) (by simp [results, Tryz.f36, go_sem]) rfl ⟨rfl, ?_⟩; first | exact Below.refl _ _ | exact (Below.refl _ _).alloc (Nat.le_refl _) _)
set_option maxHeartbeats 8000000 in
theorem sure_calls (w : World) : Calls Tryz.prog 12 #[] w fun e w' => e = .returned (.bool true) ∧ Below w.heap.size w w' := by
  go_enter Tryz.func12, Tryz.ntmps12
  go_wp2_with fail
  generalize hW1 : w.alloc _ = W1
  have b1 : Below w.heap.size w W1 := by rw [← hW1]; exact (Below.refl _ _).alloc (Nat.le_refl _) _
  have rd0 : Rd W1 8 (some ⟨w.heap.size, 0, none⟩) 2 2 (rows EV.cells es0) := by rw [← hW1]; exact rd_cells w (rows EV.cells es0) _ 8 2 rfl (by decide)
  have hen := EfB.encode_calls _ 2 2 es0 W1 rd0 (by intro e he; simp only [es0, List.mem_cons, List.not_mem_nil, or_false] at he; rcases he with rfl | rfl <;> exact ⟨rdv0 _, EfE.sm0, by decide⟩) p1z
  rw [p1] at hen
  dsimp only at hen
  clear hW1 rd0
  refine hen.mono ?_
  clear hen
  rintro e w2 ⟨rfl, b2⟩
  have HB := Lib.hid (EfJ.bb b1 b2)
  clear b1 b2
  go_wp2_with fail
  refine (decode_calls S0 w2 (by decide)).mono ?_
  rintro e w3 ⟨b3, h3⟩
  obtain ⟨l, hl, hll⟩ := p2
  rw [hl] at h3
  obtain ⟨v3, es3, rfl, F3⟩ := h3
  obtain ⟨A3, c3, rfl⟩ := own_form F3.own
  have hl3 : es3.length = 2 := F3.rel.1.trans hll
  rw [hl3]
  have HB := Lib.hid (EfJ.bb HB.out b3)
  clear F3 hl hll hl3 b3
  go_wp2_with fail
  refine (decode_calls ⟨#[5]⟩ w3 (by decide)).mono ?_
  rintro e w4 ⟨b4, h4⟩
  rw [p3] at h4
  subst h4
  have HB := Lib.hid (EfJ.bb HB.out b4)
  clear b4
  go_wp2_with fail
  refine (su_new w4).mono ?_
  rintro e w5 ⟨g, rfl, S5, b5⟩
  have HS5 := Lib.hid (And.intro S5 b5)
  clear S5 b5
  have hs0 : ((⟨#[2, 1, 0, 0, 0, 0, 0, 0, 0, 97, 4]⟩ : ByteArray).toList != (⟨#[2, 1, 0, 0, 0, 0, 0, 0, 0, 97, 4]⟩ : ByteArray).toList) = false := by simp
  go_wp2_with fail
  refine (text_calls ⟨#[120]⟩ _).mono ?_
  rintro e w6 ⟨rfl, b6⟩
  have HB6 := Lib.hid b6
  clear b6
  go_wp2_with fail
  generalize hW7 : w6.alloc _ = W7
  have b7 : Below w6.heap.size w6 W7 := by rw [← hW7]; exact (Below.refl _ _).alloc (Nat.le_refl _) _
  have rd1 : Rd W7 8 (some ⟨w6.heap.size, 0, none⟩) 3 3 (rows EV.cells es1) := by rw [← hW7]; exact rd_cells w6 (rows EV.cells es1) _ 8 3 rfl (by decide)
  have hz7 : w6.heap.size < W7.heap.size := by rw [← hW7, World.size_alloc]; omega
  have b57 : Below w5.heap.size w5 W7 := EfJ.bb HB6.out b7
  have S7 := HS5.out.1.keep b57 (Kq := fun k => k < w4.heap.size ∨ (w5.heap.size ≤ k ∧ k < W7.heap.size)) (fun k e => e)
  have hap := apply_su S7 (some ⟨w6.heap.size, 0, none⟩) 3 3 es1 ch0 rd1 (fun ad e => by injection e with e; subst e; exact .inr ⟨HB6.out.size, hz7⟩)
    (((EVs.nil.push (e := ⟨1, sa, tv sx, 0⟩) (p := ⟨1, sa, tx sx, 0⟩) ⟨rfl, rfl, rfl, vok_tx _ _ _ (by decide)⟩).push (e := ⟨2, sq, vv0, 0⟩) (p := ⟨2, sq, pv0, 0⟩) ⟨rfl, rfl, rfl, vok0 _ _⟩).push (e := ⟨3, sa, vv0, 7⟩) (p := ⟨3, sa, pv0, 7⟩) ⟨rfl, rfl, rfl, vok0 _ _⟩)
    p4 (by intro e he; simp only [ch0, List.mem_cons, List.not_mem_nil, or_false] at he; rcases he with rfl | rfl | rfl <;> decide) (j := 0) ⟨0, Nat.le_refl _, (by show (0 : Nat) + 0 ≤ _; omega), Nat.le_refl _, Nat.zero_le _⟩ (by omega)
  rw [p5] at hap
  have HB7 := Lib.hid b57
  clear hW7 rd1 b7 b57 S7
  refine hap.mono ?_
  clear hap
  rintro e w8 ⟨rfl, N8, S8, ⟨Z8, B8⟩, O8⟩
  have hN8 : N8 ≤ 9 := by have := B8.n; omega
  have HB8 : Below w4.heap.size w4 w8 := by
    have o57 : Only (fun _ => False) w5 W7 := SpU.only_b HB7.out
    exact ((SpU.only_b HS5.out.2 : Only (fun _ => False) w4 w5).trans o57 (fun q e => e.elim)).trans O8 (fun q e => .inr (Nat.not_lt.1 (fun h => e (.inl h)))) |>.below (Nat.le_refl _) (fun q e => e.elim)
  have HB8 := Lib.hid (EfJ.bb HB.out HB8)
  clear O8 B8
  go_wp2_with fail
  refine (due_su S8 sa 0 (r := true) (d := 7) (by rw [p6]; rfl) (by rw [p6]; rfl) (by decide)).mono ?_
  rintro e w9 ⟨rfl, b9⟩
  have S9 := S8.below b9
  have HB9 := Lib.hid (EfJ.bb HB8.out b9)
  clear S8 b9
  go_wp2_with fail
  refine (snap_su S9 (by omega) (by decide)).mono ?_
  rintro e w10 ⟨v10, es10, rfl, F10, b10⟩
  obtain ⟨A10, c10, rfl⟩ := own_form F10.own
  have hl10 : es10.length = 1 := F10.rel.1
  obtain ⟨e10, he10⟩ : ∃ e10, es10[0]? = some e10 := ⟨_, List.getElem?_eq_getElem (by omega)⟩
  obtain ⟨-, -, r3, -⟩ := F10.rel.2 0 e10 ⟨1, sa, tx sx, 7⟩ he10 rfl
  have rd10 := Rd.of_own F10.own
  rw [hl10] at rd10 ⊢
  obtain ⟨pa, rfl, cx⟩ := rd_rows_get ev_len rd10 he10 (by decide)
  have g7 : w10.cell? ⟨(pa.add (0 * 8)).block, (pa.add (0 * 8)).off + 7, none⟩ = some (.int .i64 7) := by have := cx 7 _ rfl; rw [r3] at this; exact this
  rw [Nat.zero_mul] at g7
  have g7' : w10.cell? ⟨pa.block, pa.off + 7, none⟩ = some (.int .i64 7) := by
    have h1 : (pa.add 0).block = pa.block := Mem.add_block ..
    have h2 : (pa.add 0).off = pa.off := by first | rfl | simp [Addr.add]
    rw [h1, h2] at g7; exact g7
  have S10 := S9.below b10
  have hc10 := rd10.cap
  have HB10 := Lib.hid (EfJ.bb HB9.out b10)
  clear S9 b10 rd10 r3 he10 F10 cx hl10
  go_wp2_with fail
  refine (counter_su S10 (r := 2) rfl).mono ?_
  rintro e w11 ⟨rfl, e11⟩
  subst e11
  go_wp2_with fail
  refine (apply_nil _).mono ?_
  rintro e w12 ⟨rfl, e12⟩
  subst e12
  go_wp2_with fail
  go_ret
  exact ⟨rfl, HB10.out⟩
end Go.Proofs.YtgmnnpbbiejbnaaGreat.EfL
