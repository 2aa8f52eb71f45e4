/-
  Two rows that tell the same effects are the same; effects with memory of their own. Conditions: as stated.
-/
import Derived.Test.YtgmnnpbbiejbnaaGreatEfG
import Derived.Test.YtgmnnpbbiejbnaaGreatMgE
set_option maxRecDepth 100000
set_option linter.unusedSimpArgs false
set_option linter.unusedVariables false
namespace Go.Proofs.YtgmnnpbbiejbnaaGreat.EfH
open Go.RowKit Go.Proofs.YtgmnnpbbiejbnaaGreat.Mem Go.Proofs.YtgmnnpbbiejbnaaGreat.VaA Go.Proofs.YtgmnnpbbiejbnaaGreat.VaC Go.Proofs.YtgmnnpbbiejbnaaGreat.VaE Go.Proofs.YtgmnnpbbiejbnaaGreat.VaH Go.Proofs.YtgmnnpbbiejbnaaGreat.VaI Go.Proofs.YtgmnnpbbiejbnaaGreat.VaX Go.Proofs.YtgmnnpbbiejbnaaGreat.DuA Go.Proofs.YtgmnnpbbiejbnaaGreat.SpA Go.Proofs.YtgmnnpbbiejbnaaGreat.SpB Go.Proofs.YtgmnnpbbiejbnaaGreat.SpC Go.Proofs.YtgmnnpbbiejbnaaGreat.SpD Go.Proofs.YtgmnnpbbiejbnaaGreat.SpE Go.Proofs.YtgmnnpbbiejbnaaGreat.SpF Go.Proofs.YtgmnnpbbiejbnaaGreat.SpG Go.Proofs.YtgmnnpbbiejbnaaGreat.EfA Go.Proofs.YtgmnnpbbiejbnaaGreat.EfB Go.Proofs.YtgmnnpbbiejbnaaGreat.EfD Go.Proofs.YtgmnnpbbiejbnaaGreat.EfE Go.Proofs.YtgmnnpbbiejbnaaGreat.EfF Go.Proofs.YtgmnnpbbiejbnaaGreat.EfG
open Go.Proofs.YtgmnnpbbiejbnaaGreat.VaP (unle unle_lt)
open Go.Proofs.YtgmnnpbbiejbnaaGreat.VbA (decD)
open Go.Proofs.YtgmnnpbbiejbnaaGreat.VbB (NwW DecPost)

/-- An element of a row of effects. -/
abbrev EC (q : Addr) (kd : Int) (ky : ByteArray) (x : VV) (due : Int) (w : World) : Prop := w.cell? q = some (.int .i64 kd) ∧ w.cell? ⟨q.block, q.off + 1, none⟩ = some (.string ky) ∧ w.cell? ⟨q.block, q.off + 2, none⟩ = some (.int .i64 x.kind) ∧ w.cell? ⟨q.block, q.off + 3, none⟩ = some (.string x.text) ∧ w.cell? ⟨q.block, q.off + 4, none⟩ = some (.slice x.LA x.ln x.lc) ∧ w.cell? ⟨q.block, q.off + 5, none⟩ = some (.slice x.FA x.fn x.fc) ∧ w.cell? ⟨q.block, q.off + 6, none⟩ = some (.slice x.KA x.kn x.kc) ∧ w.cell? ⟨q.block, q.off + 7, none⟩ = some (.int .i64 due)
theorem ec_below {q : Addr} {kd : Int} {ky : ByteArray} {x : VV} {due : Int} {w w' : World} (h : EC q kd ky x due w) (hb : Below w.heap.size w w') : EC q kd ky x due w' := by
  obtain ⟨a0, a1, a2, a3, a4, a5, a6, a7⟩ := h
  exact ⟨below_c a0 hb, below_c a1 hb, below_c a2 hb, below_c a3 hb, below_c a4 hb, below_c a5 hb, below_c a6 hb, below_c a7 hb⟩
theorem ec2_below {q q2 : Addr} {kd kd2 : Int} {ky ky2 : ByteArray} {x x2 : VV} {due due2 : Int} {w w' : World} (h : EC q kd ky x due w ∧ EC q2 kd2 ky2 x2 due2 w) (hb : Below w.heap.size w w') : EC q kd ky x due w' ∧ EC q2 kd2 ky2 x2 due2 w' := ⟨ec_below h.1 hb, ec_below h.2 hb⟩
set_option maxHeartbeats 8000000 in
theorem sameEffects_eq (A B : Option Addr) (n c d : Nat) (es es' : List EV) (w : World) (ha : Rd w 8 A n c (rows EV.cells es)) (hb0 : Rd w 8 B n d (rows EV.cells es')) (h1 : ∀ e ∈ es, RdV w e.x) (h2 : ∀ e ∈ es', RdV w e.x) (hp : es.map peOf = es'.map peOf) :
    Calls Tryz.prog 11 #[.slice A n c, .slice B n d] w fun e w' => e = .returned (.bool true) ∧ Below w.heap.size w w' := by
  have hen : es.length = n := rd_rows_len ev_len (by decide) ha
  have hen' : es'.length = n := rd_rows_len ev_len (by decide) hb0
  have hnn : ((n : Int) != (n : Int)) = false := by simp
  have hcap := ha.cap
  have hbig := ha.big
  unfold maxLen at hbig
  have H := Lib.hid (And.intro ha (And.intro hb0 (And.intro h1 (And.intro h2 (And.intro hen (And.intro hen' hp))))))
  clear ha hb0 h1 h2 hen hen' hp
  go_enter Tryz.func11, Tryz.ntmps11
  go_wp2_with fail
  go_loopw [5] (fun i wr => ∃ (k : Nat), k ≤ n ∧ i = .int .i64 k ∧ Below w.heap.size w wr) (fun i _ => n - (intOf i).toNat)
  case atStart => exact ⟨0, Nat.zero_le _, rfl, Below.refl _ _⟩
  case round =>
    obtain ⟨k, hk, rfl, hb⟩ := hrel
    by_cases hlt : k < n
    · obtain ⟨ha, hb0, h1, h2, hen, hen', hp⟩ := H.out
      obtain ⟨e0, he0⟩ : ∃ e0, es[k]? = some e0 := ⟨_, List.getElem?_eq_getElem (by omega)⟩
      obtain ⟨e1, he1⟩ : ∃ e1, es'[k]? = some e1 := ⟨_, List.getElem?_eq_getElem (by omega)⟩
      have hpe : peOf e0 = peOf e1 := by
        have : (es.map peOf)[k]? = (es'.map peOf)[k]? := by rw [hp]
        rw [List.getElem?_map, List.getElem?_map, he0, he1] at this
        injection this
      have r4 := h1 e0 (List.mem_of_getElem? he0)
      have q4 := h2 e1 (List.mem_of_getElem? he1)
      obtain ⟨pa, rfl, cx⟩ := rd_rows_get ev_len ha he0 (by decide)
      obtain ⟨pb, rfl, cy⟩ := rd_rows_get ev_len hb0 he1 (by decide)
      obtain ⟨kd0, key0, x0, due0⟩ := e0
      obtain ⟨kd1, key1, x1, due1⟩ := e1
      unfold peOf at hpe
      dsimp only at hpe r4 q4
      injection hpe with p1 p2 p3 p4
      subst p1 p2 p4
      have g0 : wr.cell? (pa.add (k * 8)) = some (.int .i64 kd0) := below_c (cx 0 _ rfl) hb
      have g1 : wr.cell? ⟨(pa.add (k * 8)).block, (pa.add (k * 8)).off + 1, none⟩ = some (.string key0) := below_c (cx 1 _ rfl) hb
      have g2 : wr.cell? ⟨(pa.add (k * 8)).block, (pa.add (k * 8)).off + 2, none⟩ = some (.int .i64 x0.kind) := below_c (cx 2 _ rfl) hb
      have g3 : wr.cell? ⟨(pa.add (k * 8)).block, (pa.add (k * 8)).off + 3, none⟩ = some (.string x0.text) := below_c (cx 3 _ rfl) hb
      have g4 : wr.cell? ⟨(pa.add (k * 8)).block, (pa.add (k * 8)).off + 4, none⟩ = some (.slice x0.LA x0.ln x0.lc) := below_c (cx 4 _ rfl) hb
      have g5 : wr.cell? ⟨(pa.add (k * 8)).block, (pa.add (k * 8)).off + 5, none⟩ = some (.slice x0.FA x0.fn x0.fc) := below_c (cx 5 _ rfl) hb
      have g6 : wr.cell? ⟨(pa.add (k * 8)).block, (pa.add (k * 8)).off + 6, none⟩ = some (.slice x0.KA x0.kn x0.kc) := below_c (cx 6 _ rfl) hb
      have g7 : wr.cell? ⟨(pa.add (k * 8)).block, (pa.add (k * 8)).off + 7, none⟩ = some (.int .i64 due0) := below_c (cx 7 _ rfl) hb
      have f0 : wr.cell? (pb.add (k * 8)) = some (.int .i64 kd0) := below_c (cy 0 _ rfl) hb
      have f1 : wr.cell? ⟨(pb.add (k * 8)).block, (pb.add (k * 8)).off + 1, none⟩ = some (.string key0) := below_c (cy 1 _ rfl) hb
      have f2 : wr.cell? ⟨(pb.add (k * 8)).block, (pb.add (k * 8)).off + 2, none⟩ = some (.int .i64 x1.kind) := below_c (cy 2 _ rfl) hb
      have f3 : wr.cell? ⟨(pb.add (k * 8)).block, (pb.add (k * 8)).off + 3, none⟩ = some (.string x1.text) := below_c (cy 3 _ rfl) hb
      have f4 : wr.cell? ⟨(pb.add (k * 8)).block, (pb.add (k * 8)).off + 4, none⟩ = some (.slice x1.LA x1.ln x1.lc) := below_c (cy 4 _ rfl) hb
      have f5 : wr.cell? ⟨(pb.add (k * 8)).block, (pb.add (k * 8)).off + 5, none⟩ = some (.slice x1.FA x1.fn x1.fc) := below_c (cy 5 _ rfl) hb
      have f6 : wr.cell? ⟨(pb.add (k * 8)).block, (pb.add (k * 8)).off + 6, none⟩ = some (.slice x1.KA x1.kn x1.kc) := below_c (cy 6 _ rfl) hb
      have f7 : wr.cell? ⟨(pb.add (k * 8)).block, (pb.add (k * 8)).off + 7, none⟩ = some (.int .i64 due0) := below_c (cy 7 _ rfl) hb
      have hs := sameR_calls x0 x1 wr.drew ((r4.below hb).below ((Below.refl _ _).drew)) ((q4.below hb).below ((Below.refl _ _).drew))
      have hsv : sameV x0 x1 = true := by rw [pv_same]; exact decide_eq_true p3
      rw [hsv] at hs
      unfold VV.val at hs
      have hkq : (key0.toList != key0.toList) = false := by simp
      have hdq : (due0 != due0) = false := by simp
      have hvq : (kd0 != kd0) = false := by simp
      have hkn : ((k : Nat) : Int) < (n : Int) := by omega
      have HB := Lib.hid hb
      clear ha hb0 h1 h2 he0 he1 hp r4 q4 cx cy hb p3 hsv
      go_upto_region 6 with fail
      go_region_held3 (fun w' => EC (pa.add (k * 8)) kd0 key0 x0 due0 w' ∧ EC (pb.add (k * 8)) kd0 key0 x1 due0 w')
        (first | exact ⟨⟨g0, g1, g2, g3, g4, g5, g6, g7⟩, f0, f1, f2, f3, f4, f5, f6, f7⟩ | exact ec2_below (by assumption) (by assumption))
        (first
          | (go_at_call 35; refine hs.mono ?_; rintro e w4 ⟨rfl, b4⟩))
      all_goals (
        have b9 : Below w.heap.size w w4 := HB.out.trans ((((Below.refl _ _).drew).trans b4).mono HB.out.size)
        go_wp2_with fail
        exact ⟨⟨k + 1, by omega, by go_num, b9⟩, by simp [intOf]; omega⟩)
    · obtain rfl : k = n := by omega
      go_wp2_with fail
      go_ret
      exact ⟨rfl, hb⟩
theorem evs_map {w : World} {S : Nat → Prop} {es : List EV} {l : List PE} (h : EVs w S es l) : es.map peOf = l ∧ ∀ e ∈ es, RdV w e.x ∧ Sm e.x := by
  refine ⟨List.ext_getElem? (fun i => ?_), fun e he => ?_⟩
  · rw [List.getElem?_map]
    cases he : es[i]? with
    | none => have h1 := List.getElem?_eq_none_iff.1 he; rw [Option.map_none, eq_comm, List.getElem?_eq_none_iff]; have := h.1; omega
    | some e =>
      obtain ⟨p, hp⟩ : ∃ p, l[i]? = some p := ⟨_, List.getElem?_eq_getElem (by have := (List.getElem?_eq_some_iff.1 he).1; have := h.1; omega)⟩
      obtain ⟨a, b, c, d⟩ := h.2 i e p he hp
      rw [hp, Option.map_some]
      congr 1
      obtain ⟨p1, p2, p3, p4⟩ := p
      unfold peOf
      rw [show e.kind = _ from a, show e.key = _ from b, show e.due = _ from c, d.pv]
  · obtain ⟨i, hi⟩ := List.getElem?_of_mem he
    obtain ⟨p, hp⟩ : ∃ p, l[i]? = some p := ⟨_, List.getElem?_eq_getElem (by have := (List.getElem?_eq_some_iff.1 hi).1; have := h.1; omega)⟩
    obtain ⟨a, b, c, d⟩ := h.2 i e p hi hp
    exact ⟨d.rd, (sm_pv d.rd).2 (by rw [d.pv]; exact d.sm)⟩
end Go.Proofs.YtgmnnpbbiejbnaaGreat.EfH
