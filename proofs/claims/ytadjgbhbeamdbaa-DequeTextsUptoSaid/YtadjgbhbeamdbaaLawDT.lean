/-
  What a law's frame wants of an argument that is a slice of deeds: it reads as a list of deeds, its weight within the reading's bulk. Conditions: as stated.
-/
import Derived.Test.YtadjgbhbeamdbaaLawI
import Derived.Test.YtadjgbhbeamdbaaLawU
import Derived.Test.YtadjgbhbeamdbaaDtU
import Derived.ChangeArms
import Derived.DataReads
set_option maxRecDepth 100000
set_option linter.unusedSimpArgs false
set_option linter.unusedVariables false
namespace Go.Proofs.Ytadjgbhbeamdbaa.LawDT
open Go.RowKit Go.ChangeShapes Go.Proofs.Ytadjgbhbeamdbaa.Mem Go.Proofs.Ytadjgbhbeamdbaa.DqA Go.Proofs.Ytadjgbhbeamdbaa.DtU

section
theorem openedI {H : Type} {enc : TypeId × Value → H} {P : Program} {W : World} {held : Bool} {t e : TypeId} {fuel : Nat} {base : Nat} {a : Option Addr} {len cap : Nat} {d : DataW H} {p : List MemPlace}
    (ht : P.underlying t = some (.slice e)) (he : P.underlying e = some (.int .i64)) (hc : P.cellsOf e = 1)
    (h : DataW.trod enc P W base (fun _ => true) held fuel t (Value.slice a len cap).cells.toList = some (d, p)) :
    ∃ l, (RdI W a len cap l ∧ InL l) ∧ (len = 0 ∨ ∃ el sp, d = .slice el sp ∧ el.length + sp.length = cap) := by
  rcases open_ints ht he hc h with ⟨hcs, _⟩ | ⟨x, l, c, zs, hcs, _, hl, hm, hz, hd, hcell, hwz⟩
  · simp [Value.cells] at hcs
    obtain ⟨rfl, rfl, rfl⟩ := hcs
    exact ⟨[], ⟨Rd.nil _ _, fun x hx => by cases hx⟩, .inl rfl⟩
  · simp [Value.cells] at hcs
    obtain ⟨rfl, rfl, rfl⟩ := hcs
    have hz' : zs.length = cap := by simpa using hz
    refine ⟨zs.take len, ⟨⟨by simp [ints, hz']; omega, hl, hm, fun j x hx => ?_⟩, fun x hx => LawI.wf_range (hwz x (List.mem_of_mem_take hx))⟩, .inr ?_⟩
    · obtain ⟨h1, rfl⟩ := LawI.ints_map _ _ _ _ hx
      exact ⟨_, rfl, hcell j h1⟩
    · injection hd with h1 h2
      subst h1
      exact ⟨_, _, rfl, by simp [lits, hz']; omega⟩

end
theorem wt_le {H : Type} : ∀ (es : List (DataW H)) (g : Nat → DD), (∀ i e, es[i]? = some e → (g i).nL + 1 ≤ Rows.uptoBulk e) → wt ((List.range es.length).map g) ≤ Rows.uptoBulkAll es
  | [], g, _ => by simp [wt, Rows.uptoBulkAll]
  | e :: r, g, h => by
    have h0 := h 0 e rfl
    have ih := wt_le r (fun i => g (i + 1)) (fun i e' he => h (i + 1) e' (by simpa using he))
    have hs : wt ((List.range (e :: r).length).map g) = ((g 0).nL + 1) + wt ((List.range r.length).map (fun i => g (i + 1))) := by
      simp only [wt, List.length_cons, List.range_succ_eq_map, List.map_cons, List.map_map, List.sum_cons]
      rfl
    rw [hs]
    simp only [Rows.uptoBulkAll]
    omega

section
variable {H : Type} {enc : TypeId × Value → H} {W : World} {held : Bool} {base fuel : Nat}

/-- One deed of the row. -/
theorem one_deed {cs : List Value} {y : DataW H × List MemPlace}
    (h : DataW.trod enc Try.prog W base (fun _ => true) held fuel 30 cs = some y) :
    ∃ x : DD, cs = x.cells ∧ ((RdI W x.AL x.nL x.cL x.L ∧ InL x.L) ∧ NumB.inR x.a ∧ NumB.inR x.b) ∧ x.nL + 1 ≤ Rows.uptoBulk y.1 := by
  have hc6 : Try.prog.cellsOf 30 = 6 := by kernel_rfl
  have hc3 : Try.prog.cellsOf 3 = 1 := by kernel_rfl
  have hc22 : Try.prog.cellsOf 22 = 1 := by kernel_rfl
  have hc4 : Try.prog.cellsOf 4 = 1 := by kernel_rfl
  obtain ⟨xs, n, _, rfl, hl, hlen, hf⟩ := DataW.trod_struct Try.underlying30 h
  rw [hc6] at hl
  match cs, hl, xs, hlen with
  | [c0, c1, c2, c3, c4, c5], _, [y0, y1, y2, y3, y4, y5], _ =>
    have f0 := hf 0 _ rfl
    have f1 := hf 1 _ rfl
    have f2 := hf 2 _ rfl
    have f3 := hf 3 _ rfl
    have f4 := hf 4 _ rfl
    have f5 := hf 5 _ rfl
    simp [hc3, hc22, hc4] at f0 f1 f2 f3 f4 f5
    obtain ⟨z0, e0, e0', _⟩ := DataW.trod_int Try.underlying3 f0
    obtain ⟨z2, e2, e2', w2⟩ := DataW.trod_int Try.underlying3 f2
    obtain ⟨z3, e3, e3', w3⟩ := DataW.trod_int Try.underlying3 f3
    obtain ⟨z4, e4, e4', _⟩ := DataW.trod_int Try.underlying3 f4
    obtain ⟨z5, e5, e5'⟩ := DataW.trod_bool Try.underlying4 f5
    simp at e0 e2 e3 e4 e5
    subst e0 e2 e3 e4 e5
    obtain ⟨A', len, cap, rfl⟩ : ∃ A' len cap, c1 = .slice A' len cap := by
      rcases DataW.trod_slice Try.underlying22 f1 with ⟨hc, _⟩ | ⟨a, len, cap, _, _, _, _, hc, _⟩
      · simp at hc; exact ⟨none, 0, 0, hc⟩
      · simp at hc; exact ⟨some a, len, cap, hc⟩
    obtain ⟨L, hr, hd⟩ := openedI (d := y1.1) (p := y1.2) Try.underlying22 Try.underlying3 hc3 (by exact f1)
    have hb : len ≤ Rows.uptoBulk y1.1 := by
      rcases hd with hd | ⟨el, sp, hd, hs⟩
      · omega
      · rw [hd]; have := LawU.bulk_slice el sp; have := hr.1.cap; omega
    refine ⟨⟨z0, z2, z3, z4, z5, A', len, cap, L⟩, rfl, ⟨hr, LawI.wf_range w2, LawI.wf_range w3⟩, ?_⟩
    simp only [List.map_cons, List.map_nil, Rows.uptoBulk, Rows.uptoBulkAll]
    omega

theorem opened {len cap : Nat} {a : Option Addr} {d : DataW H} {p : List MemPlace}
    (h : DataW.trod enc Try.prog W base (fun _ => true) held fuel 23 (Value.slice a len cap).cells.toList = some (d, p)) :
    ∃ ds : List DD, RdD W a len cap ds ∧ wt ds ≤ Rows.uptoBulk d := by
  have hc6 : Try.prog.cellsOf 30 = 6 := by kernel_rfl
  rcases DataW.trod_slice Try.underlying23 h with ⟨hcs, _⟩ | ⟨x, l, c, elems, rest, n, _, hcs, hd, _, hl, hm, hlen, hel, hsp, _⟩
  · simp [Value.cells] at hcs
    obtain ⟨rfl, rfl, rfl⟩ := hcs
    exact ⟨[], ⟨rfl, Nat.le_refl _, Nat.zero_le _, fun i x hx => by simp at hx, fun x hx => by simp at hx⟩, by simp [wt]⟩
  · simp [Value.cells] at hcs
    obtain ⟨rfl, rfl, rfl⟩ := hcs
    injection hd with h1 h2
    subst h1
    have each : ∀ i y, elems[i]? = some y → ∃ z : DD, (∀ j u, z.cells[j]? = some u → W.cell? ((x.add (i * 6)).add j) = some u) ∧ ((RdI W z.AL z.nL z.cL z.L ∧ InL z.L) ∧ NumB.inR z.a ∧ NumB.inR z.b) ∧ z.nL + 1 ≤ Rows.uptoBulk y.1 := by
      intro i y hy
      have hi : i < len := by have := (List.getElem?_eq_some_iff.1 hy).1; omega
      have hb := hel i hi
      rw [hy, hc6, Option.bind_eq_some_iff] at hb
      obtain ⟨cs, hcs, ht⟩ := hb
      obtain ⟨_, hn, hcell⟩ := World.cells?_some hcs
      obtain ⟨z, rfl, h2, h3⟩ := one_deed ht
      refine ⟨z, fun j u hj => ?_, h2, h3⟩
      rw [hcell j (by have := (List.getElem?_eq_some_iff.1 hj).1; omega)]
      exact hj
    have hsk : ∀ i, ∃ z : DD, ∀ y, elems[i]? = some y → (∀ j u, z.cells[j]? = some u → W.cell? ((x.add (i * 6)).add j) = some u) ∧ ((RdI W z.AL z.nL z.cL z.L ∧ InL z.L) ∧ NumB.inR z.a ∧ NumB.inR z.b) ∧ z.nL + 1 ≤ Rows.uptoBulk y.1 := by
      intro i
      cases hy : elems[i]? with
      | none => exact ⟨⟨0, 0, 0, 0, false, none, 0, 0, []⟩, fun y h => by cases h⟩
      | some y =>
        obtain ⟨z, hz⟩ := each i y hy
        exact ⟨z, fun y' h => by cases h; exact hz⟩
    obtain ⟨g, hg⟩ := Classical.skolem.1 hsk
    have hget : ∀ i z, ((List.range elems.length).map g)[i]? = some z → ∃ y, elems[i]? = some y ∧ z = g i := by
      intro i z hz
      rw [List.getElem?_map, Option.map_eq_some_iff] at hz
      obtain ⟨k, hk, rfl⟩ := hz
      have hi : i < elems.length := by have := (List.getElem?_eq_some_iff.1 hk).1; simpa using this
      rw [List.getElem?_range hi] at hk
      injection hk with hk
      subst hk
      exact ⟨elems[i], List.getElem?_eq_getElem hi, rfl⟩
    refine ⟨(List.range elems.length).map g, ⟨by simp [hlen], hl, hm, fun i z hz => ?_, fun z hz => ?_⟩, ?_⟩
    · obtain ⟨y, hy, rfl⟩ := hget i z hz
      exact ⟨x, rfl, (hg i y hy).1⟩
    · obtain ⟨i, hi⟩ := List.getElem?_of_mem hz
      obtain ⟨y, hy, rfl⟩ := hget i z hi
      exact (hg i y hy).2.1
    · have hw := wt_le (elems.map (·.1)) g (fun i e he => by
        rw [List.getElem?_map, Option.map_eq_some_iff] at he
        obtain ⟨y, hy, rfl⟩ := he
        exact (hg i y hy).2.2)
      rw [List.length_map] at hw
      simp only [Rows.uptoBulk]
      omega
end
end Go.Proofs.Ytadjgbhbeamdbaa.LawDT
