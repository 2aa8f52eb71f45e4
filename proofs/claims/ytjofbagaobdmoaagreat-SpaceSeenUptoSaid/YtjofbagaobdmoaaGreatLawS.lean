/-
  What a law's frame wants of an argument that is a row of a space's calls: it reads as a list, its values as such, its sizes within the reading's bulk. Conditions: as stated.
-/
import Derived.Test.YtjofbagaobdmoaaGreatLawV
import Derived.Test.YtjofbagaobdmoaaGreatSqA
set_option maxRecDepth 100000
set_option linter.unusedSimpArgs false
set_option linter.unusedVariables false
namespace Go.Proofs.YtjofbagaobdmoaaGreat.LawS
open Go.RowKit Go.ChangeShapes Go.Proofs.YtjofbagaobdmoaaGreat.Mem Go.Proofs.YtjofbagaobdmoaaGreat.VaC Go.Proofs.YtjofbagaobdmoaaGreat.VaH Go.Proofs.YtjofbagaobdmoaaGreat.VaI Go.Proofs.YtjofbagaobdmoaaGreat.LawV Go.Proofs.YtjofbagaobdmoaaGreat.SpC Go.Proofs.YtjofbagaobdmoaaGreat.SpD

/-- A space's call as it lies. -/
structure OV where
  kind : Int
  key : ByteArray
  x : VV
  due : Int
  EA : Option Addr
  en : Nat
  ec : Nat
def OV.cells (o : OV) : List Value := [.int .i64 o.kind, .string o.key, .int .i64 o.x.kind, .string o.x.text, .slice o.x.LA o.x.ln o.x.lc, .slice o.x.FA o.x.fn o.x.fc, .slice o.x.KA o.x.kn o.x.kc, .int .i64 o.due, .slice o.EA o.en o.ec]
instance : Inhabited OV := ⟨⟨0, ⟨#[]⟩, vv0, 0, none, 0, 0⟩⟩
theorem ov_len (o : OV) : o.cells.length = 9 := rfl
def OV.wt (o : OV) : Nat := o.key.size + 1 + (encV o.x).length / 8
structure OV.ok (W : World) (o : OV) : Prop where
  rd : RdV W o.x
  sm : Sm o.x
  key : o.key.size ≤ 1048576
  kind : -9223372036854775808 ≤ o.kind ∧ o.kind ≤ 9223372036854775807
  due : -9223372036854775808 ≤ o.due ∧ o.due ≤ 9223372036854775807
section
variable {H : Type} {enc : TypeId × Value → H} {W : World} {held : Bool} {base fuel : Nat}
theorem mem_bulk {e : DataW H} : ∀ {es : List (DataW H)}, e ∈ es → Rows.uptoBulk e ≤ Rows.uptoBulkAll es
  | a :: r, h => by
    simp only [Rows.uptoBulkAll]
    rcases List.mem_cons.1 h with rfl | h
    · omega
    · have := mem_bulk h; omega

theorem opened_row2 {α : Type} [Inhabited α] (f : α → List Value) (sz : Nat) (m : α → Nat) (ok : α → Prop) (hf : ∀ x, (f x).length = sz) {t e : TypeId} (ht : Tryz.prog.underlying t = some (.slice e)) (hc : Tryz.prog.cellsOf e = sz)
    (one : ∀ (n : Nat) (cs : List Value) (y : DataW H × List MemPlace), DataW.trod enc Tryz.prog W base (fun _ => true) held n e cs = some y → Rows.uptoBulk y.1 ≤ 1048576 → ∃ x : α, cs = f x ∧ m x ≤ Rows.uptoBulk y.1 ∧ ok x)
    {len cap : Nat} {a : Option Addr} {d : DataW H} {p : List MemPlace}
    (hB : Rows.uptoBulk d ≤ 1048576) (h : DataW.trod enc Tryz.prog W base (fun _ => true) held fuel t [Value.slice a len cap] = some (d, p)) :
    ∃ l : List α, Rd W sz a len cap (l.flatMap f) ∧ (l.map m).sum + len ≤ Rows.uptoBulk d + len ∧ l.length = len ∧ ∀ x ∈ l, ok x := by
  rcases DataW.trod_slice ht h with ⟨hcs, _⟩ | ⟨x, l, c, elems, rest, n, _, hcs, hd, _, hl, hm, hlen, hel, hsp, _⟩
  · simp at hcs
    obtain ⟨rfl, rfl, rfl⟩ := hcs
    exact ⟨[], by simpa using Rd.nil W sz, by simp, rfl, fun x hx => by cases hx⟩
  · simp at hcs
    obtain ⟨rfl, rfl, rfl⟩ := hcs
    injection hd with h1 h2
    subst h1
    rw [hc] at hel
    have hall : ∀ y ∈ elems, Rows.uptoBulk y.1 ≤ 1048576 := fun y hy => Nat.le_trans (mem_bulk (List.mem_map_of_mem (f := (·.1)) hy)) (by simp only [Rows.uptoBulk] at hB; omega)
    have hsk : ∀ i, ∃ z : α, ∀ y, elems[i]? = some y → (∀ j u, (f z)[j]? = some u → W.cell? ((x.add (i * sz)).add j) = some u) ∧ m z ≤ Rows.uptoBulk y.1 ∧ ok z := by
      intro i
      cases hy : elems[i]? with
      | none => exact ⟨default, fun y h => by cases h⟩
      | some y =>
        have hi : i < len := by have := (List.getElem?_eq_some_iff.1 hy).1; omega
        have hb := hel i hi
        rw [hy, Option.bind_eq_some_iff] at hb
        obtain ⟨cs, hcs, htr⟩ := hb
        obtain ⟨_, hn, hcell⟩ := World.cells?_some hcs
        obtain ⟨z, rfl, h2, h3⟩ := one n cs y htr (hall y (List.mem_of_getElem? hy))
        refine ⟨z, fun y' h => ?_⟩
        cases h
        refine ⟨fun j u hj => ?_, h2, h3⟩
        rw [hcell j (by have := (List.getElem?_eq_some_iff.1 hj).1; omega)]
        exact hj
    obtain ⟨g, hg⟩ := Classical.skolem.1 hsk
    have hget : ∀ i z, ((List.range elems.length).map g)[i]? = some z → ∃ y, elems[i]? = some y ∧ z = g i := by
      intro i z hz
      rw [List.getElem?_map, Option.map_eq_some_iff] at hz
      obtain ⟨k, hk, rfl⟩ := hz
      have hi : i < elems.length := by have := (List.getElem?_eq_some_iff.1 hk).1; simpa using this
      rw [List.getElem?_range hi] at hk
      injection hk with hk
      subst hk
      exact ⟨elems[i], List.getElem?_eq_getElem hi, rfl⟩
    have hlen' : ((List.range elems.length).map g).length = len := by simp [hlen]
    refine ⟨(List.range elems.length).map g, ⟨?_, hl, hm, fun j u hj => ?_⟩, ?_, hlen', fun z hz => ?_⟩
    · rw [List.length_flatMap, ← hlen']
      generalize (List.range elems.length).map g = L
      exact sum_const hf L
    · refine ⟨x, rfl, ?_⟩
      have := get_flat hf (fun k v => W.cell? (x.add k) = some v) _ 0 (fun i z hz j' u' hj' => by
        obtain ⟨y, hy, rfl⟩ := hget i z hz
        have := (hg i y hy).1 j' u' hj'
        rw [Addr.add_add] at this
        simpa using this) j u hj
      simpa using this
    · have hw := wt_le m (elems.map (·.1)) g (fun i e he => by
        rw [List.getElem?_map, Option.map_eq_some_iff] at he
        obtain ⟨y, hy, rfl⟩ := he
        exact (hg i y hy).2.1)
      rw [List.length_map] at hw
      simp only [Rows.uptoBulk]
      omega
    · obtain ⟨i, hi⟩ := List.getElem?_of_mem hz
      obtain ⟨y, hy, rfl⟩ := hget i z hi
      exact (hg i y hy).2.2


theorem enc_len (x : VV) : (encV x).length ≤ 5 + x.text.size + (encS x.list).length + (encF x.flds).length + (encK x.rank).length := by
  unfold encV bodyV
  have ht : x.text.data.toList.length = x.text.size := by rw [Array.length_toList]; rfl
  repeat' split
  all_goals (simp only [List.length_cons, List.length_append, VaA.le_len, putL_len, List.length_nil]; omega)

theorem openedV {cs : Array Value} {d : DataW H} {p : List MemPlace}
    (h : DataW.trod enc Tryz.prog W base (fun _ => true) held fuel 27 cs.toList = some (d, p)) (hb : Rows.uptoBulk d ≤ 1048576) :
    ∃ x : VV, cs = x.cells ∧ Arg W x ∧ (encV x).length ≤ 8 * Rows.uptoBulk d := by
  have hc5 : Tryz.prog.cellsOf 27 = 5 := by kernel_rfl
  have hc3 : Tryz.prog.cellsOf 3 = 1 := by kernel_rfl
  have hc9 : Tryz.prog.cellsOf 9 = 1 := by kernel_rfl
  have hcS : Tryz.prog.cellsOf 23 = 1 := by kernel_rfl
  have hcF : Tryz.prog.cellsOf 24 = 1 := by kernel_rfl
  have hcK : Tryz.prog.cellsOf 25 = 1 := by kernel_rfl
  obtain ⟨xs, n, _, hd, hl, hlen, hf⟩ := DataW.trod_struct Tryz.underlying27 h
  rw [hc5] at hl
  obtain ⟨cs⟩ := cs
  match cs, hl, xs, hlen, hd, hf with
  | [c0, c1, c2, c3, c4], _, [y0, y1, y2, y3, y4], _, hd, hf =>
    injection hd with hd1 hd2
    subst hd1
    have f0 := hf 0 _ rfl
    have f1 := hf 1 _ rfl
    have f2 := hf 2 _ rfl
    have f3 := hf 3 _ rfl
    have f4 := hf 4 _ rfl
    simp [hc3, hc9, hcS, hcF, hcK] at f0 f1 f2 f3 f4
    obtain ⟨z0, e0, rfl, w0⟩ := DataW.trod_int Tryz.underlying3 f0
    obtain ⟨s1, e1, rfl, w1⟩ := DataW.trod_string Tryz.underlying9 f1
    simp at e0 e1
    subst e0 e1
    have hs : ∀ (t e : TypeId) (c : Value) (y : DataW H × List MemPlace), Tryz.prog.underlying t = some (.slice e) → DataW.trod enc Tryz.prog W base (fun _ => true) held n t [c] = some y → ∃ A l k, c = .slice A l k := by
      intro t e c y ht h
      rcases DataW.trod_slice ht h with ⟨hc, _⟩ | ⟨a, len, cap, _, _, _, _, hc, _⟩
      · simp at hc; exact ⟨none, 0, 0, hc⟩
      · simp at hc; exact ⟨some a, len, cap, hc⟩
    obtain ⟨A2, l2, k2, rfl⟩ := hs _ _ _ _ Tryz.underlying23 f2
    obtain ⟨A3, l3, k3, rfl⟩ := hs _ _ _ _ Tryz.underlying24 f3
    obtain ⟨A4, l4, k4, rfl⟩ := hs _ _ _ _ Tryz.underlying25 f4
    obtain ⟨L, rL, bL, nL, -⟩ := opened_row (fun x : ByteArray => [Value.string x]) 1 (fun x => x.size + 1) (fun x => x.size ≤ maxLen) (fun _ => rfl) Tryz.underlying23 hc9 one_s (d := y2.1) (p := y2.2) f2
    obtain ⟨F, rF, bF, nF, -⟩ := opened_row (fun x : ByteArray × ByteArray => [Value.string x.1, Value.string x.2]) 2 (fun x => x.1.size + x.2.size + 2) (fun x => x.1.size ≤ maxLen) (fun _ => rfl) Tryz.underlying24 (by kernel_rfl) one_f (d := y3.1) (p := y3.2) f3
    obtain ⟨K, rK, bK, nK, oK⟩ := opened_row (fun x : ByteArray × Int => [Value.string x.1, Value.int .i64 x.2]) 2 (fun x => x.1.size + 2) (fun x => x.1.size ≤ maxLen ∧ -9223372036854775808 ≤ x.2 ∧ x.2 ≤ 9223372036854775807) (fun _ => rfl) Tryz.underlying25 (by kernel_rfl) one_k (d := y4.1) (p := y4.2) f4
    rw [flat_s] at rL
    have h1 := bulk_s (H := H) s1
    simp only [List.map_cons, List.map_nil] at hb
    rw [Rows.uptoBulk] at hb
    simp only [Rows.uptoBulkAll] at hb
    have hS := sum_S L
    have hF := sum_F F
    have hK := sum_K K
    refine ⟨⟨z0, s1, A2, l2, k2, L, A3, l3, k3, F, A4, l4, k4, K⟩, rfl, ⟨⟨rL, rF, rK⟩, ⟨?_, ?_, ?_, ?_, ?_, ?_, ?_, fun y hy => (oK y hy).1⟩, wf_range w0, ?_, fun y hy => (oK y hy).2⟩, ?_⟩
    rotate_left 8
    · refine Nat.le_trans (enc_len _) ?_
      dsimp only
      simp only [List.map_cons, List.map_nil]
      rw [Rows.uptoBulk]
      simp only [Rows.uptoBulkAll]
      omega
    all_goals (dsimp only; omega)

theorem one_op (n : Nat) (cs : List Value) (y : DataW H × List MemPlace) (h : DataW.trod enc Tryz.prog W base (fun _ => true) held n 57 cs = some y) (hB : Rows.uptoBulk y.1 ≤ 1048576) :
    ∃ o : OV, cs = o.cells ∧ o.wt ≤ Rows.uptoBulk y.1 ∧ o.ok W := by
  have hc : Tryz.prog.cellsOf 57 = 9 := by kernel_rfl
  have hc3 : Tryz.prog.cellsOf 3 = 1 := by kernel_rfl
  have hc9 : Tryz.prog.cellsOf 9 = 1 := by kernel_rfl
  have hcV : Tryz.prog.cellsOf 27 = 5 := by kernel_rfl
  have hcE : Tryz.prog.cellsOf 45 = 1 := by kernel_rfl
  obtain ⟨xs, n, _, rfl, hl, hlen, hf⟩ := DataW.trod_struct Tryz.underlying57 h
  rw [hc] at hl
  match cs, hl, xs, hlen with
  | [c0, c1, c2, c3, c4, c5, c6, c7, c8], _, [y0, y1, y2, y3, y4], _ =>
    have f0 := hf 0 _ rfl
    have f1 := hf 1 _ rfl
    have f2 := hf 2 _ rfl
    have f3 := hf 3 _ rfl
    have f4 := hf 4 _ rfl
    simp [hc3, hc9, hcV, hcE] at f0 f1 f2 f3 f4
    obtain ⟨z0, e0, rfl, w0⟩ := DataW.trod_int Tryz.underlying3 f0
    obtain ⟨s1, e1, rfl, w1⟩ := DataW.trod_string Tryz.underlying9 f1
    obtain ⟨z3, e3, rfl, w3⟩ := DataW.trod_int Tryz.underlying3 f3
    simp at e0 e1 e3
    subst e0 e1 e3
    simp only [List.map_cons, List.map_nil] at hB ⊢
    rw [Rows.uptoBulk] at hB ⊢
    simp only [Rows.uptoBulkAll] at hB ⊢
    have h1 := bulk_s (H := H) s1
    obtain ⟨x, hx, ha, he⟩ := openedV (cs := #[c2, c3, c4, c5, c6]) (d := y2.1) (p := y2.2) f2 (by omega)
    have hE : ∃ A l k, c8 = .slice A l k := by
      rcases DataW.trod_slice Tryz.underlying45 f4 with ⟨hc, _⟩ | ⟨a, len, cap, _, _, _, _, hc, _⟩
      · simp at hc; exact ⟨none, 0, 0, hc⟩
      · simp at hc; exact ⟨some a, len, cap, hc⟩
    obtain ⟨EA, en, ec, rfl⟩ := hE
    have hx' : [c2, c3, c4, c5, c6] = [.int .i64 x.kind, .string x.text, .slice x.LA x.ln x.lc, .slice x.FA x.fn x.fc, .slice x.KA x.kn x.kc] := congrArg Array.toList hx
    injection hx' with q2 hx'; injection hx' with q3 hx'; injection hx' with q4 hx'; injection hx' with q5 hx'; injection hx' with q6 hx'
    subst q2 q3 q4 q5 q6
    refine ⟨⟨z0, s1, x, z3, EA, en, ec⟩, rfl, ?_, ha.rd, ha.sm, by dsimp only; omega, wf_range w0, wf_range w3⟩
    unfold OV.wt
    dsimp only
    omega
end
end Go.Proofs.YtjofbagaobdmoaaGreat.LawS
