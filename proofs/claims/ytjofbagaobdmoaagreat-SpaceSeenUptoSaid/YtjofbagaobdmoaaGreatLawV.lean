/-
  What a law's frame wants of an argument that is a value: it reads as one, its sizes within the reading's bulk. Conditions: as stated.
-/
import Derived.Test.YtjofbagaobdmoaaGreatLawU
import Derived.Test.YtjofbagaobdmoaaGreatVaI
import Derived.ChangeArms
import Derived.DataReads
import Derived.ChangeOld
set_option maxRecDepth 100000
set_option linter.unusedSimpArgs false
set_option linter.unusedVariables false
namespace Go.Proofs.YtjofbagaobdmoaaGreat.LawV
open Go.RowKit Go.ChangeShapes Go.Proofs.YtjofbagaobdmoaaGreat.Mem Go.Proofs.YtjofbagaobdmoaaGreat.VaC Go.Proofs.YtjofbagaobdmoaaGreat.VaH Go.Proofs.YtjofbagaobdmoaaGreat.VaI

theorem wf_range {x : Int} (w : (Lit.int .i64 x).wf = true) : -9223372036854775808 ≤ x ∧ x ≤ 9223372036854775807 := by
  have hmin : IntKind.i64.min = -9223372036854775808 := rfl
  have hmax : IntKind.i64.max = 9223372036854775807 := rfl
  simp only [Lit.wf, Bool.and_eq_true, decide_eq_true_eq] at w; omega
theorem wt_le {H α : Type} (m : α → Nat) : ∀ (es : List (DataW H)) (g : Nat → α), (∀ i e, es[i]? = some e → m (g i) ≤ Rows.uptoBulk e) → ((((List.range es.length).map g).map m).sum ≤ Rows.uptoBulkAll es)
  | [], g, _ => by simp [Rows.uptoBulkAll]
  | e :: r, g, h => by
    have h0 := h 0 e rfl
    have ih := wt_le m r (fun i => g (i + 1)) (fun i e' he => h (i + 1) e' (by simpa using he))
    have hs : (((List.range (e :: r).length).map g).map m).sum = m (g 0) + (((List.range r.length).map (fun i => g (i + 1))).map m).sum := by
      simp only [List.length_cons, List.range_succ_eq_map, List.map_cons, List.map_map, List.sum_cons]
      rfl
    rw [hs]
    simp only [Rows.uptoBulkAll]
    omega
theorem get_flat {α : Type} {f : α → List Value} {sz : Nat} (hf : ∀ x, (f x).length = sz) (P : Nat → Value → Prop) : ∀ (l : List α) (off : Nat), (∀ i x, l[i]? = some x → ∀ j u, (f x)[j]? = some u → P (off + i * sz + j) u) → ∀ j u, (l.flatMap f)[j]? = some u → P (off + j) u
  | [], off, _, j, u, hj => by simp at hj
  | a :: l, off, h, j, u, hj => by
    rw [List.flatMap_cons, List.getElem?_append] at hj
    split at hj
    · have := h 0 a rfl j u hj
      simpa using this
    · rename_i hn
      rw [hf] at hn hj
      have := get_flat hf P l (off + sz) (fun i x hi j' u' hj' => by
        have := h (i + 1) x (by simpa using hi) j' u' hj'
        have e : off + (i + 1) * sz + j' = off + sz + i * sz + j' := by rw [Nat.succ_mul]; omega
        rwa [e] at this) (j - sz) u hj
      have e : off + sz + (j - sz) = off + j := by omega
      rwa [e] at this

theorem sum_const {α : Type} {f : α → List Value} {sz : Nat} (hf : ∀ x, (f x).length = sz) : ∀ l : List α, (l.map fun a => (f a).length).sum = l.length * sz
  | [] => by simp
  | a :: l => by rw [List.map_cons, List.sum_cons, sum_const hf l, hf, List.length_cons, Nat.succ_mul, Nat.add_comm]

section
variable {H : Type} {enc : TypeId × Value → H} {W : World} {held : Bool} {base fuel : Nat}

theorem opened_row {α : Type} [Inhabited α] (f : α → List Value) (sz : Nat) (m : α → Nat) (ok : α → Prop) (hf : ∀ x, (f x).length = sz) {t e : TypeId} (ht : Tryz.prog.underlying t = some (.slice e)) (hc : Tryz.prog.cellsOf e = sz)
    (one : ∀ (n : Nat) (cs : List Value) (y : DataW H × List MemPlace), DataW.trod enc Tryz.prog W base (fun _ => true) held n e cs = some y → ∃ x : α, cs = f x ∧ m x ≤ Rows.uptoBulk y.1 ∧ ok x)
    {len cap : Nat} {a : Option Addr} {d : DataW H} {p : List MemPlace}
    (h : DataW.trod enc Tryz.prog W base (fun _ => true) held fuel t [Value.slice a len cap] = some (d, p)) :
    ∃ l : List α, Rd W sz a len cap (l.flatMap f) ∧ (l.map m).sum + len ≤ Rows.uptoBulk d + len ∧ l.length = len ∧ ∀ x ∈ l, ok x := by
  rcases DataW.trod_slice ht h with ⟨hcs, _⟩ | ⟨x, l, c, elems, rest, n, _, hcs, hd, _, hl, hm, hlen, hel, hsp, _⟩
  · simp at hcs
    obtain ⟨rfl, rfl, rfl⟩ := hcs
    exact ⟨[], by simpa using Rd.nil W sz, by simp, rfl, fun x hx => by cases hx⟩
  · simp at hcs
    obtain ⟨rfl, rfl, rfl⟩ := hcs
    injection hd with h1 h2
    subst h1
    rw [hc] at hel
    have hsk : ∀ i, ∃ z : α, ∀ y, elems[i]? = some y → (∀ j u, (f z)[j]? = some u → W.cell? ((x.add (i * sz)).add j) = some u) ∧ m z ≤ Rows.uptoBulk y.1 ∧ ok z := by
      intro i
      cases hy : elems[i]? with
      | none => exact ⟨default, fun y h => by cases h⟩
      | some y =>
        have hi : i < len := by have := (List.getElem?_eq_some_iff.1 hy).1; omega
        have hb := hel i hi
        rw [hy, Option.bind_eq_some_iff] at hb
        obtain ⟨cs, hcs, htr⟩ := hb
        obtain ⟨_, hn, hcell⟩ := World.cells?_some hcs
        obtain ⟨z, rfl, h2, h3⟩ := one n cs y htr
        refine ⟨z, fun y' h => ?_⟩
        cases h
        refine ⟨fun j u hj => ?_, h2, h3⟩
        rw [hcell j (by have := (List.getElem?_eq_some_iff.1 hj).1; omega)]
        exact hj
    obtain ⟨g, hg⟩ := Classical.skolem.1 hsk
    have hget : ∀ i z, ((List.range elems.length).map g)[i]? = some z → ∃ y, elems[i]? = some y ∧ z = g i := by
      intro i z hz
      rw [List.getElem?_map, Option.map_eq_some_iff] at hz
      obtain ⟨k, hk, rfl⟩ := hz
      have hi : i < elems.length := by have := (List.getElem?_eq_some_iff.1 hk).1; simpa using this
      rw [List.getElem?_range hi] at hk
      injection hk with hk
      subst hk
      exact ⟨elems[i], List.getElem?_eq_getElem hi, rfl⟩
    have hlen' : ((List.range elems.length).map g).length = len := by simp [hlen]
    refine ⟨(List.range elems.length).map g, ⟨?_, hl, hm, fun j u hj => ?_⟩, ?_, hlen', fun z hz => ?_⟩
    · rw [List.length_flatMap, ← hlen']
      generalize (List.range elems.length).map g = L
      exact sum_const hf L
    · refine ⟨x, rfl, ?_⟩
      have := get_flat hf (fun k v => W.cell? (x.add k) = some v) _ 0 (fun i z hz j' u' hj' => by
        obtain ⟨y, hy, rfl⟩ := hget i z hz
        have := (hg i y hy).1 j' u' hj'
        rw [Addr.add_add] at this
        simpa using this) j u hj
      simpa using this
    · have hw := wt_le m (elems.map (·.1)) g (fun i e he => by
        rw [List.getElem?_map, Option.map_eq_some_iff] at he
        obtain ⟨y, hy, rfl⟩ := he
        exact (hg i y hy).2.1)
      rw [List.length_map] at hw
      simp only [Rows.uptoBulk]
      omega
    · obtain ⟨i, hi⟩ := List.getElem?_of_mem hz
      obtain ⟨y, hy, rfl⟩ := hget i z hi
      exact (hg i y hy).2.2

theorem bulk_s (s : ByteArray) : Rows.uptoBulk (H := H) (.lit (.string s.data.toList)) = s.size + 1 := by
  simp only [Rows.uptoBulk]
  rw [Array.length_toList]; rfl
theorem one_s (n : Nat) (cs : List Value) (y : DataW H × List MemPlace) (h : DataW.trod enc Tryz.prog W base (fun _ => true) held n 9 cs = some y) : ∃ x : ByteArray, cs = [.string x] ∧ x.size + 1 ≤ Rows.uptoBulk y.1 ∧ x.size ≤ maxLen := by
  obtain ⟨s, rfl, rfl, hs⟩ := DataW.trod_string Tryz.underlying9 h
  exact ⟨s, rfl, Nat.le_of_eq (bulk_s s).symm, hs⟩
theorem one_f (n : Nat) (cs : List Value) (y : DataW H × List MemPlace) (h : DataW.trod enc Tryz.prog W base (fun _ => true) held n 108 cs = some y) : ∃ x : ByteArray × ByteArray, cs = [.string x.1, .string x.2] ∧ x.1.size + x.2.size + 2 ≤ Rows.uptoBulk y.1 ∧ x.1.size ≤ maxLen := by
  have hc : Tryz.prog.cellsOf 108 = 2 := by kernel_rfl
  have hc9 : Tryz.prog.cellsOf 9 = 1 := by kernel_rfl
  obtain ⟨xs, n, _, rfl, hl, hlen, hf⟩ := DataW.trod_struct Tryz.underlying108 h
  rw [hc] at hl
  match cs, hl, xs, hlen with
  | [c0, c1], _, [y0, y1], _ =>
    have f0 := hf 0 _ rfl
    have f1 := hf 1 _ rfl
    simp [hc9] at f0 f1
    obtain ⟨s0, e0, rfl, w0⟩ := DataW.trod_string Tryz.underlying9 f0
    obtain ⟨s1, e1, rfl, w1⟩ := DataW.trod_string Tryz.underlying9 f1
    simp at e0 e1
    subst e0 e1
    have h0 := bulk_s (H := H) s0
    have h1 := bulk_s (H := H) s1
    refine ⟨(s0, s1), rfl, ?_, w0⟩
    simp only [List.map_cons, List.map_nil]
    rw [Rows.uptoBulk]
    simp only [Rows.uptoBulkAll]
    omega
theorem one_k (n : Nat) (cs : List Value) (y : DataW H × List MemPlace) (h : DataW.trod enc Tryz.prog W base (fun _ => true) held n 110 cs = some y) : ∃ x : ByteArray × Int, cs = [.string x.1, .int .i64 x.2] ∧ x.1.size + 2 ≤ Rows.uptoBulk y.1 ∧ (x.1.size ≤ maxLen ∧ -9223372036854775808 ≤ x.2 ∧ x.2 ≤ 9223372036854775807) := by
  have hc : Tryz.prog.cellsOf 110 = 2 := by kernel_rfl
  have hc9 : Tryz.prog.cellsOf 9 = 1 := by kernel_rfl
  have hc3 : Tryz.prog.cellsOf 3 = 1 := by kernel_rfl
  obtain ⟨xs, n, _, rfl, hl, hlen, hf⟩ := DataW.trod_struct Tryz.underlying110 h
  rw [hc] at hl
  match cs, hl, xs, hlen with
  | [c0, c1], _, [y0, y1], _ =>
    have f0 := hf 0 _ rfl
    have f1 := hf 1 _ rfl
    simp [hc9, hc3] at f0 f1
    obtain ⟨s0, e0, rfl, w0⟩ := DataW.trod_string Tryz.underlying9 f0
    obtain ⟨z1, e1, rfl, w1⟩ := DataW.trod_int Tryz.underlying3 f1
    simp at e0 e1
    subst e0 e1
    have h0 : s0.data.toList.length = s0.size := by rw [Array.length_toList]; rfl
    refine ⟨(s0, z1), rfl, ?_, w0, wf_range w1⟩
    simp only [List.map_cons, List.map_nil]
    rw [Rows.uptoBulk]
    simp only [Rows.uptoBulkAll, Rows.uptoBulk]
    omega
end

theorem sum_S : ∀ l : List ByteArray, (encS l).length + l.length ≤ 5 * (l.map fun x => x.size + 1).sum
  | [] => by simp [encS]
  | a :: l => by
    have ih := sum_S l
    simp only [encS, List.flatMap_cons, List.length_append, List.length_cons, List.map_cons, List.sum_cons, putL_len] at ih ⊢
    omega
theorem sum_F : ∀ l : List (ByteArray × ByteArray), (encF l).length + l.length ≤ 5 * (l.map fun x => x.1.size + x.2.size + 2).sum
  | [] => by simp [encF]
  | a :: l => by
    have ih := sum_F l
    simp only [encF, List.flatMap_cons, List.length_append, List.length_cons, List.map_cons, List.sum_cons, putL_len] at ih ⊢
    omega
theorem sum_K : ∀ l : List (ByteArray × Int), (encK l).length + l.length ≤ 7 * (l.map fun x => x.1.size + 2).sum
  | [] => by simp [encK]
  | a :: l => by
    have ih := sum_K l
    simp only [encK, List.flatMap_cons, List.length_append, List.length_cons, List.map_cons, List.sum_cons, putL_len, VaA.le_len] at ih ⊢
    omega
theorem flat_s (l : List ByteArray) : l.flatMap (fun x => [Value.string x]) = strs l := by
  induction l with
  | nil => rfl
  | cons a l ih => rw [List.flatMap_cons, ih]; rfl

/-- What a law's argument that is a value is. -/
structure Arg (W : World) (x : VV) : Prop where
  rd : RdV W x
  sm : Sm x
  kind : -9223372036854775808 ≤ x.kind ∧ x.kind ≤ 9223372036854775807
  text : x.text.size ≤ 1048576
  rank : ∀ y ∈ x.rank, -9223372036854775808 ≤ y.2 ∧ y.2 ≤ 9223372036854775807

theorem opened {H : Type} {enc : TypeId × Value → H} {W : World} {held : Bool} {base fuel : Nat} {cs : Array Value} {d : DataW H} {p : List MemPlace}
    (h : DataW.trod enc Tryz.prog W base (fun _ => true) held fuel 27 cs.toList = some (d, p)) (hb : Rows.uptoBulk d ≤ 1048576) :
    ∃ x : VV, (.agg cs : Value) = x.val ∧ Arg W x := by
  have hc5 : Tryz.prog.cellsOf 27 = 5 := by kernel_rfl
  have hc3 : Tryz.prog.cellsOf 3 = 1 := by kernel_rfl
  have hc9 : Tryz.prog.cellsOf 9 = 1 := by kernel_rfl
  have hcS : Tryz.prog.cellsOf 23 = 1 := by kernel_rfl
  have hcF : Tryz.prog.cellsOf 24 = 1 := by kernel_rfl
  have hcK : Tryz.prog.cellsOf 25 = 1 := by kernel_rfl
  obtain ⟨xs, n, _, hd, hl, hlen, hf⟩ := DataW.trod_struct Tryz.underlying27 h
  rw [hc5] at hl
  obtain ⟨cs⟩ := cs
  match cs, hl, xs, hlen, hd, hf with
  | [c0, c1, c2, c3, c4], _, [y0, y1, y2, y3, y4], _, hd, hf =>
    injection hd with hd1 hd2
    subst hd1
    have f0 := hf 0 _ rfl
    have f1 := hf 1 _ rfl
    have f2 := hf 2 _ rfl
    have f3 := hf 3 _ rfl
    have f4 := hf 4 _ rfl
    simp [hc3, hc9, hcS, hcF, hcK] at f0 f1 f2 f3 f4
    obtain ⟨z0, e0, rfl, w0⟩ := DataW.trod_int Tryz.underlying3 f0
    obtain ⟨s1, e1, rfl, w1⟩ := DataW.trod_string Tryz.underlying9 f1
    simp at e0 e1
    subst e0 e1
    have hs : ∀ (t e : TypeId) (c : Value) (y : DataW H × List MemPlace), Tryz.prog.underlying t = some (.slice e) → DataW.trod enc Tryz.prog W base (fun _ => true) held n t [c] = some y → ∃ A l k, c = .slice A l k := by
      intro t e c y ht h
      rcases DataW.trod_slice ht h with ⟨hc, _⟩ | ⟨a, len, cap, _, _, _, _, hc, _⟩
      · simp at hc; exact ⟨none, 0, 0, hc⟩
      · simp at hc; exact ⟨some a, len, cap, hc⟩
    obtain ⟨A2, l2, k2, rfl⟩ := hs _ _ _ _ Tryz.underlying23 f2
    obtain ⟨A3, l3, k3, rfl⟩ := hs _ _ _ _ Tryz.underlying24 f3
    obtain ⟨A4, l4, k4, rfl⟩ := hs _ _ _ _ Tryz.underlying25 f4
    obtain ⟨L, rL, bL, nL, -⟩ := opened_row (fun x : ByteArray => [Value.string x]) 1 (fun x => x.size + 1) (fun x => x.size ≤ maxLen) (fun _ => rfl) Tryz.underlying23 hc9 one_s (d := y2.1) (p := y2.2) f2
    obtain ⟨F, rF, bF, nF, -⟩ := opened_row (fun x : ByteArray × ByteArray => [Value.string x.1, Value.string x.2]) 2 (fun x => x.1.size + x.2.size + 2) (fun x => x.1.size ≤ maxLen) (fun _ => rfl) Tryz.underlying24 (by kernel_rfl) one_f (d := y3.1) (p := y3.2) f3
    obtain ⟨K, rK, bK, nK, oK⟩ := opened_row (fun x : ByteArray × Int => [Value.string x.1, Value.int .i64 x.2]) 2 (fun x => x.1.size + 2) (fun x => x.1.size ≤ maxLen ∧ -9223372036854775808 ≤ x.2 ∧ x.2 ≤ 9223372036854775807) (fun _ => rfl) Tryz.underlying25 (by kernel_rfl) one_k (d := y4.1) (p := y4.2) f4
    rw [flat_s] at rL
    have h1 := bulk_s (H := H) s1
    simp only [List.map_cons, List.map_nil] at hb
    rw [Rows.uptoBulk] at hb
    simp only [Rows.uptoBulkAll] at hb
    have hS := sum_S L
    have hF := sum_F F
    have hK := sum_K K
    refine ⟨⟨z0, s1, A2, l2, k2, L, A3, l3, k3, F, A4, l4, k4, K⟩, rfl, ⟨rL, rF, rK⟩, ⟨?_, ?_, ?_, ?_, ?_, ?_, ?_, fun y hy => (oK y hy).1⟩, wf_range w0, ?_, fun y hy => (oK y hy).2⟩
    all_goals (dsimp only; omega)
end Go.Proofs.YtjofbagaobdmoaaGreat.LawV
