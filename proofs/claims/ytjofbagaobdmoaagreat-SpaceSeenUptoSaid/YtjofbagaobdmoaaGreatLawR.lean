/-
  What a law's frame wants of an argument that is a row of flat elements: it reads as a list, its sizes within the reading's bulk. Conditions: as stated.
-/
import Derived.Test.YtjofbagaobdmoaaGreatLawU
import Derived.Test.YtjofbagaobdmoaaGreatMem
import Derived.ChangeArms
import Derived.DataReads
import Derived.ChangeOld
set_option maxRecDepth 100000
set_option linter.unusedSimpArgs false
set_option linter.unusedVariables false
namespace Go.Proofs.YtjofbagaobdmoaaGreat.LawR
open Go.RowKit Go.ChangeShapes Go.Proofs.YtjofbagaobdmoaaGreat.Mem

theorem flat_get {α : Type} {f : α → List Value} {sz : Nat} (hf : ∀ x, (f x).length = sz) : ∀ (l : List α) (i : Nat) (x : α), l[i]? = some x → ∀ j u, (f x)[j]? = some u → (l.flatMap f)[i * sz + j]? = some u
  | [], i, x, h, j, u, _ => by simp at h
  | a :: l, 0, x, h, j, u, hj => by
    simp at h; subst h
    rw [List.flatMap_cons, Nat.zero_mul, Nat.zero_add, List.getElem?_append_left (List.getElem?_eq_some_iff.1 hj).1]
    exact hj
  | a :: l, i + 1, x, h, j, u, hj => by
    have ih := flat_get hf l i x (by simpa using h) j u hj
    rw [List.flatMap_cons, List.getElem?_append_right (by rw [hf, Nat.succ_mul]; omega), hf]
    rw [show (i + 1) * sz + j - sz = i * sz + j by rw [Nat.succ_mul]; omega]
    exact ih
/-- An element's cells. -/
theorem rd_at {α : Type} {f : α → List Value} {sz : Nat} (hf : ∀ x, (f x).length = sz) {W : World} {A : Option Addr} {n c : Nat} {l : List α} (h : Rd W sz A n c (l.flatMap f)) {i : Nat} {x : α} (hx : l[i]? = some x) (h0 : 0 < sz) :
    ∃ p, A = some p ∧ ∀ j u, (f x)[j]? = some u → W.cell? ((p.add (i * sz)).add j) = some u := by
  obtain ⟨u0, hu0⟩ : ∃ u0, (f x)[0]? = some u0 := ⟨_, List.getElem?_eq_getElem (by rw [hf]; exact h0)⟩
  obtain ⟨p, rfl, _⟩ := h.get _ _ (flat_get hf l i x hx 0 u0 hu0)
  refine ⟨p, rfl, fun j u hj => ?_⟩
  obtain ⟨p', e, hc⟩ := h.get _ _ (flat_get hf l i x hx j u hj)
  injection e with e; subst e
  rw [add_add]; exact hc
theorem len_sum {α : Type} (m : α → Nat) (hm : ∀ x, 1 ≤ m x) : ∀ l : List α, l.length ≤ (l.map m).sum
  | [] => by simp
  | a :: l => by have := len_sum m hm l; have := hm a; simp; omega
theorem mem_sum {α : Type} (m : α → Nat) : ∀ (l : List α) (x : α), x ∈ l → m x ≤ (l.map m).sum
  | a :: l, x, h => by
    rcases List.mem_cons.1 h with rfl | h
    · simp
    · have := mem_sum m l x h; simp; omega
def iF (x : Int) : List Value := [.int .i64 x]
def iM (x : Int) : Nat := 1
def iOK (x : Int) : Prop := -9223372036854775808 ≤ x ∧ x ≤ 9223372036854775807
def sF (x : ByteArray) : List Value := [.string x]
def sM (x : ByteArray) : Nat := x.size + 1
def sOK (x : ByteArray) : Prop := x.size ≤ maxLen
theorem iF_map (l : List Int) : l.flatMap iF = l.map (fun x => Value.int .i64 x) := by
  induction l with
  | nil => rfl
  | cons a l ih => simp [iF] at ih ⊢; exact ih
theorem sF_map (l : List ByteArray) : l.flatMap sF = l.map (fun x => Value.string x) := by
  induction l with
  | nil => rfl
  | cons a l ih => simp [sF] at ih ⊢; exact ih
instance : Inhabited ByteArray := ⟨⟨#[]⟩⟩
theorem wf_range {x : Int} (w : (Lit.int .i64 x).wf = true) : -9223372036854775808 ≤ x ∧ x ≤ 9223372036854775807 := by
  have hmin : IntKind.i64.min = -9223372036854775808 := rfl
  have hmax : IntKind.i64.max = 9223372036854775807 := rfl
  simp only [Lit.wf, Bool.and_eq_true, decide_eq_true_eq] at w; omega
theorem wt_le {H α : Type} (m : α → Nat) : ∀ (es : List (DataW H)) (g : Nat → α), (∀ i e, es[i]? = some e → m (g i) ≤ Rows.uptoBulk e) → ((((List.range es.length).map g).map m).sum ≤ Rows.uptoBulkAll es)
  | [], g, _ => by simp [Rows.uptoBulkAll]
  | e :: r, g, h => by
    have h0 := h 0 e rfl
    have ih := wt_le m r (fun i => g (i + 1)) (fun i e' he => h (i + 1) e' (by simpa using he))
    have hs : (((List.range (e :: r).length).map g).map m).sum = m (g 0) + (((List.range r.length).map (fun i => g (i + 1))).map m).sum := by
      simp only [List.length_cons, List.range_succ_eq_map, List.map_cons, List.map_map, List.sum_cons]
      rfl
    rw [hs]
    simp only [Rows.uptoBulkAll]
    omega
theorem get_flat {α : Type} {f : α → List Value} {sz : Nat} (hf : ∀ x, (f x).length = sz) (P : Nat → Value → Prop) : ∀ (l : List α) (off : Nat), (∀ i x, l[i]? = some x → ∀ j u, (f x)[j]? = some u → P (off + i * sz + j) u) → ∀ j u, (l.flatMap f)[j]? = some u → P (off + j) u
  | [], off, _, j, u, hj => by simp at hj
  | a :: l, off, h, j, u, hj => by
    rw [List.flatMap_cons, List.getElem?_append] at hj
    split at hj
    · have := h 0 a rfl j u hj
      simpa using this
    · rename_i hn
      rw [hf] at hn hj
      have := get_flat hf P l (off + sz) (fun i x hi j' u' hj' => by
        have := h (i + 1) x (by simpa using hi) j' u' hj'
        have e : off + (i + 1) * sz + j' = off + sz + i * sz + j' := by rw [Nat.succ_mul]; omega
        rwa [e] at this) (j - sz) u hj
      have e : off + sz + (j - sz) = off + j := by omega
      rwa [e] at this

theorem sum_const {α : Type} {f : α → List Value} {sz : Nat} (hf : ∀ x, (f x).length = sz) : ∀ l : List α, (l.map fun a => (f a).length).sum = l.length * sz
  | [] => by simp
  | a :: l => by rw [List.map_cons, List.sum_cons, sum_const hf l, hf, List.length_cons, Nat.succ_mul, Nat.add_comm]

section
variable {H : Type} {enc : TypeId × Value → H} {W : World} {held : Bool} {base fuel : Nat}

theorem opened_row {α : Type} [Inhabited α] (f : α → List Value) (sz : Nat) (m : α → Nat) (ok : α → Prop) (hf : ∀ x, (f x).length = sz) {t e : TypeId} (ht : Tryz.prog.underlying t = some (.slice e)) (hc : Tryz.prog.cellsOf e = sz)
    (one : ∀ (n : Nat) (cs : List Value) (y : DataW H × List MemPlace), DataW.trod enc Tryz.prog W base (fun _ => true) held n e cs = some y → ∃ x : α, cs = f x ∧ m x ≤ Rows.uptoBulk y.1 ∧ ok x)
    {len cap : Nat} {a : Option Addr} {d : DataW H} {p : List MemPlace}
    (h : DataW.trod enc Tryz.prog W base (fun _ => true) held fuel t [Value.slice a len cap] = some (d, p)) :
    ∃ l : List α, Rd W sz a len cap (l.flatMap f) ∧ (l.map m).sum + len ≤ Rows.uptoBulk d + len ∧ l.length = len ∧ ∀ x ∈ l, ok x := by
  rcases DataW.trod_slice ht h with ⟨hcs, _⟩ | ⟨x, l, c, elems, rest, n, _, hcs, hd, _, hl, hm, hlen, hel, hsp, _⟩
  · simp at hcs
    obtain ⟨rfl, rfl, rfl⟩ := hcs
    exact ⟨[], by simpa using Rd.nil W sz, by simp, rfl, fun x hx => by cases hx⟩
  · simp at hcs
    obtain ⟨rfl, rfl, rfl⟩ := hcs
    injection hd with h1 h2
    subst h1
    rw [hc] at hel
    have hsk : ∀ i, ∃ z : α, ∀ y, elems[i]? = some y → (∀ j u, (f z)[j]? = some u → W.cell? ((x.add (i * sz)).add j) = some u) ∧ m z ≤ Rows.uptoBulk y.1 ∧ ok z := by
      intro i
      cases hy : elems[i]? with
      | none => exact ⟨default, fun y h => by cases h⟩
      | some y =>
        have hi : i < len := by have := (List.getElem?_eq_some_iff.1 hy).1; omega
        have hb := hel i hi
        rw [hy, Option.bind_eq_some_iff] at hb
        obtain ⟨cs, hcs, htr⟩ := hb
        obtain ⟨_, hn, hcell⟩ := World.cells?_some hcs
        obtain ⟨z, rfl, h2, h3⟩ := one n cs y htr
        refine ⟨z, fun y' h => ?_⟩
        cases h
        refine ⟨fun j u hj => ?_, h2, h3⟩
        rw [hcell j (by have := (List.getElem?_eq_some_iff.1 hj).1; omega)]
        exact hj
    obtain ⟨g, hg⟩ := Classical.skolem.1 hsk
    have hget : ∀ i z, ((List.range elems.length).map g)[i]? = some z → ∃ y, elems[i]? = some y ∧ z = g i := by
      intro i z hz
      rw [List.getElem?_map, Option.map_eq_some_iff] at hz
      obtain ⟨k, hk, rfl⟩ := hz
      have hi : i < elems.length := by have := (List.getElem?_eq_some_iff.1 hk).1; simpa using this
      rw [List.getElem?_range hi] at hk
      injection hk with hk
      subst hk
      exact ⟨elems[i], List.getElem?_eq_getElem hi, rfl⟩
    have hlen' : ((List.range elems.length).map g).length = len := by simp [hlen]
    refine ⟨(List.range elems.length).map g, ⟨?_, hl, hm, fun j u hj => ?_⟩, ?_, hlen', fun z hz => ?_⟩
    · rw [List.length_flatMap, ← hlen']
      generalize (List.range elems.length).map g = L
      exact sum_const hf L
    · refine ⟨x, rfl, ?_⟩
      have := get_flat hf (fun k v => W.cell? (x.add k) = some v) _ 0 (fun i z hz j' u' hj' => by
        obtain ⟨y, hy, rfl⟩ := hget i z hz
        have := (hg i y hy).1 j' u' hj'
        rw [Addr.add_add] at this
        simpa using this) j u hj
      simpa using this
    · have hw := wt_le m (elems.map (·.1)) g (fun i e he => by
        rw [List.getElem?_map, Option.map_eq_some_iff] at he
        obtain ⟨y, hy, rfl⟩ := he
        exact (hg i y hy).2.1)
      rw [List.length_map] at hw
      simp only [Rows.uptoBulk]
      omega
    · obtain ⟨i, hi⟩ := List.getElem?_of_mem hz
      obtain ⟨y, hy, rfl⟩ := hget i z hi
      exact (hg i y hy).2.2

theorem bulk_s (s : ByteArray) : Rows.uptoBulk (H := H) (.lit (.string s.data.toList)) = s.size + 1 := by
  simp only [Rows.uptoBulk]
  rw [Array.length_toList]; rfl
theorem one_s (n : Nat) (cs : List Value) (y : DataW H × List MemPlace) (h : DataW.trod enc Tryz.prog W base (fun _ => true) held n 9 cs = some y) : ∃ x : ByteArray, cs = [.string x] ∧ x.size + 1 ≤ Rows.uptoBulk y.1 ∧ x.size ≤ maxLen := by
  obtain ⟨s, rfl, rfl, hs⟩ := DataW.trod_string Tryz.underlying9 h
  exact ⟨s, rfl, Nat.le_of_eq (bulk_s s).symm, hs⟩
theorem one_i (n : Nat) (cs : List Value) (y : DataW H × List MemPlace) (h : DataW.trod enc Tryz.prog W base (fun _ => true) held n 3 cs = some y) : ∃ x : Int, cs = iF x ∧ iM x ≤ Rows.uptoBulk y.1 ∧ iOK x := by
  obtain ⟨z, rfl, e, w⟩ := DataW.trod_int Tryz.underlying3 h
  exact ⟨z, rfl, LawU.bulk_pos _, wf_range w⟩
theorem one_s' (n : Nat) (cs : List Value) (y : DataW H × List MemPlace) (h : DataW.trod enc Tryz.prog W base (fun _ => true) held n 9 cs = some y) : ∃ x : ByteArray, cs = sF x ∧ sM x ≤ Rows.uptoBulk y.1 ∧ sOK x := one_s n cs y h
end
end Go.Proofs.YtjofbagaobdmoaaGreat.LawR
