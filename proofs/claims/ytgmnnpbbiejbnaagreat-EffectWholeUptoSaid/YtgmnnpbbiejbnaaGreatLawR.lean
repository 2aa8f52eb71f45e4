/-
  The bulk of a slice's reading is more than its length. Conditions: none.
  What a law's frame wants of an argument that is a row of flat elements: it reads as a list, its sizes within the reading's bulk. Conditions: as stated.
  What a law's frame wants of an argument that is a value: it reads as one, its sizes within the reading's bulk. Conditions: as stated.
  What a law's frame wants of an argument that is a row of a space's calls: it reads as a list, its values as such, its sizes within the reading's bulk. Conditions: as stated.
  What a law's frame wants of an argument that is a row of effects: it reads as a list, its values as such, its sizes within the reading's bulk. Conditions: as stated.
-/
import Derived.Test.YtgmnnpbbiejbnaaGreatRows
import Derived.Test.YtgmnnpbbiejbnaaGreatMgA
import Derived.ChangeArms
import Derived.DataReads
import Derived.ChangeOld
import Derived.Test.YtgmnnpbbiejbnaaGreatVaI
import Derived.Test.YtgmnnpbbiejbnaaGreatSqA
import Derived.Test.YtgmnnpbbiejbnaaGreatSqD
set_option linter.unusedVariables false
namespace Go.Proofs.YtgmnnpbbiejbnaaGreat.LawU
theorem bulk_pos {H : Type} : ∀ d : DataW H, 1 ≤ Rows.uptoBulk d
  | .lit l => by cases l <;> simp [Rows.uptoBulk]
  | .nil => by simp [Rows.uptoBulk]
  | .ptr d => by simp [Rows.uptoBulk]
  | .slice a b => by simp [Rows.uptoBulk]
  | .agg a => by simp [Rows.uptoBulk]
  | .iface a d => by simp [Rows.uptoBulk]
  | .map a => by simp [Rows.uptoBulk]
  | .held a => by simp [Rows.uptoBulk]
theorem bulk_len {H : Type} : ∀ l : List (DataW H), l.length ≤ Rows.uptoBulkAll l
  | [] => by simp [Rows.uptoBulkAll]
  | d :: r => by
    have h1 := bulk_pos d
    have h2 := bulk_len r
    simp only [Rows.uptoBulkAll, List.length_cons]
    omega
theorem bulk_slice {H : Type} (a b : List (DataW H)) : a.length + b.length ≤ Rows.uptoBulk (.slice a b) := by
  have h1 := bulk_len a
  have h2 := bulk_len b
  simp only [Rows.uptoBulk]
  omega
end Go.Proofs.YtgmnnpbbiejbnaaGreat.LawU
set_option maxRecDepth 100000
set_option linter.unusedSimpArgs false
set_option linter.unusedVariables false
namespace Go.Proofs.YtgmnnpbbiejbnaaGreat.LawR
open Go.RowKit Go.ChangeShapes Go.Proofs.YtgmnnpbbiejbnaaGreat.Mem

theorem flat_get {α : Type} {f : α → List Value} {sz : Nat} (hf : ∀ x, (f x).length = sz) : ∀ (l : List α) (i : Nat) (x : α), l[i]? = some x → ∀ j u, (f x)[j]? = some u → (l.flatMap f)[i * sz + j]? = some u
  | [], i, x, h, j, u, _ => by simp at h
  | a :: l, 0, x, h, j, u, hj => by
    simp at h; subst h
    rw [List.flatMap_cons, Nat.zero_mul, Nat.zero_add, List.getElem?_append_left (List.getElem?_eq_some_iff.1 hj).1]
    exact hj
  | a :: l, i + 1, x, h, j, u, hj => by
    have ih := flat_get hf l i x (by simpa using h) j u hj
    rw [List.flatMap_cons, List.getElem?_append_right (by rw [hf, Nat.succ_mul]; omega), hf]
    rw [show (i + 1) * sz + j - sz = i * sz + j by rw [Nat.succ_mul]; omega]
    exact ih
/-- An element's cells. -/
theorem rd_at {α : Type} {f : α → List Value} {sz : Nat} (hf : ∀ x, (f x).length = sz) {W : World} {A : Option Addr} {n c : Nat} {l : List α} (h : Rd W sz A n c (l.flatMap f)) {i : Nat} {x : α} (hx : l[i]? = some x) (h0 : 0 < sz) :
    ∃ p, A = some p ∧ ∀ j u, (f x)[j]? = some u → W.cell? ((p.add (i * sz)).add j) = some u := by
  obtain ⟨u0, hu0⟩ : ∃ u0, (f x)[0]? = some u0 := ⟨_, List.getElem?_eq_getElem (by rw [hf]; exact h0)⟩
  obtain ⟨p, rfl, _⟩ := h.get _ _ (flat_get hf l i x hx 0 u0 hu0)
  refine ⟨p, rfl, fun j u hj => ?_⟩
  obtain ⟨p', e, hc⟩ := h.get _ _ (flat_get hf l i x hx j u hj)
  injection e with e; subst e
  rw [add_add]; exact hc
theorem len_sum {α : Type} (m : α → Nat) (hm : ∀ x, 1 ≤ m x) : ∀ l : List α, l.length ≤ (l.map m).sum
  | [] => by simp
  | a :: l => by have := len_sum m hm l; have := hm a; simp; omega
theorem mem_sum {α : Type} (m : α → Nat) : ∀ (l : List α) (x : α), x ∈ l → m x ≤ (l.map m).sum
  | a :: l, x, h => by
    rcases List.mem_cons.1 h with rfl | h
    · simp
    · have := mem_sum m l x h; simp; omega
def iF (x : Int) : List Value := [.int .i64 x]
def iM (x : Int) : Nat := 1
def iOK (x : Int) : Prop := -9223372036854775808 ≤ x ∧ x ≤ 9223372036854775807
def sF (x : ByteArray) : List Value := [.string x]
def sM (x : ByteArray) : Nat := x.size + 1
def sOK (x : ByteArray) : Prop := x.size ≤ maxLen
theorem iF_map (l : List Int) : l.flatMap iF = l.map (fun x => Value.int .i64 x) := by
  induction l with
  | nil => rfl
  | cons a l ih => simp [iF] at ih ⊢; exact ih
theorem sF_map (l : List ByteArray) : l.flatMap sF = l.map (fun x => Value.string x) := by
  induction l with
  | nil => rfl
  | cons a l ih => simp [sF] at ih ⊢; exact ih
instance : Inhabited ByteArray := ⟨⟨#[]⟩⟩
theorem wf_range {x : Int} (w : (Lit.int .i64 x).wf = true) : -9223372036854775808 ≤ x ∧ x ≤ 9223372036854775807 := by
  have hmin : IntKind.i64.min = -9223372036854775808 := rfl
  have hmax : IntKind.i64.max = 9223372036854775807 := rfl
  simp only [Lit.wf, Bool.and_eq_true, decide_eq_true_eq] at w; omega
theorem wt_le {H α : Type} (m : α → Nat) : ∀ (es : List (DataW H)) (g : Nat → α), (∀ i e, es[i]? = some e → m (g i) ≤ Rows.uptoBulk e) → ((((List.range es.length).map g).map m).sum ≤ Rows.uptoBulkAll es)
  | [], g, _ => by simp [Rows.uptoBulkAll]
  | e :: r, g, h => by
    have h0 := h 0 e rfl
    have ih := wt_le m r (fun i => g (i + 1)) (fun i e' he => h (i + 1) e' (by simpa using he))
    have hs : (((List.range (e :: r).length).map g).map m).sum = m (g 0) + (((List.range r.length).map (fun i => g (i + 1))).map m).sum := by
      simp only [List.length_cons, List.range_succ_eq_map, List.map_cons, List.map_map, List.sum_cons]
      rfl
    rw [hs]
    simp only [Rows.uptoBulkAll]
    omega
theorem get_flat {α : Type} {f : α → List Value} {sz : Nat} (hf : ∀ x, (f x).length = sz) (P : Nat → Value → Prop) : ∀ (l : List α) (off : Nat), (∀ i x, l[i]? = some x → ∀ j u, (f x)[j]? = some u → P (off + i * sz + j) u) → ∀ j u, (l.flatMap f)[j]? = some u → P (off + j) u
  | [], off, _, j, u, hj => by simp at hj
  | a :: l, off, h, j, u, hj => by
    rw [List.flatMap_cons, List.getElem?_append] at hj
    split at hj
    · have := h 0 a rfl j u hj
      simpa using this
    · rename_i hn
      rw [hf] at hn hj
      have := get_flat hf P l (off + sz) (fun i x hi j' u' hj' => by
        have := h (i + 1) x (by simpa using hi) j' u' hj'
        have e : off + (i + 1) * sz + j' = off + sz + i * sz + j' := by rw [Nat.succ_mul]; omega
        rwa [e] at this) (j - sz) u hj
      have e : off + sz + (j - sz) = off + j := by omega
      rwa [e] at this

theorem sum_const {α : Type} {f : α → List Value} {sz : Nat} (hf : ∀ x, (f x).length = sz) : ∀ l : List α, (l.map fun a => (f a).length).sum = l.length * sz
  | [] => by simp
  | a :: l => by rw [List.map_cons, List.sum_cons, sum_const hf l, hf, List.length_cons, Nat.succ_mul, Nat.add_comm]

section
variable {H : Type} {enc : TypeId × Value → H} {W : World} {held : Bool} {base fuel : Nat}

theorem opened_row {α : Type} [Inhabited α] (f : α → List Value) (sz : Nat) (m : α → Nat) (ok : α → Prop) (hf : ∀ x, (f x).length = sz) {t e : TypeId} (ht : Tryz.prog.underlying t = some (.slice e)) (hc : Tryz.prog.cellsOf e = sz)
    (one : ∀ (n : Nat) (cs : List Value) (y : DataW H × List MemPlace), DataW.trod enc Tryz.prog W base (fun _ => true) held n e cs = some y → ∃ x : α, cs = f x ∧ m x ≤ Rows.uptoBulk y.1 ∧ ok x)
    {len cap : Nat} {a : Option Addr} {d : DataW H} {p : List MemPlace}
    (h : DataW.trod enc Tryz.prog W base (fun _ => true) held fuel t [Value.slice a len cap] = some (d, p)) :
    ∃ l : List α, Rd W sz a len cap (l.flatMap f) ∧ (l.map m).sum + len ≤ Rows.uptoBulk d + len ∧ l.length = len ∧ ∀ x ∈ l, ok x := by
  rcases DataW.trod_slice ht h with ⟨hcs, _⟩ | ⟨x, l, c, elems, rest, n, _, hcs, hd, _, hl, hm, hlen, hel, hsp, _⟩
  · simp at hcs
    obtain ⟨rfl, rfl, rfl⟩ := hcs
    exact ⟨[], by simpa using Rd.nil W sz, by simp, rfl, fun x hx => by cases hx⟩
  · simp at hcs
    obtain ⟨rfl, rfl, rfl⟩ := hcs
    injection hd with h1 h2
    subst h1
    rw [hc] at hel
    have hsk : ∀ i, ∃ z : α, ∀ y, elems[i]? = some y → (∀ j u, (f z)[j]? = some u → W.cell? ((x.add (i * sz)).add j) = some u) ∧ m z ≤ Rows.uptoBulk y.1 ∧ ok z := by
      intro i
      cases hy : elems[i]? with
      | none => exact ⟨default, fun y h => by cases h⟩
      | some y =>
        have hi : i < len := by have := (List.getElem?_eq_some_iff.1 hy).1; omega
        have hb := hel i hi
        rw [hy, Option.bind_eq_some_iff] at hb
        obtain ⟨cs, hcs, htr⟩ := hb
        obtain ⟨_, hn, hcell⟩ := World.cells?_some hcs
        obtain ⟨z, rfl, h2, h3⟩ := one n cs y htr
        refine ⟨z, fun y' h => ?_⟩
        cases h
        refine ⟨fun j u hj => ?_, h2, h3⟩
        rw [hcell j (by have := (List.getElem?_eq_some_iff.1 hj).1; omega)]
        exact hj
    obtain ⟨g, hg⟩ := Classical.skolem.1 hsk
    have hget : ∀ i z, ((List.range elems.length).map g)[i]? = some z → ∃ y, elems[i]? = some y ∧ z = g i := by
      intro i z hz
      rw [List.getElem?_map, Option.map_eq_some_iff] at hz
      obtain ⟨k, hk, rfl⟩ := hz
      have hi : i < elems.length := by have := (List.getElem?_eq_some_iff.1 hk).1; simpa using this
      rw [List.getElem?_range hi] at hk
      injection hk with hk
      subst hk
      exact ⟨elems[i], List.getElem?_eq_getElem hi, rfl⟩
    have hlen' : ((List.range elems.length).map g).length = len := by simp [hlen]
    refine ⟨(List.range elems.length).map g, ⟨?_, hl, hm, fun j u hj => ?_⟩, ?_, hlen', fun z hz => ?_⟩
    · rw [List.length_flatMap, ← hlen']
      generalize (List.range elems.length).map g = L
      exact sum_const hf L
    · refine ⟨x, rfl, ?_⟩
      have := get_flat hf (fun k v => W.cell? (x.add k) = some v) _ 0 (fun i z hz j' u' hj' => by
        obtain ⟨y, hy, rfl⟩ := hget i z hz
        have := (hg i y hy).1 j' u' hj'
        rw [Addr.add_add] at this
        simpa using this) j u hj
      simpa using this
    · have hw := wt_le m (elems.map (·.1)) g (fun i e he => by
        rw [List.getElem?_map, Option.map_eq_some_iff] at he
        obtain ⟨y, hy, rfl⟩ := he
        exact (hg i y hy).2.1)
      rw [List.length_map] at hw
      simp only [Rows.uptoBulk]
      omega
    · obtain ⟨i, hi⟩ := List.getElem?_of_mem hz
      obtain ⟨y, hy, rfl⟩ := hget i z hi
      exact (hg i y hy).2.2

theorem bulk_s (s : ByteArray) : Rows.uptoBulk (H := H) (.lit (.string s.data.toList)) = s.size + 1 := by
  simp only [Rows.uptoBulk]
  rw [Array.length_toList]; rfl
theorem one_s (n : Nat) (cs : List Value) (y : DataW H × List MemPlace) (h : DataW.trod enc Tryz.prog W base (fun _ => true) held n 9 cs = some y) : ∃ x : ByteArray, cs = [.string x] ∧ x.size + 1 ≤ Rows.uptoBulk y.1 ∧ x.size ≤ maxLen := by
  obtain ⟨s, rfl, rfl, hs⟩ := DataW.trod_string Tryz.underlying9 h
  exact ⟨s, rfl, Nat.le_of_eq (bulk_s s).symm, hs⟩
theorem one_i (n : Nat) (cs : List Value) (y : DataW H × List MemPlace) (h : DataW.trod enc Tryz.prog W base (fun _ => true) held n 3 cs = some y) : ∃ x : Int, cs = iF x ∧ iM x ≤ Rows.uptoBulk y.1 ∧ iOK x := by
  obtain ⟨z, rfl, e, w⟩ := DataW.trod_int Tryz.underlying3 h
  exact ⟨z, rfl, LawU.bulk_pos _, wf_range w⟩
theorem one_s' (n : Nat) (cs : List Value) (y : DataW H × List MemPlace) (h : DataW.trod enc Tryz.prog W base (fun _ => true) held n 9 cs = some y) : ∃ x : ByteArray, cs = sF x ∧ sM x ≤ Rows.uptoBulk y.1 ∧ sOK x := one_s n cs y h
end
end Go.Proofs.YtgmnnpbbiejbnaaGreat.LawR
set_option maxRecDepth 100000
set_option linter.unusedSimpArgs false
set_option linter.unusedVariables false
namespace Go.Proofs.YtgmnnpbbiejbnaaGreat.LawV
open Go.RowKit Go.ChangeShapes Go.Proofs.YtgmnnpbbiejbnaaGreat.Mem Go.Proofs.YtgmnnpbbiejbnaaGreat.VaC Go.Proofs.YtgmnnpbbiejbnaaGreat.VaH Go.Proofs.YtgmnnpbbiejbnaaGreat.VaI

theorem wf_range {x : Int} (w : (Lit.int .i64 x).wf = true) : -9223372036854775808 ≤ x ∧ x ≤ 9223372036854775807 := by
  have hmin : IntKind.i64.min = -9223372036854775808 := rfl
  have hmax : IntKind.i64.max = 9223372036854775807 := rfl
  simp only [Lit.wf, Bool.and_eq_true, decide_eq_true_eq] at w; omega
theorem wt_le {H α : Type} (m : α → Nat) : ∀ (es : List (DataW H)) (g : Nat → α), (∀ i e, es[i]? = some e → m (g i) ≤ Rows.uptoBulk e) → ((((List.range es.length).map g).map m).sum ≤ Rows.uptoBulkAll es)
  | [], g, _ => by simp [Rows.uptoBulkAll]
  | e :: r, g, h => by
    have h0 := h 0 e rfl
    have ih := wt_le m r (fun i => g (i + 1)) (fun i e' he => h (i + 1) e' (by simpa using he))
    have hs : (((List.range (e :: r).length).map g).map m).sum = m (g 0) + (((List.range r.length).map (fun i => g (i + 1))).map m).sum := by
      simp only [List.length_cons, List.range_succ_eq_map, List.map_cons, List.map_map, List.sum_cons]
      rfl
    rw [hs]
    simp only [Rows.uptoBulkAll]
    omega
theorem get_flat {α : Type} {f : α → List Value} {sz : Nat} (hf : ∀ x, (f x).length = sz) (P : Nat → Value → Prop) : ∀ (l : List α) (off : Nat), (∀ i x, l[i]? = some x → ∀ j u, (f x)[j]? = some u → P (off + i * sz + j) u) → ∀ j u, (l.flatMap f)[j]? = some u → P (off + j) u
  | [], off, _, j, u, hj => by simp at hj
  | a :: l, off, h, j, u, hj => by
    rw [List.flatMap_cons, List.getElem?_append] at hj
    split at hj
    · have := h 0 a rfl j u hj
      simpa using this
    · rename_i hn
      rw [hf] at hn hj
      have := get_flat hf P l (off + sz) (fun i x hi j' u' hj' => by
        have := h (i + 1) x (by simpa using hi) j' u' hj'
        have e : off + (i + 1) * sz + j' = off + sz + i * sz + j' := by rw [Nat.succ_mul]; omega
        rwa [e] at this) (j - sz) u hj
      have e : off + sz + (j - sz) = off + j := by omega
      rwa [e] at this

theorem sum_const {α : Type} {f : α → List Value} {sz : Nat} (hf : ∀ x, (f x).length = sz) : ∀ l : List α, (l.map fun a => (f a).length).sum = l.length * sz
  | [] => by simp
  | a :: l => by rw [List.map_cons, List.sum_cons, sum_const hf l, hf, List.length_cons, Nat.succ_mul, Nat.add_comm]

section
variable {H : Type} {enc : TypeId × Value → H} {W : World} {held : Bool} {base fuel : Nat}

theorem opened_row {α : Type} [Inhabited α] (f : α → List Value) (sz : Nat) (m : α → Nat) (ok : α → Prop) (hf : ∀ x, (f x).length = sz) {t e : TypeId} (ht : Tryz.prog.underlying t = some (.slice e)) (hc : Tryz.prog.cellsOf e = sz)
    (one : ∀ (n : Nat) (cs : List Value) (y : DataW H × List MemPlace), DataW.trod enc Tryz.prog W base (fun _ => true) held n e cs = some y → ∃ x : α, cs = f x ∧ m x ≤ Rows.uptoBulk y.1 ∧ ok x)
    {len cap : Nat} {a : Option Addr} {d : DataW H} {p : List MemPlace}
    (h : DataW.trod enc Tryz.prog W base (fun _ => true) held fuel t [Value.slice a len cap] = some (d, p)) :
    ∃ l : List α, Rd W sz a len cap (l.flatMap f) ∧ (l.map m).sum + len ≤ Rows.uptoBulk d + len ∧ l.length = len ∧ ∀ x ∈ l, ok x := by
  rcases DataW.trod_slice ht h with ⟨hcs, _⟩ | ⟨x, l, c, elems, rest, n, _, hcs, hd, _, hl, hm, hlen, hel, hsp, _⟩
  · simp at hcs
    obtain ⟨rfl, rfl, rfl⟩ := hcs
    exact ⟨[], by simpa using Rd.nil W sz, by simp, rfl, fun x hx => by cases hx⟩
  · simp at hcs
    obtain ⟨rfl, rfl, rfl⟩ := hcs
    injection hd with h1 h2
    subst h1
    rw [hc] at hel
    have hsk : ∀ i, ∃ z : α, ∀ y, elems[i]? = some y → (∀ j u, (f z)[j]? = some u → W.cell? ((x.add (i * sz)).add j) = some u) ∧ m z ≤ Rows.uptoBulk y.1 ∧ ok z := by
      intro i
      cases hy : elems[i]? with
      | none => exact ⟨default, fun y h => by cases h⟩
      | some y =>
        have hi : i < len := by have := (List.getElem?_eq_some_iff.1 hy).1; omega
        have hb := hel i hi
        rw [hy, Option.bind_eq_some_iff] at hb
        obtain ⟨cs, hcs, htr⟩ := hb
        obtain ⟨_, hn, hcell⟩ := World.cells?_some hcs
        obtain ⟨z, rfl, h2, h3⟩ := one n cs y htr
        refine ⟨z, fun y' h => ?_⟩
        cases h
        refine ⟨fun j u hj => ?_, h2, h3⟩
        rw [hcell j (by have := (List.getElem?_eq_some_iff.1 hj).1; omega)]
        exact hj
    obtain ⟨g, hg⟩ := Classical.skolem.1 hsk
    have hget : ∀ i z, ((List.range elems.length).map g)[i]? = some z → ∃ y, elems[i]? = some y ∧ z = g i := by
      intro i z hz
      rw [List.getElem?_map, Option.map_eq_some_iff] at hz
      obtain ⟨k, hk, rfl⟩ := hz
      have hi : i < elems.length := by have := (List.getElem?_eq_some_iff.1 hk).1; simpa using this
      rw [List.getElem?_range hi] at hk
      injection hk with hk
      subst hk
      exact ⟨elems[i], List.getElem?_eq_getElem hi, rfl⟩
    have hlen' : ((List.range elems.length).map g).length = len := by simp [hlen]
    refine ⟨(List.range elems.length).map g, ⟨?_, hl, hm, fun j u hj => ?_⟩, ?_, hlen', fun z hz => ?_⟩
    · rw [List.length_flatMap, ← hlen']
      generalize (List.range elems.length).map g = L
      exact sum_const hf L
    · refine ⟨x, rfl, ?_⟩
      have := get_flat hf (fun k v => W.cell? (x.add k) = some v) _ 0 (fun i z hz j' u' hj' => by
        obtain ⟨y, hy, rfl⟩ := hget i z hz
        have := (hg i y hy).1 j' u' hj'
        rw [Addr.add_add] at this
        simpa using this) j u hj
      simpa using this
    · have hw := wt_le m (elems.map (·.1)) g (fun i e he => by
        rw [List.getElem?_map, Option.map_eq_some_iff] at he
        obtain ⟨y, hy, rfl⟩ := he
        exact (hg i y hy).2.1)
      rw [List.length_map] at hw
      simp only [Rows.uptoBulk]
      omega
    · obtain ⟨i, hi⟩ := List.getElem?_of_mem hz
      obtain ⟨y, hy, rfl⟩ := hget i z hi
      exact (hg i y hy).2.2

theorem bulk_s (s : ByteArray) : Rows.uptoBulk (H := H) (.lit (.string s.data.toList)) = s.size + 1 := by
  simp only [Rows.uptoBulk]
  rw [Array.length_toList]; rfl
theorem one_s (n : Nat) (cs : List Value) (y : DataW H × List MemPlace) (h : DataW.trod enc Tryz.prog W base (fun _ => true) held n 9 cs = some y) : ∃ x : ByteArray, cs = [.string x] ∧ x.size + 1 ≤ Rows.uptoBulk y.1 ∧ x.size ≤ maxLen := by
  obtain ⟨s, rfl, rfl, hs⟩ := DataW.trod_string Tryz.underlying9 h
  exact ⟨s, rfl, Nat.le_of_eq (bulk_s s).symm, hs⟩
theorem one_f (n : Nat) (cs : List Value) (y : DataW H × List MemPlace) (h : DataW.trod enc Tryz.prog W base (fun _ => true) held n 113 cs = some y) : ∃ x : ByteArray × ByteArray, cs = [.string x.1, .string x.2] ∧ x.1.size + x.2.size + 2 ≤ Rows.uptoBulk y.1 ∧ x.1.size ≤ maxLen := by
  have hc : Tryz.prog.cellsOf 113 = 2 := by kernel_rfl
  have hc9 : Tryz.prog.cellsOf 9 = 1 := by kernel_rfl
  obtain ⟨xs, n, _, rfl, hl, hlen, hf⟩ := DataW.trod_struct Tryz.underlying113 h
  rw [hc] at hl
  match cs, hl, xs, hlen with
  | [c0, c1], _, [y0, y1], _ =>
    have f0 := hf 0 _ rfl
    have f1 := hf 1 _ rfl
    simp [hc9] at f0 f1
    obtain ⟨s0, e0, rfl, w0⟩ := DataW.trod_string Tryz.underlying9 f0
    obtain ⟨s1, e1, rfl, w1⟩ := DataW.trod_string Tryz.underlying9 f1
    simp at e0 e1
    subst e0 e1
    have h0 := bulk_s (H := H) s0
    have h1 := bulk_s (H := H) s1
    refine ⟨(s0, s1), rfl, ?_, w0⟩
    simp only [List.map_cons, List.map_nil]
    rw [Rows.uptoBulk]
    simp only [Rows.uptoBulkAll]
    omega
theorem one_k (n : Nat) (cs : List Value) (y : DataW H × List MemPlace) (h : DataW.trod enc Tryz.prog W base (fun _ => true) held n 115 cs = some y) : ∃ x : ByteArray × Int, cs = [.string x.1, .int .i64 x.2] ∧ x.1.size + 2 ≤ Rows.uptoBulk y.1 ∧ (x.1.size ≤ maxLen ∧ -9223372036854775808 ≤ x.2 ∧ x.2 ≤ 9223372036854775807) := by
  have hc : Tryz.prog.cellsOf 115 = 2 := by kernel_rfl
  have hc9 : Tryz.prog.cellsOf 9 = 1 := by kernel_rfl
  have hc3 : Tryz.prog.cellsOf 3 = 1 := by kernel_rfl
  obtain ⟨xs, n, _, rfl, hl, hlen, hf⟩ := DataW.trod_struct Tryz.underlying115 h
  rw [hc] at hl
  match cs, hl, xs, hlen with
  | [c0, c1], _, [y0, y1], _ =>
    have f0 := hf 0 _ rfl
    have f1 := hf 1 _ rfl
    simp [hc9, hc3] at f0 f1
    obtain ⟨s0, e0, rfl, w0⟩ := DataW.trod_string Tryz.underlying9 f0
    obtain ⟨z1, e1, rfl, w1⟩ := DataW.trod_int Tryz.underlying3 f1
    simp at e0 e1
    subst e0 e1
    have h0 : s0.data.toList.length = s0.size := by rw [Array.length_toList]; rfl
    refine ⟨(s0, z1), rfl, ?_, w0, wf_range w1⟩
    simp only [List.map_cons, List.map_nil]
    rw [Rows.uptoBulk]
    simp only [Rows.uptoBulkAll, Rows.uptoBulk]
    omega
end

theorem sum_S : ∀ l : List ByteArray, (VaC.encS l).length + l.length ≤ 5 * (l.map fun x => x.size + 1).sum
  | [] => by simp [VaC.encS]
  | a :: l => by
    have ih := sum_S l
    simp only [VaC.encS, List.flatMap_cons, List.length_append, List.length_cons, List.map_cons, List.sum_cons, putL_len] at ih ⊢
    omega
theorem sum_F : ∀ l : List (ByteArray × ByteArray), (VaC.encF l).length + l.length ≤ 5 * (l.map fun x => x.1.size + x.2.size + 2).sum
  | [] => by simp [VaC.encF]
  | a :: l => by
    have ih := sum_F l
    simp only [VaC.encF, List.flatMap_cons, List.length_append, List.length_cons, List.map_cons, List.sum_cons, putL_len] at ih ⊢
    omega
theorem sum_K : ∀ l : List (ByteArray × Int), (VaC.encK l).length + l.length ≤ 7 * (l.map fun x => x.1.size + 2).sum
  | [] => by simp [VaC.encK]
  | a :: l => by
    have ih := sum_K l
    simp only [VaC.encK, List.flatMap_cons, List.length_append, List.length_cons, List.map_cons, List.sum_cons, putL_len, VaA.le_len] at ih ⊢
    omega
theorem flat_s (l : List ByteArray) : l.flatMap (fun x => [Value.string x]) = strs l := by
  induction l with
  | nil => rfl
  | cons a l ih => rw [List.flatMap_cons, ih]; rfl

/-- What a law's argument that is a value is. -/
structure Arg (W : World) (x : VV) : Prop where
  rd : RdV W x
  sm : Sm x
  kind : -9223372036854775808 ≤ x.kind ∧ x.kind ≤ 9223372036854775807
  text : x.text.size ≤ 1048576
  rank : ∀ y ∈ x.rank, -9223372036854775808 ≤ y.2 ∧ y.2 ≤ 9223372036854775807

theorem opened {H : Type} {enc : TypeId × Value → H} {W : World} {held : Bool} {base fuel : Nat} {cs : Array Value} {d : DataW H} {p : List MemPlace}
    (h : DataW.trod enc Tryz.prog W base (fun _ => true) held fuel 42 cs.toList = some (d, p)) (hb : Rows.uptoBulk d ≤ 1048576) :
    ∃ x : VV, (.agg cs : Value) = x.val ∧ Arg W x := by
  have hc5 : Tryz.prog.cellsOf 42 = 5 := by kernel_rfl
  have hc3 : Tryz.prog.cellsOf 3 = 1 := by kernel_rfl
  have hc9 : Tryz.prog.cellsOf 9 = 1 := by kernel_rfl
  have hcS : Tryz.prog.cellsOf 38 = 1 := by kernel_rfl
  have hcF : Tryz.prog.cellsOf 39 = 1 := by kernel_rfl
  have hcK : Tryz.prog.cellsOf 40 = 1 := by kernel_rfl
  obtain ⟨xs, n, _, hd, hl, hlen, hf⟩ := DataW.trod_struct Tryz.underlying42 h
  rw [hc5] at hl
  obtain ⟨cs⟩ := cs
  match cs, hl, xs, hlen, hd, hf with
  | [c0, c1, c2, c3, c4], _, [y0, y1, y2, y3, y4], _, hd, hf =>
    injection hd with hd1 hd2
    subst hd1
    have f0 := hf 0 _ rfl
    have f1 := hf 1 _ rfl
    have f2 := hf 2 _ rfl
    have f3 := hf 3 _ rfl
    have f4 := hf 4 _ rfl
    simp [hc3, hc9, hcS, hcF, hcK] at f0 f1 f2 f3 f4
    obtain ⟨z0, e0, rfl, w0⟩ := DataW.trod_int Tryz.underlying3 f0
    obtain ⟨s1, e1, rfl, w1⟩ := DataW.trod_string Tryz.underlying9 f1
    simp at e0 e1
    subst e0 e1
    have hs : ∀ (t e : TypeId) (c : Value) (y : DataW H × List MemPlace), Tryz.prog.underlying t = some (.slice e) → DataW.trod enc Tryz.prog W base (fun _ => true) held n t [c] = some y → ∃ A l k, c = .slice A l k := by
      intro t e c y ht h
      rcases DataW.trod_slice ht h with ⟨hc, _⟩ | ⟨a, len, cap, _, _, _, _, hc, _⟩
      · simp at hc; exact ⟨none, 0, 0, hc⟩
      · simp at hc; exact ⟨some a, len, cap, hc⟩
    obtain ⟨A2, l2, k2, rfl⟩ := hs _ _ _ _ Tryz.underlying38 f2
    obtain ⟨A3, l3, k3, rfl⟩ := hs _ _ _ _ Tryz.underlying39 f3
    obtain ⟨A4, l4, k4, rfl⟩ := hs _ _ _ _ Tryz.underlying40 f4
    obtain ⟨L, rL, bL, nL, -⟩ := opened_row (fun x : ByteArray => [Value.string x]) 1 (fun x => x.size + 1) (fun x => x.size ≤ maxLen) (fun _ => rfl) Tryz.underlying38 hc9 one_s (d := y2.1) (p := y2.2) f2
    obtain ⟨F, rF, bF, nF, -⟩ := opened_row (fun x : ByteArray × ByteArray => [Value.string x.1, Value.string x.2]) 2 (fun x => x.1.size + x.2.size + 2) (fun x => x.1.size ≤ maxLen) (fun _ => rfl) Tryz.underlying39 (by kernel_rfl) one_f (d := y3.1) (p := y3.2) f3
    obtain ⟨K, rK, bK, nK, oK⟩ := opened_row (fun x : ByteArray × Int => [Value.string x.1, Value.int .i64 x.2]) 2 (fun x => x.1.size + 2) (fun x => x.1.size ≤ maxLen ∧ -9223372036854775808 ≤ x.2 ∧ x.2 ≤ 9223372036854775807) (fun _ => rfl) Tryz.underlying40 (by kernel_rfl) one_k (d := y4.1) (p := y4.2) f4
    rw [flat_s] at rL
    have h1 := bulk_s (H := H) s1
    simp only [List.map_cons, List.map_nil] at hb
    rw [Rows.uptoBulk] at hb
    simp only [Rows.uptoBulkAll] at hb
    have hS := sum_S L
    have hF := sum_F F
    have hK := sum_K K
    refine ⟨⟨z0, s1, A2, l2, k2, L, A3, l3, k3, F, A4, l4, k4, K⟩, rfl, ⟨rL, rF, rK⟩, ⟨?_, ?_, ?_, ?_, ?_, ?_, ?_, fun y hy => (oK y hy).1⟩, wf_range w0, ?_, fun y hy => (oK y hy).2⟩
    all_goals (dsimp only; omega)
end Go.Proofs.YtgmnnpbbiejbnaaGreat.LawV
set_option maxRecDepth 100000
set_option linter.unusedSimpArgs false
set_option linter.unusedVariables false
namespace Go.Proofs.YtgmnnpbbiejbnaaGreat.LawS
open Go.RowKit Go.ChangeShapes Go.Proofs.YtgmnnpbbiejbnaaGreat.Mem Go.Proofs.YtgmnnpbbiejbnaaGreat.VaC Go.Proofs.YtgmnnpbbiejbnaaGreat.VaH Go.Proofs.YtgmnnpbbiejbnaaGreat.VaI Go.Proofs.YtgmnnpbbiejbnaaGreat.LawV Go.Proofs.YtgmnnpbbiejbnaaGreat.SpC Go.Proofs.YtgmnnpbbiejbnaaGreat.SpD

/-- A space's call as it lies. -/
structure OV where
  kind : Int
  key : ByteArray
  x : VV
  due : Int
  EA : Option Addr
  en : Nat
  ec : Nat
def OV.cells (o : OV) : List Value := [.int .i64 o.kind, .string o.key, .int .i64 o.x.kind, .string o.x.text, .slice o.x.LA o.x.ln o.x.lc, .slice o.x.FA o.x.fn o.x.fc, .slice o.x.KA o.x.kn o.x.kc, .int .i64 o.due, .slice o.EA o.en o.ec]
instance : Inhabited OV := ⟨⟨0, ⟨#[]⟩, vv0, 0, none, 0, 0⟩⟩
theorem ov_len (o : OV) : o.cells.length = 9 := rfl
def OV.wt (o : OV) : Nat := o.key.size + 1 + (encV o.x).length / 8
structure OV.ok (W : World) (o : OV) : Prop where
  rd : RdV W o.x
  sm : Sm o.x
  key : o.key.size ≤ 1048576
  kind : -9223372036854775808 ≤ o.kind ∧ o.kind ≤ 9223372036854775807
  due : -9223372036854775808 ≤ o.due ∧ o.due ≤ 9223372036854775807
section
variable {H : Type} {enc : TypeId × Value → H} {W : World} {held : Bool} {base fuel : Nat}
theorem mem_bulk {e : DataW H} : ∀ {es : List (DataW H)}, e ∈ es → Rows.uptoBulk e ≤ Rows.uptoBulkAll es
  | a :: r, h => by
    simp only [Rows.uptoBulkAll]
    rcases List.mem_cons.1 h with rfl | h
    · omega
    · have := mem_bulk h; omega

theorem opened_row2 {α : Type} [Inhabited α] (f : α → List Value) (sz : Nat) (m : α → Nat) (ok : α → Prop) (hf : ∀ x, (f x).length = sz) {t e : TypeId} (ht : Tryz.prog.underlying t = some (.slice e)) (hc : Tryz.prog.cellsOf e = sz)
    (one : ∀ (n : Nat) (cs : List Value) (y : DataW H × List MemPlace), DataW.trod enc Tryz.prog W base (fun _ => true) held n e cs = some y → Rows.uptoBulk y.1 ≤ 1048576 → ∃ x : α, cs = f x ∧ m x ≤ Rows.uptoBulk y.1 ∧ ok x)
    {len cap : Nat} {a : Option Addr} {d : DataW H} {p : List MemPlace}
    (hB : Rows.uptoBulk d ≤ 1048576) (h : DataW.trod enc Tryz.prog W base (fun _ => true) held fuel t [Value.slice a len cap] = some (d, p)) :
    ∃ l : List α, Rd W sz a len cap (l.flatMap f) ∧ (l.map m).sum + len ≤ Rows.uptoBulk d + len ∧ l.length = len ∧ ∀ x ∈ l, ok x := by
  rcases DataW.trod_slice ht h with ⟨hcs, _⟩ | ⟨x, l, c, elems, rest, n, _, hcs, hd, _, hl, hm, hlen, hel, hsp, _⟩
  · simp at hcs
    obtain ⟨rfl, rfl, rfl⟩ := hcs
    exact ⟨[], by simpa using Rd.nil W sz, by simp, rfl, fun x hx => by cases hx⟩
  · simp at hcs
    obtain ⟨rfl, rfl, rfl⟩ := hcs
    injection hd with h1 h2
    subst h1
    rw [hc] at hel
    have hall : ∀ y ∈ elems, Rows.uptoBulk y.1 ≤ 1048576 := fun y hy => Nat.le_trans (mem_bulk (List.mem_map_of_mem (f := (·.1)) hy)) (by simp only [Rows.uptoBulk] at hB; omega)
    have hsk : ∀ i, ∃ z : α, ∀ y, elems[i]? = some y → (∀ j u, (f z)[j]? = some u → W.cell? ((x.add (i * sz)).add j) = some u) ∧ m z ≤ Rows.uptoBulk y.1 ∧ ok z := by
      intro i
      cases hy : elems[i]? with
      | none => exact ⟨default, fun y h => by cases h⟩
      | some y =>
        have hi : i < len := by have := (List.getElem?_eq_some_iff.1 hy).1; omega
        have hb := hel i hi
        rw [hy, Option.bind_eq_some_iff] at hb
        obtain ⟨cs, hcs, htr⟩ := hb
        obtain ⟨_, hn, hcell⟩ := World.cells?_some hcs
        obtain ⟨z, rfl, h2, h3⟩ := one n cs y htr (hall y (List.mem_of_getElem? hy))
        refine ⟨z, fun y' h => ?_⟩
        cases h
        refine ⟨fun j u hj => ?_, h2, h3⟩
        rw [hcell j (by have := (List.getElem?_eq_some_iff.1 hj).1; omega)]
        exact hj
    obtain ⟨g, hg⟩ := Classical.skolem.1 hsk
    have hget : ∀ i z, ((List.range elems.length).map g)[i]? = some z → ∃ y, elems[i]? = some y ∧ z = g i := by
      intro i z hz
      rw [List.getElem?_map, Option.map_eq_some_iff] at hz
      obtain ⟨k, hk, rfl⟩ := hz
      have hi : i < elems.length := by have := (List.getElem?_eq_some_iff.1 hk).1; simpa using this
      rw [List.getElem?_range hi] at hk
      injection hk with hk
      subst hk
      exact ⟨elems[i], List.getElem?_eq_getElem hi, rfl⟩
    have hlen' : ((List.range elems.length).map g).length = len := by simp [hlen]
    refine ⟨(List.range elems.length).map g, ⟨?_, hl, hm, fun j u hj => ?_⟩, ?_, hlen', fun z hz => ?_⟩
    · rw [List.length_flatMap, ← hlen']
      generalize (List.range elems.length).map g = L
      exact sum_const hf L
    · refine ⟨x, rfl, ?_⟩
      have := get_flat hf (fun k v => W.cell? (x.add k) = some v) _ 0 (fun i z hz j' u' hj' => by
        obtain ⟨y, hy, rfl⟩ := hget i z hz
        have := (hg i y hy).1 j' u' hj'
        rw [Addr.add_add] at this
        simpa using this) j u hj
      simpa using this
    · have hw := wt_le m (elems.map (·.1)) g (fun i e he => by
        rw [List.getElem?_map, Option.map_eq_some_iff] at he
        obtain ⟨y, hy, rfl⟩ := he
        exact (hg i y hy).2.1)
      rw [List.length_map] at hw
      simp only [Rows.uptoBulk]
      omega
    · obtain ⟨i, hi⟩ := List.getElem?_of_mem hz
      obtain ⟨y, hy, rfl⟩ := hget i z hi
      exact (hg i y hy).2.2


theorem enc_len (x : VV) : (encV x).length ≤ 5 + x.text.size + (VaC.encS x.list).length + (VaC.encF x.flds).length + (VaC.encK x.rank).length := by
  unfold encV bodyV
  have ht : x.text.data.toList.length = x.text.size := by rw [Array.length_toList]; rfl
  repeat' split
  all_goals (simp only [List.length_cons, List.length_append, VaA.le_len, putL_len, List.length_nil]; omega)

theorem openedV {cs : Array Value} {d : DataW H} {p : List MemPlace}
    (h : DataW.trod enc Tryz.prog W base (fun _ => true) held fuel 42 cs.toList = some (d, p)) (hb : Rows.uptoBulk d ≤ 1048576) :
    ∃ x : VV, cs = x.cells ∧ Arg W x ∧ (encV x).length ≤ 8 * Rows.uptoBulk d := by
  have hc5 : Tryz.prog.cellsOf 42 = 5 := by kernel_rfl
  have hc3 : Tryz.prog.cellsOf 3 = 1 := by kernel_rfl
  have hc9 : Tryz.prog.cellsOf 9 = 1 := by kernel_rfl
  have hcS : Tryz.prog.cellsOf 38 = 1 := by kernel_rfl
  have hcF : Tryz.prog.cellsOf 39 = 1 := by kernel_rfl
  have hcK : Tryz.prog.cellsOf 40 = 1 := by kernel_rfl
  obtain ⟨xs, n, _, hd, hl, hlen, hf⟩ := DataW.trod_struct Tryz.underlying42 h
  rw [hc5] at hl
  obtain ⟨cs⟩ := cs
  match cs, hl, xs, hlen, hd, hf with
  | [c0, c1, c2, c3, c4], _, [y0, y1, y2, y3, y4], _, hd, hf =>
    injection hd with hd1 hd2
    subst hd1
    have f0 := hf 0 _ rfl
    have f1 := hf 1 _ rfl
    have f2 := hf 2 _ rfl
    have f3 := hf 3 _ rfl
    have f4 := hf 4 _ rfl
    simp [hc3, hc9, hcS, hcF, hcK] at f0 f1 f2 f3 f4
    obtain ⟨z0, e0, rfl, w0⟩ := DataW.trod_int Tryz.underlying3 f0
    obtain ⟨s1, e1, rfl, w1⟩ := DataW.trod_string Tryz.underlying9 f1
    simp at e0 e1
    subst e0 e1
    have hs : ∀ (t e : TypeId) (c : Value) (y : DataW H × List MemPlace), Tryz.prog.underlying t = some (.slice e) → DataW.trod enc Tryz.prog W base (fun _ => true) held n t [c] = some y → ∃ A l k, c = .slice A l k := by
      intro t e c y ht h
      rcases DataW.trod_slice ht h with ⟨hc, _⟩ | ⟨a, len, cap, _, _, _, _, hc, _⟩
      · simp at hc; exact ⟨none, 0, 0, hc⟩
      · simp at hc; exact ⟨some a, len, cap, hc⟩
    obtain ⟨A2, l2, k2, rfl⟩ := hs _ _ _ _ Tryz.underlying38 f2
    obtain ⟨A3, l3, k3, rfl⟩ := hs _ _ _ _ Tryz.underlying39 f3
    obtain ⟨A4, l4, k4, rfl⟩ := hs _ _ _ _ Tryz.underlying40 f4
    obtain ⟨L, rL, bL, nL, -⟩ := opened_row (fun x : ByteArray => [Value.string x]) 1 (fun x => x.size + 1) (fun x => x.size ≤ maxLen) (fun _ => rfl) Tryz.underlying38 hc9 one_s (d := y2.1) (p := y2.2) f2
    obtain ⟨F, rF, bF, nF, -⟩ := opened_row (fun x : ByteArray × ByteArray => [Value.string x.1, Value.string x.2]) 2 (fun x => x.1.size + x.2.size + 2) (fun x => x.1.size ≤ maxLen) (fun _ => rfl) Tryz.underlying39 (by kernel_rfl) one_f (d := y3.1) (p := y3.2) f3
    obtain ⟨K, rK, bK, nK, oK⟩ := opened_row (fun x : ByteArray × Int => [Value.string x.1, Value.int .i64 x.2]) 2 (fun x => x.1.size + 2) (fun x => x.1.size ≤ maxLen ∧ -9223372036854775808 ≤ x.2 ∧ x.2 ≤ 9223372036854775807) (fun _ => rfl) Tryz.underlying40 (by kernel_rfl) one_k (d := y4.1) (p := y4.2) f4
    rw [flat_s] at rL
    have h1 := bulk_s (H := H) s1
    simp only [List.map_cons, List.map_nil] at hb
    rw [Rows.uptoBulk] at hb
    simp only [Rows.uptoBulkAll] at hb
    have hS := sum_S L
    have hF := sum_F F
    have hK := sum_K K
    refine ⟨⟨z0, s1, A2, l2, k2, L, A3, l3, k3, F, A4, l4, k4, K⟩, rfl, ⟨⟨rL, rF, rK⟩, ⟨?_, ?_, ?_, ?_, ?_, ?_, ?_, fun y hy => (oK y hy).1⟩, wf_range w0, ?_, fun y hy => (oK y hy).2⟩, ?_⟩
    rotate_left 8
    · refine Nat.le_trans (enc_len _) ?_
      dsimp only
      simp only [List.map_cons, List.map_nil]
      rw [Rows.uptoBulk]
      simp only [Rows.uptoBulkAll]
      omega
    all_goals (dsimp only; omega)

end
end Go.Proofs.YtgmnnpbbiejbnaaGreat.LawS
set_option maxRecDepth 100000
set_option linter.unusedSimpArgs false
set_option linter.unusedVariables false
namespace Go.Proofs.YtgmnnpbbiejbnaaGreat.LawS
open Go.RowKit Go.ChangeShapes Go.Proofs.YtgmnnpbbiejbnaaGreat.Mem Go.Proofs.YtgmnnpbbiejbnaaGreat.VaC Go.Proofs.YtgmnnpbbiejbnaaGreat.VaH Go.Proofs.YtgmnnpbbiejbnaaGreat.VaI Go.Proofs.YtgmnnpbbiejbnaaGreat.LawV Go.Proofs.YtgmnnpbbiejbnaaGreat.SpC Go.Proofs.YtgmnnpbbiejbnaaGreat.SpD

instance : Inhabited EV := ⟨⟨0, ⟨#[]⟩, vv0, 0⟩⟩
def wtE (e : EV) : Nat := e.key.size + 1 + (encV e.x).length / 8
structure okE (W : World) (e : EV) : Prop where
  rd : RdV W e.x
  sm : Sm e.x
  key : e.key.size ≤ 1048576
  kind : -9223372036854775808 ≤ e.kind ∧ e.kind ≤ 9223372036854775807
  due : -9223372036854775808 ≤ e.due ∧ e.due ≤ 9223372036854775807
section
variable {H : Type} {enc : TypeId × Value → H} {W : World} {held : Bool} {base fuel : Nat}
theorem one_ev (n : Nat) (cs : List Value) (y : DataW H × List MemPlace) (h : DataW.trod enc Tryz.prog W base (fun _ => true) held n 44 cs = some y) (hB : Rows.uptoBulk y.1 ≤ 1048576) :
    ∃ o : EV, cs = o.cells ∧ wtE o ≤ Rows.uptoBulk y.1 ∧ okE W o := by
  have hc : Tryz.prog.cellsOf 44 = 8 := by kernel_rfl
  have hc3 : Tryz.prog.cellsOf 3 = 1 := by kernel_rfl
  have hc9 : Tryz.prog.cellsOf 9 = 1 := by kernel_rfl
  have hcV : Tryz.prog.cellsOf 42 = 5 := by kernel_rfl
  obtain ⟨xs, n, _, rfl, hl, hlen, hf⟩ := DataW.trod_struct Tryz.underlying44 h
  rw [hc] at hl
  match cs, hl, xs, hlen with
  | [c0, c1, c2, c3, c4, c5, c6, c7], _, [y0, y1, y2, y3], _ =>
    have f0 := hf 0 _ rfl
    have f1 := hf 1 _ rfl
    have f2 := hf 2 _ rfl
    have f3 := hf 3 _ rfl
    simp [hc3, hc9, hcV] at f0 f1 f2 f3
    obtain ⟨z0, e0, rfl, w0⟩ := DataW.trod_int Tryz.underlying3 f0
    obtain ⟨s1, e1, rfl, w1⟩ := DataW.trod_string Tryz.underlying9 f1
    obtain ⟨z3, e3, rfl, w3⟩ := DataW.trod_int Tryz.underlying3 f3
    simp at e0 e1 e3
    subst e0 e1 e3
    simp only [List.map_cons, List.map_nil] at hB ⊢
    rw [Rows.uptoBulk] at hB ⊢
    simp only [Rows.uptoBulkAll] at hB ⊢
    have h1 := bulk_s (H := H) s1
    obtain ⟨x, hx, ha, he⟩ := openedV (cs := #[c2, c3, c4, c5, c6]) (d := y2.1) (p := y2.2) f2 (by omega)
    have hx' : [c2, c3, c4, c5, c6] = [.int .i64 x.kind, .string x.text, .slice x.LA x.ln x.lc, .slice x.FA x.fn x.fc, .slice x.KA x.kn x.kc] := congrArg Array.toList hx
    injection hx' with q2 hx'; injection hx' with q3 hx'; injection hx' with q4 hx'; injection hx' with q5 hx'; injection hx' with q6 hx'
    subst q2 q3 q4 q5 q6
    refine ⟨⟨z0, s1, x, z3⟩, rfl, ?_, ha.rd, ha.sm, by dsimp only; omega, wf_range w0, wf_range w3⟩
    unfold wtE
    dsimp only
    omega
end
end Go.Proofs.YtgmnnpbbiejbnaaGreat.LawS
