/-
  Deeds as they were handed in; the walk of DueDoes, for scripts of bulk at most 1048576. Conditions: as stated.
-/
import Derived.Test.YtabgngdimbflkaaDuP
import Derived.Test.YtabgngdimbflkaaDuW
import Derived.Test.YtabgngdimbflkaaDuX
import Derived.Test.YtabgngdimbflkaaLawR
set_option maxRecDepth 100000
set_option linter.unusedSimpArgs false
set_option linter.unusedVariables false
namespace Go.Proofs.Ytabgngdimbflkaa.DvA
open Go.RowKit Go.Shelf Go.Proofs.Ytabgngdimbflkaa.Mem Go.Proofs.Ytabgngdimbflkaa.DuA Go.Proofs.Ytabgngdimbflkaa.DuM Go.Proofs.Ytabgngdimbflkaa.DuN Go.Proofs.Ytabgngdimbflkaa.DuB Go.Proofs.Ytabgngdimbflkaa.DuO Go.Proofs.Ytabgngdimbflkaa.DsC Go.Proofs.Ytabgngdimbflkaa.DsH Go.Proofs.Ytabgngdimbflkaa.DsI Go.Proofs.Ytabgngdimbflkaa.DsJ Go.Proofs.Ytabgngdimbflkaa.DsK Go.Proofs.Ytabgngdimbflkaa.DsL Go.Proofs.Ytabgngdimbflkaa.DuR Go.Proofs.Ytabgngdimbflkaa.DuS Go.Proofs.Ytabgngdimbflkaa.DuT Go.Proofs.Ytabgngdimbflkaa.DuU Go.Proofs.Ytabgngdimbflkaa.DuV Go.Proofs.Ytabgngdimbflkaa.DuW Go.Proofs.Ytabgngdimbflkaa.DuX Go.Proofs.Ytabgngdimbflkaa.DuY Go.Proofs.Ytabgngdimbflkaa.DuP

/-- A deed as it was handed in. -/
structure De where
  kind : Int
  key : ByteArray
  n : Int
  m : Int
def De.cells (x : De) : List Value := [.int .i64 x.kind, .string x.key, .int .i64 x.n, .int .i64 x.m]
def De.wt (x : De) : Nat := x.key.size + 4
def De.good (x : De) : Prop := okk x.key
instance : Inhabited De := ⟨⟨0, ⟨#[]⟩, 0, 0⟩⟩
structure RdD (W : World) (AD : Option Addr) (nD cD : Nat) (ds : List De) : Prop where
  len : ds.length = nD
  cap : nD ≤ cD
  big : cD ≤ maxLen
  get : ∀ i x, ds[i]? = some x → ∃ p, AD = some p ∧ ∀ j u, x.cells[j]? = some u → W.cell? ((p.add (i * 4)).add j) = some u
  ok : ∀ x, x ∈ ds → okk x.key
theorem rdd_of {W : World} {AD : Option Addr} {nD cD : Nat} {ds : List De} (h : Rd W 4 AD nD cD (ds.flatMap De.cells)) (hl : ds.length = nD) (hok : ∀ x ∈ ds, De.good x) : RdD W AD nD cD ds :=
  ⟨hl, h.cap, h.big, fun i x hx => LawR.rd_at (f := De.cells) (sz := 4) (fun _ => rfl) h hx (by omega), hok⟩
theorem wt_len (ds : List De) : ds.length ≤ (ds.map De.wt).sum := LawR.len_sum _ (fun x => by unfold De.wt; omega) ds
theorem RdD.at_ {W : World} {AD : Option Addr} {nD cD : Nat} {ds : List De} (h : RdD W AD nD cD ds) {w : World} (hb : Below W.heap.size W w) {i : Nat} {x : De} (hx : ds[i]? = some x) :
    ∃ p, AD = some p ∧ w.cell? (p.add (i * 4)) = some (.int .i64 x.kind) ∧ w.cell? ⟨(p.add (i * 4)).block, (p.add (i * 4)).off + 1, none⟩ = some (.string x.key) ∧
      w.cell? ⟨(p.add (i * 4)).block, (p.add (i * 4)).off + 2, none⟩ = some (.int .i64 x.n) ∧ w.cell? ⟨(p.add (i * 4)).block, (p.add (i * 4)).off + 3, none⟩ = some (.int .i64 x.m) := by
  obtain ⟨p, e, h1⟩ := h.get i x hx
  exact ⟨p, e, cell_b (h1 0 _ rfl) hb, cell_b (h1 1 _ rfl) hb, cell_b (h1 2 _ rfl) hb, cell_b (h1 3 _ rfl) hb⟩
/-- Both indexes as they are made. -/
theorem bo_new {w1 : World} {B g m : Nat} (h1 : Ix w1 B g m (.slice none 0 0) [] 0) (hB : B ≤ w1.heap.size) :
    Bo (w1.alloc (.cells #[.slice none 0 0] 28)) B g m (.slice none 0 0) [] w1.heap.size none 0 [] 0 := by
  have hlt := h1.lt
  refine ⟨h1.below (al _ _), ⟨heap_alloc_new w1 _, Rd.nil _ _, hB, fun ad e => by cases e⟩, fun hx => ?_, fun ad e => by cases e⟩
  have := (hlt _ hx).2
  omega
/-- What holds between two deeds. -/
structure Sw (W : World) (g m h k : Nat) (w : World) (v : Value) (l : List (Int × ByteArray)) (A : Option Addr) (c : Nat) : Prop where
  bo : Bo w W.heap.size g m v l h A c l k
  bel : Below W.heap.size W w
theorem Sw.did {W : World} {g m h k : Nat} {w w' : World} {v : Value} {l : List (Int × ByteArray)} {A : Option Addr} {c : Nat} (s : Sw W g m h k w v l A c) {e : Ending} (d : Did W.heap.size g m v h k w e w') :
    e = .returned (.bool true) ∧ ∃ v' l' A' c', Sw W g m h (k + 1) w' v' l' A' c' := by
  obtain ⟨he, l', v', A', c', b, o, -⟩ := d
  exact ⟨he, v', l', A', c', b, o.after s.bel (Nat.le_refl _) (fun k hk => Or.elim hk (fun hk => (s.bo.x.lt k hk).1) (fun hk => by rw [hk]; exact s.bo.y.hB))⟩
theorem Sw.below {W : World} {g m h k : Nat} {w w' : World} {v : Value} {l : List (Int × ByteArray)} {A : Option Addr} {c : Nat} (s : Sw W g m h k w v l A c) (b : Below w.heap.size w w') : Sw W g m h k w' v l A c :=
  ⟨s.bo.below b, s.bel.trans (b.mono s.bel.size)⟩

set_option maxHeartbeats 2000000 in
theorem does_calls (AD : Option Addr) (nD cD : Nat) (ds : List De) (W : World) (hD : RdD W AD nD cD ds) (hb : ds.length ≤ 1048576) :
    Calls Try.prog 5 #[.slice AD nD cD] W fun e w' => e = .returned (.bool true) ∧ Below W.heap.size W w' := by
  obtain rfl := hD.len
  go_enter Try.func5, Try.ntmps5
  go_wp2_with fail
  refine (new_calls W).mono ?_
  rintro e w1 ⟨g, m, rfl, h1, b1⟩
  have bo2 := bo_new h1 b1.size
  have B2 := b1.alloc b1.size (.cells #[.slice none 0 0] 28)
  obtain ⟨h, hh⟩ : ∃ h, w1.heap.size = h := ⟨_, rfl⟩
  obtain ⟨w2, hw2⟩ : ∃ w2, w1.alloc (.cells #[.slice none 0 0] 28) = w2 := ⟨_, rfl⟩
  rw [hw2] at bo2 B2
  rw [hh] at bo2
  have S2 : Sw W g m h 0 w2 (.slice none 0 0) [] none 0 := ⟨bo2, B2⟩
  clear h1 b1 bo2 B2
  go_wp2_with fail
  refine (awake_calls w2).mono ?_
  rintro e w3 ⟨rfl, b3⟩
  have S3 := S2.below b3
  clear S2 b3 hw2 hh
  go_wp2_with fail
  go_loopw [5] (fun i wr => ∃ (k : Nat) (v : Value) (l : List (Int × ByteArray)) (A : Option Addr) (c : Nat), k ≤ ds.length ∧ i = .int .i64 k ∧ Sw W g m h k wr v l A c) (fun i _ => ds.length - (intOf i).toNat)
  case atStart => exact ⟨0, _, _, _, _, Nat.zero_le _, rfl, S3⟩
  case round =>
    obtain ⟨k, v, l, A, c, hk, rfl, S⟩ := hrel
    by_cases hlt : k < ds.length
    · obtain ⟨x, hx⟩ : ∃ x, ds[k]? = some x := ⟨_, List.getElem?_eq_getElem hlt⟩
      obtain ⟨p, rfl, k0, k1, k2, k3⟩ := hD.at_ S.bel hx
      have hok := hD.ok x (List.mem_of_getElem? hx)
      have Hx := Lib.hid hx
      clear hx
      go_wp2_with fail
      refine (do_calls W.heap.size g m v l h A c k x.key x.n x.m wr x.kind S.bo S.bel.size hok (by omega)).mono ?_
      intro e w4 d4
      obtain ⟨rfl, v4, l4, A4, c4, S4⟩ := S.did d4
      clear k0 k1 k2 k3 S d4
      obtain ⟨p', e', -, q1, -⟩ := hD.at_ S4.bel Hx.out
      injection e' with e'
      subst e'
      go_wp2_with fail
      refine (like_calls W.heap.size g m v4 l4 h A4 c4 (k + 1) x.key w4 S4.bo hok (by omega)).mono ?_
      rintro e w5 ⟨rfl, nd, rfl⟩
      have S5 := S4.below (below_drawn_ (Below.refl _ _) nd)
      clear q1 S4
      go_wp2_with fail
      exact ⟨⟨k + 1, v4, l4, A4, c4, by omega, by go_num, S5⟩, by simp [intOf]; omega⟩
    · obtain rfl : k = ds.length := by omega
      obtain ⟨cy, -⟩ := S.bo.y.cell
      have S' := S.below ((Below.refl wr.heap.size wr).drew)
      have cy' : wr.drew.cell? ⟨h, 0, none⟩ = some (.slice A l.length c) := cy
      have hlt := S.bo.y.lt
      go_wp2_with fail
      go_region_held3 (fun w' => w'.cell? ⟨h, 0, none⟩ = some (.slice A l.length c))
        (first | exact cy' | assumption)
        (first
          | (go_at_call 18; refine (walked_calls W.heap.size g m v l _ wr.drew S'.bo.x (by omega)).mono ?_; rintro e w3 ⟨s3, rfl, o3, b3⟩; obtain ⟨A3, c3, rfl⟩ := own_form o3; have S3 := S'.below b3; have c3' := cell_b cy' b3)
          | (go_at_call 17; refine (entries_calls A3 _ c3 l A c w3 (Rd.of_own o3) S3.bo.y.rd (by have := S.bo.x.len; omega)).mono ?_; rintro e w4 ⟨rfl, nd4, rfl⟩; have c4' : (w3.drewN nd4).cell? ⟨h, 0, none⟩ = some (.slice A l.length c) := c3'))
      all_goals (
        go_wp2_with fail
        go_ret
        exact ⟨rfl, S3.bel.trans (below_drawn_ (Below.refl _ _) nd4)⟩)
theorem does_law (AD : Option Addr) (nD cD : Nat) (ds : List De) (W : World) (hr : Rd W 4 AD nD cD (ds.flatMap De.cells)) (hl : ds.length = nD) (hok : ∀ x ∈ ds, De.good x) (hb : (ds.map De.wt).sum ≤ 1048576) :
    Calls Try.prog 5 #[.slice AD nD cD] W fun e w' => e = .returned (.bool true) ∧ Below W.heap.size W w' :=
  does_calls AD nD cD ds W (rdd_of hr hl hok) (by have := wt_len ds; omega)
end Go.Proofs.Ytabgngdimbflkaa.DvA
