/-
  sort.Slice at fields, by their names. Conditions: as stated.
-/
import Derived.Test.YthgdkmbcibfehaaDoorDcE
import Derived.Shelf.SlSortFuncK.WholeK
import Derived.Shelf.GgSortFunc.Tiny
import Derived.Shelf.Lay
import Derived.Ground.GgsProg
set_option maxRecDepth 100000
set_option linter.unusedSimpArgs false
set_option linter.unusedVariables false
namespace Go.Proofs
open Go.Shelf Go.RowKit Go.Lib Go.Sort
shelf_lay LaysGg.n6 Ggs 6 at Tryd as YthgdkmbcibfehaaDoor.sortSl
end Go.Proofs
namespace Go.Proofs.YthgdkmbcibfehaaDoor.DcF
open Go.Shelf Go.RowKit Go.Sort Go.Proofs.YthgdkmbcibfehaaDoor.Mem Go.Proofs.YthgdkmbcibfehaaDoor.DcA Go.Proofs.YthgdkmbcibfehaaDoor.DcB Go.Proofs.YthgdkmbcibfehaaDoor.DcD Go.Proofs.YthgdkmbcibfehaaDoor.DcE

abbrev OwnF (w : World) (B : Nat) (v : Value) (l : List Fld) : Prop := w.ownsRow B 52 2 v l.length (flds l)
def fV (f : Fld) : List Value := [.string f.1, .string f.2]
def ltF (a b : Fld) : Bool := ltS a.1 b.1
theorem swo : SWO ltF where
  irrefl x := lt_irr _
  trans x y z h1 h2 := lt_tr h1 h2
  ntrans x y z h1 h2 := by
    unfold ltF at *
    cases h3 : ltS x.1 z.1
    · rfl
    · by_cases e : x.1 = y.1
      · rw [e, h2] at h3; cases h3
      · have := lt_tr (lt_tot h1 e) h3
        rw [h2] at this; cases this
theorem holds_of_block {w : World} {g : Nat} {cur : Array Value} {e : TypeId} {F : Array Value} (hb : w.heap[g]? = some (.cells cur e (0, 0))) (ht : cur.toList.take F.size = F.toList) : Holds id w g 0 F := by
  intro j hj
  refine ⟨?_, by simp [World.frozen?, hb]⟩
  have h1 : (cur.toList.take F.size)[j]? = F.toList[j]? := by rw [ht]
  rw [List.getElem?_take_of_lt hj] at h1
  simp only [World.cell?, hb, Nat.zero_add]
  simp only [Option.isSome_none, Bool.false_eq_true, if_false]
  rw [← Array.getElem?_toList, h1]
  simp [hj]
theorem heap_sorted {w : World} {g n : Nat} {os : Array Obj} {cur : Array Value} {e : TypeId} {fr : Nat × Nat} (F : Array Value) (hb : w.heap[g]? = some (.cells cur e fr)) :
    (grow (putRow id (Sort.ahead w n) g 0 F) os).heap[g]? = some (.cells (putCells id 0 F cur) e fr) := by
  have hg : g < w.heap.size := (Array.getElem?_eq_some_iff.1 hb).1
  rw [heap_grow_old _ _ (by simpa using hg)]
  simp [putRow, mapBlock, Sort.ahead, Array.getElem?_modify, hb, onCells]
theorem below_sorted {w : World} {g n : Nat} {os : Array Obj} (F : Array Value) (hg : g < w.heap.size) : RowKit.Below g w (grow (putRow id (Sort.ahead w n) g 0 F) os) := by
  refine ⟨rfl, rfl, rfl, by simp, fun k hk => ?_⟩
  have hkw : k < w.heap.size := by omega
  rw [heap_grow_old _ _ (by simpa using hkw)]
  have : g ≠ k := by omega
  simp [putRow, mapBlock, Sort.ahead, Array.getElem?_modify, this]
theorem take_putCells (cur F : Array Value) (h : F.size ≤ cur.size) : (putCells id 0 F cur).toList.take F.size = F.toList := by
  apply List.ext_getElem?
  intro j
  by_cases hj : j < F.size
  · rw [List.getElem?_take_of_lt hj, Array.getElem?_toList]
    simp [putCells, hj, show j < cur.size by omega]
  · rw [List.getElem?_take_eq_none (by omega), List.getElem?_eq_none (by simp; omega)]
set_option maxHeartbeats 1000000 in
/-- slices.SortFunc at a row of its own. -/
theorem flat_get (d : Array Fld) : (flatK fV 2 d).toList = flds d.toList := by
  apply List.ext_getElem?
  intro j
  by_cases hj : j < d.size * 2
  · have hi : j / 2 < d.size := by omega
    have hd : d.toList[j / 2]? = some d[j / 2]! := by rw [Array.getElem?_toList, getElem!_pos d (j / 2) hi, Array.getElem?_eq_getElem hi]
    obtain ⟨g1, g2⟩ := flds_get d.toList (j / 2) d[j / 2]! hd
    have h2 := get_flatK fV 2 d j hj
    rw [getElem!_pos (flatK fV 2 d) j (by simpa using hj)] at h2
    rw [Array.getElem?_toList, Array.getElem?_eq_getElem (by simpa using hj), h2]
    rcases Nat.mod_two_eq_zero_or_one j with h0 | h0
    · rw [show j = j / 2 * 2 by omega, show (j / 2 * 2) / 2 = j / 2 by omega, show (j / 2 * 2) % 2 = 0 by omega, g1]; rfl
    · rw [show j = j / 2 * 2 + 1 by omega, show (j / 2 * 2 + 1) / 2 = j / 2 by omega, show (j / 2 * 2 + 1) % 2 = 1 by omega, g2]; rfl
  · rw [List.getElem?_eq_none (by simp; omega), List.getElem?_eq_none (by rw [flds_len]; simp; omega)]
set_option maxHeartbeats 2000000 in
theorem less_calls (blk off c Bs size : Nat) (W : World) (G : Nat → ByteArray) (hs : W.cell? ⟨Bs, 0, none⟩ = some (.slice (some ⟨blk, off, none⟩) size c))
    (hc : ∀ t, t < size → W.cell? ⟨blk, off + t * 2, none⟩ = some (.string (G t))) (i j : Nat) (hi : i < size) (hj : j < size) (hsz : size < 4611686018427387904) :
    Calls Tryd.prog 35 #[.int .i64 i, .int .i64 j, .pointer (some ⟨Bs, 0, none⟩)] W fun e w' => e = .returned (.bool (ltS (G i) (G j))) ∧ ∃ q, w' = W.drewN q := by
  have ci := hc i hi
  have cj := hc j hj
  unfold ltS
  go_enter Tryd.func35, Tryd.ntmps35
  go_wp2_with fail
  go_quiet (fail)
  go_wp2_with fail
  go_ret
  exact ⟨rfl, nq, rfl⟩
noncomputable def svT : TypeInfo := (Tryd.prog.info? 22).get (by kernel_rfl)
noncomputable def svE : TypeInfo := (Tryd.prog.info? 52).get (by kernel_rfl)
theorem svK (n : Nat) (h2 : 2 ≤ n) : Lib.swapperK n svE 25 = 9 := by
  have a : svE.hasPointers = true := by kernel_rfl
  have b : (svE.bytes == 8) = false := by kernel_rfl
  have c : (n == 0) = false := by simp; omega
  have d : (n == 1) = false := by simp; omega
  simp [Lib.swapperK, a, b, c, d]
theorem only_sorted {w : World} {g n N c : Nat} {os : Array Obj} (F : Array Value) (hg : g < w.heap.size) : Only (fun k => (Value.slice (some ⟨g, 0, none⟩) N c).ownBlock = some k) w (grow (putRow id (Sort.ahead w n) g 0 F) os) := by
  refine ⟨rfl, rfl, rfl, by simp, fun k hk hn => ?_⟩
  rw [heap_grow_old _ _ (by simpa using hk)]
  have : g ≠ k := fun e => hn (by rw [← e]; rfl)
  simp [putRow, mapBlock, Sort.ahead, Array.getElem?_modify, this]
theorem sort_calls (B n c Bs : Nat) (A : Option Addr) (l : List Fld) (w : World) (ho : OwnF w B (.slice A n c) l) (hBs : w.cell? ⟨Bs, 0, none⟩ = some (.slice A n c)) (hB1 : Bs < w.heap.size) (hB2 : ∀ k, (Value.slice A n c).ownBlock = some k → Bs ≠ k) (hl2 : l.length ≤ 100000000) :
    Calls Tryd.prog 34 #[.iface 22 (.slice A n c), .func (.func 35) #[] #[.pointer (some ⟨Bs, 0, none⟩)]] w fun e w' => e = .returned (.tuple #[]) ∧ ∃ d : List Fld, d.Perm l ∧ d.Pairwise (fun x y => ltS y.1 x.1 = false) ∧ OwnF w' B (.slice A n c) d ∧ Only (fun k => (Value.slice A n c).ownBlock = some k) w w' := by
  have hn := own_n ho
  by_cases h2 : 2 ≤ l.length
  · rcases ho.2 with ⟨_, h0⟩ | ⟨g, cap, cur, e1, hg, hb, h1, h3, h4, h5⟩
    · omega
    · injection e1 with e1 e2 e3
      subst e1 e2 e3
      have hgw : g < w.heap.size := (Array.getElem?_eq_some_iff.1 hb).1
      have hfl : (flatK fV 2 l.toArray).toList = flds l := flat_get _
      have hfs : (flatK fV 2 l.toArray).size = l.length * 2 := by simp
      have hH : HoldsK fV 2 w g 0 l.toArray := holds_of_block hb (by rw [hfs, hfl]; exact h5)
      have hless : LessReadsK Tryd.prog 35 #[.pointer (some ⟨Bs, 0, none⟩)] fV 2 ltF g 0 l.toArray.size w := by
        intro m os dk hs i j hi hj
        have e : sortWorldK fV 2 w g 0 m dk os = putRowK fV 2 (grow (Sort.ahead w m) os) g 0 dk := by
          unfold sortWorldK; rw [putRowK_grow _ _ (Sort.ahead w m) _ g 0 _ hgw]
        have hHg : HoldsK fV 2 (grow (Sort.ahead w m) os) g 0 l.toArray := holdsK_grow _ _ _ _ g 0 _ hgw (holdsK_ahead _ _ _ _ _ _ _ hH)
        refine less_calls g 0 c Bs l.length _ (fun t => dk[t]!.1) ?_ (fun t ht => ?_) i j (by simpa using hi) (by simpa using hj) (by omega)
        · rw [e, cell?_putRowK_other _ _ _ g 0 dk _ (show Bs ≠ g from hB2 g rfl), cell?_grow _ _ _ (show Bs < _ by simpa using hB1)]; exact hBs
        · rw [e]; exact ((holdsK_putRowK _ _ _ g 0 _ dk hHg hs).cell (i := t) (c := 0) (by rw [hs]; simpa using ht) (by omega)).1
      have hcon := Any.sort_Slice_cells_sorted YthgdkmbcibfehaaDoor.sortSl 22 52 svT svE (by kernel_rfl) (by kernel_rfl) (by kernel_rfl) (by kernel_rfl) 25 (fun _ => by kernel_rfl) fV 2 (fun _ => rfl) (by kernel_rfl) (fun _ => by kernel_rfl)
        (fun x v hv => by simp [fV] at hv; rcases hv with rfl | rfl <;> rfl) ltF swo 35 #[.pointer (some ⟨Bs, 0, none⟩)]
        (enters_of Tryd.func35 (by kernel_rfl) rfl) g 0 c l.toArray (by simpa using h2) (by simp; omega) 57 (by rw [svK _ (by simpa using h2)]; kernel_rfl) false
        (fun args W => run_callFunc_extern Tryd.func57 (by kernel_rfl) (by kernel_rfl) (by kernel_rfl) (e := Extern.ReflectliteSwapper.swap false) (by kernel_rfl) args W) w hless hH hgw
      rw [show l.toArray.size = l.length by simp] at hcon
      refine Calls.mono hcon ?_
      rintro e w' ⟨rfl, d', m, os, hp, hs, rfl⟩
      have hds : d'.size = l.length := by rw [hp.1]; simp
      have hsz : (flatK fV 2 d').size = l.length * 2 := by simp [hds]
      refine ⟨rfl, d'.toList, ?_, ?_, ?_, ?_⟩
      · have := hp.2.2
        have e5 : List.take l.length d'.toList = d'.toList := List.take_of_length_le (by simp [hds])
        simpa [hds, e5] using this
      · rw [List.pairwise_iff_getElem]
        intro i j hi hj hij
        have := hs i j (Nat.zero_le _) hij (by simp at hj ⊢; omega)
        unfold ltF at this
        rw [getElem!_pos d' i (by simpa using hi), getElem!_pos d' j (by simpa using hj)] at this
        simpa using this
      · have hq := take_putCells cur (flatK fV 2 d') (by rw [hsz, h4]; exact Nat.mul_le_mul_right _ h1)
        rw [hsz, flat_get] at hq
        refine ⟨by rw [flds_len], .inr ⟨g, c, _, by simp [hds], hg, heap_sorted _ hb, by simp [hds]; exact h1, h3, by simp [putCells, h4], ?_⟩⟩
        rw [show d'.toList.length = l.length by simp [hds]]
        exact hq
      · exact only_sorted _ hgw
  · have hn1 : n ≤ 1 := by omega
    have hcon : ∀ (f : Nat) (hf : Tryd.prog.funcs.findIdx? (·.name == "internal/reflectlite" ++ ".Swapper$" ++ toString (Lib.swapperK n svE 25)) = some f), _ := fun f hf => Any.sort_Slice_tiny YthgdkmbcibfehaaDoor.sortSl 22 52 svT svE (by kernel_rfl) (by kernel_rfl) (by kernel_rfl) (by kernel_rfl) 25 (fun _ => by kernel_rfl) A n c hn1 f hf (.func 35) #[] #[.pointer (some ⟨Bs, 0, none⟩)] w
    have hf : ∃ f, Tryd.prog.funcs.findIdx? (·.name == "internal/reflectlite" ++ ".Swapper$" ++ toString (Lib.swapperK n svE 25)) = some f := by
      rcases (show n = 0 ∨ n = 1 by omega) with rfl | rfl
      · exact ⟨49, by kernel_rfl⟩
      · exact ⟨50, by kernel_rfl⟩
    obtain ⟨f, hf⟩ := hf
    refine Calls.mono (hcon f hf) ?_
    rintro e w' ⟨rfl, os, rfl⟩
    have hb : RowKit.Below w.heap.size w (grow w os) := ⟨rfl, rfl, rfl, by simp [grow], fun i hi => by simp [grow, Array.getElem?_append, hi]⟩
    refine ⟨rfl, l, List.Perm.refl _, ?_, own_only ho (Only.of_below hb) (fun k hk => by have := (ho.lt k hk).2; omega), ⟨hb.os, hb.tape, hb.output, hb.size, fun k hk _ => hb.block k hk⟩⟩
    rcases l with _ | ⟨a, _ | ⟨b, r⟩⟩
    · exact List.Pairwise.nil
    · exact List.pairwise_singleton _ _
    · simp at h2
end Go.Proofs.YthgdkmbcibfehaaDoor.DcF
