/-
  sort.Slice at entries, by Of$1 (which lays blocks). Conditions: as stated.
  rank.Of. Conditions: as stated.
-/
import Derived.Test.YtakhcfemakapbaaGreatDoorRgC
import Derived.Test.YtakhcfemakapbaaGreatDoorSwJ
import Derived.Test.YtakhcfemakapbaaGreatDoorRgB
import Derived.Deep.RegionHeld3
import Derived.Deep.QuietTactic
import Derived.Deep.RegionLaw
import Derived.Sort.AtCall
import Derived.Deep.CutRange
import Derived.Deep.DeepCutAuto
set_option maxRecDepth 100000
set_option linter.unusedSimpArgs false
set_option linter.unusedVariables false
namespace Go.Proofs.YtakhcfemakapbaaGreatDoor.RkJ
open Go Go.Shelf Go.RowKit Go.Sort Go.Proofs.YtakhcfemakapbaaGreatDoor.Mem Go.Proofs.YtakhcfemakapbaaGreatDoor.DuA Go.Proofs.YtakhcfemakapbaaGreatDoor.DuM Go.Proofs.YtakhcfemakapbaaGreatDoor.RkA Go.Proofs.YtakhcfemakapbaaGreatDoor.RkC Go.Proofs.YtakhcfemakapbaaGreatDoor.RkB Go.Proofs.YtakhcfemakapbaaGreatDoor.RkE Go.Proofs.YtakhcfemakapbaaGreatDoor.RkI Go.Proofs.YtakhcfemakapbaaGreatDoor.SwA Go.Proofs.YtakhcfemakapbaaGreatDoor.SwJ

def fV (e : En) : List Value := [.string e.2, .int .i64 e.1]
theorem swo : SWO (bef ltS) where
  irrefl x := bef_irr linS x
  trans x y z h1 h2 := bef_tr linS h1 h2
  ntrans x y z h1 h2 := by
    cases h3 : bef ltS x z
    · rfl
    · by_cases e : x = y
      · rw [e, h2] at h3; cases h3
      · have := bef_tr linS (bef_tot linS h1 e) h3
        rw [h2] at this; cases this
theorem holds_of_block {w : World} {g : Nat} {cur : Array Value} {e : TypeId} {F : Array Value} (hb : w.heap[g]? = some (.cells cur e (0, 0))) (ht : cur.toList.take F.size = F.toList) : Holds id w g 0 F := by
  intro j hj
  refine ⟨?_, by simp [World.frozen?, hb]⟩
  have h1 : (cur.toList.take F.size)[j]? = F.toList[j]? := by rw [ht]
  rw [List.getElem?_take_of_lt hj] at h1
  simp only [World.cell?, hb, Nat.zero_add]
  simp only [Option.isSome_none, Bool.false_eq_true, if_false]
  rw [← Array.getElem?_toList, h1]
  simp [hj]
theorem heap_sorted {w : World} {g n : Nat} {os : Array Obj} {cur : Array Value} {e : TypeId} {fr : Nat × Nat} (F : Array Value) (hb : w.heap[g]? = some (.cells cur e fr)) :
    (grow (putRow id (Sort.ahead w n) g 0 F) os).heap[g]? = some (.cells (putCells id 0 F cur) e fr) := by
  have hg : g < w.heap.size := (Array.getElem?_eq_some_iff.1 hb).1
  rw [heap_grow_old _ _ (by simpa using hg)]
  simp [putRow, mapBlock, Sort.ahead, Array.getElem?_modify, hb, onCells]
theorem take_putCells (cur F : Array Value) (h : F.size ≤ cur.size) : (putCells id 0 F cur).toList.take F.size = F.toList := by
  apply List.ext_getElem?
  intro j
  by_cases hj : j < F.size
  · rw [List.getElem?_take_of_lt hj, Array.getElem?_toList]
    simp [putCells, hj, show j < cur.size by omega]
  · rw [List.getElem?_take_eq_none (by omega), List.getElem?_eq_none (by simp; omega)]
theorem flat_get (d : Array En) : (flatK fV 2 d).toList = ents d.toList := by
  apply List.ext_getElem?
  intro j
  by_cases hj : j < d.size * 2
  · have hi : j / 2 < d.size := by omega
    have hd : d.toList[j / 2]? = some d[j / 2]! := by rw [Array.getElem?_toList, getElem!_pos d (j / 2) hi, Array.getElem?_eq_getElem hi]
    obtain ⟨g1, g2⟩ := ents_get d.toList (j / 2) d[j / 2]! hd
    have h2 := get_flatK fV 2 d j hj
    rw [getElem!_pos (flatK fV 2 d) j (by simpa using hj)] at h2
    rw [Array.getElem?_toList, Array.getElem?_eq_getElem (by simpa using hj), h2]
    rcases Nat.mod_two_eq_zero_or_one j with h0 | h0
    · rw [show j = j / 2 * 2 by omega, show (j / 2 * 2) / 2 = j / 2 by omega, show (j / 2 * 2) % 2 = 0 by omega, g1]; rfl
    · rw [show j = j / 2 * 2 + 1 by omega, show (j / 2 * 2 + 1) / 2 = j / 2 by omega, show (j / 2 * 2 + 1) % 2 = 1 by omega, g2]; rfl
  · rw [List.getElem?_eq_none (by simp; omega), List.getElem?_eq_none (by rw [ents_len]; simp; omega)]
noncomputable def svT : TypeInfo := (Tryz.prog.info? 22).get (by kernel_rfl)
noncomputable def svE : TypeInfo := (Tryz.prog.info? 51).get (by kernel_rfl)
theorem svK (n : Nat) (h2 : 2 ≤ n) : Lib.swapperK n svE 25 = 9 := by
  have a : svE.hasPointers = true := by kernel_rfl
  have b : (svE.bytes == 8) = false := by kernel_rfl
  have c : (n == 0) = false := by simp; omega
  have d : (n == 1) = false := by simp; omega
  simp [Lib.swapperK, a, b, c, d]
theorem sw_block {w : World} {g : Nat} {cur : Array Value} {e : TypeId} {fr : Nat × Nat} {d : Array En} {w' : World} (h : SWK fV 2 w g 0 d w') (hb : w.heap[g]? = some (.cells cur e fr)) :
    w'.heap[g]? = some (.cells (putCells id 0 (flatK fV 2 d) cur) e fr) := by
  obtain ⟨n, os, rfl⟩ := h
  have hg : g < w.heap.size := (Array.getElem?_eq_some_iff.1 hb).1
  unfold sortWorldK
  have := heap_sorted (n := n) (os := os) (flatK fV 2 d) hb
  exact this
theorem pdq_core (g n c Bs gb : Nat) (l : List En) (cur : Array Value) (W0 : World) (hb : W0.heap[g]? = some (.cells cur 51 (0, 0))) (h5 : cur.toList.take (n * 2) = ents l) (hn : l.length = n)
    (hBs : W0.cell? ⟨Bs, 0, none⟩ = some (.pointer (some ⟨gb, 0, none⟩))) (hg : W0.cell? ⟨gb, 0, none⟩ = some (.slice (some ⟨g, 0, none⟩) n c)) (hn1 : Bs ≠ g) (hn2 : gb ≠ g) (h2 : 2 ≤ n) (hl2 : n ≤ 1000000000) :
    Calls Tryz.prog 61 #[dV 32 #[.pointer (some ⟨Bs, 0, none⟩)] 86 #[.slice (some ⟨g, 0, none⟩) n c, typeHandle Tryz.prog 51], .int .i64 (0 : Nat), .int .i64 n, .int .i64 (Lib.bitLen n : Nat)] W0
      fun e w' => e = .returned (.tuple #[]) ∧ ∃ d : List En, d.Perm l ∧ d.Pairwise (fun x y => bef ltS y x = false) ∧ w'.heap[g]? = some (.cells (putCells id 0 (flatK fV 2 d.toArray) cur) 51 (0, 0)) ∧ Only (fun k => k = g) W0 w' := by
  have hgw : g < W0.heap.size := (Array.getElem?_eq_some_iff.1 hb).1
  have hfl : (flatK fV 2 l.toArray).toList = ents l := flat_get _
  have hfs : (flatK fV 2 l.toArray).size = n * 2 := by simp [hn]
  have hH : HoldsK fV 2 W0 g 0 l.toArray := holds_of_block hb (by rw [hfs, hfl]; exact h5)
  have E : Env fV 2 (bef ltS) 32 #[.pointer (some ⟨Bs, 0, none⟩)] 86 #[.slice (some ⟨g, 0, none⟩) n c, typeHandle Tryz.prog 51] g 0 n W0 := {
    less := by
      intro W dk hS hs i j hi hj
      obtain ⟨m, os, rfl⟩ := hS
      have e : sortWorldK fV 2 W0 g 0 m dk os = putRowK fV 2 (grow (Sort.ahead W0 m) os) g 0 dk := by
        unfold sortWorldK; rw [putRowK_grow _ _ (Sort.ahead W0 m) _ g 0 _ hgw]
      have hHg : HoldsK fV 2 (grow (Sort.ahead W0 m) os) g 0 l.toArray := holdsK_grow _ _ _ _ g 0 _ hgw (holdsK_ahead _ _ _ _ _ _ _ hH)
      refine less_calls g 0 c gb Bs n _ (fun t => dk[t]!) ?_ ?_ (fun t ht => ?_) (fun t ht => ?_) i j hi hj (by omega)
      · rw [e, cell?_putRowK_other _ _ _ g 0 dk _ (show Bs ≠ g from hn1), cell?_grow _ _ _ (show Bs < _ by simpa using cell_lt hBs)]; exact hBs
      · rw [e, cell?_putRowK_other _ _ _ g 0 dk _ (show gb ≠ g from hn2), cell?_grow _ _ _ (show gb < _ by simpa using cell_lt hg)]; exact hg
      · rw [e]; exact ((holdsK_putRowK _ _ _ g 0 _ dk hHg (by rw [hs]; simp [hn])).cell (i := t) (c := 0) (by rw [hs]; exact ht) (by omega)).1
      · rw [e]; exact ((holdsK_putRowK _ _ _ g 0 _ dk hHg (by rw [hs]; simp [hn])).cell (i := t) (c := 1) (by rw [hs]; exact ht) (by omega)).1
    swap := swapSwapsK_of_literal false 86 (fun args W => run_callFunc_extern Tryz.func86 (by kernel_rfl) (by kernel_rfl) (by kernel_rfl) (e := Extern.ReflectliteSwapper.swap false) (by kernel_rfl) args W)
      51 svE (by kernel_rfl) fV 2 (fun _ => rfl) (by kernel_rfl) (fun _ => by kernel_rfl) (fun x v hv => by simp [fV] at hv; rcases hv with rfl | rfl <;> rfl) g 0 n c
    holds := ⟨l.toArray, hH, by simp [hn]⟩
    hblk := hgw
    hsz := by omega
    hk := fun _ => rfl
    eg := enters_of Tryz.func32 (by kernel_rfl) rfl }
  have hlim : Lib.bitLen n < 4611686018427387904 := Nat.lt_of_le_of_lt (Lib.bitLen_le n 62 (by omega) (by omega)) (by omega)
  have hsz : l.toArray.size = n := by simp [hn]
  have hp := pdq_calls E swo (n + 1) 0 n (Lib.bitLen n) l.toArray W0 (by omega) (SWK.start hH) hsz (Nat.zero_le _) (Nat.le_refl _) hlim (Or.inl rfl)
  obtain ⟨q1, q2⟩ := pdq_sorts (bef ltS) swo l.toArray 0 n (Lib.bitLen n) true true (Nat.zero_le _) (by omega) (Or.inl rfl)
  refine Calls.mono hp ?_
  rintro e w' ⟨rfl, st⟩
  obtain ⟨d', hd'⟩ : ∃ d', d' = pdq (bef ltS) l.toArray 0 n (Lib.bitLen n) true true := ⟨_, rfl⟩
  rw [← hd'] at st q1 q2
  have hds : d'.size = l.length := by rw [q1.1]; simp
  refine ⟨rfl, d'.toList, ?_, ?_, ?_, st.on⟩
  · have := q1.2.2
    have e5 : List.take l.length d'.toList = d'.toList := List.take_of_length_le (by simp [hds])
    simpa [hds, ← hn, e5] using this
  · rw [List.pairwise_iff_getElem]
    intro i j hi hj hij
    have := q2 i j (Nat.zero_le _) hij (by simp at hj ⊢; omega)
    rw [getElem!_pos d' i (by simpa using hi), getElem!_pos d' j (by simpa using hj)] at this
    simpa using this
  · exact sw_block st.sw hb
theorem only_below {S : Nat → Prop} {w w' : World} (h : RowKit.Below w.heap.size w w') : Only S w w' := ⟨h.os, h.tape, h.output, h.size, fun k hk _ => h.block k hk⟩
theorem sort_calls (B n c Bs gb : Nat) (A : Option Addr) (l : List En) (w : World) (ho : OwnE w B (.slice A n c) l) (hBs : w.cell? ⟨Bs, 0, none⟩ = some (.pointer (some ⟨gb, 0, none⟩))) (hg : w.cell? ⟨gb, 0, none⟩ = some (.slice A n c))
    (hne : ∀ k, (Value.slice A n c).ownBlock = some k → Bs ≠ k ∧ gb ≠ k) (hl2 : l.length ≤ 1000000000) :
    Calls Tryz.prog 31 #[.iface 22 (.slice A n c), .func (.func 32) #[] #[.pointer (some ⟨Bs, 0, none⟩)]] w fun e w' => e = .returned (.tuple #[]) ∧ ∃ d : List En, d.Perm l ∧ d.Pairwise (fun x y => bef ltS y x = false) ∧ OwnE w' B (.slice A n c) d ∧ Only (fun k => (Value.slice A n c).ownBlock = some k) w w' := by
  have hn := own_n ho
  by_cases h2 : 2 ≤ l.length
  · rcases ho.2 with ⟨_, h0⟩ | ⟨g, cap, cur, e1, hgB, hb, h1, h3, h4, h5⟩
    · omega
    · injection e1 with e1 e2 e3
      subst e1 e2 e3
      obtain ⟨hn1, hn2⟩ := hne g rfl
      refine Any.sort_Slice_of_pdq YtakhcfemakapbaaGreatDoor.sortSl 22 51 svT svE (by kernel_rfl) (by kernel_rfl) (by kernel_rfl) (by kernel_rfl) 25 (fun _ => by kernel_rfl) (some ⟨g, 0, none⟩) l.length c (by omega) 86 (by rw [svK _ h2]; kernel_rfl) (.func 32) #[] #[.pointer (some ⟨Bs, 0, none⟩)] w _ ?_
      have hB : sliceBound Tryz.prog 51 svE 25 (some ⟨g, 0, none⟩) l.length c = #[.slice (some ⟨g, 0, none⟩) l.length c, typeHandle Tryz.prog 51] := by
        unfold sliceBound; rw [if_neg (swapperK_gt _ _ _ h2)]
      rw [hB]
      unfold sliceWorld
      have hb0 : ∀ o1 o2 : Obj, Below w.heap.size w ((w.alloc o1).alloc o2) := fun o1 o2 => ((Below.refl _ w).alloc (Nat.le_refl _) o1).alloc (by simp) o2
      have hbe := hb0 (.cells #[.slice (some ⟨g, 0, none⟩) l.length c] 22)
      refine Calls.mono (pdq_core g l.length c Bs gb l cur _ (((hbe _).block g (Array.getElem?_eq_some_iff.1 hb).1).trans hb) h5 rfl (cell_b hBs (hbe _)) (cell_b hg (hbe _)) hn1 hn2 h2 (by omega)) ?_
      rintro e w' ⟨rfl, d, hp, hpw, hbl, ho'⟩
      have hdl := hp.length_eq
      have hsz : (flatK fV 2 d.toArray).size = l.length * 2 := by simp [hdl]
      refine ⟨rfl, d, hp, hpw, ?_, (only_below (hbe _)).trans ho' (fun k hk => .inl (by rw [hk]; rfl))⟩
      have hq := take_putCells cur (flatK fV 2 d.toArray) (by rw [hsz, h4]; exact Nat.mul_le_mul_right _ h1)
      rw [hsz, flat_get] at hq
      refine ⟨by rw [ents_len], .inr ⟨g, c, _, by simp [hdl], hgB, hbl, by simp [hdl]; exact h1, h3, by simp [putCells, h4], ?_⟩⟩
      rw [hdl]
      exact hq
  · have hn1 : n ≤ 1 := by omega
    have hcon : ∀ (f : Nat) (hf : Tryz.prog.funcs.findIdx? (·.name == "internal/reflectlite" ++ ".Swapper$" ++ toString (Lib.swapperK n svE 25)) = some f), _ := fun f hf => Any.sort_Slice_tiny YtakhcfemakapbaaGreatDoor.sortSl 22 51 svT svE (by kernel_rfl) (by kernel_rfl) (by kernel_rfl) (by kernel_rfl) 25 (fun _ => by kernel_rfl) A n c hn1 f hf (.func 32) #[] #[.pointer (some ⟨Bs, 0, none⟩)] w
    have hf : ∃ f, Tryz.prog.funcs.findIdx? (·.name == "internal/reflectlite" ++ ".Swapper$" ++ toString (Lib.swapperK n svE 25)) = some f := by
      rcases (show n = 0 ∨ n = 1 by omega) with rfl | rfl
      · exact ⟨78, by kernel_rfl⟩
      · exact ⟨79, by kernel_rfl⟩
    obtain ⟨f, hf⟩ := hf
    refine Calls.mono (hcon f hf) ?_
    rintro e w' ⟨rfl, os, rfl⟩
    have hb : RowKit.Below w.heap.size w (grow w os) := ⟨rfl, rfl, rfl, by simp [grow], fun i hi => by simp [grow, Array.getElem?_append, hi]⟩
    refine ⟨rfl, l, List.Perm.refl _, ?_, own_only ho (Only.of_below hb) (fun k hk => by have := (ho.lt k hk).2; omega), ⟨hb.os, hb.tape, hb.output, hb.size, fun k hk _ => hb.block k hk⟩⟩
    rcases l with _ | ⟨a, _ | ⟨b, r⟩⟩
    · exact List.Pairwise.nil
    · exact List.pairwise_singleton _ _
    · simp at h2
end Go.Proofs.YtakhcfemakapbaaGreatDoor.RkJ
set_option maxRecDepth 100000
set_option linter.unusedSimpArgs false
set_option linter.unusedVariables false
namespace Go.Proofs.YtakhcfemakapbaaGreatDoor.RkL
open Go Go.RowKit Go.Shelf Go.Proofs.YtakhcfemakapbaaGreatDoor.Mem Go.Proofs.YtakhcfemakapbaaGreatDoor.DuA Go.Proofs.YtakhcfemakapbaaGreatDoor.DuM Go.Proofs.YtakhcfemakapbaaGreatDoor.DuN Go.Proofs.YtakhcfemakapbaaGreatDoor.RkA Go.Proofs.YtakhcfemakapbaaGreatDoor.RkC Go.Proofs.YtakhcfemakapbaaGreatDoor.RkB Go.Proofs.YtakhcfemakapbaaGreatDoor.RkE Go.Proofs.YtakhcfemakapbaaGreatDoor.RkH Go.Proofs.YtakhcfemakapbaaGreatDoor.RkI Go.Proofs.YtakhcfemakapbaaGreatDoor.RkJ

theorem mk_hint (hint : Int) (w : World) : (Instr.makeMap 64 (some (.int .i64 hint))).run Tryz.prog w = .ok (.map (some w.heap.size)) (w.alloc (.map #[] 0)) := by
  simp [Instr.makeMap, run_underlying Tryz.underlying64, asInt, asIntOf, Result.andThen]
/-- A Rank that is being made: k names are in its map. -/
structure Ns (w wr : World) (l : List En) (k : Nat) : Prop where
  hp : wr.heap[w.heap.size + 1]? = some (.cells #[.slice none 0 0, .map (some w.heap.size)] 66 (0, 0))
  bx : wr.cell? ⟨w.heap.size + 1 + 1, 0, none⟩ = some (.pointer (some ⟨w.heap.size + 1, 0, none⟩))
  mp : ∃ D, Mp wr w.heap.size k D ∧ Tells klS D (ofL (l.take k))
  nd : ((l.take k).map (·.2)).Nodup
  bel : Below w.heap.size w wr
theorem mp_only {w w' : World} {S : Nat → Prop} {m N : Nat} {D : Dt} (h : Mp w m N D) (ho : Only S w w') (hn : ¬ S m) : Mp w' m N D := by
  obtain ⟨es, clock, hb, F, hn', hD⟩ := h
  exact ⟨es, clock, ho.heap hb hn, F, hn', hD⟩
theorem Ns.below {w wr w' : World} {l : List En} {k : Nat} (h : Ns w wr l k) (hb : Below wr.heap.size wr w') : Ns w w' l k := by
  obtain ⟨D, hM, hT⟩ := h.mp
  have ho : Only (fun _ => False) wr w' := only_below hb
  exact ⟨ho.heap h.hp id, cell_b h.bx hb, ⟨D, mp_only hM ho id, hT⟩, h.nd, h.bel.trans (hb.mono h.bel.size)⟩
theorem Ns.cells {w wr : World} {l : List En} {k : Nat} (h : Ns w wr l k) : wr.cell? ⟨w.heap.size + 1, 0, none⟩ = some (.slice none 0 0) ∧ wr.cell? ⟨w.heap.size + 1, 1, none⟩ = some (.map (some w.heap.size)) ∧ wr.frozen? ⟨w.heap.size + 1, 0, none⟩ = false := by
  have h1 := h.hp
  exact ⟨by unfold World.cell?; simp only [h1]; rfl, by unfold World.cell?; simp only [h1]; rfl, by unfold World.frozen?; simp only [h1]; rfl⟩
theorem Ns.look {w wr : World} {l : List En} {k : Nat} (h : Ns w wr l k) {s : ByteArray} (hk : okk s) : (Instr.lookup 64 (.map (some w.heap.size)) (Value.string s) true).run Tryz.prog wr = .ok (.tuple #[.int .i64 ((dueL (ofL (l.take k)) s).getD 0), .bool (dueL (ofL (l.take k)) s).isSome]) wr := by
  obtain ⟨D, hM, hT⟩ := h.mp
  obtain ⟨u, ps, hrun, hv⟩ := hM.look_ok keyed Tryz.underlying64 (Tryz.zeroValue3 wr) (plainElem_int Tryz.underlying3 (by decide)) (key := Value.string s) (kl := klS s) (key_of hk)
  obtain ⟨c, rfl, hc, -⟩ := plainElem_int_inv Tryz.underlying3 hv
  have hc' := congrArg Prod.fst hc
  rw [hT.at_ s] at hc'
  rw [hrun, hT.is s]
  simp only [DataW.lit.injEq, Lit.int.injEq, true_and] at hc'
  rw [hc']
theorem of_take (l : List En) (k : Nat) (y : En) (hy : l[k]? = some y) : ofL (l.take (k + 1)) = insL ltS y (ofL (l.take k)) := by
  unfold ofL ofF
  rw [List.take_add_one, hy]
  simp
theorem nd_take (l : List En) (k : Nat) (y : En) (hy : l[k]? = some y) (h : ((l.take k).map (·.2)).Nodup) : ((l.take (k + 1)).map (·.2)).Nodup ↔ (dueL (ofL (l.take k)) y.2).isSome = false := by
  have hp := (of_facts h).2
  have hi : (dueL (ofL (l.take k)) y.2).isSome = false ↔ y.2 ∉ (l.take k).map (·.2) := by
    rw [Option.isSome_eq_false_iff, Option.isNone_iff_eq_none, due_none]
    exact not_congr ⟨fun h => by simpa using (hp.map (·.2)).mem_iff.1 h, fun h => (hp.map (·.2)).mem_iff.2 h⟩
  rw [hi, List.take_add_one, hy]
  simp only [Option.toList_some, List.map_append, List.map_cons, List.map_nil]
  constructor
  · intro hn hm
    exact (List.nodup_append.1 hn).2.2 _ hm _ (by simp) rfl
  · intro hm
    exact List.nodup_append.2 ⟨h, by simp, fun a ha b hb => by simp at hb; subst hb; intro e; subst e; exact hm ha⟩
theorem nd_of_take {l : List En} {k : Nat} (h : (l.map (·.2)).Nodup) : ((l.take k).map (·.2)).Nodup := List.Nodup.sublist ((List.take_sublist k l).map _) h
theorem ok_take {l : List En} {k : Nat} {y : En} (hy : l[k]? = some y) (h : ∀ e ∈ l.take k, okS e.1) (h2 : okS y.1) : ∀ e ∈ l.take (k + 1), okS e.1 := by
  rw [List.take_add_one, hy]
  intro e he
  simp at he
  rcases he with he | rfl
  · exact h e (by simpa using he)
  · exact h2
theorem start_ns (w : World) (l : List En) : Ns w (((w.alloc (.map #[] 0)).alloc (.cells #[.slice none 0 0, .map (some w.heap.size)] 66)).alloc (.cells #[.pointer (some ⟨w.heap.size + 1, 0, none⟩)] 24)) l 0 := by
  have h1 := heap_alloc_new (w.alloc (.map #[] 0)) (.cells #[.slice none 0 0, .map (some w.heap.size)] 66)
  rw [World.size_alloc] at h1
  have b2 := al ((w.alloc (.map #[] 0)).alloc (.cells #[.slice none 0 0, .map (some w.heap.size)] 66)) (.cells #[.pointer (some ⟨w.heap.size + 1, 0, none⟩)] 24)
  have b1 := al (w.alloc (.map #[] 0)) (.cells #[.slice none 0 0, .map (some w.heap.size)] 66)
  have h2 := heap_alloc_new ((w.alloc (.map #[] 0)).alloc (.cells #[.slice none 0 0, .map (some w.heap.size)] 66)) (.cells #[.pointer (some ⟨w.heap.size + 1, 0, none⟩)] 24)
  rw [World.size_alloc, World.size_alloc] at h2
  refine ⟨(only_below (S := fun _ => False) b2).heap h1 id, by unfold World.cell?; simp only [h2]; rfl, ⟨_, ((World.ownsMap_made (H := TypeId × Value) w Tryz.prog 9 (plainElem Tryz.prog 3)).alloc _).alloc _, by simpa [ofL, ofF] using Tells.nil klS⟩, by simp, ((al w _).alloc (by simp) _).alloc (by simp; omega) _⟩
theorem put0 {w : World} {g : Nat} {x y v : Value} {T : TypeId} (h : w.heap[g]? = some (.cells #[x, y] T (0, 0))) : (w.setCell ⟨g, 0, none⟩ v).heap[g]? = some (.cells #[v, y] T (0, 0)) := by
  rw [heap_setCell_same w g 0 _ _ _ h]; rfl
theorem step_of_list {P : Program} {ops : Array Oper} {o : Oper} {a : Act} {w : World} {K : Act → World → Prop} {Q : Exit → Act → World → Prop} {E : Prop} (hgd : o.guard = none)
    (h : wpList P ops (fun e a' w' => e = .normal ∧ K a' w') [o] a w) : if Region.wanted o (yielded ops a.tmps) = true then Oper.wp P o a w K Q else E := by
  have hw : Region.wanted o (yielded ops a.tmps) = true := by simp [Region.wanted, hgd]
  rw [if_pos hw]
  unfold wpList at h
  rw [if_pos hw] at h
  rcases h with h | ⟨-, a', w', h, -⟩
  · have h1 : Oper.wp P o a w K (fun e a' w' => e = .normal ∧ K a' w') := Oper.wp_mono (fun a w h => h.2) h
    unfold Oper.wp at h1 ⊢
    generalize (execOp a.eval o).run P w = r at h1 ⊢
    cases r with
    | ok n w' =>
      cases n <;> simp only [Oper.upon] at h1 ⊢ <;>
        first
          | exact h1
          | exact Calls.mono h1 (fun e w'' he => by
              cases e
              · exact he
              · exact absurd he.1 (by simp)
              · obtain ⟨a, w, he, _⟩ := he
                exact absurd he (by simp))
          | exact absurd h1.1 (by simp)
    | halt x w' =>
      cases x <;> simp only [Oper.upon] at h1 ⊢ <;> first | exact h1 | exact absurd h1.1 (by simp) | (obtain ⟨a, w, he, _⟩ := h1; exact absurd he (by simp))
  · exact absurd h (by simp)
/-- The Rank behind its row was put down. -/
structure P6 (w w6 : World) (l : List En) (A5 : Option Addr) (c5 : Nat) : Prop where
  hp : w6.heap[w.heap.size + 1]? = some (.cells #[.slice A5 l.length c5, .map (some w.heap.size)] 66 (0, 0))
  own : OwnE w6 w.heap.size (.slice A5 l.length c5) l
  bx : w6.cell? ⟨w.heap.size + 1 + 1, 0, none⟩ = some (.pointer (some ⟨w.heap.size + 1, 0, none⟩))
  vb : ∀ k, (Value.slice A5 l.length c5).ownBlock = some k → w.heap.size + 1 + 1 < k
  mp : ∃ D, Mp w6 w.heap.size l.length D ∧ Tells klS D (ofL l)
  bel : Below w.heap.size w w6
theorem p6_of {w W4 w5 : World} {l : List En} {A5 : Option Addr} {c5 : Nat} (N : Ns w W4 l l.length) (o5 : w5.ownsRow w.heap.size 51 2 (.slice A5 l.length c5) l.length (ents l)) (O5 : Only (fun k => (Value.slice none 0 0).ownBlock = some k) W4 w5)
    (hv5 : (Value.slice A5 l.length c5).ownBlock = (Value.slice none 0 0).ownBlock ∨ (Value.slice A5 l.length c5).ownBlock = some W4.heap.size) : P6 w (w5.setCell ⟨w.heap.size + 1, 0, none⟩ (.slice A5 l.length c5)) l A5 c5 := by
  have hbig := cell_lt N.bx
  simp only at hbig
  have hvb : ∀ k, (Value.slice A5 l.length c5).ownBlock = some k → w.heap.size + 1 + 1 < k := by
    intro k hk
    rcases hv5 with e | e
    · rw [e] at hk; cases hk
    · rw [e] at hk; injection hk with hk; omega
  have hp5 := O5.heap N.hp (fun e => nomatch e)
  have bx5 := O5.cell N.bx (fun e => nomatch e)
  have O6 : Only (fun k => k = w.heap.size + 1) w5 (w5.setCell ⟨w.heap.size + 1, 0, none⟩ (.slice A5 l.length c5)) := (Only.refl (fun k => k = w.heap.size + 1) w5).put (p := ⟨w.heap.size + 1, 0, none⟩) (.inl rfl) _
  obtain ⟨D, hM, hT⟩ := N.mp
  rw [List.take_length] at hT
  have M5 := mp_only hM O5 (fun e => nomatch e)
  have M6 := mp_only M5 O6 (by omega)
  have z1 := O5.after N.bel (Nat.le_refl _) (fun k hk => nomatch hk)
  exact ⟨put0 hp5, own_only o5 O6 (fun k hk e => by have := hvb k hk; omega), O6.cell bx5 (by show ¬ (w.heap.size + 1 + 1 = w.heap.size + 1); omega), hvb, ⟨D, M6, hT⟩, O6.after z1 (Nat.le_refl _) (fun k hk => by omega)⟩
theorem Ns.big {w wr : World} {l : List En} {k : Nat} (h : Ns w wr l k) : w.heap.size + 1 + 1 < wr.heap.size := cell_lt h.bx
theorem wf_of {t : Int} (h : okS t) : (Lit.int .i64 t).wf = true := by
  obtain ⟨h1, h2⟩ := h
  simp only [Lit.wf, Bool.and_eq_true, decide_eq_true_eq]
  exact ⟨(show (-9223372036854775808 : Int) ≤ t by omega), (show t ≤ (9223372036854775807 : Int) by omega)⟩
set_option maxHeartbeats 4000000 in
theorem of_calls (A : Option Addr) (n c : Nat) (l : List En) (w : World) (hr : RdE w A n c l) (hok : ∀ e ∈ l, okk e.2) (hn : n ≤ 1000000000) :
    Calls Tryz.prog 11 #[.slice A n c] w fun e w' => Below w.heap.size w w' ∧ ((¬ (∀ e ∈ l, okS e.1) ∧ e = .returned (.tuple #[.pointer none, .int .i64 120])) ∨ ((∀ e ∈ l, okS e.1) ∧ ¬ (l.map (·.2)).Nodup ∧ e = .returned (.tuple #[.pointer none, .int .i64 100])) ∨
      ((∀ e ∈ l, okS e.1) ∧ (l.map (·.2)).Nodup ∧ ∃ g m v, e = .returned (.tuple #[.pointer (some ⟨g, 0, none⟩), .int .i64 0]) ∧ Rk w' w.heap.size g m v (ofL l) l.length)) := by
  obtain rfl := rde_len hr
  have hmk := mk_hint (l.length : Int) w
  have hst := start_ns w l
  have Hok := Lib.hid hok
  have Hr := Lib.hid hr
  clear hok hr
  have HST := Lib.hid hst
  clear hst
  go_enter Tryz.func11, Tryz.ntmps11
  go_wp2_with fail
  clear hmk
  go_loopw [18] (fun i wr => ∃ k : Nat, i = .int .i64 k ∧ k ≤ l.length ∧ Hid (Ns w wr l 0 ∧ ∀ e ∈ l.take k, okS e.1)) (fun i _ => l.length - (RowKit.intOf i).toNat)
  case atStart => exact ⟨0, rfl, Nat.zero_le _, Lib.hid ⟨HST.out, by simp⟩⟩
  case round =>
    clear HST
    obtain ⟨k, rfl, hk, hX⟩ := hrel
    by_cases hlt : k < l.length
    · obtain ⟨y, hy⟩ : ∃ y, l[k]? = some y := ⟨_, List.getElem?_eq_getElem hlt⟩
      obtain ⟨p, rfl, x0, x1⟩ := rde_get (Hr.out.below hX.out.1.bel) hy
      have Hy := Lib.hid hy
      clear hy
      have hb3 : Below wr.heap.size wr (wr.alloc (eo y)) := al wr _
      have Hb3 := Lib.hid hb3
      clear hb3
      cases hv : decide (okS y.1)
      · have hbad : ¬ (∀ e ∈ l, okS e.1) := fun h => by have := h y (List.mem_of_getElem? Hy.out); rw [decide_eq_true this] at hv; cases hv
        have Hbad := Lib.hid hbad
        have hmp := fun W => mayP_calls y.1 W
        rw [hv] at hmp
        clear hbad hv
        go_wp2_with (go_at_call 30; refine (hmp _).mono ?_; rintro e w3 ⟨rfl, rfl⟩)
        go_ret2
        exact ⟨hX.out.1.bel.trans (Hb3.out.mono hX.out.1.bel.size), .inl ⟨Hbad.out, rfl⟩⟩
      · have hgood : okS y.1 := of_decide_eq_true hv
        have Hgood := Lib.hid hgood
        have hmp := fun W => mayP_calls y.1 W
        rw [hv] at hmp
        clear hgood hv
        go_wp2_with (go_at_call 30; refine (hmp _).mono ?_; rintro e w3 ⟨rfl, rfl⟩)
        exact ⟨⟨k + 1, by simp, by omega, Lib.hid ⟨hX.out.1.below Hb3.out, ok_take Hy.out hX.out.2 Hgood.out⟩⟩, by simp [RowKit.intOf]; omega⟩
    · obtain rfl : k = l.length := by omega
      have hgood : ∀ e ∈ l, okS e.1 := by have := hX.out.2; rwa [List.take_length] at this
      have Hgood := Lib.hid hgood
      have HN := Lib.hid hX.out.1
      clear hgood hX
      go_wp2_with fail
      go_loopw [29] (fun i wr => ∃ k : Nat, i = .int .i64 k ∧ k ≤ l.length ∧ Hid (Ns w wr l k)) (fun i _ => l.length - (RowKit.intOf i).toNat)
      case atStart => exact ⟨0, rfl, Nat.zero_le _, HN⟩
      case round =>
        clear HN
        obtain ⟨k, rfl, hk, N3⟩ := hrel
        by_cases hlt : k < l.length
        · obtain ⟨y, hy⟩ : ∃ y, l[k]? = some y := ⟨_, List.getElem?_eq_getElem hlt⟩
          obtain ⟨p, rfl, x0, x1⟩ := rde_get (Hr.out.below N3.out.bel) hy
          have Hy := Lib.hid hy
          clear hy
          have hb3 : Below wr.heap.size wr (wr.alloc (eo y)) := al wr _
          have n3 := N3.out.below hb3
          have hc3 := n3.cells
          have hbx := n3.bx
          have b30 : (wr.alloc (eo y)).cell? ⟨wr.heap.size, 0, none⟩ = some (.string y.2) := (eo_cells wr y).1
          have b31 : (wr.alloc (eo y)).cell? ⟨wr.heap.size, 1, none⟩ = some (.int .i64 y.1) := (eo_cells wr y).2
          have hlk : ∀ q, (Instr.lookup 64 (.map (some w.heap.size)) (Value.string y.2) true).run Tryz.prog ((wr.alloc (eo y)).drewN q) = .ok (.tuple #[.int .i64 ((dueL (ofL (l.take k)) y.2).getD 0), .bool (dueL (ofL (l.take k)) y.2).isSome]) ((wr.alloc (eo y)).drewN q) :=
            fun q => (n3.below (below_drawn_ (Below.refl _ _) q)).look (Hok.out _ (List.mem_of_getElem? Hy.out))
          obtain ⟨T, hT⟩ : ∃ T, T = (dueL (ofL (l.take k)) y.2).getD 0 := ⟨_, rfl⟩
          rw [← hT] at hlk
          clear hT
          have H3 := Lib.hid (And.intro n3 hb3)
          obtain ⟨hc1, hc2, -⟩ := hc3
          have HB3 := Lib.hid (And.intro b30 b31)
          clear n3 hb3
          obtain ⟨W3, hW3⟩ : ∃ W3, W3 = wr.alloc (eo y) := ⟨_, rfl⟩
          cases hv : (dueL (ofL (l.take k)) y.2).isSome
          · rw [hv] at hlk
            have Hnd := Lib.hid ((nd_take l k y Hy.out N3.out.nd).2 hv)
            clear hv
            go_upto_region 11 with fail
            go_quiet (fail)
            have N4 := H3.out.1.below (below_drawn_ (Below.refl _ _) nq)
            have b40 : ((wr.alloc (eo y)).drewN nq).cell? ⟨wr.heap.size, 0, none⟩ = some (.string y.2) := HB3.out.1
            have b41 : ((wr.alloc (eo y)).drewN nq).cell? ⟨wr.heap.size, 1, none⟩ = some (.int .i64 y.1) := HB3.out.2
            clear hlk hc1 hc2 b30 b31 hbx
            go_upto_region 14 with fail
            refine wp_region_held_drew (S := fun w' => w'.cell? ⟨w.heap.size + 1 + 1, 0, none⟩ = some (.pointer (some ⟨w.heap.size + 1, 0, none⟩)) ∧ w'.cell? ⟨w.heap.size + 1, 1, none⟩ = some (.map (some w.heap.size)) ∧ w'.cell? ⟨wr.heap.size, 0, none⟩ = some (.string y.2) ∧ w'.cell? ⟨wr.heap.size, 1, none⟩ = some (.int .i64 y.1)) (by kernel_rfl) ⟨N4.bx, N4.cells.2.1, b40, b41⟩ (fun hHeld => ?_)
            refine wpAnyH_take (i := 0) (v := ?_) rfl (by kernel_rfl) (by kernel_rfl) (by kernel_rfl) (fun _ _ _ h => h) (Or.inl ⟨by rfl, ?_⟩) (by assumption) ?_
            rotate_left
            · intro wz hSw
              (try dsimp only at hSw)
              first
                | (go_simp; done)
                | (go_simp; with_reducible rfl)
            try simp only [Act.put, List.getElem_toArray, List.getElem_cons_zero, List.getElem_cons_succ, List.setIfInBounds_toArray, List.set_cons_zero, List.set_cons_succ]
            refine wpAnyH_take (i := 1) (v := ?_) rfl (by kernel_rfl) (by kernel_rfl) (by kernel_rfl) (fun _ _ _ h => h) (Or.inl ⟨by rfl, ?_⟩) (by assumption) ?_
            rotate_left
            · intro wz hSw
              (try dsimp only at hSw)
              first
                | (go_simp; done)
                | (go_simp; with_reducible rfl)
            try simp only [Act.put, List.getElem_toArray, List.getElem_cons_zero, List.getElem_cons_succ, List.setIfInBounds_toArray, List.set_cons_zero, List.set_cons_succ]
            refine wpAnyH_take (i := 2) (v := ?_) rfl (by kernel_rfl) (by kernel_rfl) (by kernel_rfl) (fun _ _ _ h => h) (Or.inl ⟨by rfl, ?_⟩) (by assumption) ?_
            rotate_left
            · intro wz hSw
              (try dsimp only at hSw)
              first
                | (go_simp; done)
                | (go_simp; with_reducible rfl)
            try simp only [Act.put, List.getElem_toArray, List.getElem_cons_zero, List.getElem_cons_succ, List.setIfInBounds_toArray, List.set_cons_zero, List.set_cons_succ]
            refine wpAnyH_take (i := 3) (v := ?_) rfl (by kernel_rfl) (by kernel_rfl) (by kernel_rfl) (fun _ _ _ h => h) (Or.inl ⟨by rfl, ?_⟩) (by assumption) ?_
            rotate_left
            · intro wz hSw
              (try dsimp only at hSw)
              first
                | (go_simp; done)
                | (go_simp; with_reducible rfl)
            try simp only [Act.put, List.getElem_toArray, List.getElem_cons_zero, List.getElem_cons_succ, List.setIfInBounds_toArray, List.set_cons_zero, List.set_cons_succ]
            refine wpAnyH_take (i := 4) (v := ?_) rfl (by kernel_rfl) (by kernel_rfl) (by kernel_rfl) (fun _ _ _ h => h) (Or.inl ⟨by rfl, ?_⟩) (by assumption) ?_
            rotate_left
            · intro wz hSw
              (try dsimp only at hSw)
              first
                | (go_simp; done)
                | (go_simp; with_reducible rfl)
            try simp only [Act.put, List.getElem_toArray, List.getElem_cons_zero, List.getElem_cons_succ, List.setIfInBounds_toArray, List.set_cons_zero, List.set_cons_succ]
            refine wpAnyH_take (i := 5) (v := ?_) rfl (by kernel_rfl) (by kernel_rfl) (by kernel_rfl) (fun _ _ _ h => h) (Or.inl ⟨by rfl, ?_⟩) (by assumption) ?_
            rotate_left
            · intro wz hSw
              (try dsimp only at hSw)
              first
                | (go_simp; done)
                | (go_simp; with_reducible rfl)
            try simp only [Act.put, List.getElem_toArray, List.getElem_cons_zero, List.getElem_cons_succ, List.setIfInBounds_toArray, List.set_cons_zero, List.set_cons_succ]
            refine wpAnyH_take (i := 6) (v := ?_) rfl (by kernel_rfl) (by kernel_rfl) (by kernel_rfl) (fun _ _ _ h => h) (Or.inl ⟨by rfl, ?_⟩) (by assumption) ?_
            rotate_left
            · intro wz hSw
              (try dsimp only at hSw)
              first
                | (go_simp; done)
                | (go_simp; with_reducible rfl)
            try simp only [Act.put, List.getElem_toArray, List.getElem_cons_zero, List.getElem_cons_succ, List.setIfInBounds_toArray, List.set_cons_zero, List.set_cons_succ]
            refine wpAnyH_take (i := 7) (v := ?_) rfl (by kernel_rfl) (by kernel_rfl) (by kernel_rfl) (fun _ _ _ h => h) (Or.inl ⟨by rfl, ?_⟩) (by assumption) ?_
            rotate_left
            · intro wz hSw
              (try dsimp only at hSw)
              first
                | (go_simp; done)
                | (go_simp; with_reducible rfl)
            try simp only [Act.put, List.getElem_toArray, List.getElem_cons_zero, List.getElem_cons_succ, List.setIfInBounds_toArray, List.set_cons_zero, List.set_cons_succ]
            obtain ⟨D, hM, hT⟩ := N4.mp
            refine wpAnyH_ready (rs := [8]) (by kernel_rfl) (by simp) ?_
            refine AllReadyH.cons rfl (fun K33 hK33 => ?_) AllReadyH.nil
            refine step_of_list rfl ?_
            refine wpList_mapUpdate_own _ rfl _ _ _ 64 rfl 9 3 keyed Tryz.underlying64 _ w.heap.size k D rfl hM (by unfold maxLen; omega) _ _ (klS y.2) rfl rfl (key_of (Hok.out _ (List.mem_of_getElem? Hy.out))) (.lit (.int .i64 y.1)) [] (plainElem_int Tryz.underlying3 (wf_of (Hgood.out _ (List.mem_of_getElem? Hy.out)))) ?_
            intro w5 hown5 hturn5
            refine ⟨rfl, ?_⟩
            have O5 := Only.of_grown hturn5
            have hbw := N3.out.big
            have hbw2 := N4.bel.size
            have hbw3 : w.heap.size + 1 + 1 < wr.heap.size := hbw
            have hp5 := O5.heap N4.hp (fun e => by injection e with e; exact absurd (show w.heap.size = w.heap.size + 1 from e) (by omega))
            have c5 : w5.cell? ⟨w.heap.size + 1, 1, none⟩ = some (.map (some w.heap.size)) := by unfold World.cell?; simp only [hp5]; rfl
            have bx5 := O5.cell N4.bx (fun e => by injection e with e; exact absurd (show w.heap.size = w.heap.size + 1 + 1 from e) (by omega))
            have b50 := O5.cell b40 (fun e => by injection e with e; exact absurd (show w.heap.size = wr.heap.size from e) (by omega))
            have b51 := O5.cell b41 (fun e => by injection e with e; exact absurd (show w.heap.size = wr.heap.size from e) (by omega))
            refine hK33.out _ _ ⟨bx5, c5, b50, b51⟩ (fun hHeld => ?_)
            clear hK33 K33
            try simp only [Act.put, List.getElem_toArray, List.getElem_cons_zero, List.getElem_cons_succ, List.setIfInBounds_toArray, List.set_cons_zero, List.set_cons_succ]
            refine wpAnyH_done (by kernel_rfl) ?_ _
            have hsrt := (of_facts N4.nd).1
            have hnk : y.2 ∉ (ofL (l.take k)).map (·.2) := by
              have := (nd_take l k y Hy.out N4.nd).1 Hnd.out
              rw [Option.isSome_eq_false_iff, Option.isNone_iff_eq_none, due_none] at this
              exact this
            have hT5 := hT.put keyS linS hM.isMap hsrt y.2 y.1 hnk
            have N5 : Ns w w5 l (k + 1) := ⟨hp5, bx5, ⟨_, hown5, by rw [of_take l k y Hy.out]; exact hT5⟩, Hnd.out, O5.after N4.bel.drew (Nat.le_refl _) (fun b hb => by injection hb with hb; omega)⟩
            have HN5 := Lib.hid N5
            clear N5 hT5 hp5 c5 bx5 b50 b51 hHeld hown5 hturn5 O5
            go_wp2_with fail
            exact ⟨⟨k + 1, by simp, by omega, HN5⟩, by simp [RowKit.intOf]; omega⟩
          · rw [hv] at hlk
            have hno : ¬ (l.map (·.2)).Nodup := fun h => by
              have := (nd_take l k y Hy.out N3.out.nd).1 (nd_of_take h)
              rw [hv] at this; cases this
            have Hno := Lib.hid hno
            clear hv hno
            go_upto_region 11 with fail
            go_quiet (fail)
            go_wp2_with fail
            go_ret2
            exact ⟨N3.out.bel.trans ((H3.out.2.trans ((below_drawn_ (Below.refl _ _) nq).mono H3.out.2.size)).mono N3.out.bel.size), .inr (.inl ⟨Hgood.out, Hno.out, rfl⟩)⟩
        · obtain rfl : k = l.length := by omega
          have hnd : (l.map (·.2)).Nodup := by have := N3.out.nd; rwa [List.take_length] at this
          have Hnd := Lib.hid hnd
          clear hnd
          go_upto_region 16 with fail
          obtain ⟨d1, d2, d3⟩ := N3.out.cells
          have d0 := N3.out.bx
          have mixed : Tryz.prog.follows Departure.mixedOrders = true := by kernel_rfl
          go_cut [] (fun w6 => Hid (∃ A5 c5, P6 w w6 l A5 c5))
          case first =>
            have N4 := N3.out.below ((Below.refl wr.heap.size wr).drew)
            have HN4 := Lib.hid N4
            have hr4 := Hr.out.below N4.bel
            have hsz4 := N4.bel.size
            clear N4 N3
            go_region_law (first
              | (refine step_of_list rfl ?_; refine wpList_app rfl (.tmp 57) (.tmp 58) elE rfl w.heap.size (.slice none 0 0) 0 [] rfl (World.ownsRow_nil _ _ _ _) A l.length c (ents l) rfl hr4 (ents_one _) (by unfold maxLen; omega) (by omega) hsz4 ?_; intro v w5 o5 O5 hv5; obtain ⟨A5, c5, rfl⟩ := own_form o5; simp only [Nat.zero_add, List.nil_append] at o5; have hp5 := O5.heap HN4.out.hp (fun e => nomatch e); have bx5 := O5.cell HN4.out.bx (fun e => nomatch e); have g5 : w5.cell? ⟨w.heap.size + 1, 0, none⟩ = some (.slice none 0 0) := (by unfold World.cell?; simp only [hp5]; rfl); have f5 : w5.frozen? ⟨w.heap.size + 1, 0, none⟩ = false := (by unfold World.frozen?; simp only [hp5]; rfl); rw [Nat.zero_add]; refine ⟨rfl, ?_⟩))
            all_goals (
              go_wp2_with fail
              go_meet
              case rel => exact Lib.hid ⟨A5, c5, p6_of HN4.out (by simpa using o5) O5 (by simpa using hv5)⟩)
          case rest =>
            clear N3 d0 d1 d2 d3
            obtain ⟨A5, c5, q⟩ := hcut.out
            have g6 : wc.cell? ⟨w.heap.size + 1, 0, none⟩ = some (.slice A5 l.length c5) := by have := q.hp; unfold World.cell?; simp only [this]; rfl
            have bx6 := q.bx
            have hsort := sort_calls w.heap.size l.length c5 (w.heap.size + 1 + 1) (w.heap.size + 1) A5 l _ q.own bx6 g6 (fun k hk => by have := q.vb k hk; omega) (by omega)
            have Q := Lib.hid q
            clear q hcut
            go_wp2_with fail
            refine hsort.mono ?_
            clear hsort
            rintro e w7 ⟨rfl, d, hp, hpw, o7, O7⟩
            have hpm := (of_facts Hnd.out).2
            have hof := (of_facts Hnd.out).1
            have hd : d = ofL l := srt_is hof (hp.trans hpm.symm) hpw
            subst hd
            have HOF := Lib.hid (And.intro hpm hof)
            have bx7 := O7.cell bx6 (fun e => by have := Q.out.vb _ e; exact absurd (show w.heap.size + 1 + 1 < w.heap.size + 1 + 1 from this) (by omega))
            have hp7 := O7.heap Q.out.hp (fun e => by have := Q.out.vb _ e; omega)
            have HF := Lib.hid (And.intro hp7 (And.intro o7 O7))
            clear hp7 o7 O7 hp hpw bx6 g6 hpm hof
            go_wp2_with fail
            go_ret2
            obtain ⟨D, hM, hT⟩ := Q.out.mp
            have M7 := mp_only hM HF.out.2.2 (fun e => by have := Q.out.vb _ e; omega)
            have hlen : (ofL l).length = l.length := HOF.out.1.length_eq
            refine ⟨?_, .inr (.inr ⟨Hgood.out, Hnd.out, _, _, _, rfl, ⟨HF.out.1, ⟨D, M7, hT⟩, HF.out.2.1, by omega, Nat.le_refl _, by omega, fun e => by have := Q.out.vb _ e; omega, fun e => by have := Q.out.vb _ e; omega, HOF.out.2, by omega, fun e he => Hgood.out e (HOF.out.1.mem_iff.1 he), fun e he => Hok.out e (HOF.out.1.mem_iff.1 he)⟩⟩)⟩
            exact HF.out.2.2.after Q.out.bel (Nat.le_refl _) (fun k hk => by have := Q.out.vb _ hk; omega)
end Go.Proofs.YtakhcfemakapbaaGreatDoor.RkL
