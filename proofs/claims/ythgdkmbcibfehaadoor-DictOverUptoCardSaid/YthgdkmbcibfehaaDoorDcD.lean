/-
  Of. Conditions: as stated.
-/
import Derived.Test.YthgdkmbcibfehaaDoorDcC
import Derived.Deep.QuietTactic
import Derived.BigQuiet
import Derived.Laws.Cover1
set_option maxRecDepth 100000
set_option linter.unusedSimpArgs false
set_option linter.unusedVariables false
namespace Go.Proofs.YthgdkmbcibfehaaDoor.DcD
open Go.RowKit Go.Lib Go.Proofs.YthgdkmbcibfehaaDoor.Mem Go.Proofs.YthgdkmbcibfehaaDoor.NumA Go.Proofs.YthgdkmbcibfehaaDoor.NumB Go.Proofs.YthgdkmbcibfehaaDoor.NumC Go.Proofs.YthgdkmbcibfehaaDoor.NumE Go.Proofs.YthgdkmbcibfehaaDoor.DcA Go.Proofs.YthgdkmbcibfehaaDoor.DcB Go.Proofs.YthgdkmbcibfehaaDoor.DcC

def flds (l : List Fld) : List Value := l.flatMap fun f => [.string f.1, .string f.2]
abbrev RdF (w : World) (A : Option Addr) (n c : Nat) (l : List Fld) : Prop := Rd w 2 A n c (flds l)
theorem flds_len (l : List Fld) : (flds l).length = l.length * 2 := by
  unfold flds
  induction l with
  | nil => rfl
  | cons f l ih => simp only [List.flatMap_cons, List.length_append, List.length_cons, List.length_nil, ih]; omega
theorem flds_get : ∀ (l : List Fld) (i : Nat) (f : Fld), l[i]? = some f → (flds l)[i * 2]? = some (.string f.1) ∧ (flds l)[i * 2 + 1]? = some (.string f.2)
  | [], i, f, h => by cases h
  | g :: l, 0, f, h => by injection h with h; subst h; exact ⟨rfl, rfl⟩
  | g :: l, i + 1, f, h => by
    obtain ⟨h1, h2⟩ := flds_get l i f h
    rw [show (i + 1) * 2 = i * 2 + 2 by omega]
    exact ⟨h1, h2⟩
theorem rdf_len {w : World} {A : Option Addr} {n c : Nat} {l : List Fld} (h : RdF w A n c l) : l.length = n := by have := h.len; rw [flds_len] at this; omega
theorem rdf_get {w : World} {A : Option Addr} {n c : Nat} {l : List Fld} (h : RdF w A n c l) {i : Nat} {f : Fld} (hf : l[i]? = some f) :
    ∃ p, A = some p ∧ w.cell? (p.add (i * 2)) = some (.string f.1) ∧ w.cell? ⟨(p.add (i * 2)).block, (p.add (i * 2)).off + 1, none⟩ = some (.string f.2) := by
  obtain ⟨h1, h2⟩ := flds_get l i f hf
  obtain ⟨p, rfl, c1⟩ := h.get _ _ h1
  obtain ⟨q, e, c2⟩ := h.get _ _ h2
  injection e with e; subst e
  refine ⟨p, rfl, c1, ?_⟩
  rw [← c2, ← add_add]
  congr 1
theorem ris_snoc {l : List Fld} {k : Nat} {f : Fld} (hf : l[k]? = some f) (hr : Ris (l.take k)) : Ris (l.take (k + 1)) ↔ (k = 0 ∨ ∃ e, l[k - 1]? = some e ∧ ltS e.1 f.1 = true) := by
  obtain ⟨hk, hfe⟩ := List.getElem?_eq_some_iff.1 hf
  rw [List.take_succ_eq_append_getElem hk, hfe]
  unfold Ris at *
  rw [List.pairwise_append]
  constructor
  · intro ⟨_, _, h⟩
    by_cases h0 : k = 0
    · exact .inl h0
    · have hk1 : k - 1 < l.length := by omega
      refine .inr ⟨l[k - 1], List.getElem?_eq_getElem hk1, h _ ?_ f (by simp)⟩
      rw [List.mem_take_iff_getElem]
      exact ⟨k - 1, by omega, rfl⟩
  · intro h
    refine ⟨hr, List.pairwise_singleton _ _, fun a ha b hb => ?_⟩
    rw [List.mem_singleton] at hb
    subst hb
    rcases h with h | ⟨e, he, hlt⟩
    · subst h; simp at ha
    · rw [List.mem_take_iff_getElem] at ha
      obtain ⟨i, hi, hia⟩ := ha
      obtain ⟨hk1, hee⟩ := List.getElem?_eq_some_iff.1 he
      by_cases hik : i = k - 1
      · subst hik; rw [← hia, hee]; exact hlt
      · have := List.pairwise_iff_getElem.1 hr i (k - 1) (by simp; omega) (by simp; omega) (by omega)
        simp only [List.getElem_take] at this
        rw [← hia]
        rw [hee] at this
        exact lt_tr this hlt
theorem set_last : ∀ {l : List Fld} {k v : ByteArray}, (∀ g ∈ l, ltS g.1 k = true) → setL l k v = l ++ [(k, v)]
  | [], k, v, _ => rfl
  | g :: l, k, v, h => by
    have hg := h g (by simp)
    unfold setL
    rw [if_neg (lt_ne hg), if_neg (by rw [lt_asym hg]; simp), set_last (fun x hx => h x (by simp [hx]))]
    rfl
theorem set_take {l : List Fld} {k : Nat} {f : Fld} (hf : l[k]? = some f) (hr : Ris (l.take (k + 1))) : setL (l.take k) f.1 f.2 = l.take (k + 1) := by
  obtain ⟨hk, hfe⟩ := List.getElem?_eq_some_iff.1 hf
  rw [List.take_succ_eq_append_getElem hk, hfe] at hr ⊢
  unfold Ris at hr
  rw [List.pairwise_append] at hr
  exact set_last (fun g hg => hr.2.2 g hg f (by simp))
theorem make_hint (hint : Int) (w : World) : (Instr.makeMap 59 (some (.int .i64 hint))).run Tryd.prog w = .ok (.map (some w.heap.size)) (w.alloc (.map #[] 0)) := by
  simp [Instr.makeMap, run_underlying Tryd.underlying59, asInt, asIntOf, Result.andThen]
theorem below_drawn_' {w : World} (n : Nat) : Below (w.heap.size) w (w.drewN n) := ⟨rfl, rfl, rfl, Nat.le_refl _, fun _ _ => rfl⟩
theorem ris_take {l : List Fld} (h : Ris l) (k : Nat) : Ris (l.take k) := List.Pairwise.sublist (List.take_sublist k l) h
set_option maxHeartbeats 4000000 in
theorem of_calls (A : Option Addr) (n c : Nat) (l : List Fld) (w : World) (hr : RdF w A n c l) (hok : ∀ f ∈ l, okk f.1 ∧ okk f.2) (hn : n ≤ 100000000) :
    Calls Tryd.prog 8 #[.slice A n c] w fun e w' => Below w.heap.size w w' ∧ ((Ris l ∧ ∃ g m, e = .returned (.tuple #[.pointer (some ⟨g, 0, none⟩), .int .i64 0]) ∧ Dc w' w.heap.size g m l l.length) ∨ (¬ Ris l ∧ e = .returned (.tuple #[.pointer none, .int .i64 100]))) := by
  obtain rfl := rdf_len hr
  have hcap := hr.cap
  have hbig : c ≤ 9223372036854775807 := hr.big
  have Hr := Lib.hid hr
  have Hok := Lib.hid hok
  clear hr hok
  have hmk := make_hint (l.length : Int) w
  go_enter Tryd.func8, Tryd.ntmps8
  go_wp2_with fail
  clear hmk
  have D0 : Dc ((w.alloc (.map #[] 0)).alloc (.cells #[.map (some w.heap.size)] 61)) w.heap.size (w.heap.size + 1) w.heap.size (l.take 0) 0 := by
    refine ⟨by rw [show w.heap.size + 1 = (w.alloc (.map #[] 0)).heap.size by simp]; exact heap_alloc_new _ _, ⟨.map [], (World.ownsMap_made w _ _ _).alloc _, ?_⟩, by omega, Nat.le_refl _, by omega, List.Pairwise.nil, Nat.le_refl _⟩
    exact Tells.nil
  have B0 := ((Below.refl w.heap.size w).alloc (Nat.le_refl _) (.map #[] 0)).alloc (by simp) (.cells #[.map (some w.heap.size)] 61)
  have HD0 := Lib.hid D0
  have HB0 := Lib.hid B0
  clear D0 B0
  go_loopw [14] (fun i wr => ∃ k : Nat, k ≤ l.length ∧ i = .int .i64 k ∧ Ris (l.take k) ∧ Dc wr w.heap.size (w.heap.size + 1) w.heap.size (l.take k) k ∧ Below w.heap.size w wr) (fun i _ => l.length - (RowKit.intOf i).toNat)
  case atStart => exact ⟨0, Nat.zero_le _, rfl, List.Pairwise.nil, HD0.out, HB0.out⟩
  case round =>
    clear HD0 HB0
    obtain ⟨k, hk, rfl, hrk, hd, hb⟩ := hrel
    have Hrk := Lib.hid hrk
    have Hd := Lib.hid hd
    have Hb := Lib.hid hb
    clear hrk hd hb
    by_cases hlt : k < l.length
    · obtain ⟨f, hf⟩ : ∃ f, l[k]? = some f := ⟨_, List.getElem?_eq_getElem hlt⟩
      have hfk := Hok.out f (List.mem_of_getElem? hf)
      obtain ⟨p, rfl, x0, x1⟩ := rdf_get (Hr.out.below Hb.out) hf
      have Hf := Lib.hid hf
      have Hfk := Lib.hid hfk
      clear hf hfk
      obtain ⟨W3, hW3⟩ : ∃ W3, W3 = wr.alloc (.cells #[.string f.1, .string f.2] 52) := ⟨_, rfl⟩
      have hbox3 : W3.heap[wr.heap.size]? = some (.cells #[.string f.1, .string f.2] 52 (0, 0)) := by rw [hW3]; exact heap_alloc_new wr _
      have b3 : Below wr.heap.size wr W3 := by rw [hW3]; exact (Below.refl _ _).alloc (Nat.le_refl _) _
      have b30 : W3.cell? ⟨wr.heap.size, 0, none⟩ = some (.string f.1) := by unfold World.cell?; simp only [hbox3]; rfl
      have b31 : W3.cell? ⟨wr.heap.size, 1, none⟩ = some (.string f.2) := by unfold World.cell?; simp only [hbox3]; rfl
      have Hbox3 := Lib.hid hbox3
      have Hb3 := Lib.hid b3
      clear hbox3 b3
      by_cases hk0 : k = 0
      · have hd0 : decide ((0 : Int) < (k : Int)) = false := by rw [hk0]; rfl
        have HK0 := Lib.hid hk0
        have hr1 : Ris (l.take (k + 1)) := (ris_snoc Hf.out Hrk.out).2 (.inl hk0)
        have Hr1 := Lib.hid hr1
        clear hr1 hk0
        go_upto_region 5 with fail
        rw [← hW3]
        refine wp_region_held_drew (S := fun w' => w'.cell? ⟨wr.heap.size, 0, none⟩ = some (.string f.1)) (by kernel_rfl) (b30) (fun hHeld => ?_)
        refine wpAnyH_take (i := 0) (v := ?_) rfl (by kernel_rfl) (by kernel_rfl) (by kernel_rfl) (fun _ _ _ h => h) (Or.inl ⟨by rfl, ?_⟩) (by assumption) ?_
        rotate_left
        · intro wz hSw
          (try dsimp only at hSw)
          first
            | (go_simp; done)
            | (go_simp; with_reducible rfl)
        try simp only [Act.put, List.getElem_toArray, List.getElem_cons_zero, List.getElem_cons_succ, List.setIfInBounds_toArray, List.set_cons_zero, List.set_cons_succ]
        refine wpAnyH_take (i := 1) (v := .bool false) rfl (by kernel_rfl) (by kernel_rfl) (by kernel_rfl) (fun _ _ _ h => h) (Or.inl ⟨by rfl, ?_⟩) (by assumption) ?_
        · intro wz hSw
          (try dsimp only at hSw)
          first
            | (go_simp; done)
            | (go_simp; omega)
            | (go_simp; exact hd0)
            | (go_simp; simp [HK0.out])
        try simp only [Act.put, List.getElem_toArray, List.getElem_cons_zero, List.getElem_cons_succ, List.setIfInBounds_toArray, List.set_cons_zero, List.set_cons_succ]
        refine wpAnyH_take (i := 2) (v := ?_) rfl (by kernel_rfl) (by kernel_rfl) (by kernel_rfl) (fun _ _ _ h => h) (Or.inl ⟨by rfl, ?_⟩) (by assumption) ?_
        rotate_left
        · intro wz hSw
          (try dsimp only at hSw)
          first
            | (go_simp; done)
            | (go_simp; with_reducible rfl)
        try simp only [Act.put, List.getElem_toArray, List.getElem_cons_zero, List.getElem_cons_succ, List.setIfInBounds_toArray, List.set_cons_zero, List.set_cons_succ]
        refine wpAnyH_take (i := 3) (v := undef) rfl (by kernel_rfl) (by kernel_rfl) (by kernel_rfl) (fun _ _ _ h => h) (Or.inr ⟨by rfl, rfl⟩) (by assumption) ?_
        try simp only [Act.put, List.getElem_toArray, List.getElem_cons_zero, List.getElem_cons_succ, List.setIfInBounds_toArray, List.set_cons_zero, List.set_cons_succ]
        refine wpAnyH_take (i := 4) (v := undef) rfl (by kernel_rfl) (by kernel_rfl) (by kernel_rfl) (fun _ _ _ h => h) (Or.inr ⟨by rfl, rfl⟩) (by assumption) ?_
        try simp only [Act.put, List.getElem_toArray, List.getElem_cons_zero, List.getElem_cons_succ, List.setIfInBounds_toArray, List.set_cons_zero, List.set_cons_succ]
        refine wpAnyH_take (i := 5) (v := undef) rfl (by kernel_rfl) (by kernel_rfl) (by kernel_rfl) (fun _ _ _ h => h) (Or.inr ⟨by rfl, rfl⟩) (by assumption) ?_
        try simp only [Act.put, List.getElem_toArray, List.getElem_cons_zero, List.getElem_cons_succ, List.setIfInBounds_toArray, List.set_cons_zero, List.set_cons_succ]
        refine wpAnyH_take (i := 6) (v := undef) rfl (by kernel_rfl) (by kernel_rfl) (by kernel_rfl) (fun _ _ _ h => h) (Or.inr ⟨by rfl, rfl⟩) (by assumption) ?_
        try simp only [Act.put, List.getElem_toArray, List.getElem_cons_zero, List.getElem_cons_succ, List.setIfInBounds_toArray, List.set_cons_zero, List.set_cons_succ]
        refine wpAnyH_take (i := 7) (v := undef) rfl (by kernel_rfl) (by kernel_rfl) (by kernel_rfl) (fun _ _ _ h => h) (Or.inr ⟨by rfl, rfl⟩) (by assumption) ?_
        try simp only [Act.put, List.getElem_toArray, List.getElem_cons_zero, List.getElem_cons_succ, List.setIfInBounds_toArray, List.set_cons_zero, List.set_cons_succ]
        refine wpAnyH_take (i := 8) (v := undef) rfl (by kernel_rfl) (by kernel_rfl) (by kernel_rfl) (fun _ _ _ h => h) (Or.inr ⟨by rfl, rfl⟩) (by assumption) ?_
        try simp only [Act.put, List.getElem_toArray, List.getElem_cons_zero, List.getElem_cons_succ, List.setIfInBounds_toArray, List.set_cons_zero, List.set_cons_succ]
        refine wpAnyH_take (i := 9) (v := undef) rfl (by kernel_rfl) (by kernel_rfl) (by kernel_rfl) (fun _ _ _ h => h) (Or.inr ⟨by rfl, rfl⟩) (by assumption) ?_
        try simp only [Act.put, List.getElem_toArray, List.getElem_cons_zero, List.getElem_cons_succ, List.setIfInBounds_toArray, List.set_cons_zero, List.set_cons_succ]
        refine wpAnyH_take (i := 10) (v := undef) rfl (by kernel_rfl) (by kernel_rfl) (by kernel_rfl) (fun _ _ _ h => h) (Or.inr ⟨by rfl, rfl⟩) (by assumption) ?_
        try simp only [Act.put, List.getElem_toArray, List.getElem_cons_zero, List.getElem_cons_succ, List.setIfInBounds_toArray, List.set_cons_zero, List.set_cons_succ]
        refine wpAnyH_take (i := 11) (v := undef) rfl (by kernel_rfl) (by kernel_rfl) (by kernel_rfl) (fun _ _ _ h => h) (Or.inr ⟨by rfl, rfl⟩) (by assumption) ?_
        try simp only [Act.put, List.getElem_toArray, List.getElem_cons_zero, List.getElem_cons_succ, List.setIfInBounds_toArray, List.set_cons_zero, List.set_cons_succ]
        refine wpAnyH_take (i := 12) (v := ?_) rfl (by kernel_rfl) (by kernel_rfl) (by kernel_rfl) (fun _ _ _ h => h) (Or.inl ⟨by rfl, ?_⟩) (by assumption) ?_
        rotate_left
        · intro wz hSw
          (try dsimp only at hSw)
          first
            | (go_simp; done)
            | (go_simp; with_reducible rfl)
        try simp only [Act.put, List.getElem_toArray, List.getElem_cons_zero, List.getElem_cons_succ, List.setIfInBounds_toArray, List.set_cons_zero, List.set_cons_succ]
        refine wpAnyH_done (by kernel_rfl) ?_ _
        go_upto_region 7 with fail
        have H3 := (Hd.out.below Hb3.out).below (below_drawn_' 2)
        have hbox := Hbox3.out
        have hfk := Hfk.out
        clear hHeld
        refine wp_region_held_drew (S := fun w' => w'.cell? ⟨w.heap.size + 1, 0, none⟩ = some (.map (some w.heap.size)) ∧ w'.cell? ⟨wr.heap.size, 0, none⟩ = some (.string f.1) ∧ w'.cell? ⟨wr.heap.size, 1, none⟩ = some (.string f.2)) (by kernel_rfl) ⟨H3.cell, b30, b31⟩ (fun hHeld => ?_)
        refine wpAnyH_take (i := 0) (v := ?_) rfl (by kernel_rfl) (by kernel_rfl) (by kernel_rfl) (fun _ _ _ h => h) (Or.inl ⟨by rfl, ?_⟩) (by assumption) ?_
        rotate_left
        · intro wz hSw
          (try dsimp only at hSw)
          first
            | (go_simp; done)
            | (go_simp; with_reducible rfl)
        try simp only [Act.put, List.getElem_toArray, List.getElem_cons_zero, List.getElem_cons_succ, List.setIfInBounds_toArray, List.set_cons_zero, List.set_cons_succ]
        refine wpAnyH_take (i := 1) (v := ?_) rfl (by kernel_rfl) (by kernel_rfl) (by kernel_rfl) (fun _ _ _ h => h) (Or.inl ⟨by rfl, ?_⟩) (by assumption) ?_
        rotate_left
        · intro wz hSw
          (try dsimp only at hSw)
          first
            | (go_simp; done)
            | (go_simp; with_reducible rfl)
        try simp only [Act.put, List.getElem_toArray, List.getElem_cons_zero, List.getElem_cons_succ, List.setIfInBounds_toArray, List.set_cons_zero, List.set_cons_succ]
        refine wpAnyH_take (i := 2) (v := ?_) rfl (by kernel_rfl) (by kernel_rfl) (by kernel_rfl) (fun _ _ _ h => h) (Or.inl ⟨by rfl, ?_⟩) (by assumption) ?_
        rotate_left
        · intro wz hSw
          (try dsimp only at hSw)
          first
            | (go_simp; done)
            | (go_simp; with_reducible rfl)
        try simp only [Act.put, List.getElem_toArray, List.getElem_cons_zero, List.getElem_cons_succ, List.setIfInBounds_toArray, List.set_cons_zero, List.set_cons_succ]
        refine wpAnyH_take (i := 3) (v := ?_) rfl (by kernel_rfl) (by kernel_rfl) (by kernel_rfl) (fun _ _ _ h => h) (Or.inl ⟨by rfl, ?_⟩) (by assumption) ?_
        rotate_left
        · intro wz hSw
          (try dsimp only at hSw)
          first
            | (go_simp; done)
            | (go_simp; with_reducible rfl)
        try simp only [Act.put, List.getElem_toArray, List.getElem_cons_zero, List.getElem_cons_succ, List.setIfInBounds_toArray, List.set_cons_zero, List.set_cons_succ]
        refine wpAnyH_take (i := 4) (v := ?_) rfl (by kernel_rfl) (by kernel_rfl) (by kernel_rfl) (fun _ _ _ h => h) (Or.inl ⟨by rfl, ?_⟩) (by assumption) ?_
        rotate_left
        · intro wz hSw
          (try dsimp only at hSw)
          first
            | (go_simp; done)
            | (go_simp; with_reducible rfl)
        try simp only [Act.put, List.getElem_toArray, List.getElem_cons_zero, List.getElem_cons_succ, List.setIfInBounds_toArray, List.set_cons_zero, List.set_cons_succ]
        refine wpAnyH_take (i := 5) (v := ?_) rfl (by kernel_rfl) (by kernel_rfl) (by kernel_rfl) (fun _ _ _ h => h) (Or.inl ⟨by rfl, ?_⟩) (by assumption) ?_
        rotate_left
        · intro wz hSw
          (try dsimp only at hSw)
          first
            | (go_simp; done)
            | (go_simp; with_reducible rfl)
        try simp only [Act.put, List.getElem_toArray, List.getElem_cons_zero, List.getElem_cons_succ, List.setIfInBounds_toArray, List.set_cons_zero, List.set_cons_succ]
        refine wpAnyH_take (i := 6) (v := ?_) rfl (by kernel_rfl) (by kernel_rfl) (by kernel_rfl) (fun _ _ _ h => h) (Or.inl ⟨by rfl, ?_⟩) (by assumption) ?_
        rotate_left
        · intro wz hSw
          (try dsimp only at hSw)
          first
            | (go_simp; done)
            | (go_simp; with_reducible rfl)
        try simp only [Act.put, List.getElem_toArray, List.getElem_cons_zero, List.getElem_cons_succ, List.setIfInBounds_toArray, List.set_cons_zero, List.set_cons_succ]
        refine wpAnyH_take (i := 7) (v := ?_) rfl (by kernel_rfl) (by kernel_rfl) (by kernel_rfl) (fun _ _ _ h => h) (Or.inl ⟨by rfl, ?_⟩) (by assumption) ?_
        rotate_left
        · intro wz hSw
          (try dsimp only at hSw)
          first
            | (go_simp; done)
            | (go_simp; with_reducible rfl)
        try simp only [Act.put, List.getElem_toArray, List.getElem_cons_zero, List.getElem_cons_succ, List.setIfInBounds_toArray, List.set_cons_zero, List.set_cons_succ]
        obtain ⟨D, hM, hT⟩ := H3.mp
        refine wpAnyH_ready (rs := [8]) (by kernel_rfl) (by simp) ?_
        refine AllReadyH.cons rfl (fun K33 hK33 => ?_) AllReadyH.nil
        refine step_of_list rfl ?_
        refine wpList_mapUpdate_own _ rfl _ _ _ 59 rfl 9 9 keyed Tryd.underlying59 _ w.heap.size k D rfl hM (by unfold maxLen; omega) _ _ (klS f.1) rfl rfl (key_of hfk.1) (.lit (.string f.2.data.toList)) [] (plainElem_string Tryd.underlying9 hfk.2) ?_
        intro w4 hown4 hturn4
        refine ⟨rfl, ?_⟩
        have O4 := Only.of_grown hturn4
        have hp4 := O4.heap H3.hp (fun e => by injection e with e; exact H3.gm e.symm)
        have c4 : w4.cell? ⟨w.heap.size + 1, 0, none⟩ = some (.map (some w.heap.size)) := by unfold World.cell?; simp only [hp4]; rfl
        have hx4 := O4.heap hbox (fun e => by injection e with e; have := H3.lt.2; have := Hd.out.lt.2; omega)
        have b40 : w4.cell? ⟨wr.heap.size, 0, none⟩ = some (.string f.1) := by unfold World.cell?; simp only [hx4]; rfl
        have b41 : w4.cell? ⟨wr.heap.size, 1, none⟩ = some (.string f.2) := by unfold World.cell?; simp only [hx4]; rfl
        refine hK33.out _ _ ⟨c4, b40, b41⟩ (fun hHeld => ?_)
        clear hK33 K33
        try simp only [Act.put, List.getElem_toArray, List.getElem_cons_zero, List.getElem_cons_succ, List.setIfInBounds_toArray, List.set_cons_zero, List.set_cons_succ]
        refine wpAnyH_done (by kernel_rfl) ?_ _
        have hT4 := hT.put (hM.tidy keyed) H3.ris f.1 f.2
        rw [set_take Hf.out Hr1.out] at hT4
        have hbel := O4.after (Hb.out.trans ((Hb3.out.mono Hb.out.size).trans ((below_drawn_' 2).mono (Nat.le_trans Hb.out.size Hb3.out.size)))) (Nat.le_refl _) (fun b hb => by injection hb with hb; omega)
        have HH := Lib.hid (And.intro hp4 (And.intro hown4 (And.intro hT4 hbel)))
        clear hp4 hown4 hT4 hbel c4 hx4 b40 b41 hHeld
        go_wp2_with fail
        refine ⟨⟨k + 1, by omega, by go_num, Hr1.out, ⟨HH.out.1, ⟨_, HH.out.2.1, HH.out.2.2.1⟩, H3.gB, H3.mB, H3.gm, Hr1.out, by rw [List.length_take]; omega⟩, HH.out.2.2.2⟩, by simp [RowKit.intOf]; omega⟩
      · have hd0 : decide ((0 : Int) < (k : Int)) = true := decide_eq_true (by omega)
        have HK0 := Lib.hid hk0
        have HK0 := Lib.hid hk0
        have hkpos : (1 : Int) ≤ (k : Int) := by omega
        obtain ⟨j, hj⟩ : ∃ j, j = k - 1 := ⟨_, rfl⟩
        obtain ⟨e, he⟩ : ∃ e, l[j]? = some e := ⟨_, List.getElem?_eq_getElem (by omega)⟩
        obtain ⟨q, eq, y0, y1⟩ := rdf_get ((Hr.out.below Hb.out).below Hb3.out) he
        injection eq with eq; subst eq
        have hkm : (k : Int) - 1 = (j : Int) := by omega
        have hjw : IntKind.i64.wrap (j : Int) = (j : Int) := by rw [IntKind.wrap_i64]; omega
        have hj0 : (0 : Int) ≤ (j : Int) := by omega
        have hjl : (j : Int) < (l.length : Int) := by omega
        have Hj := Lib.hid hj
        clear hj
        have He := Lib.hid he
        clear he
        cases hcmp : ltS e.1 f.1
        · have hno : ¬ Ris (l.take (k + 1)) := fun h => by
            rcases (ris_snoc Hf.out Hrk.out).1 h with h | ⟨e', h1, h2⟩
            · exact hk0 h
            · rw [← Hj.out, He.out] at h1; injection h1 with h1; subst h1; rw [hcmp] at h2; cases h2
          have Hno := Lib.hid hno
          unfold ltS at hcmp
          clear hno hk0
          go_upto_region 5 with fail
          rw [← hW3]
          refine wp_region_held_drew (S := fun w' => w'.cell? (p.add (j * 2)) = some (.string e.1) ∧ w'.cell? ⟨wr.heap.size, 0, none⟩ = some (.string f.1)) (by kernel_rfl) (⟨y0, b30⟩) (fun hHeld => ?_)
          refine wpAnyH_take (i := 0) (v := ?_) rfl (by kernel_rfl) (by kernel_rfl) (by kernel_rfl) (fun _ _ _ h => h) (Or.inl ⟨by rfl, ?_⟩) (by assumption) ?_
          rotate_left
          · intro wz hSw
            (try dsimp only at hSw)
            first
              | (go_simp; done)
              | (go_simp; with_reducible rfl)
          try simp only [Act.put, List.getElem_toArray, List.getElem_cons_zero, List.getElem_cons_succ, List.setIfInBounds_toArray, List.set_cons_zero, List.set_cons_succ]
          refine wpAnyH_take (i := 1) (v := .bool true) rfl (by kernel_rfl) (by kernel_rfl) (by kernel_rfl) (fun _ _ _ h => h) (Or.inl ⟨by rfl, ?_⟩) (by assumption) ?_
          · intro wz hSw
            (try dsimp only at hSw)
            first
              | (go_simp; done)
              | (go_simp; omega)
              | (go_simp; exact hd0)
              | (go_simp; simp [HK0.out])
          try simp only [Act.put, List.getElem_toArray, List.getElem_cons_zero, List.getElem_cons_succ, List.setIfInBounds_toArray, List.set_cons_zero, List.set_cons_succ]
          refine wpAnyH_take (i := 2) (v := ?_) rfl (by kernel_rfl) (by kernel_rfl) (by kernel_rfl) (fun _ _ _ h => h) (Or.inl ⟨by rfl, ?_⟩) (by assumption) ?_
          rotate_left
          · intro wz hSw
            (try dsimp only at hSw)
            first
              | (go_simp; done)
              | (go_simp; with_reducible rfl)
          try simp only [Act.put, List.getElem_toArray, List.getElem_cons_zero, List.getElem_cons_succ, List.setIfInBounds_toArray, List.set_cons_zero, List.set_cons_succ]
          refine wpAnyH_take (i := 3) (v := ?_) rfl (by kernel_rfl) (by kernel_rfl) (by kernel_rfl) (fun _ _ _ h => h) (Or.inl ⟨by rfl, ?_⟩) (by assumption) ?_
          rotate_left
          · intro wz hSw
            (try dsimp only at hSw)
            first
              | (go_simp; done)
              | (go_simp; with_reducible rfl)
          try simp only [Act.put, List.getElem_toArray, List.getElem_cons_zero, List.getElem_cons_succ, List.setIfInBounds_toArray, List.set_cons_zero, List.set_cons_succ]
          refine wpAnyH_take (i := 4) (v := ?_) rfl (by kernel_rfl) (by kernel_rfl) (by kernel_rfl) (fun _ _ _ h => h) (Or.inl ⟨by rfl, ?_⟩) (by assumption) ?_
          rotate_left
          · intro wz hSw
            (try dsimp only at hSw)
            first
              | (go_simp; done)
              | (go_simp; with_reducible rfl)
          try simp only [Act.put, List.getElem_toArray, List.getElem_cons_zero, List.getElem_cons_succ, List.setIfInBounds_toArray, List.set_cons_zero, List.set_cons_succ]
          refine wpAnyH_take (i := 5) (v := ?_) rfl (by kernel_rfl) (by kernel_rfl) (by kernel_rfl) (fun _ _ _ h => h) (Or.inl ⟨by rfl, ?_⟩) (by assumption) ?_
          rotate_left
          · intro wz hSw
            (try dsimp only at hSw)
            first
              | (go_simp; done)
              | (go_simp; with_reducible rfl)
          try simp only [Act.put, List.getElem_toArray, List.getElem_cons_zero, List.getElem_cons_succ, List.setIfInBounds_toArray, List.set_cons_zero, List.set_cons_succ]
          refine wpAnyH_take (i := 6) (v := ?_) rfl (by kernel_rfl) (by kernel_rfl) (by kernel_rfl) (fun _ _ _ h => h) (Or.inl ⟨by rfl, ?_⟩) (by assumption) ?_
          rotate_left
          · intro wz hSw
            (try dsimp only at hSw)
            first
              | (go_simp; done)
              | (go_simp; with_reducible rfl)
          try simp only [Act.put, List.getElem_toArray, List.getElem_cons_zero, List.getElem_cons_succ, List.setIfInBounds_toArray, List.set_cons_zero, List.set_cons_succ]
          refine wpAnyH_take (i := 7) (v := ?_) rfl (by kernel_rfl) (by kernel_rfl) (by kernel_rfl) (fun _ _ _ h => h) (Or.inl ⟨by rfl, ?_⟩) (by assumption) ?_
          rotate_left
          · intro wz hSw
            (try dsimp only at hSw)
            first
              | (go_simp; done)
              | (go_simp; with_reducible rfl)
          try simp only [Act.put, List.getElem_toArray, List.getElem_cons_zero, List.getElem_cons_succ, List.setIfInBounds_toArray, List.set_cons_zero, List.set_cons_succ]
          refine wpAnyH_take (i := 8) (v := ?_) rfl (by kernel_rfl) (by kernel_rfl) (by kernel_rfl) (fun _ _ _ h => h) (Or.inl ⟨by rfl, ?_⟩) (by assumption) ?_
          rotate_left
          · intro wz hSw
            (try dsimp only at hSw)
            first
              | (go_simp; done)
              | (go_simp; with_reducible rfl)
          try simp only [Act.put, List.getElem_toArray, List.getElem_cons_zero, List.getElem_cons_succ, List.setIfInBounds_toArray, List.set_cons_zero, List.set_cons_succ]
          refine wpAnyH_take (i := 9) (v := ?_) rfl (by kernel_rfl) (by kernel_rfl) (by kernel_rfl) (fun _ _ _ h => h) (Or.inl ⟨by rfl, ?_⟩) (by assumption) ?_
          rotate_left
          · intro wz hSw
            (try dsimp only at hSw)
            first
              | (go_simp; done)
              | (go_simp; with_reducible rfl)
          try simp only [Act.put, List.getElem_toArray, List.getElem_cons_zero, List.getElem_cons_succ, List.setIfInBounds_toArray, List.set_cons_zero, List.set_cons_succ]
          refine wpAnyH_take (i := 10) (v := ?_) rfl (by kernel_rfl) (by kernel_rfl) (by kernel_rfl) (fun _ _ _ h => h) (Or.inl ⟨by rfl, ?_⟩) (by assumption) ?_
          rotate_left
          · intro wz hSw
            (try dsimp only at hSw)
            first
              | (go_simp; done)
              | (go_simp; with_reducible rfl)
          try simp only [Act.put, List.getElem_toArray, List.getElem_cons_zero, List.getElem_cons_succ, List.setIfInBounds_toArray, List.set_cons_zero, List.set_cons_succ]
          refine wpAnyH_take (i := 11) (v := .bool true) rfl (by kernel_rfl) (by kernel_rfl) (by kernel_rfl) (fun _ _ _ h => h) (Or.inl ⟨by rfl, ?_⟩) (by assumption) ?_
          · intro wz hSw
            (try dsimp only at hSw)
            first
              | (go_simp; done)
              | (go_simp; omega)
              | (go_simp; exact hd0)
              | (go_simp; simp [HK0.out])
          try simp only [Act.put, List.getElem_toArray, List.getElem_cons_zero, List.getElem_cons_succ, List.setIfInBounds_toArray, List.set_cons_zero, List.set_cons_succ]
          refine wpAnyH_take (i := 12) (v := ?_) rfl (by kernel_rfl) (by kernel_rfl) (by kernel_rfl) (fun _ _ _ h => h) (Or.inl ⟨by rfl, ?_⟩) (by assumption) ?_
          rotate_left
          · intro wz hSw
            (try dsimp only at hSw)
            first
              | (go_simp; done)
              | (go_simp; with_reducible rfl)
          try simp only [Act.put, List.getElem_toArray, List.getElem_cons_zero, List.getElem_cons_succ, List.setIfInBounds_toArray, List.set_cons_zero, List.set_cons_succ]
          refine wpAnyH_done (by kernel_rfl) ?_ _
          go_wp2_with fail
          go_ret2
          exact ⟨Hb.out.trans ((Hb3.out.mono Hb.out.size).trans ((below_drawn_' 1).mono (Nat.le_trans Hb.out.size Hb3.out.size))), .inr ⟨fun h => Hno.out (ris_take h _), rfl⟩⟩
        · have hr1 : Ris (l.take (k + 1)) := (ris_snoc Hf.out Hrk.out).2 (.inr ⟨e, Hj.out ▸ He.out, hcmp⟩)
          have Hr1 := Lib.hid hr1
          unfold ltS at hcmp
          clear hr1 hk0
          go_upto_region 5 with fail
          rw [← hW3]
          refine wp_region_held_drew (S := fun w' => w'.cell? (p.add (j * 2)) = some (.string e.1) ∧ w'.cell? ⟨wr.heap.size, 0, none⟩ = some (.string f.1)) (by kernel_rfl) (⟨y0, b30⟩) (fun hHeld => ?_)
          refine wpAnyH_take (i := 0) (v := ?_) rfl (by kernel_rfl) (by kernel_rfl) (by kernel_rfl) (fun _ _ _ h => h) (Or.inl ⟨by rfl, ?_⟩) (by assumption) ?_
          rotate_left
          · intro wz hSw
            (try dsimp only at hSw)
            first
              | (go_simp; done)
              | (go_simp; with_reducible rfl)
          try simp only [Act.put, List.getElem_toArray, List.getElem_cons_zero, List.getElem_cons_succ, List.setIfInBounds_toArray, List.set_cons_zero, List.set_cons_succ]
          refine wpAnyH_take (i := 1) (v := .bool true) rfl (by kernel_rfl) (by kernel_rfl) (by kernel_rfl) (fun _ _ _ h => h) (Or.inl ⟨by rfl, ?_⟩) (by assumption) ?_
          · intro wz hSw
            (try dsimp only at hSw)
            first
              | (go_simp; done)
              | (go_simp; omega)
              | (go_simp; exact hd0)
              | (go_simp; simp [HK0.out])
          try simp only [Act.put, List.getElem_toArray, List.getElem_cons_zero, List.getElem_cons_succ, List.setIfInBounds_toArray, List.set_cons_zero, List.set_cons_succ]
          refine wpAnyH_take (i := 2) (v := ?_) rfl (by kernel_rfl) (by kernel_rfl) (by kernel_rfl) (fun _ _ _ h => h) (Or.inl ⟨by rfl, ?_⟩) (by assumption) ?_
          rotate_left
          · intro wz hSw
            (try dsimp only at hSw)
            first
              | (go_simp; done)
              | (go_simp; with_reducible rfl)
          try simp only [Act.put, List.getElem_toArray, List.getElem_cons_zero, List.getElem_cons_succ, List.setIfInBounds_toArray, List.set_cons_zero, List.set_cons_succ]
          refine wpAnyH_take (i := 3) (v := ?_) rfl (by kernel_rfl) (by kernel_rfl) (by kernel_rfl) (fun _ _ _ h => h) (Or.inl ⟨by rfl, ?_⟩) (by assumption) ?_
          rotate_left
          · intro wz hSw
            (try dsimp only at hSw)
            first
              | (go_simp; done)
              | (go_simp; with_reducible rfl)
          try simp only [Act.put, List.getElem_toArray, List.getElem_cons_zero, List.getElem_cons_succ, List.setIfInBounds_toArray, List.set_cons_zero, List.set_cons_succ]
          refine wpAnyH_take (i := 4) (v := ?_) rfl (by kernel_rfl) (by kernel_rfl) (by kernel_rfl) (fun _ _ _ h => h) (Or.inl ⟨by rfl, ?_⟩) (by assumption) ?_
          rotate_left
          · intro wz hSw
            (try dsimp only at hSw)
            first
              | (go_simp; done)
              | (go_simp; with_reducible rfl)
          try simp only [Act.put, List.getElem_toArray, List.getElem_cons_zero, List.getElem_cons_succ, List.setIfInBounds_toArray, List.set_cons_zero, List.set_cons_succ]
          refine wpAnyH_take (i := 5) (v := ?_) rfl (by kernel_rfl) (by kernel_rfl) (by kernel_rfl) (fun _ _ _ h => h) (Or.inl ⟨by rfl, ?_⟩) (by assumption) ?_
          rotate_left
          · intro wz hSw
            (try dsimp only at hSw)
            first
              | (go_simp; done)
              | (go_simp; with_reducible rfl)
          try simp only [Act.put, List.getElem_toArray, List.getElem_cons_zero, List.getElem_cons_succ, List.setIfInBounds_toArray, List.set_cons_zero, List.set_cons_succ]
          refine wpAnyH_take (i := 6) (v := ?_) rfl (by kernel_rfl) (by kernel_rfl) (by kernel_rfl) (fun _ _ _ h => h) (Or.inl ⟨by rfl, ?_⟩) (by assumption) ?_
          rotate_left
          · intro wz hSw
            (try dsimp only at hSw)
            first
              | (go_simp; done)
              | (go_simp; with_reducible rfl)
          try simp only [Act.put, List.getElem_toArray, List.getElem_cons_zero, List.getElem_cons_succ, List.setIfInBounds_toArray, List.set_cons_zero, List.set_cons_succ]
          refine wpAnyH_take (i := 7) (v := ?_) rfl (by kernel_rfl) (by kernel_rfl) (by kernel_rfl) (fun _ _ _ h => h) (Or.inl ⟨by rfl, ?_⟩) (by assumption) ?_
          rotate_left
          · intro wz hSw
            (try dsimp only at hSw)
            first
              | (go_simp; done)
              | (go_simp; with_reducible rfl)
          try simp only [Act.put, List.getElem_toArray, List.getElem_cons_zero, List.getElem_cons_succ, List.setIfInBounds_toArray, List.set_cons_zero, List.set_cons_succ]
          refine wpAnyH_take (i := 8) (v := ?_) rfl (by kernel_rfl) (by kernel_rfl) (by kernel_rfl) (fun _ _ _ h => h) (Or.inl ⟨by rfl, ?_⟩) (by assumption) ?_
          rotate_left
          · intro wz hSw
            (try dsimp only at hSw)
            first
              | (go_simp; done)
              | (go_simp; with_reducible rfl)
          try simp only [Act.put, List.getElem_toArray, List.getElem_cons_zero, List.getElem_cons_succ, List.setIfInBounds_toArray, List.set_cons_zero, List.set_cons_succ]
          refine wpAnyH_take (i := 9) (v := ?_) rfl (by kernel_rfl) (by kernel_rfl) (by kernel_rfl) (fun _ _ _ h => h) (Or.inl ⟨by rfl, ?_⟩) (by assumption) ?_
          rotate_left
          · intro wz hSw
            (try dsimp only at hSw)
            first
              | (go_simp; done)
              | (go_simp; with_reducible rfl)
          try simp only [Act.put, List.getElem_toArray, List.getElem_cons_zero, List.getElem_cons_succ, List.setIfInBounds_toArray, List.set_cons_zero, List.set_cons_succ]
          refine wpAnyH_take (i := 10) (v := ?_) rfl (by kernel_rfl) (by kernel_rfl) (by kernel_rfl) (fun _ _ _ h => h) (Or.inl ⟨by rfl, ?_⟩) (by assumption) ?_
          rotate_left
          · intro wz hSw
            (try dsimp only at hSw)
            first
              | (go_simp; done)
              | (go_simp; with_reducible rfl)
          try simp only [Act.put, List.getElem_toArray, List.getElem_cons_zero, List.getElem_cons_succ, List.setIfInBounds_toArray, List.set_cons_zero, List.set_cons_succ]
          refine wpAnyH_take (i := 11) (v := .bool false) rfl (by kernel_rfl) (by kernel_rfl) (by kernel_rfl) (fun _ _ _ h => h) (Or.inl ⟨by rfl, ?_⟩) (by assumption) ?_
          · intro wz hSw
            (try dsimp only at hSw)
            first
              | (go_simp; done)
              | (go_simp; omega)
              | (go_simp; exact hd0)
              | (go_simp; simp [HK0.out])
          try simp only [Act.put, List.getElem_toArray, List.getElem_cons_zero, List.getElem_cons_succ, List.setIfInBounds_toArray, List.set_cons_zero, List.set_cons_succ]
          refine wpAnyH_take (i := 12) (v := ?_) rfl (by kernel_rfl) (by kernel_rfl) (by kernel_rfl) (fun _ _ _ h => h) (Or.inl ⟨by rfl, ?_⟩) (by assumption) ?_
          rotate_left
          · intro wz hSw
            (try dsimp only at hSw)
            first
              | (go_simp; done)
              | (go_simp; with_reducible rfl)
          try simp only [Act.put, List.getElem_toArray, List.getElem_cons_zero, List.getElem_cons_succ, List.setIfInBounds_toArray, List.set_cons_zero, List.set_cons_succ]
          refine wpAnyH_done (by kernel_rfl) ?_ _
          go_upto_region 7 with fail
          have H3 := (Hd.out.below Hb3.out).below (below_drawn_' 2)
          have hbox := Hbox3.out
          have hfk := Hfk.out
          clear hHeld
          refine wp_region_held_drew (S := fun w' => w'.cell? ⟨w.heap.size + 1, 0, none⟩ = some (.map (some w.heap.size)) ∧ w'.cell? ⟨wr.heap.size, 0, none⟩ = some (.string f.1) ∧ w'.cell? ⟨wr.heap.size, 1, none⟩ = some (.string f.2)) (by kernel_rfl) ⟨H3.cell, b30, b31⟩ (fun hHeld => ?_)
          refine wpAnyH_take (i := 0) (v := ?_) rfl (by kernel_rfl) (by kernel_rfl) (by kernel_rfl) (fun _ _ _ h => h) (Or.inl ⟨by rfl, ?_⟩) (by assumption) ?_
          rotate_left
          · intro wz hSw
            (try dsimp only at hSw)
            first
              | (go_simp; done)
              | (go_simp; with_reducible rfl)
          try simp only [Act.put, List.getElem_toArray, List.getElem_cons_zero, List.getElem_cons_succ, List.setIfInBounds_toArray, List.set_cons_zero, List.set_cons_succ]
          refine wpAnyH_take (i := 1) (v := ?_) rfl (by kernel_rfl) (by kernel_rfl) (by kernel_rfl) (fun _ _ _ h => h) (Or.inl ⟨by rfl, ?_⟩) (by assumption) ?_
          rotate_left
          · intro wz hSw
            (try dsimp only at hSw)
            first
              | (go_simp; done)
              | (go_simp; with_reducible rfl)
          try simp only [Act.put, List.getElem_toArray, List.getElem_cons_zero, List.getElem_cons_succ, List.setIfInBounds_toArray, List.set_cons_zero, List.set_cons_succ]
          refine wpAnyH_take (i := 2) (v := ?_) rfl (by kernel_rfl) (by kernel_rfl) (by kernel_rfl) (fun _ _ _ h => h) (Or.inl ⟨by rfl, ?_⟩) (by assumption) ?_
          rotate_left
          · intro wz hSw
            (try dsimp only at hSw)
            first
              | (go_simp; done)
              | (go_simp; with_reducible rfl)
          try simp only [Act.put, List.getElem_toArray, List.getElem_cons_zero, List.getElem_cons_succ, List.setIfInBounds_toArray, List.set_cons_zero, List.set_cons_succ]
          refine wpAnyH_take (i := 3) (v := ?_) rfl (by kernel_rfl) (by kernel_rfl) (by kernel_rfl) (fun _ _ _ h => h) (Or.inl ⟨by rfl, ?_⟩) (by assumption) ?_
          rotate_left
          · intro wz hSw
            (try dsimp only at hSw)
            first
              | (go_simp; done)
              | (go_simp; with_reducible rfl)
          try simp only [Act.put, List.getElem_toArray, List.getElem_cons_zero, List.getElem_cons_succ, List.setIfInBounds_toArray, List.set_cons_zero, List.set_cons_succ]
          refine wpAnyH_take (i := 4) (v := ?_) rfl (by kernel_rfl) (by kernel_rfl) (by kernel_rfl) (fun _ _ _ h => h) (Or.inl ⟨by rfl, ?_⟩) (by assumption) ?_
          rotate_left
          · intro wz hSw
            (try dsimp only at hSw)
            first
              | (go_simp; done)
              | (go_simp; with_reducible rfl)
          try simp only [Act.put, List.getElem_toArray, List.getElem_cons_zero, List.getElem_cons_succ, List.setIfInBounds_toArray, List.set_cons_zero, List.set_cons_succ]
          refine wpAnyH_take (i := 5) (v := ?_) rfl (by kernel_rfl) (by kernel_rfl) (by kernel_rfl) (fun _ _ _ h => h) (Or.inl ⟨by rfl, ?_⟩) (by assumption) ?_
          rotate_left
          · intro wz hSw
            (try dsimp only at hSw)
            first
              | (go_simp; done)
              | (go_simp; with_reducible rfl)
          try simp only [Act.put, List.getElem_toArray, List.getElem_cons_zero, List.getElem_cons_succ, List.setIfInBounds_toArray, List.set_cons_zero, List.set_cons_succ]
          refine wpAnyH_take (i := 6) (v := ?_) rfl (by kernel_rfl) (by kernel_rfl) (by kernel_rfl) (fun _ _ _ h => h) (Or.inl ⟨by rfl, ?_⟩) (by assumption) ?_
          rotate_left
          · intro wz hSw
            (try dsimp only at hSw)
            first
              | (go_simp; done)
              | (go_simp; with_reducible rfl)
          try simp only [Act.put, List.getElem_toArray, List.getElem_cons_zero, List.getElem_cons_succ, List.setIfInBounds_toArray, List.set_cons_zero, List.set_cons_succ]
          refine wpAnyH_take (i := 7) (v := ?_) rfl (by kernel_rfl) (by kernel_rfl) (by kernel_rfl) (fun _ _ _ h => h) (Or.inl ⟨by rfl, ?_⟩) (by assumption) ?_
          rotate_left
          · intro wz hSw
            (try dsimp only at hSw)
            first
              | (go_simp; done)
              | (go_simp; with_reducible rfl)
          try simp only [Act.put, List.getElem_toArray, List.getElem_cons_zero, List.getElem_cons_succ, List.setIfInBounds_toArray, List.set_cons_zero, List.set_cons_succ]
          obtain ⟨D, hM, hT⟩ := H3.mp
          refine wpAnyH_ready (rs := [8]) (by kernel_rfl) (by simp) ?_
          refine AllReadyH.cons rfl (fun K33 hK33 => ?_) AllReadyH.nil
          refine step_of_list rfl ?_
          refine wpList_mapUpdate_own _ rfl _ _ _ 59 rfl 9 9 keyed Tryd.underlying59 _ w.heap.size k D rfl hM (by unfold maxLen; omega) _ _ (klS f.1) rfl rfl (key_of hfk.1) (.lit (.string f.2.data.toList)) [] (plainElem_string Tryd.underlying9 hfk.2) ?_
          intro w4 hown4 hturn4
          refine ⟨rfl, ?_⟩
          have O4 := Only.of_grown hturn4
          have hp4 := O4.heap H3.hp (fun e => by injection e with e; exact H3.gm e.symm)
          have c4 : w4.cell? ⟨w.heap.size + 1, 0, none⟩ = some (.map (some w.heap.size)) := by unfold World.cell?; simp only [hp4]; rfl
          have hx4 := O4.heap hbox (fun e => by injection e with e; have := H3.lt.2; have := Hd.out.lt.2; omega)
          have b40 : w4.cell? ⟨wr.heap.size, 0, none⟩ = some (.string f.1) := by unfold World.cell?; simp only [hx4]; rfl
          have b41 : w4.cell? ⟨wr.heap.size, 1, none⟩ = some (.string f.2) := by unfold World.cell?; simp only [hx4]; rfl
          refine hK33.out _ _ ⟨c4, b40, b41⟩ (fun hHeld => ?_)
          clear hK33 K33
          try simp only [Act.put, List.getElem_toArray, List.getElem_cons_zero, List.getElem_cons_succ, List.setIfInBounds_toArray, List.set_cons_zero, List.set_cons_succ]
          refine wpAnyH_done (by kernel_rfl) ?_ _
          have hT4 := hT.put (hM.tidy keyed) H3.ris f.1 f.2
          rw [set_take Hf.out Hr1.out] at hT4
          have hbel := O4.after (Hb.out.trans ((Hb3.out.mono Hb.out.size).trans ((below_drawn_' 2).mono (Nat.le_trans Hb.out.size Hb3.out.size)))) (Nat.le_refl _) (fun b hb => by injection hb with hb; omega)
          have HH := Lib.hid (And.intro hp4 (And.intro hown4 (And.intro hT4 hbel)))
          clear hp4 hown4 hT4 hbel c4 hx4 b40 b41 hHeld
          go_wp2_with fail
          refine ⟨⟨k + 1, by omega, by go_num, Hr1.out, ⟨HH.out.1, ⟨_, HH.out.2.1, HH.out.2.2.1⟩, H3.gB, H3.mB, H3.gm, Hr1.out, by rw [List.length_take]; omega⟩, HH.out.2.2.2⟩, by simp [RowKit.intOf]; omega⟩
    · obtain rfl : k = l.length := by omega
      have hk1 := Hrk.out
      rw [List.take_length] at hk1
      have hd1 := Hd.out
      rw [List.take_length] at hd1
      have Hk1 := Lib.hid hk1
      have Hd1 := Lib.hid hd1
      clear hk1 hd1
      go_wp2_with fail
      go_ret2
      exact ⟨Hb.out, .inl ⟨Hk1.out, _, _, rfl, Hd1.out⟩⟩
end Go.Proofs.YthgdkmbcibfehaaDoor.DcD
