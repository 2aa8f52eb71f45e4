/-
  The document's tests of lists and hashes. Conditions: as stated.
  A plain law: a list of texts, put in order without the ones that stand there already, is as long as it was just if no text stood there twice. Conditions: as stated.
  The document's set of a list of texts. Conditions: as stated.
-/
import Derived.Test.YtgmnnpbbiejbnaaGreatVaH
import Derived.Test.YtgmnnpbbiejbnaaGreatMgB
set_option maxRecDepth 100000
set_option linter.unusedSimpArgs false
set_option linter.unusedVariables false
namespace Go.Proofs.YtgmnnpbbiejbnaaGreat.VaJ
open Go.RowKit Go.Proofs.YtgmnnpbbiejbnaaGreat.Mem Go.Proofs.YtgmnnpbbiejbnaaGreat.VaA Go.Proofs.YtgmnnpbbiejbnaaGreat.VaB Go.Proofs.YtgmnnpbbiejbnaaGreat.VaC Go.Proofs.YtgmnnpbbiejbnaaGreat.VaD Go.Proofs.YtgmnnpbbiejbnaaGreat.VaE Go.Proofs.YtgmnnpbbiejbnaaGreat.VaF Go.Proofs.YtgmnnpbbiejbnaaGreat.VaG Go.Proofs.YtgmnnpbbiejbnaaGreat.VaH

set_option maxHeartbeats 1000000 in
theorem validR_calls (A : Option Addr) (n c : Nat) (l : List ByteArray) (w : World) (hr : RdS w A n c l) :
    Calls Tryz.prog 93 #[.slice A n c] w fun e w' => e = .returned (.bool (ris ltS l)) ∧ ∃ nd, w' = w.drewN nd := by
  obtain rfl := rds_len hr
  have hcap := hr.cap
  have hbig : c ≤ 9223372036854775807 := hr.big
  go_enter Tryz.func93, Tryz.ntmps93
  go_wp2_with fail
  go_loopw [3] (fun i wr => ∃ k : Nat, 1 ≤ k ∧ i = .int .i64 k ∧ (∀ j a b, j + 1 < k → l[j]? = some a → l[j + 1]? = some b → ltS a b = true) ∧ ∃ nd, wr = w.drewN nd) (fun i _ => l.length - (intOf i).toNat)
  case atStart => exact ⟨1, Nat.le_refl _, rfl, fun j a b h => by omega, 0, rfl⟩
  case round =>
    obtain ⟨k, hk, rfl, hin, nd, rfl⟩ := hrel
    have Hin := Lib.hid hin
    clear hin
    by_cases hlt : k < l.length
    · obtain ⟨j, hj⟩ : ∃ j, j = k - 1 := ⟨_, rfl⟩
      obtain ⟨s, hs⟩ : ∃ s, l[k]? = some s := ⟨_, List.getElem?_eq_getElem hlt⟩
      obtain ⟨t, ht⟩ : ∃ t, l[j]? = some t := ⟨_, List.getElem?_eq_getElem (by omega)⟩
      obtain ⟨p, rfl, cp⟩ := rds_get hr hs
      obtain ⟨q, e, cq⟩ := rds_get hr ht
      injection e with e; subst e
      have Hs := Lib.hid hs
      have Ht := Lib.hid ht
      have hj2 : j < l.length := by omega
      have hw1 : IntKind.i64.wrap ((k : Int) - 1) = (j : Int) := by rw [Go.IntWalk.i64_in _ (by omega)]; omega
      have Hj := Lib.hid hj
      clear hs ht hj
      cases hb : Op.bytesLess t.toList s.toList
      · go_wp2_with fail
        go_quiet (fail)
        go_wp2_with fail
        go_ret
        exact ⟨by rw [ris_not Ht.out (by rw [Hj.out, Nat.sub_add_cancel hk]; exact Hs.out) hb]; rfl, _, drew2 _ _ _⟩
      · go_wp2_with fail
        go_quiet (fail)
        go_wp2_with fail
        refine ⟨⟨k + 1, by omega, by go_num, ?_, nd + nq, by first | exact drew2 _ _ _ | rfl | (rw [drew2]; done)⟩, by simp [intOf]; omega⟩
        intro i a b hi ha hb'
        by_cases h : i + 1 < k
        · exact Hin.out i a b h ha hb'
        · obtain rfl : i = j := by have := Hj.out; omega
          rw [Ht.out] at ha; injection ha with ha; subst ha
          rw [show i + 1 = k by have := Hj.out; omega, Hs.out] at hb'; injection hb' with hb'; subst hb'
          exact hb
    · go_wp2_with fail
      go_ret
      exact ⟨by rw [(ris_iff ltS l).2 (fun j a b ha hb => Hin.out j a b (by have := (List.getElem?_eq_some_iff.1 hb).1; omega) ha hb)]; rfl, _, rfl⟩

theorem short_yes {s : ByteArray} (h : shortB s = true) : decide ((1048576 : Int) < (s.size : Int)) = false := by unfold shortB at h; simp at h ⊢; omega
theorem short_no {s : ByteArray} (h : shortB s = false) : decide ((1048576 : Int) < (s.size : Int)) = true := by unfold shortB at h; simp at h ⊢; omega

set_option maxHeartbeats 2000000 in
theorem fieldsR_calls (A : Option Addr) (n c : Nat) (l : List (ByteArray × ByteArray)) (w : World) (hr : RdF w A n c l) :
    Calls Tryz.prog 94 #[.slice A n c] w fun e w' => e = .returned (.bool (okH l)) ∧ ∃ nd, w' = w.drewN nd := by
  obtain rfl := rdf_len hr
  have hcap := hr.cap
  have hbig : c ≤ 9223372036854775807 := hr.big
  go_enter Tryz.func94, Tryz.ntmps94
  go_wp2_with fail
  go_loopw [3] (fun i wr => ∃ k : Nat, k ≤ l.length ∧ i = .int .i64 k ∧ ((l.take k).all (fun f => shortB f.1 && shortB f.2) = true ∧ ∀ j a b, j + 1 < k → l[j]? = some a → l[j + 1]? = some b → ltS a.1 b.1 = true) ∧ ∃ nd, wr = w.drewN nd) (fun i _ => l.length - (intOf i).toNat)
  case atStart => exact ⟨0, Nat.zero_le _, rfl, ⟨rfl, fun j a b h => by omega⟩, 0, rfl⟩
  case round =>
    obtain ⟨k, hk, rfl, hin, nd, rfl⟩ := hrel
    have Hin := Lib.hid hin
    clear hin
    by_cases hlt : k < l.length
    · obtain ⟨f, hf⟩ : ∃ f, l[k]? = some f := ⟨_, List.getElem?_eq_getElem hlt⟩
      obtain ⟨p, rfl, cp0, cp1⟩ := rdf_get hr hf
      have k0 : w.cell? (p.add (k * 2)) = some (.string f.1) := cp0
      have k1 : w.cell? ⟨(p.add (k * 2)).block, (p.add (k * 2)).off + 1, none⟩ = some (.string f.2) := cp1
      have Hf := Lib.hid hf
      clear cp0 cp1 hf
      cases h1 : shortB f.1
      · have hd1 := short_no h1
        have H1 := Lib.hid h1
        clear h1
        go_wp2_with fail
        go_quiet (fail)
        go_wp2_with fail
        go_ret
        exact ⟨by rw [show okH l = false by unfold okH; rw [not_all Hf.out (by rw [H1.out]; rfl)]; rfl]; rfl, nd + nq, by first | rfl | exact drew2 _ _ _⟩
      have hd1 := short_yes h1
      have H1 := Lib.hid h1
      clear h1
      cases h2 : shortB f.2
      · have hd2 := short_no h2
        have H2 := Lib.hid h2
        clear h2
        go_wp2_with fail
        go_quiet (fail)
        go_wp2_with fail
        go_ret
        exact ⟨by rw [show okH l = false by unfold okH; rw [not_all Hf.out (by rw [H1.out, H2.out]; rfl)]; rfl]; rfl, nd + nq, by first | rfl | exact drew2 _ _ _⟩
      have hd2 := short_yes h2
      have H2 := Lib.hid h2
      clear h2
      rcases Nat.eq_zero_or_pos k with h0 | hpos
      · have hdec : decide (0 < k) = false := by rw [h0]; rfl
        have H0 := Lib.hid h0
        clear h0
        go_wp2_with fail
        go_quiet (fail)
        go_wp2_with fail
        exact ⟨⟨k + 1, by omega, by go_num, ⟨take_all Hf.out Hin.out.1 (by rw [H1.out, H2.out]; rfl), fun i a b hi => by have := H0.out; omega⟩, nd + nq, by first | rfl | exact drew2 _ _ _⟩, by simp [intOf]; omega⟩
      · obtain ⟨j, hj⟩ : ∃ j, j = k - 1 := ⟨_, rfl⟩
        obtain ⟨t, ht⟩ : ∃ t, l[j]? = some t := ⟨_, List.getElem?_eq_getElem (by omega)⟩
        obtain ⟨q, e, cq0, -⟩ := rdf_get hr ht
        injection e with e; subst e
        have q0 : w.cell? (p.add (j * 2)) = some (.string t.1) := cq0
        have hj2 : j < l.length := by omega
        have hp' : (0 : Int) < (k : Int) := by omega
        have hw1 : IntKind.i64.wrap ((k : Int) - 1) = (j : Int) := by rw [Go.IntWalk.i64_in _ (by omega)]; omega
        have Hj := Lib.hid hj
        have Ht := Lib.hid ht
        clear cq0 hj ht
        cases hlt' : Op.bytesLess t.1.toList f.1.toList
        · have HL := Lib.hid hlt'
          go_wp2_with fail
          go_quiet (fail)
          go_wp2_with fail
          go_ret
          exact ⟨by rw [show okH l = false by unfold okH; rw [ris_not Ht.out (by rw [Hj.out, Nat.sub_add_cancel hpos]; exact Hf.out) HL.out, Bool.and_false]]; rfl, nd + nq, by first | rfl | exact drew2 _ _ _⟩
        · have HL := Lib.hid hlt'
          go_wp2_with fail
          go_quiet (fail)
          go_wp2_with fail
          refine ⟨⟨k + 1, by omega, by go_num, ⟨take_all Hf.out Hin.out.1 (by rw [H1.out, H2.out]; rfl), ?_⟩, nd + nq, by first | rfl | exact drew2 _ _ _⟩, by simp [intOf]; omega⟩
          intro i a b hi ha hb'
          by_cases h : i + 1 < k
          · exact Hin.out.2 i a b h ha hb'
          · obtain rfl : i = j := by have := Hj.out; omega
            rw [Ht.out] at ha; injection ha with ha; subst ha
            rw [show i + 1 = k by have := Hj.out; omega, Hf.out] at hb'; injection hb' with hb'; subst hb'
            exact HL.out
    · obtain rfl : k = l.length := by omega
      obtain ⟨h1, h2⟩ := Hin.out
      rw [List.take_length] at h1
      go_wp2_with fail
      go_ret
      refine ⟨?_, nd, rfl⟩
      have : okH l = true := by
        unfold okH
        rw [h1, (ris_iff _ l).2 (fun j a b ha hb => h2 j a b (by have := (List.getElem?_eq_some_iff.1 hb).1; omega) ha hb)]; rfl
      rw [this]; rfl

theorem zero_int (n : Nat) : ((n : Int) == 0) = (n == 0) := by rw [Bool.eq_iff_iff]; simp
def emptyD (x : VV) : Bool := if isK x then emptyV x else true
set_option maxHeartbeats 1000000 in
theorem emptyR_calls (x : VV) (w : World) :
    Calls Tryz.prog 92 #[x.val] w fun e w' => e = .returned (.bool (emptyD x)) ∧ Below w.heap.size w w' := by
  unfold VV.val
  go_enter Tryz.func92, Tryz.ntmps92
  by_cases h1 : x.kind = 1
  · go_wp2_with fail
    go_ret
    exact ⟨by unfold emptyD isK emptyV; simp [h1], (Below.refl _ w).alloc (Nat.le_refl _) _⟩
  by_cases h2 : x.kind = 2
  · go_wp2_with fail
    go_ret
    exact ⟨by unfold emptyD isK emptyV; simp [h2, zero_int], (Below.refl _ w).alloc (Nat.le_refl _) _⟩
  by_cases h3 : x.kind = 3
  · go_wp2_with fail
    go_ret
    exact ⟨by unfold emptyD isK emptyV; simp [h3, zero_int], (Below.refl _ w).alloc (Nat.le_refl _) _⟩
  by_cases h4 : x.kind = 4
  · go_wp2_with fail
    go_ret
    exact ⟨by unfold emptyD isK emptyV; simp [h4, zero_int], (Below.refl _ w).alloc (Nat.le_refl _) _⟩
  by_cases h5 : x.kind = 5
  · go_wp2_with fail
    go_ret
    exact ⟨by unfold emptyD isK emptyV; simp [h5, zero_int], (Below.refl _ w).alloc (Nat.le_refl _) _⟩
  go_wp2_with fail
  go_ret
  exact ⟨by unfold emptyD isK emptyV; simp [h1, h2, h3, h4, h5], (Below.refl _ w).alloc (Nat.le_refl _) _⟩
end Go.Proofs.YtgmnnpbbiejbnaaGreat.VaJ
set_option linter.unusedSimpArgs false
set_option linter.unusedVariables false
namespace Go.Proofs.YtgmnnpbbiejbnaaGreat.VaK
open Go.RowKit Go.Proofs.YtgmnnpbbiejbnaaGreat.VaE

theorem bl_irrefl : ∀ x : List UInt8, Op.bytesLess x x = false
  | [] => rfl
  | a :: x => by simp [Op.bytesLess, bl_irrefl x]
theorem bl_trans : ∀ x y z : List UInt8, Op.bytesLess x y = true → Op.bytesLess y z = true → Op.bytesLess x z = true
  | _, _, [], _, h => by cases h' : ‹List UInt8› <;> simp_all [Op.bytesLess]
  | _, [], _ :: _, h, _ => by simp [Op.bytesLess] at h
  | [], _ :: _, _ :: _, _, _ => rfl
  | a :: x, b :: y, c :: z, h1, h2 => by
    simp only [Op.bytesLess, Bool.or_eq_true, decide_eq_true_eq, Bool.and_eq_true, beq_iff_eq] at h1 h2 ⊢
    rcases h1 with h1 | ⟨rfl, h1⟩
    · rcases h2 with h2 | ⟨rfl, h2⟩
      · exact .inl (UInt8.lt_trans h1 h2)
      · exact .inl h1
    · rcases h2 with h2 | ⟨rfl, h2⟩
      · exact .inl h2
      · exact .inr ⟨rfl, bl_trans x y z h1 h2⟩
theorem bl_total : ∀ x y : List UInt8, Op.bytesLess x y = false → x ≠ y → Op.bytesLess y x = true
  | [], [], _, h => absurd rfl h
  | _ :: _, [], _, _ => rfl
  | [], _ :: _, h, _ => by simp [Op.bytesLess] at h
  | a :: x, b :: y, h, hn => by
    simp only [Op.bytesLess, Bool.or_eq_false_iff, decide_eq_false_iff_not, Bool.or_eq_true, decide_eq_true_eq, Bool.and_eq_true, beq_iff_eq] at h ⊢
    by_cases e : a = b
    · subst e
      refine .inr ⟨rfl, bl_total x y ?_ (fun e => hn (by rw [e]))⟩
      have := h.2
      simpa using this
    · refine .inl ?_
      have h1 : ¬ a.toNat < b.toNat := h.1
      have h2 : a.toNat ≠ b.toNat := fun e' => e (UInt8.toNat_inj.1 e')
      exact UInt8.lt_iff_toNat_lt.2 (by omega)
theorem toL_inj {a b : ByteArray} (h : a.toList = b.toList) : a = b := by
  rw [ByteArray.toList_eq, ByteArray.toList_eq] at h
  cases a; cases b; simp_all
theorem lt_trans' {a b c : ByteArray} (h : ltS a b = true) (k : ltS b c = true) : ltS a c = true := bl_trans _ _ _ h k
theorem lt_irrefl' (a : ByteArray) : ltS a a = false := bl_irrefl _
theorem lt_total' {a b : ByteArray} (h : ltS a b = false) (hn : a ≠ b) : ltS b a = true := bl_total _ _ h (fun e => hn (toL_inj e))

def gtS (a b : ByteArray) : Bool := !(Op.bytesLess a.toList b.toList || a.toList == b.toList)
theorem gtS_iff {a b : ByteArray} : gtS a b = true ↔ ltS b a = true := by
  unfold gtS
  constructor
  · intro h
    simp only [Bool.not_eq_true', Bool.or_eq_false_iff, beq_eq_false_iff_ne] at h
    exact lt_total' h.1 (fun e => h.2 (by rw [e]))
  · intro h
    simp only [Bool.not_eq_true', Bool.or_eq_false_iff, beq_eq_false_iff_ne]
    refine ⟨?_, fun e => ?_⟩
    · cases hh : Op.bytesLess a.toList b.toList
      · rfl
      · have := lt_trans' (a := b) (b := a) (c := b) h hh
        rw [lt_irrefl'] at this; cases this
    · rw [toL_inj e, lt_irrefl'] at h; cases h

/-- The place of s, sought from place a down. -/
def posS (out : List ByteArray) (s : ByteArray) : Nat → Nat
  | 0 => 0
  | a + 1 => match out[a]? with
    | some e => if gtS e s then posS out s a else a + 1
    | none => a + 1
theorem posS_le (out : List ByteArray) (s : ByteArray) : ∀ a, posS out s a ≤ a
  | 0 => Nat.le_refl _
  | a + 1 => by
    unfold posS
    split
    · split
      · exact Nat.le_succ_of_le (posS_le out s a)
      · exact Nat.le_refl _
    · exact Nat.le_refl _
/-- All from the place on are greater; the one ahead of it is not. -/
theorem posS_spec (out : List ByteArray) (s : ByteArray) : ∀ a, a ≤ out.length → (∀ j e, posS out s a ≤ j → j < a → out[j]? = some e → ltS s e = true) ∧ (∀ e, 0 < posS out s a → out[posS out s a - 1]? = some e → gtS e s = false)
  | 0, _ => ⟨fun j e h1 h2 => by omega, fun e h => by simp [posS] at h⟩
  | a + 1, ha => by
    obtain ⟨x, hx⟩ : ∃ x, out[a]? = some x := ⟨_, List.getElem?_eq_getElem (by omega)⟩
    obtain ⟨h1, h2⟩ := posS_spec out s a (by omega)
    unfold posS
    rw [hx]
    dsimp only
    cases hg : gtS x s
    · simp only [Bool.false_eq_true, if_false]
      refine ⟨fun j e h h' => by omega, fun e _ he => ?_⟩
      rw [Nat.add_sub_cancel, hx] at he; injection he with he; subst he; exact hg
    · simp only [if_true]
      refine ⟨fun j e h h' he => ?_, h2⟩
      by_cases hj : j = a
      · subst hj; rw [hx] at he; injection he with he; subst he; exact gtS_iff.1 hg
      · exact h1 j e h (by omega) he
def atS (out : List ByteArray) (s : ByteArray) : Nat := posS out s out.length
/-- Does it stand just ahead of its place? -/
def hitS (out : List ByteArray) (s : ByteArray) : Bool := decide (0 < atS out s) && (match out[atS out s - 1]? with | some e => e.toList == s.toList | none => false)
def insS (out : List ByteArray) (s : ByteArray) : List ByteArray := if hitS out s then out else out.take (atS out s) ++ s :: out.drop (atS out s)
def ofL (l : List ByteArray) : List ByteArray := l.foldl insS []
def Ord (l : List ByteArray) : Prop := l.Pairwise (fun a b => ltS a b = true)

theorem hit_mem {out : List ByteArray} {s : ByteArray} (h : hitS out s = true) : s ∈ out := by
  unfold hitS at h
  rw [Bool.and_eq_true] at h
  cases he : out[atS out s - 1]? with
  | none => rw [he] at h; simp at h
  | some e => rw [he] at h; simp at h; rw [← toL_inj h.2]; exact List.mem_of_getElem? he
theorem mem_hit {out : List ByteArray} {s : ByteArray} (ho : Ord out) (h : s ∈ out) : hitS out s = true := by
  obtain ⟨i, hi, e⟩ := List.mem_iff_getElem.1 h
  obtain ⟨h1, h2⟩ := posS_spec out s out.length (Nat.le_refl _)
  have hle := posS_le out s out.length
  have hge : i < atS out s := by
    rcases Nat.lt_or_ge i (atS out s) with hlt | hge
    · exact hlt
    · have := h1 i s hge hi (by rw [List.getElem?_eq_getElem hi, e])
      rw [lt_irrefl'] at this; cases this
  have hat : atS out s - 1 < out.length := by unfold atS at hge ⊢; omega
  have h3 := h2 _ (by unfold atS at hge; omega) (List.getElem?_eq_getElem hat)
  unfold hitS
  rw [List.getElem?_eq_getElem hat]
  simp only [Bool.and_eq_true, decide_eq_true_eq, beq_iff_eq]
  refine ⟨by omega, ?_⟩
  by_cases hc : i = atS out s - 1
  · subst hc; rw [e]
  · exfalso
    have hlt := (List.pairwise_iff_getElem.1 ho) i (atS out s - 1) hi hat (by omega)
    rw [e] at hlt
    rw [gtS_iff.2 hlt] at h3; cases h3
theorem ins_len {out : List ByteArray} {s : ByteArray} : (insS out s).length = if hitS out s then out.length else out.length + 1 := by
  unfold insS
  have := posS_le out s out.length
  split
  · rfl
  · simp [atS]; omega
theorem ins_mem {out : List ByteArray} {s x : ByteArray} : x ∈ insS out s ↔ x ∈ out ∨ x = s := by
  unfold insS
  split
  · rename_i h
    exact ⟨.inl, fun h' => h'.elim id (fun e => e ▸ hit_mem h)⟩
  · rw [List.mem_append, List.mem_cons]
    conv => rhs; rw [← List.take_append_drop (atS out s) out, List.mem_append]
    constructor
    · rintro (h | h | h)
      · exact .inl (.inl h)
      · exact .inr h
      · exact .inl (.inr h)
    · rintro ((h | h) | h)
      · exact .inl h
      · exact .inr (.inr h)
      · exact .inr (.inl h)
theorem ins_ord {out : List ByteArray} {s : ByteArray} (ho : Ord out) : Ord (insS out s) := by
  unfold insS
  split
  · exact ho
  · rename_i hh
    obtain ⟨h1, h2⟩ := posS_spec out s out.length (Nat.le_refl _)
    have hle := posS_le out s out.length
    have hlo : ∀ a ∈ out.take (atS out s), ltS a s = true := fun a ha => by
      obtain ⟨i, hi, e⟩ := List.mem_iff_getElem.1 ha
      rw [List.length_take] at hi
      have hat : atS out s - 1 < out.length := by unfold atS at hi ⊢; omega
      have h3 := h2 _ (by unfold atS at hi; omega) (List.getElem?_eq_getElem hat)
      have hl : ltS out[atS out s - 1] s = true := by
        have hne : out[atS out s - 1] ≠ s := fun e' => hh (mem_hit ho (e' ▸ List.getElem_mem _))
        cases hc : ltS out[atS out s - 1] s
        · have h5 : gtS out[atS out s - 1] s = false := h3
          rw [gtS_iff.2 (lt_total' hc hne)] at h5; cases h5
        · rfl
      rw [List.getElem_take] at e
      by_cases hc : i = atS out s - 1
      · subst hc; rw [← e]; exact hl
      · have := (List.pairwise_iff_getElem.1 ho) i (atS out s - 1) (by omega) hat (by omega)
        rw [← e]; exact lt_trans' this hl
    have hhi : ∀ a ∈ out.drop (atS out s), ltS s a = true := fun a ha => by
      obtain ⟨i, hi, e⟩ := List.mem_iff_getElem.1 ha
      rw [List.length_drop] at hi
      rw [List.getElem_drop] at e
      exact h1 (atS out s + i) a (Nat.le_add_right _ _) (by omega) (by rw [List.getElem?_eq_getElem (by omega), e])
    unfold Ord
    rw [List.pairwise_append, List.pairwise_cons]
    have hp : (out.take (atS out s) ++ out.drop (atS out s)).Pairwise (fun a b => ltS a b = true) := by rw [List.take_append_drop]; exact ho
    rw [List.pairwise_append] at hp
    refine ⟨hp.1, ⟨hhi, hp.2.1⟩, fun a ha b hb => ?_⟩
    rcases List.mem_cons.1 hb with rfl | hb
    · exact hlo a ha
    · exact hp.2.2 a ha b hb
theorem of_snoc (l : List ByteArray) (s : ByteArray) : ofL (l ++ [s]) = insS (ofL l) s := by simp [ofL]
theorem of_facts' (r : List ByteArray) : Ord (ofL r.reverse) ∧ (∀ x, x ∈ ofL r.reverse ↔ x ∈ r.reverse) ∧ (ofL r.reverse).length ≤ r.reverse.length ∧ ((ofL r.reverse).length = r.reverse.length ↔ r.reverse.Nodup) := by
  induction r with
  | nil => exact ⟨List.Pairwise.nil, fun x => by simp [ofL], Nat.le_refl _, by simp [ofL]⟩
  | cons s r ih =>
    rw [List.reverse_cons]
    generalize r.reverse = l at ih ⊢
    obtain ⟨h1, h2, h3, h4⟩ := ih
    rw [of_snoc]
    refine ⟨ins_ord h1, fun x => by rw [ins_mem, h2]; simp, ?_, ?_⟩
    · rw [ins_len]; split <;> simp <;> omega
    · rw [ins_len, List.length_append, List.length_singleton, List.nodup_append]
      by_cases hm : s ∈ l
      · rw [if_pos (mem_hit h1 ((h2 s).2 hm))]
        constructor
        · intro h; omega
        · rintro ⟨_, _, h⟩; exact absurd rfl (h s hm s (by simp))
      · rw [if_neg (fun h => hm ((h2 s).1 (hit_mem h)))]
        constructor
        · intro h
          exact ⟨h4.1 (by omega), by simp, fun a ha b hb => by simp at hb; subst hb; exact fun e => hm (e ▸ ha)⟩
        · rintro ⟨h, _, _⟩; rw [h4.2 h]
theorem of_facts (l : List ByteArray) : Ord (ofL l) ∧ (∀ x, x ∈ ofL l ↔ x ∈ l) ∧ (ofL l).length ≤ l.length ∧ ((ofL l).length = l.length ↔ l.Nodup) := by
  have := of_facts' l.reverse
  rwa [List.reverse_reverse] at this
end Go.Proofs.YtgmnnpbbiejbnaaGreat.VaK
set_option maxRecDepth 100000
set_option linter.unusedSimpArgs false
set_option linter.unusedVariables false
namespace Go.Proofs.YtgmnnpbbiejbnaaGreat.VaL
open Go.RowKit Go.Proofs.YtgmnnpbbiejbnaaGreat.Mem Go.Proofs.YtgmnnpbbiejbnaaGreat.VaA Go.Proofs.YtgmnnpbbiejbnaaGreat.VaB Go.Proofs.YtgmnnpbbiejbnaaGreat.VaC Go.Proofs.YtgmnnpbbiejbnaaGreat.VaE Go.Proofs.YtgmnnpbbiejbnaaGreat.VaK

theorem elS : El Tryz.prog 38 9 (.string ⟨#[]⟩) 1 16 := by
  obtain ⟨i, h1, h2, h3, h4⟩ := info_parts (show (Tryz.prog.info? 9).map (fun i => (i.zero, i.size, i.bytes)) = some (some (.string ⟨#[]⟩), 1, 16) by kernel_rfl)
  exact ⟨Tryz.underlying38, ⟨i, h1, h2, h3, h4⟩, rfl, by decide⟩
/-- A row of texts of the call's own. -/
abbrev OwnS (w : World) (B : Nat) (v : Value) (l : List ByteArray) : Prop := w.ownsRow B 9 1 v l.length (strs l)
theorem rds_own {w : World} {B n c : Nat} {A : Option Addr} {l : List ByteArray} (h : OwnS w B (.slice A n c) l) : RdS w A n c l := by
  have hn := own_n h
  unfold OwnS at h; rw [hn] at h
  exact Rd.of_own h
theorem own_snocS {w : World} {B : Nat} {v : Value} {l : List ByteArray} {x : ByteArray} (h : w.ownsRow B 9 1 v (l.length + 1) (strs l ++ [.string x])) : OwnS w B v (l ++ [x]) := by
  simpa [OwnS, strs] using h
theorem own_putS {w : World} {B g n c : Nat} {l : List ByteArray} (h : OwnS w B (.slice (some ⟨g, 0, none⟩) n c) l) {j : Nat} (x : ByteArray) :
    OwnS (w.setCell ⟨g, j, none⟩ (.string x)) B (.slice (some ⟨g, 0, none⟩) n c) (l.set j x) := by
  have hn : l.length = n := own_n h
  have := (World.ownsRow.stored (w := w) (base := B) (e := 9) (size := 1) (g := g) (n := n) (cap := c) (xs := strs l) (by unfold OwnS at h; rw [hn] at h; exact h) j (.string x)).1
  unfold OwnS
  rw [List.length_set, hn]
  simpa [strs, List.map_set] using this
theorem own_blk {w : World} {B : Nat} {v : Value} {l : List ByteArray} {x : ByteArray} (h : OwnS w B v (l ++ [x])) : ∃ g c, v = .slice (some ⟨g, 0, none⟩) (l ++ [x]).length c ∧ B ≤ g := by
  rcases h.2 with ⟨_, h0⟩ | ⟨g, cap, _, rfl, hb, _⟩
  · simp at h0
  · exact ⟨g, cap, rfl, hb⟩
theorem ownbS {w w' : World} {B : Nat} {v : Value} {l : List ByteArray} (h : OwnS w B v l) (hb : Below w.heap.size w w') : OwnS w' B v l := own_only h (Only.of_below hb) (fun k hk => by have := (h.lt k hk).2; omega)
theorem take_one_ {α : Type} {l : List α} {k : Nat} {x : α} (h : l[k]? = some x) : l.take (k + 1) = l.take k ++ [x] := by
  obtain ⟨hk, e⟩ := List.getElem?_eq_some_iff.1 h
  rw [List.take_succ_eq_append_getElem hk, e]
theorem below_drawn_ {B : Nat} {w w' : World} (h : Below B w w') (n : Nat) : Below B w (w'.drewN n) := h.trans ⟨rfl, rfl, rfl, Nat.le_refl _, fun _ _ => rfl⟩
theorem shift_set {out : List ByteArray} {k : Nat} {y x : ByteArray} (hx : out[k]? = some x) : (out.take (k + 1) ++ y :: out.drop (k + 1)).set (k + 1) x = out.take k ++ x :: out.drop k := by
  obtain ⟨hk, e⟩ := List.getElem?_eq_some_iff.1 hx
  rw [List.set_append_right _ _ (by simp; omega)]
  rw [show k + 1 - (out.take (k + 1)).length = 0 by simp; omega, List.set_cons_zero, List.take_succ_eq_append_getElem hk, List.drop_eq_getElem_cons hk, e]
  simp
theorem last_set {out : List ByteArray} {a : Nat} {y s : ByteArray} (ha : a ≤ out.length) : (out.take a ++ y :: out.drop a).set a s = out.take a ++ s :: out.drop a := by
  rw [List.set_append_right _ _ (by simp; omega), show a - (out.take a).length = 0 by simp; omega, List.set_cons_zero]

set_option maxHeartbeats 2000000 in
theorem ofR_calls (A : Option Addr) (n c : Nat) (l : List ByteArray) (w : World) (hr : RdS w A n c l) (hn : n ≤ 100000000) :
    Calls Tryz.prog 102 #[.slice A n c] w fun e w' => ∃ v, e = .returned v ∧ OwnS w' w.heap.size v (ofL l) ∧ Below w.heap.size w w' := by
  obtain rfl := rds_len hr
  have hcap := hr.cap
  have hbig : c ≤ 9223372036854775807 := hr.big
  go_enter Tryz.func102, Tryz.ntmps102
  go_wp2_with fail
  go_loopw [3, 4] (fun v i wr => ∃ k : Nat, k ≤ l.length ∧ i = .int .i64 k ∧ OwnS wr w.heap.size v (ofL (l.take k)) ∧ Below w.heap.size w wr) (fun _ i _ => l.length - (intOf i).toNat)
  case atStart => exact ⟨0, Nat.zero_le _, rfl, World.ownsRow_nil _ _ _ _, Below.refl _ _⟩
  case round =>
    obtain ⟨k, hk, rfl, ho, hb⟩ := hrel
    by_cases hlt : k < l.length
    · obtain ⟨s, hs⟩ : ∃ s, l[k]? = some s := ⟨_, List.getElem?_eq_getElem hlt⟩
      obtain ⟨out, hout⟩ : ∃ out, out = ofL (l.take k) := ⟨_, rfl⟩
      have hol : out.length ≤ k := by rw [hout]; have := (of_facts (l.take k)).2.2.1; rw [List.length_take] at this; omega
      rw [← hout] at ho
      obtain ⟨Ao, co, rfl⟩ := own_form ho
      have hro := rds_own ho
      have hcapo := hro.cap
      have hbigo : co ≤ 9223372036854775807 := hro.big
      obtain ⟨p, rfl, cp⟩ := rds_get (hr.below hb) hs
      have Hs := Lib.hid (And.intro hs hout)
      have Ho := Lib.hid (And.intro ho hb)
      clear hs hout ho hb
      go_wp2_with fail
      go_loopw [5] (fun a w2 => ∃ (a' : Nat), a' ≤ out.length ∧ a = .int .i64 a' ∧ posS out s a' = atS out s ∧ ∃ nd, w2 = wr.drewN nd) (fun a _ => (intOf a).toNat)
      case atStart => exact ⟨out.length, Nat.le_refl _, rfl, rfl, 0, rfl⟩
      case round =>
        obtain ⟨a, ha, rfl, hpos, nd, rfl⟩ := hrel
        have Hpos := Lib.hid hpos
        clear hpos
        rcases Nat.eq_zero_or_pos a with h0 | hpos
        · have hdec : decide (0 < a) = false := by rw [h0]; rfl
          have hat0 : posS out s a = a := by rw [h0]; rfl
          have hit0 : hitS out s = false := by unfold hitS; rw [← Hpos.out, hat0, h0]; rfl
          have H0 := Lib.hid (And.intro h0 (And.intro hat0 hit0))
          clear h0 hat0 hit0
          go_wp2_with fail
          go_quiet (fail)
          go_wp2_with fail
          go_quiet (fail)
          have hwl : IntKind.i64.wrap (out.length : Int) = (out.length : Int) := Go.IntWalk.i64_in _ (by omega)
          have hal : a ≤ out.length := ha
          go_wp2_with (at_builtin; refine wpList_app1 rfl (.tmp 45) (.tmp 46) elS rfl w.heap.size _ out.length (strs out) rfl Ho.out.1 (.string ⟨#[]⟩) rfl rfl (by unfold maxLen; omega) (by omega) Ho.out.2.size ?_; intro v' w3 o3 b3 f3; have o4 := own_snocS o3; obtain ⟨g, c3, rfl, hg⟩ := own_blk o4; have hlen4 : (out ++ [(⟨#[]⟩ : ByteArray)]).length = out.length + 1 := by simp)
          have B3 : Below w.heap.size w w3 := b3.after (below_drawn_ Ho.out.2 _) (Nat.le_refl _) (fun b hb => (Ho.out.1.lt b hb).1)
          rw [hlen4] at o4
          have O4 : OwnS w3 w.heap.size (.slice (some ⟨g, 0, none⟩) (out.length + 1) c3) (out.take out.length ++ (⟨#[]⟩ : ByteArray) :: out.drop out.length) := by simpa using o4
          clear o3 o4 b3 f3 hwl
          go_loopw [6] (fun kk w4 => ∃ (m : Nat) (y : ByteArray), a ≤ m ∧ m ≤ out.length ∧ kk = .int .i64 m ∧ OwnS w4 w.heap.size (.slice (some ⟨g, 0, none⟩) (out.length + 1) c3) (out.take m ++ y :: out.drop m) ∧ Below w.heap.size w w4) (fun kk _ => (intOf kk).toNat)
          case atStart => exact ⟨out.length, _, hal, Nat.le_refl _, rfl, O4, B3⟩
          case round =>
            obtain ⟨m, y, ham, hmo, rfl, o5, b5⟩ := hrel
            have hl5 : (out.take m ++ y :: out.drop m).length = out.length + 1 := by simp; omega
            have o5' := o5
            unfold OwnS at o5'
            rw [hl5] at o5'
            have O5 := Lib.hid (And.intro o5 b5)
            clear O4 B3
            by_cases hma : a < m
            · obtain ⟨i, rfl⟩ : ∃ i, m = i + 1 := ⟨m - 1, by omega⟩
              obtain ⟨x, hx⟩ : ∃ x, out[i]? = some x := ⟨_, List.getElem?_eq_getElem (by omega)⟩
              have g1 := World.ownsRow.cellAt o5' i (by omega)
              have g2 := World.ownsRow.cellAt o5' (i + 1) (by omega)
              have g3 := World.ownsRow.frozenAt o5' (i + 1)
              rw [show (strs (out.take (i + 1) ++ y :: out.drop (i + 1)))[i]? = some (.string x) by
                unfold strs
                rw [List.getElem?_map, List.getElem?_append_left (by simp; omega), List.getElem?_take, if_pos (by omega), hx]; rfl] at g1
              rw [List.getElem?_eq_getElem (by rw [strs_len, hl5]; omega)] at g2
              have hwi : IntKind.i64.wrap (i : Int) = (i : Int) := Go.IntWalk.i64_in _ (by omega)
              have Hx := Lib.hid hx
              clear o5 o5' b5 hx
              go_wp2_with fail
              refine ⟨⟨i, x, by omega, by omega, rfl, ?_, O5.out.2.setCell (p := ⟨g, i + 1, none⟩) hg _⟩, by simp [intOf] <;> omega⟩
              have h := own_putS O5.out.1 (j := i + 1) x
              rw [shift_set Hx.out] at h
              exact h
            · obtain rfl : m = a := by omega
              have g2 := World.ownsRow.cellAt o5' m (by omega)
              have g3 := World.ownsRow.frozenAt o5' m
              rw [List.getElem?_eq_getElem (by rw [strs_len, hl5]; omega)] at g2
              obtain ⟨p', e', cp'⟩ := rds_get (hr.below b5) Hs.out.1
              injection e' with e'; subst e'
              clear o5 o5' b5
              go_wp2_with fail
              refine ⟨⟨k + 1, by omega, by go_num, ?_, O5.out.2.setCell (p := ⟨g, m, none⟩) hg _⟩, by simp [intOf]; omega⟩
              have h := own_putS O5.out.1 (j := m) s
              rw [last_set hal] at h
              have hat : m = atS out s := by rw [← Hpos.out, H0.out.2.1]
              rw [take_one_ Hs.out.1, of_snoc, ← Hs.out.2]
              unfold insS
              rw [if_neg (by rw [H0.out.2.2]; decide), ← hat]
              exact h
        · obtain ⟨j, hj⟩ : ∃ j, a = j + 1 := ⟨a - 1, by omega⟩
          obtain ⟨t, ht⟩ : ∃ t, out[j]? = some t := ⟨_, List.getElem?_eq_getElem (by omega)⟩
          obtain ⟨q, rfl, cq⟩ := rds_get hro ht
          have hj2 : j < out.length := by omega
          have hp' : (0 : Int) < (a : Int) := by omega
          have hw1 : IntKind.i64.wrap ((a : Int) - 1) = (j : Int) := by rw [Go.IntWalk.i64_in _ (by omega)]; omega
          have Hj := Lib.hid hj
          have Ht := Lib.hid ht
          have hps : posS out s (j + 1) = if gtS t s then posS out s j else j + 1 := by
            conv => lhs; unfold posS
            rw [ht]
          have HP := Lib.hid hps
          clear hj ht hps
          have hps1 : gtS t s = false → posS out s a = a := fun h => by rw [Hj.out, HP.out, h]; rfl
          have hitE : gtS t s = false → hitS out s = (t.toList == s.toList) := fun h => by
            unfold hitS
            rw [← Hpos.out, hps1 h, Hj.out, Nat.add_sub_cancel, Ht.out]; simp
          have H1 := Lib.hid (And.intro hps1 hitE)
          clear hps1 hitE
          cases hbl : Op.bytesLess t.toList s.toList
          · cases he : (t.toList == s.toList)
            · have HG := Lib.hid (And.intro hbl he)
              go_wp2_with fail
              go_quiet (fail)
              go_wp2_with fail
              refine ⟨⟨j, by omega, by first | rfl | go_num, ?_, nd + nq, by first | rfl | exact drew2 _ _ _⟩, by have := Hj.out; simp [intOf]; omega⟩
              have h' : posS out s (j + 1) = posS out s j := by rw [HP.out]; unfold gtS; rw [HG.out.1, HG.out.2]; rfl
              rw [← h', ← Hj.out]; exact Hpos.out
            · have hgt : gtS t s = false := by unfold gtS; rw [hbl, he]; rfl
              have H0 := Lib.hid (And.intro (H1.out.1 hgt) ((H1.out.2 hgt).trans he))
              clear hgt
              go_wp2_with fail
              go_quiet (fail)
              go_wp2_with fail
              go_quiet (fail)
              go_wp2_with fail
              refine ⟨⟨k + 1, by omega, by go_num, ?_, below_drawn_ Ho.out.2 _⟩, by simp [intOf]; omega⟩
              rw [take_one_ Hs.out.1, of_snoc, ← Hs.out.2]
              unfold insS
              rw [H0.out.2, if_pos rfl]
              exact Ho.out.1
          · have he : (t.toList == s.toList) = false := by
              cases he : (t.toList == s.toList)
              · rfl
              · rw [beq_iff_eq] at he; rw [he, bl_irrefl] at hbl; cases hbl
            have hgt : gtS t s = false := by unfold gtS; rw [hbl]; rfl
            have H0 := Lib.hid (And.intro (H1.out.1 hgt) ((H1.out.2 hgt).trans he))
            clear hgt
            go_wp2_with fail
            go_quiet (fail)
            go_wp2_with fail
            go_quiet (fail)
            have hwl : IntKind.i64.wrap (out.length : Int) = (out.length : Int) := Go.IntWalk.i64_in _ (by omega)
            have hal : a ≤ out.length := ha
            go_wp2_with (at_builtin; refine wpList_app1 rfl (.tmp 45) (.tmp 46) elS rfl w.heap.size _ out.length (strs out) rfl Ho.out.1 (.string ⟨#[]⟩) rfl rfl (by unfold maxLen; omega) (by omega) Ho.out.2.size ?_; intro v' w3 o3 b3 f3; have o4 := own_snocS o3; obtain ⟨g, c3, rfl, hg⟩ := own_blk o4; have hlen4 : (out ++ [(⟨#[]⟩ : ByteArray)]).length = out.length + 1 := by simp)
            have B3 : Below w.heap.size w w3 := b3.after (below_drawn_ Ho.out.2 _) (Nat.le_refl _) (fun b hb => (Ho.out.1.lt b hb).1)
            rw [hlen4] at o4
            have O4 : OwnS w3 w.heap.size (.slice (some ⟨g, 0, none⟩) (out.length + 1) c3) (out.take out.length ++ (⟨#[]⟩ : ByteArray) :: out.drop out.length) := by simpa using o4
            clear o3 o4 b3 f3 hwl
            go_loopw [6] (fun kk w4 => ∃ (m : Nat) (y : ByteArray), a ≤ m ∧ m ≤ out.length ∧ kk = .int .i64 m ∧ OwnS w4 w.heap.size (.slice (some ⟨g, 0, none⟩) (out.length + 1) c3) (out.take m ++ y :: out.drop m) ∧ Below w.heap.size w w4) (fun kk _ => (intOf kk).toNat)
            case atStart => exact ⟨out.length, _, hal, Nat.le_refl _, rfl, O4, B3⟩
            case round =>
              obtain ⟨m, y, ham, hmo, rfl, o5, b5⟩ := hrel
              have hl5 : (out.take m ++ y :: out.drop m).length = out.length + 1 := by simp; omega
              have o5' := o5
              unfold OwnS at o5'
              rw [hl5] at o5'
              have O5 := Lib.hid (And.intro o5 b5)
              clear O4 B3
              by_cases hma : a < m
              · obtain ⟨i, rfl⟩ : ∃ i, m = i + 1 := ⟨m - 1, by omega⟩
                obtain ⟨x, hx⟩ : ∃ x, out[i]? = some x := ⟨_, List.getElem?_eq_getElem (by omega)⟩
                have g1 := World.ownsRow.cellAt o5' i (by omega)
                have g2 := World.ownsRow.cellAt o5' (i + 1) (by omega)
                have g3 := World.ownsRow.frozenAt o5' (i + 1)
                rw [show (strs (out.take (i + 1) ++ y :: out.drop (i + 1)))[i]? = some (.string x) by
                  unfold strs
                  rw [List.getElem?_map, List.getElem?_append_left (by simp; omega), List.getElem?_take, if_pos (by omega), hx]; rfl] at g1
                rw [List.getElem?_eq_getElem (by rw [strs_len, hl5]; omega)] at g2
                have hwi : IntKind.i64.wrap (i : Int) = (i : Int) := Go.IntWalk.i64_in _ (by omega)
                have Hx := Lib.hid hx
                clear o5 o5' b5 hx
                go_wp2_with fail
                refine ⟨⟨i, x, by omega, by omega, rfl, ?_, O5.out.2.setCell (p := ⟨g, i + 1, none⟩) hg _⟩, by simp [intOf] <;> omega⟩
                have h := own_putS O5.out.1 (j := i + 1) x
                rw [shift_set Hx.out] at h
                exact h
              · obtain rfl : m = a := by omega
                have g2 := World.ownsRow.cellAt o5' m (by omega)
                have g3 := World.ownsRow.frozenAt o5' m
                rw [List.getElem?_eq_getElem (by rw [strs_len, hl5]; omega)] at g2
                obtain ⟨p', e', cp'⟩ := rds_get (hr.below b5) Hs.out.1
                injection e' with e'; subst e'
                clear o5 o5' b5
                go_wp2_with fail
                refine ⟨⟨k + 1, by omega, by go_num, ?_, O5.out.2.setCell (p := ⟨g, m, none⟩) hg _⟩, by simp [intOf]; omega⟩
                have h := own_putS O5.out.1 (j := m) s
                rw [last_set hal] at h
                have hat : m = atS out s := by rw [← Hpos.out, H0.out.1]
                rw [take_one_ Hs.out.1, of_snoc, ← Hs.out.2]
                unfold insS
                rw [if_neg (by rw [H0.out.2]; decide), ← hat]
                exact h

    · obtain rfl : k = l.length := by omega
      rw [List.take_length] at ho
      go_wp2_with fail
      go_ret
      exact ⟨_, rfl, ho, hb⟩
end Go.Proofs.YtgmnnpbbiejbnaaGreat.VaL
