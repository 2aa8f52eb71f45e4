/-
  Texts in order; entries (score, name) in order. Conditions: as stated.
  Plain laws of a rank: entries (score, name) in order; put together, places, pieces, parts. No program in sight. Conditions: as stated.
  Rows of entries (score, name): how they lie. Conditions: as stated.
-/
import Derived.Test.YtakhcfemakapbaaGreatDoorDuM
import Derived.Test.YtakhcfemakapbaaGreatDoorDuN
import Derived.Deep.LoopGhost
import Derived.Laws.Cover1
import Derived.Test.YtakhcfemakapbaaGreatDoorRows
import Derived.Deep.RegionHeld3
set_option maxRecDepth 100000
set_option linter.unusedSimpArgs false
set_option linter.unusedVariables false
namespace Go.Proofs.YtakhcfemakapbaaGreatDoor.RkA
open Go.RowKit Go.Proofs.YtakhcfemakapbaaGreatDoor.Mem Go.Proofs.YtakhcfemakapbaaGreatDoor.DuA Go.Proofs.YtakhcfemakapbaaGreatDoor.DuM Go.Proofs.YtakhcfemakapbaaGreatDoor.DuN

theorem bl_irrefl : ∀ x : List UInt8, Op.bytesLess x x = false
  | [] => rfl
  | a :: x => by simp [Op.bytesLess, bl_irrefl x]
theorem bl_trans : ∀ x y z : List UInt8, Op.bytesLess x y = true → Op.bytesLess y z = true → Op.bytesLess x z = true
  | _, _, [], _, h => by cases h' : ‹List UInt8› <;> simp_all [Op.bytesLess]
  | _, [], _ :: _, h, _ => by simp [Op.bytesLess] at h
  | [], _ :: _, _ :: _, _, _ => rfl
  | a :: x, b :: y, c :: z, h1, h2 => by
    simp only [Op.bytesLess, Bool.or_eq_true, decide_eq_true_eq, Bool.and_eq_true, beq_iff_eq] at h1 h2 ⊢
    rcases h1 with h1 | ⟨rfl, h1⟩
    · rcases h2 with h2 | ⟨rfl, h2⟩
      · exact .inl (UInt8.lt_trans h1 h2)
      · exact .inl h1
    · rcases h2 with h2 | ⟨rfl, h2⟩
      · exact .inl h2
      · exact .inr ⟨rfl, bl_trans x y z h1 h2⟩
theorem bl_total : ∀ x y : List UInt8, Op.bytesLess x y = false → x ≠ y → Op.bytesLess y x = true
  | [], [], _, h => absurd rfl h
  | _ :: _, [], _, _ => rfl
  | [], _ :: _, h, _ => by simp [Op.bytesLess] at h
  | a :: x, b :: y, h, hn => by
    simp only [Op.bytesLess, Bool.or_eq_false_iff, decide_eq_false_iff_not, Bool.or_eq_true, decide_eq_true_eq, Bool.and_eq_true, beq_iff_eq] at h ⊢
    by_cases e : a = b
    · subst e
      refine .inr ⟨rfl, bl_total x y ?_ (fun e => hn (by rw [e]))⟩
      have := h.2
      simpa using this
    · refine .inl ?_
      have h1 : ¬ a.toNat < b.toNat := h.1
      have h2 : a.toNat ≠ b.toNat := fun e' => e (UInt8.toNat_inj.1 e')
      exact UInt8.lt_iff_toNat_lt.2 (by omega)
theorem toL_inj {a b : ByteArray} (h : a.toList = b.toList) : a = b := by
  rw [ByteArray.toList_eq, ByteArray.toList_eq] at h
  cases a; cases b; simp_all
def ltS (a b : ByteArray) : Bool := Op.bytesLess a.toList b.toList
def ltI (a b : Int) : Bool := decide (a < b)
theorem linS : Lin ltS := ⟨fun a => bl_irrefl _, fun h k => bl_trans _ _ _ h k, fun h hn => bl_total _ _ h (fun e => hn (toL_inj e))⟩
theorem linI : Lin ltI := ⟨fun a => by simp [ltI], fun h k => by simp only [ltI, decide_eq_true_eq] at *; omega, fun h hn => by simp only [ltI, decide_eq_true_eq, decide_eq_false_iff_not] at *; omega⟩
def klS (s : ByteArray) : Lit := .string s.data.toList
def klI (i : Int) : Lit := .int .i64 i
theorem keyS : KeyC klS := ⟨fun {a b} h => by unfold klS at h; injection h with h; cases a; cases b; simp_all, fun a => by trivial⟩
theorem keyI : KeyC klI := ⟨fun {a b} h => by unfold klI at h; injection h, fun a => by trivial⟩
theorem leS (a b : ByteArray) : (Op.bytesLess a.toList b.toList || a.toList == b.toList) = !ltS b a := by
  show (ltS a b || a.toList == b.toList) = !ltS b a
  cases h : ltS a b
  · by_cases e : a = b
    · subst e; rw [linS.irr]; simp
    · rw [linS.tot h e]
      cases h2 : a.toList == b.toList
      · rfl
      · exact absurd (toL_inj (by simpa using h2)) e
  · cases h2 : ltS b a
    · rfl
    · have := linS.tr h h2
      rw [linS.irr] at this; cases this
theorem eqS (a b : ByteArray) : (a.toList == b.toList) = decide (a = b) := by
  by_cases h : a = b
  · subst h; simp
  · have : ¬ a.toList = b.toList := fun e => h (toL_inj e)
    simp [h, this]
end Go.Proofs.YtakhcfemakapbaaGreatDoor.RkA
set_option maxRecDepth 100000
set_option linter.unusedSimpArgs false
set_option linter.unusedVariables false
namespace Go.Proofs.YtakhcfemakapbaaGreatDoor.RkC
open Go Go.RowKit Go.Proofs.YtakhcfemakapbaaGreatDoor.DuA Go.Proofs.YtakhcfemakapbaaGreatDoor.RkA

abbrev En := Int × ByteArray
def okS (n : Int) : Prop := -9007199254740992 ≤ n ∧ n ≤ 9007199254740992
instance (n : Int) : Decidable (okS n) := by unfold okS; infer_instance
def ofF (acc l : List En) : List En := l.foldl (fun a e => insL ltS e a) acc
def ofL (l : List En) : List En := ofF [] l
theorem ins_perm (e : En) : ∀ l : List En, (insL ltS e l).Perm (e :: l)
  | [] => List.Perm.refl _
  | y :: r => by
    unfold insL
    split
    · exact List.Perm.refl _
    · exact ((ins_perm e r).cons y).trans (List.Perm.swap e y r)
theorem ofF_facts : ∀ (l acc : List En), Srt ltS acc → ((acc ++ l).map (·.2)).Nodup → Srt ltS (ofF acc l) ∧ (ofF acc l).Perm (acc ++ l)
  | [], acc, h, _ => ⟨h, by simp [ofF]⟩
  | e :: l, acc, h, hn => by
    have hm : e.2 ∉ acc.map (·.2) := by
      rw [List.map_append, List.nodup_append] at hn
      intro hm
      exact hn.2.2 _ hm _ (by simp) rfl
    have hp : (insL ltS e acc ++ l).Perm (acc ++ e :: l) := ((ins_perm e acc).append_right l).trans (by
      rw [List.cons_append]; exact List.perm_middle.symm)
    obtain ⟨h1, h2⟩ := ofF_facts l (insL ltS e acc) (h.ins linS hm) ((hp.map _).nodup_iff.2 hn)
    exact ⟨h1, h2.trans hp⟩
theorem of_facts {l : List En} (hn : (l.map (·.2)).Nodup) : Srt ltS (ofL l) ∧ (ofL l).Perm l := by
  have := ofF_facts l [] Srt.nil (by simpa using hn)
  have h2 := this.2
  rw [List.nil_append] at h2
  exact ⟨this.1, h2⟩
/-- The one permutation in order. -/
theorem srt_is {l d : List En} (hs : Srt ltS l) (hp : d.Perm l) (hd : d.Pairwise (fun x y => bef ltS y x = false)) : d = l := by
  refine List.Perm.eq_of_pairwise (le := fun x y => bef ltS y x = false) ?_ hd (hs.ord.imp (fun h => bef_asym linS h)) hp
  intro a b _ _ h1 h2
  rcases Classical.em (a = b) with e | e
  · exact e
  · have := bef_tot linS h1 (fun e' => e e'.symm)
    rw [h2] at this; cases this
theorem of_id {l : List En} (hs : Srt ltS l) : ofL l = l := (srt_is hs (of_facts hs.one).2 ((of_facts hs.one).1.ord.imp (fun h => bef_asym linS h)))
/-- The first place of a name, or the length. -/
def plN : List En → ByteArray → Nat
  | [], _ => 0
  | e :: r, k => if e.2 = k then 0 else plN r k + 1
theorem pl_le : ∀ (l : List En) (k : ByteArray), plN l k ≤ l.length
  | [], _ => Nat.le_refl _
  | e :: r, k => by unfold plN; split <;> (have := pl_le r k; simp; try omega)
theorem pl_before : ∀ {l : List En} {k : ByteArray} {i : Nat} {e : En}, i < plN l k → l[i]? = some e → e.2 ≠ k
  | [], k, i, e, h, _ => by simp [plN] at h
  | y :: r, k, i, e, h, he => by
    unfold plN at h
    split at h
    · omega
    · rename_i hne
      cases i with
      | zero => simp at he; subst he; exact hne
      | succ i => exact pl_before (l := r) (k := k) (i := i) (by omega) (by simpa using he)
theorem pl_here : ∀ {l : List En} {k : ByteArray} {e : En}, l[plN l k]? = some e → e.2 = k
  | [], k, e, h => by simp at h
  | y :: r, k, e, h => by
    unfold plN at h
    split at h
    · rename_i hy; simp at h; subst h; exact hy
    · exact pl_here (by simpa using h)
theorem pl_uniq {l : List En} {k : ByteArray} {i : Nat} (h1 : ∀ j e, j < i → l[j]? = some e → e.2 ≠ k) (h2 : i = l.length ∨ ∃ e, l[i]? = some e ∧ e.2 = k) : plN l k = i := by
  rcases Nat.lt_trichotomy (plN l k) i with h | h | h
  · have hlt : plN l k < l.length := by
      rcases h2 with h2 | ⟨e, h2, _⟩
      · omega
      · have := (List.getElem?_eq_some_iff.1 h2).1; omega
    exact absurd (pl_here (List.getElem?_eq_getElem hlt)) (h1 _ _ h (List.getElem?_eq_getElem hlt))
  · exact h
  · have := pl_le l k
    rcases h2 with h2 | ⟨e, h2, h3⟩
    · omega
    · exact absurd h3 (pl_before h h2)
theorem due_pl : ∀ (l : List En) (k : ByteArray), dueL l k = (l[plN l k]?).map (·.1)
  | [], k => rfl
  | y :: r, k => by
    have ih := due_pl r k
    unfold dueL at ih ⊢
    unfold plN
    by_cases h : y.2 = k
    · simp [h]
    · simp [h]; exact ih
theorem due_pl_lt {l : List En} {k : ByteArray} : (dueL l k).isSome = true ↔ plN l k < l.length := by
  rw [due_pl, Option.isSome_map]
  constructor
  · intro h
    obtain ⟨e, he⟩ := Option.isSome_iff_exists.1 h
    exact (List.getElem?_eq_some_iff.1 he).1
  · intro h; rw [List.getElem?_eq_getElem h]; rfl
theorem drop_pl : ∀ {l : List En} {k : ByteArray}, (l.map (·.2)).Nodup → plN l k < l.length → dropL l k = l.take (plN l k) ++ l.drop (plN l k + 1)
  | [], k, _, h => by simp at h
  | y :: r, k, hn, h => by
    rw [List.map_cons, List.nodup_cons] at hn
    unfold plN at h ⊢
    by_cases hy : y.2 = k
    · rw [if_pos hy]
      subst hy
      have : dropL (y :: r) y.2 = dropL r y.2 := by simp [dropL]
      rw [this, drop_id hn.1]
      simp
    · rw [if_neg hy] at h ⊢
      have : dropL (y :: r) k = y :: dropL r k := by simp [dropL, hy]
      rw [this, drop_pl hn.2 (by simpa using h)]
      simp
theorem drop_pl_none {l : List En} {k : ByteArray} (h : ¬ plN l k < l.length) : dropL l k = l := by
  apply drop_id
  intro hm
  have h1 : dueL l k ≠ none := fun e => (due_none.1 e) hm
  have h2 : (dueL l k).isSome = true := Option.isSome_iff_ne_none.2 h1
  exact h (due_pl_lt.1 h2)
/-- A place in the order is the place of its name. -/
theorem pos_pl {l : List En} (hs : Srt ltS l) {t : Int} {k : ByteArray} (hd : dueL l k = some t) : posL ltS l (t, k) = plN l k := by
  have hm := (due_some hs.one).1 hd
  obtain ⟨p1, _⟩ := pos_at linS hs hm
  refine (pl_uniq (fun j e hj he hk => ?_) (.inr ⟨_, p1, rfl⟩)).symm
  have hjl := (List.getElem?_eq_some_iff.1 he).1
  have hpl := (List.getElem?_eq_some_iff.1 p1).1
  have hn := List.nodup_iff_pairwise_ne.1 hs.one
  rw [List.pairwise_map] at hn
  have := List.pairwise_iff_getElem.1 hn j _ hjl hpl hj
  rw [(List.getElem?_eq_some_iff.1 he).2, (List.getElem?_eq_some_iff.1 p1).2] at this
  exact this hk
def wayL (l : List En) (rev : Bool) : List En := if rev then l.reverse else l
theorem way_len (l : List En) (rev : Bool) : (wayL l rev).length = l.length := by unfold wayL; split <;> simp
theorem pl_rev {l : List En} (hn : (l.map (·.2)).Nodup) {k : ByteArray} (h : plN l k < l.length) : plN l.reverse k = l.length - 1 - plN l k := by
  refine pl_uniq (fun j e hj he hk => ?_) (.inr ?_)
  · rw [List.getElem?_reverse (by omega)] at he
    have hn' := List.nodup_iff_pairwise_ne.1 hn
    rw [List.pairwise_map] at hn'
    have hlt : l.length - 1 - j < l.length := by omega
    have := List.pairwise_iff_getElem.1 hn' (plN l k) (l.length - 1 - j) h hlt (by omega)
    rw [(List.getElem?_eq_some_iff.1 he).2, pl_here (List.getElem?_eq_getElem h)] at this
    exact this hk.symm
  · exact ⟨_, by rw [List.getElem?_reverse (by omega), show l.length - 1 - (l.length - 1 - plN l k) = plN l k by omega]; exact List.getElem?_eq_getElem h, pl_here (List.getElem?_eq_getElem h)⟩
/-- The place of a name, from either end. -/
def placeL (l : List En) (k : ByteArray) (rev : Bool) : Option Nat := if plN (wayL l rev) k < l.length then some (plN (wayL l rev) k) else none
theorem place_is {l : List En} (hn : (l.map (·.2)).Nodup) {k : ByteArray} (rev : Bool) (h : plN l k < l.length) : placeL l k rev = some (if rev then l.length - 1 - plN l k else plN l k) := by
  unfold placeL wayL
  cases rev
  · simp [h]
  · simp only [if_true]
    rw [pl_rev hn h, if_pos (by omega)]
theorem place_none {l : List En} {k : ByteArray} (rev : Bool) (h : ¬ plN l k < l.length) : placeL l k rev = none := by
  unfold placeL
  rw [if_neg]
  intro h2
  apply h
  have h3 : plN (wayL l rev) k < (wayL l rev).length := by rw [way_len]; exact h2
  have h4 := pl_here (List.getElem?_eq_getElem h3)
  have h5 : (wayL l rev)[plN (wayL l rev) k] ∈ l := by
    unfold wayL
    cases rev <;> simp
  rcases Nat.lt_or_ge (plN l k) l.length with h6 | h6
  · exact h6
  · obtain ⟨i, hi, he⟩ := List.getElem_of_mem h5
    exact absurd (by rw [he]; exact h4) (pl_before (l := l) (k := k) (i := i) (by omega) (List.getElem?_eq_getElem hi))
/-- A piece, from a place to a place. -/
def fromI (n : Nat) (a : Int) : Int := if a < 0 then max (n + a) 0 else a
def toI (n : Nat) (b : Int) : Int := min (if b < 0 then b + n else b) (n - 1)
def sliceL (l : List En) (a b : Int) (rev : Bool) : List En := if toI l.length b < fromI l.length a then [] else ((wayL l rev).drop (fromI l.length a).toNat).take ((toI l.length b).toNat + 1 - (fromI l.length a).toNat)
/-- A bound: of no end (-1, 1), open, its score, its name. -/
structure Bd where
  inf : Int
  opn : Bool
  score : Int
  name : ByteArray
/-- Does a bound let what compares so with it, as the lower end? -/
def letB (b : Bd) (c : Int) (lower : Bool) : Bool := if b.inf ≠ 0 then (decide (b.inf < 0) == lower) else if c = 0 then !b.opn else (decide (0 < c) == lower)
def cmpI (a b : Int) : Int := if a < b then -1 else if b < a then 1 else 0
def cmpT (a b : ByteArray) : Int := if ltS a b then -1 else if ltS b a then 1 else 0
def inS (lo hi : Bd) (x : En) : Bool := letB lo (cmpI x.1 lo.score) true && letB hi (cmpI x.1 hi.score) false
def inN (lo hi : Bd) (x : En) : Bool := letB lo (cmpT x.2 lo.name) true && letB hi (cmpT x.2 hi.name) false
def cutL (l : List En) (skip most : Int) : List En := if most < 0 then l.drop skip.toNat else (l.drop skip.toNat).take most.toNat
def partL (l : List En) (p : En → Bool) (rev : Bool) (skip most : Int) : List En := cutL ((wayL l rev).filter p) skip most
theorem part_way (l : List En) (p : En → Bool) (rev : Bool) : (wayL l rev).filter p = wayL (l.filter p) rev := by
  unfold wayL; cases rev
  · rfl
  · simp [List.filter_reverse]
/-- How many are popped. -/
def popN (l : List En) (n : Int) : Nat := (min (max n 0) l.length).toNat
def popL (l : List En) (n : Int) (g : Bool) : List En := (wayL l g).take (popN l n)
def leftL (l : List En) (n : Int) (g : Bool) : List En := if g then l.take (l.length - popN l n) else l.drop (popN l n)
end Go.Proofs.YtakhcfemakapbaaGreatDoor.RkC
set_option maxRecDepth 100000
set_option linter.unusedSimpArgs false
set_option linter.unusedVariables false
namespace Go.Proofs.YtakhcfemakapbaaGreatDoor.RkB
open Go.RowKit Go.Proofs.YtakhcfemakapbaaGreatDoor.Mem Go.Proofs.YtakhcfemakapbaaGreatDoor.DuA Go.Proofs.YtakhcfemakapbaaGreatDoor.DuM Go.Proofs.YtakhcfemakapbaaGreatDoor.DuN Go.Proofs.YtakhcfemakapbaaGreatDoor.RkA

abbrev Ent := 51
abbrev eo (e : Int × ByteArray) : Obj := .cells #[Value.string e.2, .int .i64 e.1] 51
def ents (l : List (Int × ByteArray)) : List Value := l.flatMap fun e => [Value.string e.2, .int .i64 e.1]
theorem ents_len (l : List (Int × ByteArray)) : (ents l).length = l.length * 2 := by
  induction l with
  | nil => rfl
  | cons e r ih => simp only [ents, List.flatMap_cons, List.length_append, List.length_cons, List.length_nil] at ih ⊢; omega
theorem ents_app (a b : List (Int × ByteArray)) : ents (a ++ b) = ents a ++ ents b := by simp [ents]
theorem ents_one (l : List (Int × ByteArray)) : ∀ u ∈ ents l, u.oneCell' = true := by
  intro u hu; simp only [ents, List.mem_flatMap] at hu; obtain ⟨x, _, h⟩ := hu; simp at h; rcases h with rfl | rfl <;> rfl
theorem ents_take : ∀ (l : List (Int × ByteArray)) (k : Nat), (ents l).take (k * 2) = ents (l.take k)
  | [], k => by simp [ents]
  | e :: r, 0 => by simp [ents]
  | e :: r, k + 1 => by
    have ih := ents_take r k
    rw [show (k + 1) * 2 = k * 2 + 2 by omega]
    simp only [ents, List.flatMap_cons, List.take_succ_cons, List.cons_append, List.nil_append] at ih ⊢
    rw [ih]
theorem ents_drop : ∀ (l : List (Int × ByteArray)) (k : Nat), (ents l).drop (k * 2) = ents (l.drop k)
  | [], k => by simp [ents]
  | e :: r, 0 => by simp [ents]
  | e :: r, k + 1 => by
    have ih := ents_drop r k
    rw [show (k + 1) * 2 = k * 2 + 2 by omega]
    simp only [ents, List.flatMap_cons, List.drop_succ_cons, List.cons_append, List.nil_append] at ih ⊢
    rw [ih]
theorem ents_get : ∀ (l : List (Int × ByteArray)) (i : Nat) (e : Int × ByteArray), l[i]? = some e → (ents l)[i * 2]? = some (Value.string e.2) ∧ (ents l)[i * 2 + 1]? = some (.int .i64 e.1)
  | [], i, e, h => by simp at h
  | y :: r, 0, e, h => by simp at h; subst h; simp [ents]
  | y :: r, i + 1, e, h => by
    obtain ⟨h1, h2⟩ := ents_get r i e (by simpa using h)
    rw [show (i + 1) * 2 = i * 2 + 2 by omega]
    simp only [ents, List.flatMap_cons, List.cons_append, List.nil_append] at h1 h2 ⊢
    exact ⟨by simpa using h1, by rw [show i * 2 + 2 + 1 = i * 2 + 1 + 2 by omega]; simpa using h2⟩
/-- A slice that reads as such a list. -/
abbrev RdE (w : World) (A : Option Addr) (n c : Nat) (l : List (Int × ByteArray)) : Prop := Rd w 2 A n c (ents l)
theorem rde_len {w : World} {A : Option Addr} {n c : Nat} {l : List (Int × ByteArray)} (h : RdE w A n c l) : l.length = n := by have := h.len; rw [ents_len] at this; omega
theorem rde_get {w : World} {A : Option Addr} {n c : Nat} {l : List (Int × ByteArray)} (h : RdE w A n c l) {i : Nat} {e : Int × ByteArray} (hs : l[i]? = some e) :
    ∃ p, A = some p ∧ w.cell? (p.add (i * 2)) = some (Value.string e.2) ∧ w.cell? ⟨(p.add (i * 2)).block, (p.add (i * 2)).off + 1, none⟩ = some (.int .i64 e.1) := by
  obtain ⟨h1, h2⟩ := ents_get l i e hs
  obtain ⟨p, rfl, c1⟩ := h.get _ _ h1
  obtain ⟨p', e', c2⟩ := h.get _ _ h2
  injection e' with e'; subst e'
  exact ⟨_, rfl, c1, by
    have h : w.cell? ((p.add (i * 2)).add 1) = some (.int .i64 e.1) := by rw [add_add]; exact c2
    exact h⟩
theorem elE : El Tryz.prog 22 51 (.agg #[.string ⟨#[]⟩, .int .i64 0]) 2 24 := by
  obtain ⟨i, h1, h2, h3, h4⟩ := info_parts (show (Tryz.prog.info? 51).map (fun i => (i.zero, i.size, i.bytes)) = some (some (.agg #[.string ⟨#[]⟩, .int .i64 0]), 2, 24) by kernel_rfl)
  exact ⟨Tryz.underlying22, ⟨i, h1, h2, h3, h4⟩, rfl, by decide⟩

theorem al (w : World) (o : Obj) : Below w.heap.size w (w.alloc o) := (Below.refl _ w).alloc (Nat.le_refl _) o
theorem eo_cells (w : World) (e : Int × ByteArray) : (w.alloc (eo e)).cell? ⟨w.heap.size, 0, none⟩ = some (Value.string e.2) ∧ (w.alloc (eo e)).cell? ⟨w.heap.size, 1, none⟩ = some (.int .i64 e.1) := by
  have h := heap_alloc_new w (eo e)
  exact ⟨by unfold World.cell?; simp only [h]; rfl, by unfold World.cell?; simp only [h]; rfl⟩
theorem below_drawn_ {B : Nat} {w w' : World} (h : Below B w w') (n : Nat) : Below B w (w'.drewN n) := h.trans ⟨rfl, rfl, rfl, Nat.le_refl _, fun _ _ => rfl⟩
theorem cell_b {w w' : World} {q : Addr} {u : Value} (hc : w.cell? q = some u) (hb : Below w.heap.size w w') : w'.cell? q = some u := by
  have hlt : q.block < w.heap.size := by
    rcases Nat.lt_or_ge q.block w.heap.size with hlt | hge
    · exact hlt
    · simp [World.cell?, Array.getElem?_eq_none hge] at hc
  exact (hb.cell hlt).trans hc

end Go.Proofs.YtakhcfemakapbaaGreatDoor.RkB
