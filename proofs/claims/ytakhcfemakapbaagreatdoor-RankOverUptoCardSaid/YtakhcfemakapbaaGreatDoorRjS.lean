/-
  A rank and rows off it; what is popped and set again. Conditions: as stated.
-/
import Derived.Test.YtakhcfemakapbaaGreatDoorRjQ
set_option maxRecDepth 100000
set_option linter.unusedSimpArgs false
set_option linter.unusedVariables false
namespace Go.Proofs.YtakhcfemakapbaaGreatDoor.RjS
open Go Go.RowKit Go.Shelf Go.Sort Go.Proofs.YtakhcfemakapbaaGreatDoor.Mem Go.Proofs.YtakhcfemakapbaaGreatDoor.DuA Go.Proofs.YtakhcfemakapbaaGreatDoor.DuM Go.Proofs.YtakhcfemakapbaaGreatDoor.DuN Go.Proofs.YtakhcfemakapbaaGreatDoor.NumA Go.Proofs.YtakhcfemakapbaaGreatDoor.NumC Go.Proofs.YtakhcfemakapbaaGreatDoor.NumE Go.Proofs.YtakhcfemakapbaaGreatDoor.RkA Go.Proofs.YtakhcfemakapbaaGreatDoor.RkC Go.Proofs.YtakhcfemakapbaaGreatDoor.RkB Go.Proofs.YtakhcfemakapbaaGreatDoor.RkE Go.Proofs.YtakhcfemakapbaaGreatDoor.RkF Go.Proofs.YtakhcfemakapbaaGreatDoor.RkH Go.Proofs.YtakhcfemakapbaaGreatDoor.RkI Go.Proofs.YtakhcfemakapbaaGreatDoor.RkL Go.Proofs.YtakhcfemakapbaaGreatDoor.RkM Go.Proofs.YtakhcfemakapbaaGreatDoor.RkN Go.Proofs.YtakhcfemakapbaaGreatDoor.RkO Go.Proofs.YtakhcfemakapbaaGreatDoor.RkP Go.Proofs.YtakhcfemakapbaaGreatDoor.RkQ Go.Proofs.YtakhcfemakapbaaGreatDoor.RkR Go.Proofs.YtakhcfemakapbaaGreatDoor.RkS Go.Proofs.YtakhcfemakapbaaGreatDoor.RkU Go.Proofs.YtakhcfemakapbaaGreatDoor.RkW Go.Proofs.YtakhcfemakapbaaGreatDoor.RjJ Go.Proofs.YtakhcfemakapbaaGreatDoor.RjK Go.Proofs.YtakhcfemakapbaaGreatDoor.RjL Go.Proofs.YtakhcfemakapbaaGreatDoor.RjM Go.Proofs.YtakhcfemakapbaaGreatDoor.RjN Go.Proofs.YtakhcfemakapbaaGreatDoor.RjO Go.Proofs.YtakhcfemakapbaaGreatDoor.RjQ

abbrev Row := Option Addr × Nat × Nat × List En
/-- A rank and rows that lie off its blocks. -/
structure Pr (W w : World) (g m : Nat) (l : List En) (N : Nat) (R : List Row) : Prop where
  ex : ∃ v, Rk w W.heap.size g m v l N ∧ ∀ r ∈ R, Off w g m v r.1
  rd : ∀ r ∈ R, RdE w r.1 r.2.1 r.2.2.1 r.2.2.2
  bel : Below W.heap.size W w
section
variable {W w w' : World} {g m N : Nat} {l l' : List En} {R : List Row}
theorem Off.below {v : Value} {A : Option Addr} (h : Off w g m v A) (hb : Below w.heap.size w w') : Off w' g m v A := fun k hk => ⟨(h k hk).1, Nat.lt_of_lt_of_le (h k hk).2 hb.size⟩
theorem Off.fresh {v : Value} {A : Option Addr} {n c : Nat} {q : List En} (hr : Rk w W.heap.size g m v l N) (o : OwnE w' w.heap.size (.slice A n c) q) : Off w' g m v A := fun k hk => by
  have h := o.lt k (by rw [ob A n c 0 0]; exact hk)
  exact ⟨fun hs => by have := (hr.lt k hs).2; omega, h.2⟩
theorem Pr.ps (h : Pr W w g m l N R) : Ps W w g m l N := by
  obtain ⟨v, hr, _⟩ := h.ex
  exact ⟨⟨v, hr⟩, h.bel⟩
theorem Pr.of (h : Ps W w g m l N) : Pr W w g m l N [] := by
  obtain ⟨v, hr⟩ := h.rk
  exact ⟨⟨v, hr, fun r hr => by cases hr⟩, fun r hr => (by cases hr), h.bel⟩
theorem Pr.below (h : Pr W w g m l N R) (hb : Below w.heap.size w w') : Pr W w' g m l N R := by
  obtain ⟨v, hr, ho⟩ := h.ex
  exact ⟨⟨v, hr.below hb, fun r hr => Off.below (ho r hr) hb⟩, fun r hr => (h.rd r hr).below hb, below_seq h.bel hb⟩
theorem Pr.turn {v : Value} {N' : Nat} (hr : Rk w W.heap.size g m v l N) (ho : ∀ r ∈ R, Off w g m v r.1) (hd : ∀ r ∈ R, RdE w r.1 r.2.1 r.2.2.1 r.2.2.2) (hb : Below W.heap.size W w) (ht : Turn W.heap.size g m v l' N' w w') : Pr W w' g m l' N' R := by
  obtain ⟨v', hr', hO, hv⟩ := ht
  refine ⟨⟨v', hr', fun r hr2 k hk => ?_⟩, fun r hr2 => (ho r hr2).rd (hd r hr2) hO, hO.after hb (Nat.le_refl _) (fun b hb => (hr.lt b hb).1)⟩
  obtain ⟨h1, h2⟩ := ho r hr2 k hk
  refine ⟨fun hs => ?_, Nat.lt_of_lt_of_le h2 hO.size⟩
  rcases hs with rfl | rfl | hs
  · exact h1 (.inl rfl)
  · exact h1 (.inr (.inl rfl))
  · rcases hv with hv | ⟨q, hv, hq⟩
    · exact h1 (.inr (.inr (by rw [← hv]; exact hs)))
    · rw [hs] at hv
      injection hv with hv
      omega
theorem Pr.set (h : Pr W w g m l N R) (k : ByteArray) (t : Int) (hk : okk k) (hN : N ≤ 999999999) :
    Calls Tryz.prog 27 #[.pointer (some ⟨g, 0, none⟩), .string k, .int .i64 t] w fun e w' => e = .returned (setV l k t) ∧ Pr W w' g m (setL l k t) (N + 1) R := by
  obtain ⟨v, hr, ho⟩ := h.ex
  exact (set_calls _ g m v l N k t w hr hk h.bel.size hN).mono fun e w' ⟨he, ht⟩ => ⟨he, Pr.turn hr ho h.rd h.bel ht⟩
theorem Pr.drop (h : Pr W w g m l N R) (k : ByteArray) (hk : okk k) (hN : N ≤ 1000000000) :
    Calls Tryz.prog 29 #[.pointer (some ⟨g, 0, none⟩), .string k] w fun e w' => e = .returned (.bool (dueL l k).isSome) ∧ Pr W w' g m (dropL l k) N R := by
  obtain ⟨v, hr, ho⟩ := h.ex
  exact (drop_calls _ g m v l N k w hr hk h.bel.size hN).mono fun e w' ⟨he, ht⟩ => ⟨he, Pr.turn hr ho h.rd h.bel ht⟩
theorem Pr.pop (h : Pr W w g m l N R) (n : Int) (gr : Bool) (hn : inI n) (hN : N ≤ 1000000000) (a : List En) (T : Nat) (ha : popL l n gr = a) (hT : a.length = T) (hl : leftL l n gr = l') :
    Calls Tryz.prog 26 #[.pointer (some ⟨g, 0, none⟩), .int .i64 n, .bool gr] w fun e w' => ∃ A' c', e = .returned (.slice A' T c') ∧ Pr W w' g m l' N ((A', T, c', a) :: R) := by
  obtain ⟨v, hr, ho⟩ := h.ex
  refine (pop_calls _ g m v l N n gr w hr h.bel.size hN hn).mono ?_
  rintro e w' ⟨v', w1, rfl, ht, o, b⟩
  rw [hl] at ht
  have h1 := (Pr.turn hr ho h.rd h.bel ht).below b
  have h2 := Pr.turn hr ho h.rd h.bel ht
  rw [ha] at o
  obtain ⟨A', c', rfl, r⟩ := own_rd o
  subst hT
  obtain ⟨v2, hr2, ho2⟩ := h2.ex
  refine ⟨A', c', rfl, ⟨⟨v2, hr2.below b, fun r hr => ?_⟩, fun q hq => ?_, h1.bel⟩⟩
  · rcases List.mem_cons.1 hr with rfl | hr
    · exact Off.fresh hr2 o
    · exact Off.below (ho2 r hr) b
  · rcases List.mem_cons.1 hq with rfl | hq
    · exact r
    · exact h1.rd q hq
theorem Pr.list (h : Pr W w g m l N R) (hN : N ≤ 1000000000) (T : Nat) (hT : l.length = T) :
    Calls Tryz.prog 16 #[.pointer (some ⟨g, 0, none⟩)] w fun e w' => ∃ A' c', e = .returned (.slice A' T c') ∧ Pr W w' g m l N ((A', T, c', l) :: R) := by
  obtain ⟨v, hr, ho⟩ := h.ex
  refine (list_calls _ g m v l N w hr hN).mono ?_
  rintro e w' ⟨v', rfl, o, b⟩
  have h1 := h.below b
  obtain ⟨A', c', rfl, r⟩ := own_rd o
  subst hT
  refine ⟨A', c', rfl, ⟨⟨v, hr.below b, fun r hr2 => ?_⟩, fun q hq => ?_, h1.bel⟩⟩
  · rcases List.mem_cons.1 hr2 with rfl | hr2
    · exact Off.fresh hr o
    · exact Off.below (ho r hr2) b
  · rcases List.mem_cons.1 hq with rfl | hq
    · exact r
    · exact h1.rd q hq
end
theorem srt_sub {L M : List En} (hs : Srt ltS M) (h : L.Sublist M) : Srt ltS L := ⟨hs.ord.sublist h, List.Nodup.sublist (h.map _) hs.one⟩
/-- One more of a rank's entries is set: it is the next piece of it. -/
theorem set_next {M L L' : List En} {e : En} (hs : Srt ltS M) (hL : L.Sublist M) (hL' : L'.Sublist M) (hp : L'.Perm (e :: L)) (hok : okS e.1) : setL L e.2 e.1 = L' ∧ setV L e.2 e.1 = .tuple #[.bool true, .int .i64 0] := by
  have s1 := srt_sub hs hL
  have s2 := srt_sub hs hL'
  have hnd := (hp.map (·.2)).nodup_iff.1 s2.one
  rw [List.map_cons, List.nodup_cons] at hnd
  have hdu := due_none.2 hnd.1
  unfold setL setV
  rw [if_pos hok, if_pos hok, drop_id hnd.1, hdu]
  refine ⟨?_, rfl⟩
  exact srt_is s2 ((ins_perm _ L).trans hp.symm) ((s1.ins linS hnd.1).ord.imp (fun h => bef_asym linS h))
/-- What RankPops tells of a list. -/
structure PP (M : List En) (n k : Int) (T1 T2 nC : Nat) (a b C : List En) : Prop where
  t1 : max (0 : Int) (min n (M.length : Int)) = (T1 : Int)
  pa : popL M n false = a
  la : a.length = T1
  l1 : leftL M n false = M.drop T1
  pb : popL (M.drop T1) k true = b
  lb : b.length = T2
  l2 : leftL (M.drop T1) k true = C
  lc : C.length = nC
  sum : T1 + T2 + nC = M.length
  cM : (M.drop T1).take nC = C
  aM : a = M.take T1
  bM : ∀ i x, b[i]? = some x → M[M.length - 1 - i]? = some x
theorem pops_facts (M : List En) (n k : Int) : ∃ T1 T2 nC a b C, PP M n k T1 T2 nC a b C := by
  have h1 : popN M n ≤ M.length := by unfold popN; omega
  have h2 : popN (M.drop (popN M n)) k ≤ (M.drop (popN M n)).length := by unfold popN; omega
  have h3 : (M.drop (popN M n)).length = M.length - popN M n := List.length_drop
  refine ⟨popN M n, popN (M.drop (popN M n)) k, M.length - popN M n - popN (M.drop (popN M n)) k, _, _, _, ⟨?_, rfl, ?_, ?_, rfl, ?_, rfl, ?_, by omega, ?_, ?_, ?_⟩⟩
  · unfold popN; omega
  · unfold popL wayL; simp; omega
  · unfold leftL; simp
  · unfold popL wayL; simp; omega
  · unfold leftL; simp; (try omega)
  · unfold leftL
    simp only [if_true]
    rw [h3]
  · unfold popL wayL; simp
  · intro i x hx
    unfold popL wayL at hx
    simp only [if_true] at hx
    rw [List.getElem?_take] at hx
    split at hx
    · rename_i hi
      rw [List.getElem?_reverse (by omega), List.getElem?_drop] at hx
      rw [← hx]
      congr 1
      omega
    · cases hx
theorem sub_two (M : List En) (p q : Nat) (h : p ≤ q) : (M.take p ++ M.drop q).Sublist M := by
  have : (M.take p ++ M.drop q).Sublist (M.take p ++ M.drop p) := by
    refine List.Sublist.append (List.Sublist.refl _) ?_
    rw [show M.drop q = (M.drop p).drop (q - p) by rw [List.drop_drop]; congr 1; omega]
    exact List.drop_sublist _ _
  rwa [List.take_append_drop] at this
theorem sub_mid (M : List En) (T1 nC q : Nat) (h : T1 + nC ≤ q) : ((M.drop T1).take nC ++ M.drop q).Sublist M := by
  have := sub_two (M.drop T1) nC (q - T1) (by omega)
  rw [List.drop_drop, show T1 + (q - T1) = q by omega] at this
  exact this.trans (List.drop_sublist _ _)
theorem perm_mid {C : List En} {M : List En} {q : Nat} {x : En} (hx : M[q]? = some x) : (C ++ M.drop q).Perm (x :: (C ++ M.drop (q + 1))) := by
  obtain ⟨h1, rfl⟩ := List.getElem?_eq_some_iff.1 hx
  rw [List.drop_eq_getElem_cons h1]
  exact List.perm_middle
theorem perm_take {M D : List En} {i : Nat} {x : En} (hx : M[i]? = some x) : (M.take (i + 1) ++ D).Perm (x :: (M.take i ++ D)) := by
  rw [List.take_add_one, hx]
  simp only [Option.toList_some, List.append_assoc, List.cons_append, List.nil_append]
  exact List.perm_middle
end Go.Proofs.YtakhcfemakapbaaGreatDoor.RjS
