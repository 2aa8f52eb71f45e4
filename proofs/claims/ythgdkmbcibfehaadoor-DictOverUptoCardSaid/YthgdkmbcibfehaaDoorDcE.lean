/-
  What has been told of a map while it is gone over. Conditions: as stated.
-/
import Derived.Test.YthgdkmbcibfehaaDoorDcD
import Derived.Maps.Range
import Derived.Maps.RangeWalk
set_option maxRecDepth 100000
set_option linter.unusedSimpArgs false
set_option linter.unusedVariables false
namespace Go.Proofs.YthgdkmbcibfehaaDoor.DcE
open Go.RowKit Go.Proofs.YthgdkmbcibfehaaDoor.Mem Go.Proofs.YthgdkmbcibfehaaDoor.DcA Go.Proofs.YthgdkmbcibfehaaDoor.DcB

theorem same_iff (a b : ByteArray) : (klS a).sameKey (klS b) = decide (a = b) := by
  by_cases h : a = b
  · subst h
    rw [WideAt.sameKey_self (kl_ok a)]
    simp
  · rw [Maps.sameKey_ne (fun e => h (kl_inj e))]
    simp [h]
/-- out: what has been told; left: the keys that are still to come. -/
structure Coll (l out : List Fld) (left : Lit → Bool) : Prop where
  sub : ∀ f ∈ out, f ∈ l
  nod : (out.map Prod.fst).Nodup
  left : ∀ k, left (klS k) = true ↔ (getL l k).isSome = true ∧ k ∉ out.map Prod.fst
theorem Coll.start {D : Dt} {l : List Fld} (hT : Tells D l) : Coll l [] (Maps.has D) :=
  ⟨fun f h => (by cases h), List.nodup_nil, fun k => by rw [hT.is k]; simp⟩
theorem Coll.next {D : Dt} {l out : List Fld} {left : Lit → Bool} (hT : Tells D l) (hr : Ris l) (h : Coll l out left) {x c : ByteArray} (hl : left (klS x) = true)
    (hat : ∀ zd, D.atKey (klS x) zd = .lit (.string c.data.toList)) : Coll l (out ++ [(x, c)]) (fun z => left z && !z.sameKey (klS x)) := by
  obtain ⟨h3, hnx⟩ := (h.left x).1 hl
  have hc : getL l x = some c := by
    obtain ⟨v, hv⟩ := Option.isSome_iff_exists.1 h3
    have := hT.at_ x
    rw [hat, hv] at this
    injection this with this
    injection this with this
    rw [hv]
    congr 1
    exact (kl_inj (congrArg Lit.string this)).symm
  refine ⟨fun f hf => ?_, ?_, fun k => ?_⟩
  · rcases List.mem_append.1 hf with hf | hf
    · exact h.sub f hf
    · rw [List.mem_singleton] at hf; subst hf; exact (get_mem hr x c).1 hc
  · rw [List.map_append, List.nodup_append]
    refine ⟨h.nod, by simp, ?_⟩
    intro a ha b hb e
    simp at hb
    subst hb
    exact hnx (e ▸ ha)
  · show (left (klS k) && !(klS k).sameKey (klS x)) = true ↔ _
    rw [Bool.and_eq_true, h.left k, same_iff]
    by_cases e : k = x
    · subst e; simp
    · simp [e]
theorem Coll.done {l out : List Fld} {left : Lit → Bool} (hr : Ris l) (h : Coll l out left) (hd : ∀ kl, left kl = false) : out.Perm l := by
  have h1 : out.Nodup := by
    have := h.nod
    unfold List.Nodup at this ⊢
    rw [List.pairwise_map] at this
    exact this.imp (fun hne e => hne (by rw [e]))
  have h2 : l.Nodup := by
    unfold List.Nodup
    exact List.Pairwise.imp (fun {a b} hlt (e : a = b) => lt_ne hlt (by rw [e])) hr
  refine (List.perm_ext_iff_of_nodup h1 h2).2 fun f => ⟨h.sub f, fun hf => ?_⟩
  have hg := (get_mem hr f.1 f.2).2 hf
  have hm : f.1 ∈ out.map Prod.fst := by
    rcases Classical.em (f.1 ∈ out.map Prod.fst) with hm | hm
    · exact hm
    · have := (h.left f.1).2 ⟨by rw [hg]; rfl, hm⟩
      rw [hd] at this; cases this
  obtain ⟨g, hgm, hge⟩ := List.mem_map.1 hm
  have hgl := h.sub g hgm
  have h3 := (get_mem hr g.1 g.2).2 hgl
  rw [hge, hg] at h3
  injection h3 with h3
  have : g = f := by
    cases g; cases f
    simp only at hge h3
    rw [hge, h3]
  rw [← this]; exact hgm
/-- The one rising permutation. -/
theorem sorted_is {l d : List Fld} (hr : Ris l) (hp : d.Perm l) (hs : d.Pairwise (fun x y => ltS y.1 x.1 = false)) : d = l := by
  refine List.Perm.eq_of_pairwise (le := fun x y => ltS y.1 x.1 = false) ?_ hs (hr.imp (fun h => lt_asym h)) hp
  intro a b ha hb h1 h2
  have ha' := hp.mem_iff.1 ha
  have e : a.1 = b.1 := by
    cases h3 : decide (a.1 = b.1)
    · have := lt_tot h1 (fun e => by simp [e] at h3)
      rw [h2] at this; cases this
    · simpa using h3
  have g1 := (get_mem hr a.1 a.2).2 ha'
  have g2 := (get_mem hr b.1 b.2).2 hb
  rw [e, g2] at g1
  injection g1 with g1
  cases a; cases b
  simp only at e g1
  rw [e, g1]
end Go.Proofs.YthgdkmbcibfehaaDoor.DcE
