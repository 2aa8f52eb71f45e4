/-
  What a map of ticks tells of a list of (tick, key). Conditions: as stated.
-/
import Derived.Test.YtjofbagaobdmoaaGreatDuA
import Derived.Maps.OwnOps
import Derived.Maps.OwnSet
import Derived.Maps.Views
set_option linter.unusedSimpArgs false
set_option linter.unusedVariables false
namespace Go.Proofs.YtjofbagaobdmoaaGreat.DuN
open Go.Proofs.YtjofbagaobdmoaaGreat.DuA
abbrev Dt := DataW (TypeId × Value)

/-- How a key lies in a map. -/
structure KeyC {K : Type} (kl : K → Lit) : Prop where
  inj : ∀ {a b}, kl a = kl b → a = b
  ok : ∀ a, WideAt.IsKeyLit (kl a)
/-- The map tells each key's tick. -/
structure Tells {K : Type} [DecidableEq K] (kl : K → Lit) (D : Dt) (l : List (Int × K)) : Prop where
  is : ∀ k, Maps.has D (kl k) = (dueL l k).isSome
  at_ : ∀ k, D.atKey (kl k) (.lit (.int .i64 0)) = .lit (.int .i64 ((dueL l k).getD 0))

theorem Tells.nil {K : Type} [DecidableEq K] (kl : K → Lit) : Tells kl (.map []) [] := ⟨fun k => rfl, fun k => rfl⟩
theorem Tells.put {K : Type} [DecidableEq K] {kl : K → Lit} (C : KeyC kl) {lt : K → K → Bool} (h : Lin lt) {D : Dt} (hD : Maps.IsMap D) {l : List (Int × K)} (hs : Srt lt l) (hT : Tells kl D l) (k : K) (t : Int) (hm : k ∉ l.map (·.2)) :
    Tells kl (D.put (kl k) (.lit (.int .i64 t))) (insL lt (t, k) l) := by
  refine ⟨fun k' => ?_, fun k' => ?_⟩
  · rw [due_ins h hs hm]
    by_cases e : k' = k
    · subst e; rw [Maps.has_put_same hD (C.ok _), if_pos rfl]; rfl
    · rw [Maps.has_put_other (fun e' => e (C.inj e')), if_neg e]; exact hT.is k'
  · rw [due_ins h hs hm]
    by_cases e : k' = k
    · subst e; rw [Maps.atKey_put_same hD (C.ok _), if_pos rfl]; rfl
    · rw [Maps.atKey_put_other (fun e' => e (C.inj e')), if_neg e]; exact hT.at_ k'
theorem Tells.del {K : Type} [DecidableEq K] {kl : K → Lit} (C : KeyC kl) {D : Dt} {l : List (Int × K)} (hn : (l.map (·.2)).Nodup) (hT : Tells kl D l) (k : K) : Tells kl (D.del (kl k)) (dropL l k) := by
  refine ⟨fun k' => ?_, fun k' => ?_⟩
  · rw [due_drop hn]
    by_cases e : k' = k
    · subst e; rw [Maps.has_del_same, if_pos rfl]; rfl
    · rw [Maps.has_del_other (fun e' => e (C.inj e')), if_neg e]; exact hT.is k'
  · rw [due_drop hn]
    by_cases e : k' = k
    · subst e; rw [Maps.atKey_del_same, if_pos rfl]; rfl
    · rw [Maps.atKey_del_other (fun e' => e (C.inj e')), if_neg e]; exact hT.at_ k'
end Go.Proofs.YtjofbagaobdmoaaGreat.DuN
