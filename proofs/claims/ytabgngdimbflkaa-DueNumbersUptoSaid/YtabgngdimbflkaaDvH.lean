/-
  The walk of DueNumbers, for lists of bulk at most 1048576. Conditions: as stated.
-/
import Derived.Test.YtabgngdimbflkaaDvF
import Derived.Test.YtabgngdimbflkaaDvG
set_option maxRecDepth 100000
set_option linter.unusedSimpArgs false
set_option linter.unusedVariables false
namespace Go.Proofs.Ytabgngdimbflkaa.DvH
open Go.RowKit Go.Shelf Go.Proofs.Ytabgngdimbflkaa.Mem Go.Proofs.Ytabgngdimbflkaa.DuA Go.Proofs.Ytabgngdimbflkaa.DuM Go.Proofs.Ytabgngdimbflkaa.DuN Go.Proofs.Ytabgngdimbflkaa.DuB Go.Proofs.Ytabgngdimbflkaa.DuO Go.Proofs.Ytabgngdimbflkaa.DiC Go.Proofs.Ytabgngdimbflkaa.DiH Go.Proofs.Ytabgngdimbflkaa.DiI Go.Proofs.Ytabgngdimbflkaa.DiJ Go.Proofs.Ytabgngdimbflkaa.DiK Go.Proofs.Ytabgngdimbflkaa.DiL Go.Proofs.Ytabgngdimbflkaa.DiM Go.Proofs.Ytabgngdimbflkaa.DvE
attribute [local go_sem] Oper.semAt_some

theorem numbers_law (A1 : Option Addr) (n1 c1 : Nat) (K : List Int) (A2 : Option Addr) (n2 c2 : Nat) (T : List Int) (A3 : Option Addr) (n3 c3 : Nat) (S : List Int) (W : World)
    (h1 : Rd W 1 A1 n1 c1 (K.flatMap LawR.iF)) (l1 : K.length = n1) (k1 : ∀ x ∈ K, LawR.iOK x) (b1 : (K.map LawR.iM).sum ≤ 1048576) (h2 : Rd W 1 A2 n2 c2 (T.flatMap LawR.iF)) (l2 : T.length = n2) (k2 : ∀ x ∈ T, LawR.iOK x) (b2 : (T.map LawR.iM).sum ≤ 1048576)
    (h3 : Rd W 1 A3 n3 c3 (S.flatMap LawR.iF)) (l3 : S.length = n3) (k3 : ∀ x ∈ S, LawR.iOK x) (b3 : (S.map LawR.iM).sum ≤ 1048576) :
    Calls Try.prog 6 #[.slice A1 n1 c1, .slice A2 n2 c2, .slice A3 n3 c3] W fun e w' => e = .returned (.bool true) ∧ Below W.heap.size W w' := by
  have q1 := LawR.len_sum LawR.iM (fun _ => Nat.le_refl _) K
  have q2 := LawR.len_sum LawR.iM (fun _ => Nat.le_refl _) T
  have q3 := LawR.len_sum LawR.iM (fun _ => Nat.le_refl _) S
  by_cases hm : K.length ≤ T.length
  · exact DvF.numbers_a A1 A2 n1 n2 c1 c2 K T W A3 n3 c3 S h1 l1 k1 h2 l2 k2 h3 l3 hm (by omega) (by omega) (by omega)
  · exact DvG.numbers_b A1 A2 n1 n2 c1 c2 K T W A3 n3 c3 S h1 l1 k1 h2 l2 k2 h3 l3 (by omega) (by omega) (by omega) (by omega)
end Go.Proofs.Ytabgngdimbflkaa.DvH
