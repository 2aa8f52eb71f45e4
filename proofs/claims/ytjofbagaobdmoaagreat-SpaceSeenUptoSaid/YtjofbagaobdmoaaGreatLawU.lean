/-
  The bulk of a slice's reading is more than its length. Conditions: none.
-/
import Derived.Test.YtjofbagaobdmoaaGreatRows
set_option linter.unusedVariables false
namespace Go.Proofs.YtjofbagaobdmoaaGreat.LawU
theorem bulk_pos {H : Type} : ∀ d : DataW H, 1 ≤ Rows.uptoBulk d
  | .lit l => by cases l <;> simp [Rows.uptoBulk]
  | .nil => by simp [Rows.uptoBulk]
  | .ptr d => by simp [Rows.uptoBulk]
  | .slice a b => by simp [Rows.uptoBulk]
  | .agg a => by simp [Rows.uptoBulk]
  | .iface a d => by simp [Rows.uptoBulk]
  | .map a => by simp [Rows.uptoBulk]
  | .held a => by simp [Rows.uptoBulk]
theorem bulk_len {H : Type} : ∀ l : List (DataW H), l.length ≤ Rows.uptoBulkAll l
  | [] => by simp [Rows.uptoBulkAll]
  | d :: r => by
    have h1 := bulk_pos d
    have h2 := bulk_len r
    simp only [Rows.uptoBulkAll, List.length_cons]
    omega
theorem bulk_slice {H : Type} (a b : List (DataW H)) : a.length + b.length ≤ Rows.uptoBulk (.slice a b) := by
  have h1 := bulk_len a
  have h2 := bulk_len b
  simp only [Rows.uptoBulk]
  omega
end Go.Proofs.YtjofbagaobdmoaaGreat.LawU
