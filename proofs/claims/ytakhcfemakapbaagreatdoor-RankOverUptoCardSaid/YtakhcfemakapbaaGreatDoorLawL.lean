/-
  What a row that lists the library's variables gives the walks (NumE.Laid). Conditions: as stated.
-/
import Derived.Test.YtakhcfemakapbaaGreatDoorRows
import Derived.Test.YtakhcfemakapbaaGreatDoorNumE
import Derived.Stop.LaidErr
import Derived.Lib.LaidTab
set_option maxRecDepth 100000
set_option linter.unusedVariables false
namespace Go.Proofs.YtakhcfemakapbaaGreatDoor.LawL
open Go.RowKit Go.Lib
theorem laid_mem {P : Program} {W : World} {x : String × DataW Unit} : ∀ {l : List (String × DataW Unit)}, laidMet P l W → x ∈ l → ∃ r, laidMet P (x :: r) W
  | [], _, h => by cases h
  | y :: l, h, hm => by
    rcases List.mem_cons.1 hm with rfl | hm
    · exact ⟨l, h⟩
    · exact laid_mem h.tail hm
theorem gP : Tryz.prog.globalNamed "internal/strconv.uint64pow10" = some 2 := by kernel_rfl
theorem star : "*" ++ "errors.errorString" = "*errors.errorString" := by decide
theorem rowE (u : TypeId) (h : Tryz.prog.typeName? 3 u = some "*errors.errorString") : u = 162 :=
  typeName_ptr_named (nm := "errors.errorString") (by rw [star]; kernel_rfl) (by kernel_rfl) (by decide) u (by rw [star]; exact h)
theorem laid_of {W : World} {l : List (String × DataW Unit)} (h : laidMet Tryz.prog l W) (h1 : ("internal/strconv.uint64pow10", Rows.laid_internal_strconv_uint64pow10) ∈ l)
    (h2 : ("strconv.ErrRange", Rows.laid_strconv_ErrRange) ∈ l) (h3 : ("strconv.ErrSyntax", Rows.laid_strconv_ErrSyntax) ∈ l) : NumE.Laid W := by
  obtain ⟨r1, m1⟩ := laid_mem h h1
  obtain ⟨r2, m2⟩ := laid_mem h h2
  obtain ⟨r3, m3⟩ := laid_mem h h3
  obtain ⟨a2, s2, v2, _⟩ := laid_sentinel m2 (g := 1) (by kernel_rfl) (by kernel_rfl) Tryz.underlying111 rowE Tryz.underlying162 Tryz.underlying164 rfl rfl Tryz.underlying9 (by kernel_rfl) (by kernel_rfl)
  obtain ⟨a3, s3, v3, _⟩ := laid_sentinel m3 (g := 0) (by kernel_rfl) (by kernel_rfl) Tryz.underlying111 rowE Tryz.underlying162 Tryz.underlying164 rfl rfl Tryz.underlying9 (by kernel_rfl) (by kernel_rfl)
  have e : (Rows.laid_internal_strconv_uint64pow10 : DataW Unit) = tabData .u64 pow10Tab := by kernel_rfl
  rw [e] at m1
  exact ⟨⟨_, _, v3⟩, ⟨_, _, v2⟩, tabIs_of_head gP (by kernel_rfl) Tryz.underlying159 Tryz.underlying115 (by kernel_rfl) (by kernel_rfl) m1⟩
end Go.Proofs.YtakhcfemakapbaaGreatDoor.LawL
