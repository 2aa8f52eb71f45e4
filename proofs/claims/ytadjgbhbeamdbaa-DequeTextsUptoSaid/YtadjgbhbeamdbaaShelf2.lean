/-
  The library's contracts that are used here, laid over this program. Conditions: none.
-/
import Derived.Shelf.Spec.SlicesInsertGrow
import Derived.Test.YtadjgbhbeamdbaaRows
namespace Go.Proofs.Ytadjgbhbeamdbaa.Shelf2
open Go.Shelf Go.Proofs
def ren21 : Go.Shelf.Ren := ⟨fun | 21 => 49 | 27 => 52 | 28 => 53 | 35 => 55 | 39 => 47 | n => n, fun | 0 => 0 | 3 => 3 | 4 => 4 | 22 => 22 | n => n, fun | n => n⟩
theorem lays21 : Lays2.n21 Try.prog ren21 := {
  mixed := by kernel_rfl
  f21 := Try.func49.trans (congrArg some (by kernel_rfl))
  f27 := Try.func52.trans (congrArg some (by kernel_rfl))
  f28 := Try.func53.trans (congrArg some (by kernel_rfl))
  f35 := Try.func55.trans (congrArg some (by kernel_rfl))
  f39 := Try.func47.trans (congrArg some (by kernel_rfl))
  t0 := Try.underlying0
  a0 := Try.isAgg0
  z0 := Try.sizeOf0
  v0 := Try.zeroValue0
  t3 := Try.underlying3
  a3 := Try.isAgg3
  z3 := Try.sizeOf3
  v3 := Try.zeroValue3
  t4 := Try.underlying4
  a4 := Try.isAgg4
  z4 := Try.sizeOf4
  v4 := Try.zeroValue4
  t22 := Try.underlying22
  a22 := Try.isAgg22
  z22 := Try.sizeOf22
  v22 := Try.zeroValue22
  i3 := by kernel_rfl }
end Go.Proofs.Ytadjgbhbeamdbaa.Shelf2
