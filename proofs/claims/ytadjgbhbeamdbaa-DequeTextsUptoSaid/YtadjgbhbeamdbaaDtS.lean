/-
  The library's contracts that are used here, laid over this program. Conditions: none.
-/
import Derived.Shelf.Spec.SlicesInsertGrow
import Derived.Test.YtadjgbhbeamdbaaRows
namespace Go.Proofs.Ytadjgbhbeamdbaa.DtS
open Go.Shelf Go.Proofs
def ren22 : Go.Shelf.Ren := ⟨fun | 22 => 40 | 29 => 50 | 30 => 51 | 36 => 54 | 17 => 37 | n => n, fun | 0 => 0 | 3 => 3 | 4 => 4 | 9 => 9 | 24 => 26 | n => n, fun | n => n⟩
theorem lays22 : Lays2.n22 Try.prog ren22 := {
  mixed := by kernel_rfl
  f22 := Try.func40.trans (congrArg some (by kernel_rfl))
  f29 := Try.func50.trans (congrArg some (by kernel_rfl))
  f30 := Try.func51.trans (congrArg some (by kernel_rfl))
  f36 := Try.func54.trans (congrArg some (by kernel_rfl))
  f17 := Try.func37.trans (congrArg some (by kernel_rfl))
  t0 := Try.underlying0
  a0 := Try.isAgg0
  z0 := Try.sizeOf0
  v0 := Try.zeroValue0
  t3 := Try.underlying3
  a3 := Try.isAgg3
  z3 := Try.sizeOf3
  v3 := Try.zeroValue3
  t4 := Try.underlying4
  a4 := Try.isAgg4
  z4 := Try.sizeOf4
  v4 := Try.zeroValue4
  t9 := Try.underlying9
  a9 := Try.isAgg9
  z9 := Try.sizeOf9
  v9 := Try.zeroValue9
  t24 := Try.underlying26
  a24 := Try.isAgg26
  z24 := Try.sizeOf26
  v24 := Try.zeroValue26
  i9 := by kernel_rfl }
end Go.Proofs.Ytadjgbhbeamdbaa.DtS
