/- From a row's list to the library's table of powers of ten. -/
import Derived.Test.YtpkpahadjdkafaaGreatDoorN1
import Derived.Test.YtpkpahadjdkafaaGreatDoorRows
import Derived.Lib.LaidTab
import Derived.Stop.LaidErr
namespace Go.Proofs.YtpkpahadjdkafaaGreatDoor
open Go Go.RowKit
set_option maxRecDepth 100000
theorem tab_same : (Rows.laid_internal_strconv_uint64pow10 : DataW Unit) = Lib.tabData .u64 Lib.pow10Tab := by kernel_rfl
theorem tab_of {x y : String × DataW Unit} {rest : List (String × DataW Unit)} {W : World} (h : laidMet Tryz.prog (x :: y :: ("internal/strconv.uint64pow10", Rows.laid_internal_strconv_uint64pow10) :: rest) W) : Tab10 W := by
  have h1 := laidMet.tail (laidMet.tail h)
  rw [tab_same] at h1
  exact Lib.tabBelow_of_tabIs (Lib.tabIs_of_head (g := 1) (by kernel_rfl) (t := 108) (e := 42) (n := 20) (by kernel_rfl) Tryz.underlying108 Tryz.underlying42 (by kernel_rfl) (by kernel_rfl) h1)
end Go.Proofs.YtpkpahadjdkafaaGreatDoor
