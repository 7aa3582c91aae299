/- Checked by the kernel: the program is awake; the law itself. -/
import Derived.Test.YtmfondkhhnnjjaaGreatDoorD2

open Go Go.Proofs
namespace Go.Abs
theorem aw_ok : pureOk (.bool true) (callN Tryz.prog 0 1000000 tab_W 100 22 [] noHeap done) = true := by decide +kernel
theorem top_ok : isTrue (callN Tryz.prog 0 1000000 tab_T 100 3 [] noHeap done) = true := by decide +kernel
end Go.Abs
