/- Checked by the kernel: the disk dies behind 0, 1, 2, 3 writes. -/
import Derived.Test.YtmfondkhhnnjjaaGreatDoorD2

open Go Go.Proofs
namespace Go.Abs
theorem cut0_ok : pureOk (.bool true) (callN Tryz.prog 0 1000000 tab_A 100 4 [.int .i64 0] noHeap done) = true := by decide +kernel
theorem cut1_ok : pureOk (.bool true) (callN Tryz.prog 0 1000000 tab_A 100 4 [.int .i64 1] noHeap done) = true := by decide +kernel
theorem cut2_ok : pureOk (.bool true) (callN Tryz.prog 0 1000000 tab_B 100 4 [.int .i64 2] noHeap done) = true := by decide +kernel
theorem cut3_ok : pureOk (.bool true) (callN Tryz.prog 0 1000000 tab_B 100 4 [.int .i64 3] noHeap done) = true := by decide +kernel
end Go.Abs
