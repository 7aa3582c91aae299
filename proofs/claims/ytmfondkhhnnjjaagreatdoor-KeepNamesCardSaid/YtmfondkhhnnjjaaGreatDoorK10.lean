/- Checked by the kernel: the disk lives: 52 to 59 writes. -/
import Derived.Test.YtmfondkhhnnjjaaGreatDoorD2

open Go Go.Proofs
namespace Go.Abs
theorem m6_ok : (pureOk (.bool true) (callN Tryz.prog 0 1000000 tab_L 100 4 [.int .i64 52] noHeap done) && (pureOk (.bool true) (callN Tryz.prog 0 1000000 tab_L 100 4 [.int .i64 53] noHeap done) && (pureOk (.bool true) (callN Tryz.prog 0 1000000 tab_L 100 4 [.int .i64 54] noHeap done) && (pureOk (.bool true) (callN Tryz.prog 0 1000000 tab_L 100 4 [.int .i64 55] noHeap done) && (pureOk (.bool true) (callN Tryz.prog 0 1000000 tab_L 100 4 [.int .i64 56] noHeap done) && (pureOk (.bool true) (callN Tryz.prog 0 1000000 tab_L 100 4 [.int .i64 57] noHeap done) && (pureOk (.bool true) (callN Tryz.prog 0 1000000 tab_L 100 4 [.int .i64 58] noHeap done) && pureOk (.bool true) (callN Tryz.prog 0 1000000 tab_L 100 4 [.int .i64 59] noHeap done)))))))) = true := by decide +kernel
end Go.Abs
