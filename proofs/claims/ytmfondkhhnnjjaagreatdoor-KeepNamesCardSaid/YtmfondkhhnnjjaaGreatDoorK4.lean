/- Checked by the kernel: the rings of a disk that died at once. -/
import Derived.Test.YtmfondkhhnnjjaaGreatDoorD2

open Go Go.Proofs
namespace Go.Abs
theorem a1_ok : ckROk a1_lc.length a1_v a1_l1 a1_nb (callN Tryz.prog 0 1000000 tab1 100 93 a1_A (hcOf a1_lc) done) = true := by decide +kernel
theorem a2_ok : ckROk a2_lc.length a2_v a2_l1 a2_nb (callN Tryz.prog 0 1000000 tab1 100 93 a2_A (hcOf a2_lc) done) = true := by decide +kernel
end Go.Abs
