/- Checked by the kernel: the rings of a disk that died later. -/
import Derived.Test.YtmfondkhhnnjjaaGreatDoorD2

open Go Go.Proofs
namespace Go.Abs
theorem b1_ok : ckROk b1_lc.length b1_v b1_l1 b1_nb (callN Tryz.prog 0 1000000 tab1 100 93 b1_A (hcOf b1_lc) done) = true := by decide +kernel
theorem b2_ok : ckROk b2_lc.length b2_v b2_l1 b2_nb (callN Tryz.prog 0 1000000 tab1 100 93 b2_A (hcOf b2_lc) done) = true := by decide +kernel
end Go.Abs
