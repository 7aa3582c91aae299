/- Checked by the kernel: a ring and a store on a new disk. -/
import Derived.Test.YtmfondkhhnnjjaaGreatDoorD2

open Go Go.Proofs
namespace Go.Abs
theorem ro1_ok : ckROk ro1_lc.length ro1_v ro1_l1 ro1_nb (callN Tryz.prog 0 1000000 tab1 100 93 ro1_A (hcOf ro1_lc) done) = true := by decide +kernel
theorem cr_ok : ckROk cr_lc.length cr_v cr_l1 cr_nb (callN Tryz.prog 0 1000000 tab_cr 100 9 cr_A (hcOf cr_lc) done) = true := by decide +kernel
end Go.Abs
