/- Checked by the kernel: what is told of the changes of a page. -/
import Derived.Test.YtmfondkhhnnjjaaGreatDoorD2

open Go Go.Proofs
namespace Go.Abs
theorem do6_ok : ckROk do6_lc.length do6_v do6_l1 do6_nb (callN Tryz.prog 0 1000000 tab1 100 36 do6_A (hcOf do6_lc) done) = true := by decide +kernel
theorem do7_ok : ckROk do7_lc.length do7_v do7_l1 do7_nb (callN Tryz.prog 0 1000000 tab_do7 100 36 do7_A (hcOf do7_lc) done) = true := by decide +kernel
theorem do8_ok : ckROk do8_lc.length do8_v do8_l1 do8_nb (callN Tryz.prog 0 1000000 tab_do8 100 36 do8_A (hcOf do8_lc) done) = true := by decide +kernel
theorem do9_ok : ckROk do9_lc.length do9_v do9_l1 do9_nb (callN Tryz.prog 0 1000000 tab_do9 100 36 do9_A (hcOf do9_lc) done) = true := by decide +kernel
theorem do10_ok : ckROk do10_lc.length do10_v do10_l1 do10_nb (callN Tryz.prog 0 1000000 tab_do10 100 36 do10_A (hcOf do10_lc) done) = true := by decide +kernel
theorem do11_ok : ckROk do11_lc.length do11_v do11_l1 do11_nb (callN Tryz.prog 0 1000000 tab_do11 100 36 do11_A (hcOf do11_lc) done) = true := by decide +kernel
theorem do15_ok : ckROk do15_lc.length do15_v do15_l1 do15_nb (callN Tryz.prog 0 1000000 tab_do15 100 36 do15_A (hcOf do15_lc) done) = true := by decide +kernel
theorem do16_ok : ckROk do16_lc.length do16_v do16_l1 do16_nb (callN Tryz.prog 0 1000000 tab_do16 100 36 do16_A (hcOf do16_lc) done) = true := by decide +kernel
theorem do17_ok : ckROk do17_lc.length do17_v do17_l1 do17_nb (callN Tryz.prog 0 1000000 tab_do17 100 36 do17_A (hcOf do17_lc) done) = true := by decide +kernel
theorem do18_ok : ckROk do18_lc.length do18_v do18_l1 do18_nb (callN Tryz.prog 0 1000000 tab_do18 100 36 do18_A (hcOf do18_lc) done) = true := by decide +kernel
theorem dp0_ok : ckROk dp0_lc.length dp0_v dp0_l1 dp0_nb (callN Tryz.prog 0 1000000 tab1 100 36 dp0_A (hcOf dp0_lc) done) = true := by decide +kernel
theorem dp1_ok : ckROk dp1_lc.length dp1_v dp1_l1 dp1_nb (callN Tryz.prog 0 1000000 tab_dp1 100 36 dp1_A (hcOf dp1_lc) done) = true := by decide +kernel
theorem dp2_ok : ckROk dp2_lc.length dp2_v dp2_l1 dp2_nb (callN Tryz.prog 0 1000000 tab_dp2 100 36 dp2_A (hcOf dp2_lc) done) = true := by decide +kernel
theorem dp3_ok : ckROk dp3_lc.length dp3_v dp3_l1 dp3_nb (callN Tryz.prog 0 1000000 tab_dp3 100 36 dp3_A (hcOf dp3_lc) done) = true := by decide +kernel
theorem dp4_ok : ckROk dp4_lc.length dp4_v dp4_l1 dp4_nb (callN Tryz.prog 0 1000000 tab1 100 36 dp4_A (hcOf dp4_lc) done) = true := by decide +kernel
theorem fr_ok : ckROk fr_lc.length fr_v fr_l1 fr_nb (callN Tryz.prog 0 1000000 tab_fr 100 6 fr_A (hcOf fr_lc) done) = true := by decide +kernel
theorem koA_ok : ckROk koA_lc.length koA_v koA_l1 koA_nb (callN Tryz.prog 0 1000000 tab_koA 100 26 koA_A (hcOf koA_lc) done) = true := by decide +kernel
theorem koB_ok : ckROk koB_lc.length koB_v koB_l1 koB_nb (callN Tryz.prog 0 1000000 tab_koB 100 26 koB_A (hcOf koB_lc) done) = true := by decide +kernel
end Go.Abs
