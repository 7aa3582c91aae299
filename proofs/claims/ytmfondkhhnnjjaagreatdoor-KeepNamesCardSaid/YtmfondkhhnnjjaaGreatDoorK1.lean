/- Checked by the kernel: what is told of the small calls. -/
import Derived.Test.YtmfondkhhnnjjaaGreatDoorD2

open Go Go.Proofs
namespace Go.Abs
theorem zp_ok : pureOk zeroPiece (callN Tryz.prog 0 1000000 tab0 100 224 [.agg [.run 512 0]] noHeap done) = true := by decide +kernel
theorem st0_ok : ckROk st0_lc.length st0_v st0_l1 st0_nb (callN Tryz.prog 0 1000000 tab1 100 50 st0_A (hcOf st0_lc) done) = true := by decide +kernel
theorem ba1_ok : ckROk ba1_lc.length ba1_v ba1_l1 ba1_nb (callN Tryz.prog 0 1000000 tab1 100 186 ba1_A (hcOf ba1_lc) done) = true := by decide +kernel
theorem ne2_ok : ckROk ne2_lc.length ne2_v ne2_l1 ne2_nb (callN Tryz.prog 0 1000000 tab1 100 34 ne2_A (hcOf ne2_lc) done) = true := by decide +kernel
theorem ne4_ok : ckROk ne4_lc.length ne4_v ne4_l1 ne4_nb (callN Tryz.prog 0 1000000 tab1 100 34 ne4_A (hcOf ne4_lc) done) = true := by decide +kernel
theorem rm3_ok : ckROk rm3_lc.length rm3_v rm3_l1 rm3_nb (callN Tryz.prog 0 1000000 tab_rm3 100 187 rm3_A (hcOf rm3_lc) done) = true := by decide +kernel
theorem d0_ok : ckROk d0_lc.length d0_v d0_l1 d0_nb (callN Tryz.prog 0 1000000 tab1 100 270 d0_A (hcOf d0_lc) done) = true := by decide +kernel
theorem d1_ok : ckROk d1_lc.length d1_v d1_l1 d1_nb (callN Tryz.prog 0 1000000 tab1 100 270 d1_A (hcOf d1_lc) done) = true := by decide +kernel
theorem d2_ok : ckROk d2_lc.length d2_v d2_l1 d2_nb (callN Tryz.prog 0 1000000 tab1 100 270 d2_A (hcOf d2_lc) done) = true := by decide +kernel
theorem d3_ok : ckROk d3_lc.length d3_v d3_l1 d3_nb (callN Tryz.prog 0 1000000 tab1 100 270 d3_A (hcOf d3_lc) done) = true := by decide +kernel
theorem d4_ok : ckROk d4_lc.length d4_v d4_l1 d4_nb (callN Tryz.prog 0 1000000 tab1 100 270 d4_A (hcOf d4_lc) done) = true := by decide +kernel
theorem mb12_ok : ckROk mb12_lc.length mb12_v mb12_l1 mb12_nb (callN Tryz.prog 0 1000000 tab1 100 90 mb12_A (hcOf mb12_lc) done) = true := by decide +kernel
theorem t0_ok : ckROk t0_lc.length t0_v t0_l1 t0_nb (callN Tryz.prog 0 1000000 tab1 100 179 t0_A (hcOf t0_lc) done) = true := by decide +kernel
theorem t1_ok : ckROk t1_lc.length t1_v t1_l1 t1_nb (callN Tryz.prog 0 1000000 tab1 100 179 t1_A (hcOf t1_lc) done) = true := by decide +kernel
theorem d5_ok : ckROk d5_lc.length d5_v d5_l1 d5_nb (callN Tryz.prog 0 1000000 tab1 100 270 d5_A (hcOf d5_lc) done) = true := by decide +kernel
theorem ne14_ok : ckROk ne14_lc.length ne14_v ne14_l1 ne14_nb (callN Tryz.prog 0 1000000 tab_ne14 100 34 ne14_A (hcOf ne14_lc) done) = true := by decide +kernel
theorem d6_ok : ckROk d6_lc.length d6_v d6_l1 d6_nb (callN Tryz.prog 0 1000000 tab1 100 270 d6_A (hcOf d6_lc) done) = true := by decide +kernel
theorem d7_ok : ckROk d7_lc.length d7_v d7_l1 d7_nb (callN Tryz.prog 0 1000000 tab1 100 270 d7_A (hcOf d7_lc) done) = true := by decide +kernel
theorem d8_ok : ckROk d8_lc.length d8_v d8_l1 d8_nb (callN Tryz.prog 0 1000000 tab1 100 270 d8_A (hcOf d8_lc) done) = true := by decide +kernel
theorem t3_ok : ckROk t3_lc.length t3_v t3_l1 t3_nb (callN Tryz.prog 0 1000000 tab1 100 179 t3_A (hcOf t3_lc) done) = true := by decide +kernel
theorem nf0_ok : ckROk nf0_lc.length nf0_v nf0_l1 nf0_nb (callN Tryz.prog 0 1000000 tab1 100 34 nf0_A (hcOf nf0_lc) done) = true := by decide +kernel
theorem e0_ok : ckROk e0_lc.length e0_v e0_l1 e0_nb (callN Tryz.prog 0 1000000 tab1 100 270 e0_A (hcOf e0_lc) done) = true := by decide +kernel
theorem u1_ok : ckROk u1_lc.length u1_v u1_l1 u1_nb (callN Tryz.prog 0 1000000 tab1 100 179 u1_A (hcOf u1_lc) done) = true := by decide +kernel
theorem e1_ok : ckROk e1_lc.length e1_v e1_l1 e1_nb (callN Tryz.prog 0 1000000 tab1 100 270 e1_A (hcOf e1_lc) done) = true := by decide +kernel
theorem nf2_ok : ckROk nf2_lc.length nf2_v nf2_l1 nf2_nb (callN Tryz.prog 0 1000000 tab_nf2 100 34 nf2_A (hcOf nf2_lc) done) = true := by decide +kernel
theorem e6_ok : ckROk e6_lc.length e6_v e6_l1 e6_nb (callN Tryz.prog 0 1000000 tab1 100 270 e6_A (hcOf e6_lc) done) = true := by decide +kernel
theorem u3_ok : ckROk u3_lc.length u3_v u3_l1 u3_nb (callN Tryz.prog 0 1000000 tab1 100 179 u3_A (hcOf u3_lc) done) = true := by decide +kernel
theorem e7_ok : ckROk e7_lc.length e7_v e7_l1 e7_nb (callN Tryz.prog 0 1000000 tab1 100 270 e7_A (hcOf e7_lc) done) = true := by decide +kernel
theorem nf4_ok : ckROk nf4_lc.length nf4_v nf4_l1 nf4_nb (callN Tryz.prog 0 1000000 tab1 100 34 nf4_A (hcOf nf4_lc) done) = true := by decide +kernel
theorem u5_ok : ckROk u5_lc.length u5_v u5_l1 u5_nb (callN Tryz.prog 0 1000000 tab1 100 179 u5_A (hcOf u5_lc) done) = true := by decide +kernel
theorem e8_ok : ckROk e8_lc.length e8_v e8_l1 e8_nb (callN Tryz.prog 0 1000000 tab1 100 270 e8_A (hcOf e8_lc) done) = true := by decide +kernel
end Go.Abs
