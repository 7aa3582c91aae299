/- The oracles are right; the walk of the law. Written by program. -/
import Derived.Test.YtmfondkhhnnjjaaGreatDoorK1
import Derived.Test.YtmfondkhhnnjjaaGreatDoorK2
import Derived.Test.YtmfondkhhnnjjaaGreatDoorK3
import Derived.Test.YtmfondkhhnnjjaaGreatDoorK4
import Derived.Test.YtmfondkhhnnjjaaGreatDoorK5
import Derived.Test.YtmfondkhhnnjjaaGreatDoorK6
import Derived.Test.YtmfondkhhnnjjaaGreatDoorK7
import Derived.Test.YtmfondkhhnnjjaaGreatDoorK8
import Derived.Test.YtmfondkhhnnjjaaGreatDoorK9
import Derived.Test.YtmfondkhhnnjjaaGreatDoorK10
import Derived.Test.YtmfondkhhnnjjaaGreatDoorK11
import Derived.Test.YtmfondkhhnnjjaaGreatDoorO12
import Derived.Test.YtmfondkhhnnjjaaGreatDoorO14
import Derived.Test.YtmfondkhhnnjjaaGreatDoorG1

open Go Go.Proofs
namespace Go.Abs
theorem andL {a b : Bool} (h : (a && b) = true) : a = true := by cases a <;> simp_all
theorem andR {a b : Bool} (h : (a && b) = true) : b = true := by cases a <;> simp_all
theorem mixedT : Tryz.prog.follows .mixedOrders = true := by kernel_rfl
def OrcAt (f : FuncId) (g : Orc) : Prop := ∀ args H v H', g args H = some (v, H') → ∀ μ w cargs, HRel μ H w → GRel 0 μ → LRel μ args cargs → FnOk Tryz.prog μ H w f cargs.toArray v H'
theorem OrcAt.or {f : FuncId} {a b : Orc} (ha : OrcAt f a) (hb : OrcAt f b) : OrcAt f (orO a b) := fun args H v H' h => by
  unfold orO at h
  split at h
  · rename_i r hr
    cases h
    exact ha args H v H' hr
  · exact hb args H v H' h
theorem orc0_ok : OrcOk Tryz.prog 0 orc0 := by
  intro f g hg
  unfold orc0 at hg
  split at hg
  · injection hg with hg; subst hg; exact fun args H v H' h μ w cargs hr _ hl => insertO_ok h hr hl
  · injection hg with hg; subst hg; exact fun args H v H' h μ w cargs hr _ hl => sortedO_at h hr hl
  · injection hg with hg; subst hg; exact fun args H v H' h μ w cargs hr _ hl => copyO_at h hr hl
  · injection hg with hg; subst hg; exact fun args H v H' h μ w cargs hr _ hl => cloneO_ok h hr hl
  · injection hg with hg; subst hg; exact fun args H v H' h μ w cargs hr _ hl => membersO_ok h hr hl
  · cases hg
theorem orc1_ok : OrcOk Tryz.prog 0 orc1 := by
  intro f g hg
  unfold orc1 at hg
  split at hg
  · injection hg with hg; subst hg; exact fun args H v H' h μ w cargs hr _ hl => pureO_ok mixedT orc0_ok rfl zp_ok h hr hl
  · exact orc0_ok f g hg
theorem ro1_at (bs : List Nat) : OrcAt 93 (ckRO bs ro1_A ro1_lc ro1_v ro1_l1 ro1_nb) := fun _ _ _ _ h _ _ _ hr _ hl => ckRO_ok mixedT orc1_ok ro1_ok h hr hl
theorem orc_cr_ok : OrcOk Tryz.prog 0 orc_cr := by
  intro f g hg
  unfold orc_cr at hg
  split at hg
  · injection hg with hg; subst hg; exact (ro1_at [0, 2, 6021])
  · exact orc1_ok f g hg
theorem cr_at (bs : List Nat) : OrcAt 9 (ckRO bs cr_A cr_lc cr_v cr_l1 cr_nb) := fun _ _ _ _ h _ _ _ hr _ hl => ckRO_ok mixedT orc_cr_ok cr_ok h hr hl
theorem orc_fr_ok : OrcOk Tryz.prog 0 orc_fr := by
  intro f g hg
  unfold orc_fr at hg
  split at hg
  · injection hg with hg; subst hg; exact (cr_at [1, 2, 3])
  · exact orc1_ok f g hg
theorem fr_at (bs : List Nat) : OrcAt 6 (ckRO bs fr_A fr_lc fr_v fr_l1 fr_nb) := fun _ _ _ _ h _ _ _ hr _ hl => ckRO_ok mixedT orc_fr_ok fr_ok h hr hl
theorem st0_at (bs : List Nat) : OrcAt 50 (ckRO bs st0_A st0_lc st0_v st0_l1 st0_nb) := fun _ _ _ _ h _ _ _ hr _ hl => ckRO_ok mixedT orc1_ok st0_ok h hr hl
theorem ba1_at (bs : List Nat) : OrcAt 186 (ckRO bs ba1_A ba1_lc ba1_v ba1_l1 ba1_nb) := fun _ _ _ _ h _ _ _ hr _ hl => ckRO_ok mixedT orc1_ok ba1_ok h hr hl
theorem ne2_at (bs : List Nat) : OrcAt 34 (ckRO bs ne2_A ne2_lc ne2_v ne2_l1 ne2_nb) := fun _ _ _ _ h _ _ _ hr _ hl => ckRO_ok mixedT orc1_ok ne2_ok h hr hl
theorem ne4_at (bs : List Nat) : OrcAt 34 (ckRO bs ne4_A ne4_lc ne4_v ne4_l1 ne4_nb) := fun _ _ _ _ h _ _ _ hr _ hl => ckRO_ok mixedT orc1_ok ne4_ok h hr hl
theorem orc_rm3_ok : OrcOk Tryz.prog 0 orc_rm3 := by
  intro f g hg
  unfold orc_rm3 at hg
  split at hg
  · injection hg with hg; subst hg; exact (OrcAt.or (ne2_at [0, 1, 2, 3, 4, 5, 6, 7, 8, 12]) (ne4_at [0, 1, 2, 3, 4, 5, 6, 7, 8, 13]))
  · exact orc1_ok f g hg
theorem rm3_at (bs : List Nat) : OrcAt 187 (ckRO bs rm3_A rm3_lc rm3_v rm3_l1 rm3_nb) := fun _ _ _ _ h _ _ _ hr _ hl => ckRO_ok mixedT orc_rm3_ok rm3_ok h hr hl
theorem do6_at (bs : List Nat) : OrcAt 36 (ckRO bs do6_A do6_lc do6_v do6_l1 do6_nb) := fun _ _ _ _ h _ _ _ hr _ hl => ckRO_ok mixedT orc1_ok do6_ok h hr hl
theorem d0_at (bs : List Nat) : OrcAt 270 (ckRO bs d0_A d0_lc d0_v d0_l1 d0_nb) := fun _ _ _ _ h _ _ _ hr _ hl => ckRO_ok mixedT orc1_ok d0_ok h hr hl
theorem orc_do7_ok : OrcOk Tryz.prog 0 orc_do7 := by
  intro f g hg
  unfold orc_do7 at hg
  split at hg
  · injection hg with hg; subst hg; exact (d0_at [17])
  · exact orc1_ok f g hg
theorem do7_at (bs : List Nat) : OrcAt 36 (ckRO bs do7_A do7_lc do7_v do7_l1 do7_nb) := fun _ _ _ _ h _ _ _ hr _ hl => ckRO_ok mixedT orc_do7_ok do7_ok h hr hl
theorem d1_at (bs : List Nat) : OrcAt 270 (ckRO bs d1_A d1_lc d1_v d1_l1 d1_nb) := fun _ _ _ _ h _ _ _ hr _ hl => ckRO_ok mixedT orc1_ok d1_ok h hr hl
theorem orc_do8_ok : OrcOk Tryz.prog 0 orc_do8 := by
  intro f g hg
  unfold orc_do8 at hg
  split at hg
  · injection hg with hg; subst hg; exact (d1_at [17])
  · exact orc1_ok f g hg
theorem do8_at (bs : List Nat) : OrcAt 36 (ckRO bs do8_A do8_lc do8_v do8_l1 do8_nb) := fun _ _ _ _ h _ _ _ hr _ hl => ckRO_ok mixedT orc_do8_ok do8_ok h hr hl
theorem d2_at (bs : List Nat) : OrcAt 270 (ckRO bs d2_A d2_lc d2_v d2_l1 d2_nb) := fun _ _ _ _ h _ _ _ hr _ hl => ckRO_ok mixedT orc1_ok d2_ok h hr hl
theorem orc_do9_ok : OrcOk Tryz.prog 0 orc_do9 := by
  intro f g hg
  unfold orc_do9 at hg
  split at hg
  · injection hg with hg; subst hg; exact (d2_at [17])
  · exact orc1_ok f g hg
theorem do9_at (bs : List Nat) : OrcAt 36 (ckRO bs do9_A do9_lc do9_v do9_l1 do9_nb) := fun _ _ _ _ h _ _ _ hr _ hl => ckRO_ok mixedT orc_do9_ok do9_ok h hr hl
theorem d3_at (bs : List Nat) : OrcAt 270 (ckRO bs d3_A d3_lc d3_v d3_l1 d3_nb) := fun _ _ _ _ h _ _ _ hr _ hl => ckRO_ok mixedT orc1_ok d3_ok h hr hl
theorem orc_do10_ok : OrcOk Tryz.prog 0 orc_do10 := by
  intro f g hg
  unfold orc_do10 at hg
  split at hg
  · injection hg with hg; subst hg; exact (d3_at [17])
  · exact orc1_ok f g hg
theorem do10_at (bs : List Nat) : OrcAt 36 (ckRO bs do10_A do10_lc do10_v do10_l1 do10_nb) := fun _ _ _ _ h _ _ _ hr _ hl => ckRO_ok mixedT orc_do10_ok do10_ok h hr hl
theorem d4_at (bs : List Nat) : OrcAt 270 (ckRO bs d4_A d4_lc d4_v d4_l1 d4_nb) := fun _ _ _ _ h _ _ _ hr _ hl => ckRO_ok mixedT orc1_ok d4_ok h hr hl
theorem orc_do11_ok : OrcOk Tryz.prog 0 orc_do11 := by
  intro f g hg
  unfold orc_do11 at hg
  split at hg
  · injection hg with hg; subst hg; exact (d4_at [17])
  · exact orc1_ok f g hg
theorem do11_at (bs : List Nat) : OrcAt 36 (ckRO bs do11_A do11_lc do11_v do11_l1 do11_nb) := fun _ _ _ _ h _ _ _ hr _ hl => ckRO_ok mixedT orc_do11_ok do11_ok h hr hl
theorem mb12_at (bs : List Nat) : OrcAt 90 (ckRO bs mb12_A mb12_lc mb12_v mb12_l1 mb12_nb) := fun _ _ _ _ h _ _ _ hr _ hl => ckRO_ok mixedT orc1_ok mb12_ok h hr hl
theorem t0_at (bs : List Nat) : OrcAt 179 (ckRO bs t0_A t0_lc t0_v t0_l1 t0_nb) := fun _ _ _ _ h _ _ _ hr _ hl => ckRO_ok mixedT orc1_ok t0_ok h hr hl
theorem t1_at (bs : List Nat) : OrcAt 179 (ckRO bs t1_A t1_lc t1_v t1_l1 t1_nb) := fun _ _ _ _ h _ _ _ hr _ hl => ckRO_ok mixedT orc1_ok t1_ok h hr hl
theorem a1_at (bs : List Nat) : OrcAt 93 (ckRO bs a1_A a1_lc a1_v a1_l1 a1_nb) := fun _ _ _ _ h _ _ _ hr _ hl => ckRO_ok mixedT orc1_ok a1_ok h hr hl
theorem a2_at (bs : List Nat) : OrcAt 93 (ckRO bs a2_A a2_lc a2_v a2_l1 a2_nb) := fun _ _ _ _ h _ _ _ hr _ hl => ckRO_ok mixedT orc1_ok a2_ok h hr hl
theorem orc_koA_ok : OrcOk Tryz.prog 0 orc_koA := by
  intro f g hg
  unfold orc_koA at hg
  split at hg
  · injection hg with hg; subst hg; exact (OrcAt.or (a1_at [0, 1, 2]) (a2_at [0, 2, 18]))
  · exact orc1_ok f g hg
theorem koA_at (bs : List Nat) : OrcAt 26 (ckRO bs koA_A koA_lc koA_v koA_l1 koA_nb) := fun _ _ _ _ h _ _ _ hr _ hl => ckRO_ok mixedT orc_koA_ok koA_ok h hr hl
theorem d5_at (bs : List Nat) : OrcAt 270 (ckRO bs d5_A d5_lc d5_v d5_l1 d5_nb) := fun _ _ _ _ h _ _ _ hr _ hl => ckRO_ok mixedT orc1_ok d5_ok h hr hl
theorem orc_ne14_ok : OrcOk Tryz.prog 0 orc_ne14 := by
  intro f g hg
  unfold orc_ne14 at hg
  split at hg
  · injection hg with hg; subst hg; exact (OrcAt.or (d5_at [34]) (OrcAt.or (d5_at [61]) (OrcAt.or (d5_at [87]) (d5_at [113]))))
  · exact orc1_ok f g hg
theorem ne14_at (bs : List Nat) : OrcAt 34 (ckRO bs ne14_A ne14_lc ne14_v ne14_l1 ne14_nb) := fun _ _ _ _ h _ _ _ hr _ hl => ckRO_ok mixedT orc_ne14_ok ne14_ok h hr hl
theorem orc_do15_ok : OrcOk Tryz.prog 0 orc_do15 := by
  intro f g hg
  unfold orc_do15 at hg
  split at hg
  · injection hg with hg; subst hg; exact (d5_at [18])
  · exact orc1_ok f g hg
theorem do15_at (bs : List Nat) : OrcAt 36 (ckRO bs do15_A do15_lc do15_v do15_l1 do15_nb) := fun _ _ _ _ h _ _ _ hr _ hl => ckRO_ok mixedT orc_do15_ok do15_ok h hr hl
theorem d6_at (bs : List Nat) : OrcAt 270 (ckRO bs d6_A d6_lc d6_v d6_l1 d6_nb) := fun _ _ _ _ h _ _ _ hr _ hl => ckRO_ok mixedT orc1_ok d6_ok h hr hl
theorem orc_do16_ok : OrcOk Tryz.prog 0 orc_do16 := by
  intro f g hg
  unfold orc_do16 at hg
  split at hg
  · injection hg with hg; subst hg; exact (d6_at [17])
  · exact orc1_ok f g hg
theorem do16_at (bs : List Nat) : OrcAt 36 (ckRO bs do16_A do16_lc do16_v do16_l1 do16_nb) := fun _ _ _ _ h _ _ _ hr _ hl => ckRO_ok mixedT orc_do16_ok do16_ok h hr hl
theorem d7_at (bs : List Nat) : OrcAt 270 (ckRO bs d7_A d7_lc d7_v d7_l1 d7_nb) := fun _ _ _ _ h _ _ _ hr _ hl => ckRO_ok mixedT orc1_ok d7_ok h hr hl
theorem orc_do17_ok : OrcOk Tryz.prog 0 orc_do17 := by
  intro f g hg
  unfold orc_do17 at hg
  split at hg
  · injection hg with hg; subst hg; exact (d7_at [17])
  · exact orc1_ok f g hg
theorem do17_at (bs : List Nat) : OrcAt 36 (ckRO bs do17_A do17_lc do17_v do17_l1 do17_nb) := fun _ _ _ _ h _ _ _ hr _ hl => ckRO_ok mixedT orc_do17_ok do17_ok h hr hl
theorem d8_at (bs : List Nat) : OrcAt 270 (ckRO bs d8_A d8_lc d8_v d8_l1 d8_nb) := fun _ _ _ _ h _ _ _ hr _ hl => ckRO_ok mixedT orc1_ok d8_ok h hr hl
theorem orc_do18_ok : OrcOk Tryz.prog 0 orc_do18 := by
  intro f g hg
  unfold orc_do18 at hg
  split at hg
  · injection hg with hg; subst hg; exact (d8_at [17])
  · exact orc1_ok f g hg
theorem do18_at (bs : List Nat) : OrcAt 36 (ckRO bs do18_A do18_lc do18_v do18_l1 do18_nb) := fun _ _ _ _ h _ _ _ hr _ hl => ckRO_ok mixedT orc_do18_ok do18_ok h hr hl
theorem t3_at (bs : List Nat) : OrcAt 179 (ckRO bs t3_A t3_lc t3_v t3_l1 t3_nb) := fun _ _ _ _ h _ _ _ hr _ hl => ckRO_ok mixedT orc1_ok t3_ok h hr hl
theorem b1_at (bs : List Nat) : OrcAt 93 (ckRO bs b1_A b1_lc b1_v b1_l1 b1_nb) := fun _ _ _ _ h _ _ _ hr _ hl => ckRO_ok mixedT orc1_ok b1_ok h hr hl
theorem b2_at (bs : List Nat) : OrcAt 93 (ckRO bs b2_A b2_lc b2_v b2_l1 b2_nb) := fun _ _ _ _ h _ _ _ hr _ hl => ckRO_ok mixedT orc1_ok b2_ok h hr hl
theorem orc_koB_ok : OrcOk Tryz.prog 0 orc_koB := by
  intro f g hg
  unfold orc_koB at hg
  split at hg
  · injection hg with hg; subst hg; exact (OrcAt.or (b1_at [0, 1, 2]) (b2_at [0, 2, 35]))
  · exact orc1_ok f g hg
theorem koB_at (bs : List Nat) : OrcAt 26 (ckRO bs koB_A koB_lc koB_v koB_l1 koB_nb) := fun _ _ _ _ h _ _ _ hr _ hl => ckRO_ok mixedT orc_koB_ok koB_ok h hr hl
theorem nf0_at (bs : List Nat) : OrcAt 34 (ckRO bs nf0_A nf0_lc nf0_v nf0_l1 nf0_nb) := fun _ _ _ _ h _ _ _ hr _ hl => ckRO_ok mixedT orc1_ok nf0_ok h hr hl
theorem dp0_at (bs : List Nat) : OrcAt 36 (ckRO bs dp0_A dp0_lc dp0_v dp0_l1 dp0_nb) := fun _ _ _ _ h _ _ _ hr _ hl => ckRO_ok mixedT orc1_ok dp0_ok h hr hl
theorem e0_at (bs : List Nat) : OrcAt 270 (ckRO bs e0_A e0_lc e0_v e0_l1 e0_nb) := fun _ _ _ _ h _ _ _ hr _ hl => ckRO_ok mixedT orc1_ok e0_ok h hr hl
theorem orc_dp1_ok : OrcOk Tryz.prog 0 orc_dp1 := by
  intro f g hg
  unfold orc_dp1 at hg
  split at hg
  · injection hg with hg; subst hg; exact (e0_at [17])
  · exact orc1_ok f g hg
theorem dp1_at (bs : List Nat) : OrcAt 36 (ckRO bs dp1_A dp1_lc dp1_v dp1_l1 dp1_nb) := fun _ _ _ _ h _ _ _ hr _ hl => ckRO_ok mixedT orc_dp1_ok dp1_ok h hr hl
theorem u1_at (bs : List Nat) : OrcAt 179 (ckRO bs u1_A u1_lc u1_v u1_l1 u1_nb) := fun _ _ _ _ h _ _ _ hr _ hl => ckRO_ok mixedT orc1_ok u1_ok h hr hl
theorem e1_at (bs : List Nat) : OrcAt 270 (ckRO bs e1_A e1_lc e1_v e1_l1 e1_nb) := fun _ _ _ _ h _ _ _ hr _ hl => ckRO_ok mixedT orc1_ok e1_ok h hr hl
theorem orc_nf2_ok : OrcOk Tryz.prog 0 orc_nf2 := by
  intro f g hg
  unfold orc_nf2 at hg
  split at hg
  · injection hg with hg; subst hg; exact (OrcAt.or (e1_at [28]) (e1_at [51]))
  · exact orc1_ok f g hg
theorem nf2_at (bs : List Nat) : OrcAt 34 (ckRO bs nf2_A nf2_lc nf2_v nf2_l1 nf2_nb) := fun _ _ _ _ h _ _ _ hr _ hl => ckRO_ok mixedT orc_nf2_ok nf2_ok h hr hl
theorem orc_dp2_ok : OrcOk Tryz.prog 0 orc_dp2 := by
  intro f g hg
  unfold orc_dp2 at hg
  split at hg
  · injection hg with hg; subst hg; exact (e1_at [18])
  · exact orc1_ok f g hg
theorem dp2_at (bs : List Nat) : OrcAt 36 (ckRO bs dp2_A dp2_lc dp2_v dp2_l1 dp2_nb) := fun _ _ _ _ h _ _ _ hr _ hl => ckRO_ok mixedT orc_dp2_ok dp2_ok h hr hl
theorem e6_at (bs : List Nat) : OrcAt 270 (ckRO bs e6_A e6_lc e6_v e6_l1 e6_nb) := fun _ _ _ _ h _ _ _ hr _ hl => ckRO_ok mixedT orc1_ok e6_ok h hr hl
theorem orc_dp3_ok : OrcOk Tryz.prog 0 orc_dp3 := by
  intro f g hg
  unfold orc_dp3 at hg
  split at hg
  · injection hg with hg; subst hg; exact (e6_at [17])
  · exact orc1_ok f g hg
theorem dp3_at (bs : List Nat) : OrcAt 36 (ckRO bs dp3_A dp3_lc dp3_v dp3_l1 dp3_nb) := fun _ _ _ _ h _ _ _ hr _ hl => ckRO_ok mixedT orc_dp3_ok dp3_ok h hr hl
theorem u3_at (bs : List Nat) : OrcAt 179 (ckRO bs u3_A u3_lc u3_v u3_l1 u3_nb) := fun _ _ _ _ h _ _ _ hr _ hl => ckRO_ok mixedT orc1_ok u3_ok h hr hl
theorem e7_at (bs : List Nat) : OrcAt 270 (ckRO bs e7_A e7_lc e7_v e7_l1 e7_nb) := fun _ _ _ _ h _ _ _ hr _ hl => ckRO_ok mixedT orc1_ok e7_ok h hr hl
theorem nf4_at (bs : List Nat) : OrcAt 34 (ckRO bs nf4_A nf4_lc nf4_v nf4_l1 nf4_nb) := fun _ _ _ _ h _ _ _ hr _ hl => ckRO_ok mixedT orc1_ok nf4_ok h hr hl
theorem dp4_at (bs : List Nat) : OrcAt 36 (ckRO bs dp4_A dp4_lc dp4_v dp4_l1 dp4_nb) := fun _ _ _ _ h _ _ _ hr _ hl => ckRO_ok mixedT orc1_ok dp4_ok h hr hl
theorem u5_at (bs : List Nat) : OrcAt 179 (ckRO bs u5_A u5_lc u5_v u5_l1 u5_nb) := fun _ _ _ _ h _ _ _ hr _ hl => ckRO_ok mixedT orc1_ok u5_ok h hr hl
theorem e8_at (bs : List Nat) : OrcAt 270 (ckRO bs e8_A e8_lc e8_v e8_l1 e8_nb) := fun _ _ _ _ h _ _ _ hr _ hl => ckRO_ok mixedT orc1_ok e8_ok h hr hl
theorem orc_A_ok : OrcOk Tryz.prog 0 orc_A := by
  intro f g hg
  unfold orc_A at hg
  split at hg
  · injection hg with hg; subst hg; exact (fr_at [])
  · injection hg with hg; subst hg; exact (st0_at [15, 19, 20, 21, 22, 38, 39, 40, 41])
  · injection hg with hg; subst hg; exact (ba1_at [14, 15, 18, 19, 20, 47, 48, 49])
  · injection hg with hg; subst hg; exact (rm3_at [5, 6, 7, 8, 9, 10, 12, 13, 14, 15, 18, 19, 53, 54, 55])
  · injection hg with hg; subst hg; exact (ne2_at [5, 6, 7, 8, 9, 10, 12, 13, 14, 53])
  · injection hg with hg; subst hg; exact (OrcAt.or (do6_at [5, 6, 7, 8, 9, 10, 12, 13, 14]) (OrcAt.or (do7_at [5, 6, 7, 8, 9, 10, 12, 13, 14]) (OrcAt.or (do8_at [5, 6, 7, 8, 9, 10, 12, 13, 14]) (OrcAt.or (do9_at [5, 6, 7, 8, 9, 10, 12, 13, 14]) (OrcAt.or (do10_at [5, 6, 7, 8, 9, 10, 12, 13, 14]) (do11_at [5, 6, 7, 8, 9, 10, 12, 13, 14]))))))
  · injection hg with hg; subst hg; exact (mb12_at [])
  · injection hg with hg; subst hg; exact (OrcAt.or (t0_at [64]) (t1_at [72]))
  · injection hg with hg; subst hg; exact (koA_at [99, 100, 101])
  · exact orc1_ok f g hg
theorem orc_B_ok : OrcOk Tryz.prog 0 orc_B := by
  intro f g hg
  unfold orc_B at hg
  split at hg
  · injection hg with hg; subst hg; exact (fr_at [])
  · injection hg with hg; subst hg; exact (st0_at [15, 19, 20, 21, 22, 38, 39, 40, 41])
  · injection hg with hg; subst hg; exact (ba1_at [14, 15, 18, 19, 20, 47, 48, 49])
  · injection hg with hg; subst hg; exact (rm3_at [5, 6, 7, 8, 9, 10, 12, 13, 14, 15, 18, 19, 53, 54, 55])
  · injection hg with hg; subst hg; exact (OrcAt.or (ne2_at [5, 6, 7, 8, 9, 10, 12, 13, 14, 53]) (ne14_at [5, 6, 8, 10, 12, 13, 14, 54, 91, 92]))
  · injection hg with hg; subst hg; exact (OrcAt.or (do6_at [5, 6, 7, 8, 9, 10, 12, 13, 14]) (OrcAt.or (do7_at [5, 6, 7, 8, 9, 10, 12, 13, 14]) (OrcAt.or (do8_at [5, 6, 7, 8, 9, 10, 12, 13, 14]) (OrcAt.or (do9_at [5, 6, 7, 8, 9, 10, 12, 13, 14]) (OrcAt.or (do10_at [5, 6, 7, 8, 9, 10, 12, 13, 14]) (OrcAt.or (do11_at [5, 6, 7, 8, 9, 10, 12, 13, 14]) (OrcAt.or (do15_at [5, 6, 8, 10, 12, 13, 14, 91, 92]) (OrcAt.or (do16_at [5, 6, 8, 10, 12, 13, 14, 91, 92]) (OrcAt.or (do17_at [5, 6, 8, 10, 12, 13, 14, 91, 92]) (do18_at [5, 6, 8, 10, 12, 13, 14, 91, 92]))))))))))
  · injection hg with hg; subst hg; exact (mb12_at [])
  · injection hg with hg; subst hg; exact (OrcAt.or (t0_at [64]) (OrcAt.or (t1_at [72]) (OrcAt.or (t0_at [105]) (t3_at [113]))))
  · injection hg with hg; subst hg; exact (koB_at [142, 143, 144])
  · injection hg with hg; subst hg; exact (d5_at [183])
  · exact orc1_ok f g hg
theorem orc_L_ok : OrcOk Tryz.prog 0 orc_L := by
  intro f g hg
  unfold orc_L at hg
  split at hg
  · injection hg with hg; subst hg; exact (fr_at [])
  · injection hg with hg; subst hg; exact (st0_at [15, 19, 20, 21, 22, 38, 39, 40, 41])
  · injection hg with hg; subst hg; exact (ba1_at [14, 15, 18, 19, 20, 47, 48, 49])
  · injection hg with hg; subst hg; exact (rm3_at [5, 6, 7, 8, 9, 10, 12, 13, 14, 15, 18, 19, 53, 54, 55])
  · injection hg with hg; subst hg; exact (OrcAt.or (ne2_at [5, 6, 7, 8, 9, 10, 12, 13, 14, 53]) (ne14_at [5, 6, 8, 10, 12, 13, 14, 54, 91, 92]))
  · injection hg with hg; subst hg; exact (OrcAt.or (do6_at [5, 6, 7, 8, 9, 10, 12, 13, 14]) (OrcAt.or (do7_at [5, 6, 7, 8, 9, 10, 12, 13, 14]) (OrcAt.or (do8_at [5, 6, 7, 8, 9, 10, 12, 13, 14]) (OrcAt.or (do9_at [5, 6, 7, 8, 9, 10, 12, 13, 14]) (OrcAt.or (do10_at [5, 6, 7, 8, 9, 10, 12, 13, 14]) (OrcAt.or (do11_at [5, 6, 7, 8, 9, 10, 12, 13, 14]) (OrcAt.or (do15_at [5, 6, 8, 10, 12, 13, 14, 91, 92]) (OrcAt.or (do16_at [5, 6, 8, 10, 12, 13, 14, 91, 92]) (OrcAt.or (do17_at [5, 6, 8, 10, 12, 13, 14, 91, 92]) (do18_at [5, 6, 8, 10, 12, 13, 14, 91, 92]))))))))))
  · injection hg with hg; subst hg; exact (mb12_at [])
  · injection hg with hg; subst hg; exact (OrcAt.or (t0_at [64]) (OrcAt.or (t1_at [72]) (OrcAt.or (t0_at [105]) (t3_at [113]))))
  · exact orc1_ok f g hg
theorem orc_W_ok : OrcOk Tryz.prog 0 orc_W := by
  intro f g hg
  unfold orc_W at hg
  split at hg
  · injection hg with hg; subst hg; exact (cr_at [5, 6, 7])
  · injection hg with hg; subst hg; exact (OrcAt.or (nf0_at [7, 8, 9, 10, 11, 12, 14, 15, 16, 234]) (nf2_at [7, 8, 10, 12, 14, 15, 16, 268, 269, 378]))
  · injection hg with hg; subst hg; exact (OrcAt.or (dp0_at [7, 8, 9, 10, 11, 12, 14, 15, 16]) (OrcAt.or (dp1_at [7, 8, 9, 10, 11, 12, 14, 15, 16]) (OrcAt.or (dp2_at [7, 8, 10, 12, 14, 15, 16, 268, 269]) (dp3_at [7, 8, 10, 12, 14, 15, 16, 268, 269]))))
  · injection hg with hg; subst hg; exact (mb12_at [])
  · injection hg with hg; subst hg; exact (OrcAt.or (t0_at [241]) (OrcAt.or (u1_at [249]) (OrcAt.or (t0_at [385]) (u3_at [393]))))
  · injection hg with hg; subst hg; exact (e7_at [469])
  · exact orc1_ok f g hg
theorem aw_at : OrcAt 22 (pureO [] (.bool true)) := fun _ _ _ _ h _ _ _ hr _ hl => pureO_ok mixedT orc_W_ok rfl aw_ok h hr hl
theorem sameL_int (n : Nat) : sameL [.int .i64 n] [.int .i64 n] = true := by
  simp only [sameL, sameA, Nat.beq_refl, Bool.and_true]; rfl
/-- A cut that was told. -/
def Cut (n : Nat) : Prop := ∀ (H : AH) (μ : Inj) (w : World) (cargs : List Value), HRel μ H w → LRel μ [.int .i64 n] cargs → FnOk Tryz.prog μ H w 4 cargs.toArray (.bool true) H
theorem cut_of {n : Nat} {orc : FuncId → Option Orc} (ho : OrcOk Tryz.prog 0 orc) (hk : pureOk (.bool true) (callN Tryz.prog 0 1000000 (fnOf Tryz.prog 0 orc 1000000 (drawOf Tryz.prog 0)) 100 4 [.int .i64 n] noHeap done) = true) : Cut n := fun H _ _ _ hr hl =>
  pureO_ok mixedT ho (A := [.int .i64 n]) rfl hk (args := [.int .i64 n]) (H := H) (v := .bool true) (H' := H) (by unfold pureO; rw [if_pos (sameL_int n)]) hr hl
theorem cuts : ∀ n, n < 60 → Cut n
  | 0, _ => cut_of orc_A_ok cut0_ok
  | 1, _ => cut_of orc_A_ok cut1_ok
  | 2, _ => cut_of orc_B_ok cut2_ok
  | 3, _ => cut_of orc_B_ok cut3_ok
  | 4, _ => cut_of orc_L_ok (andL m0_ok)
  | 5, _ => cut_of orc_L_ok (andL (andR m0_ok))
  | 6, _ => cut_of orc_L_ok (andL (andR (andR m0_ok)))
  | 7, _ => cut_of orc_L_ok (andL (andR (andR (andR m0_ok))))
  | 8, _ => cut_of orc_L_ok (andL (andR (andR (andR (andR m0_ok)))))
  | 9, _ => cut_of orc_L_ok (andL (andR (andR (andR (andR (andR m0_ok))))))
  | 10, _ => cut_of orc_L_ok (andL (andR (andR (andR (andR (andR (andR m0_ok)))))))
  | 11, _ => cut_of orc_L_ok (andR (andR (andR (andR (andR (andR (andR m0_ok)))))))
  | 12, _ => cut_of orc_L_ok (andL m1_ok)
  | 13, _ => cut_of orc_L_ok (andL (andR m1_ok))
  | 14, _ => cut_of orc_L_ok (andL (andR (andR m1_ok)))
  | 15, _ => cut_of orc_L_ok (andL (andR (andR (andR m1_ok))))
  | 16, _ => cut_of orc_L_ok (andL (andR (andR (andR (andR m1_ok)))))
  | 17, _ => cut_of orc_L_ok (andL (andR (andR (andR (andR (andR m1_ok))))))
  | 18, _ => cut_of orc_L_ok (andL (andR (andR (andR (andR (andR (andR m1_ok)))))))
  | 19, _ => cut_of orc_L_ok (andR (andR (andR (andR (andR (andR (andR m1_ok)))))))
  | 20, _ => cut_of orc_L_ok (andL m2_ok)
  | 21, _ => cut_of orc_L_ok (andL (andR m2_ok))
  | 22, _ => cut_of orc_L_ok (andL (andR (andR m2_ok)))
  | 23, _ => cut_of orc_L_ok (andL (andR (andR (andR m2_ok))))
  | 24, _ => cut_of orc_L_ok (andL (andR (andR (andR (andR m2_ok)))))
  | 25, _ => cut_of orc_L_ok (andL (andR (andR (andR (andR (andR m2_ok))))))
  | 26, _ => cut_of orc_L_ok (andL (andR (andR (andR (andR (andR (andR m2_ok)))))))
  | 27, _ => cut_of orc_L_ok (andR (andR (andR (andR (andR (andR (andR m2_ok)))))))
  | 28, _ => cut_of orc_L_ok (andL m3_ok)
  | 29, _ => cut_of orc_L_ok (andL (andR m3_ok))
  | 30, _ => cut_of orc_L_ok (andL (andR (andR m3_ok)))
  | 31, _ => cut_of orc_L_ok (andL (andR (andR (andR m3_ok))))
  | 32, _ => cut_of orc_L_ok (andL (andR (andR (andR (andR m3_ok)))))
  | 33, _ => cut_of orc_L_ok (andL (andR (andR (andR (andR (andR m3_ok))))))
  | 34, _ => cut_of orc_L_ok (andL (andR (andR (andR (andR (andR (andR m3_ok)))))))
  | 35, _ => cut_of orc_L_ok (andR (andR (andR (andR (andR (andR (andR m3_ok)))))))
  | 36, _ => cut_of orc_L_ok (andL m4_ok)
  | 37, _ => cut_of orc_L_ok (andL (andR m4_ok))
  | 38, _ => cut_of orc_L_ok (andL (andR (andR m4_ok)))
  | 39, _ => cut_of orc_L_ok (andL (andR (andR (andR m4_ok))))
  | 40, _ => cut_of orc_L_ok (andL (andR (andR (andR (andR m4_ok)))))
  | 41, _ => cut_of orc_L_ok (andL (andR (andR (andR (andR (andR m4_ok))))))
  | 42, _ => cut_of orc_L_ok (andL (andR (andR (andR (andR (andR (andR m4_ok)))))))
  | 43, _ => cut_of orc_L_ok (andR (andR (andR (andR (andR (andR (andR m4_ok)))))))
  | 44, _ => cut_of orc_L_ok (andL m5_ok)
  | 45, _ => cut_of orc_L_ok (andL (andR m5_ok))
  | 46, _ => cut_of orc_L_ok (andL (andR (andR m5_ok)))
  | 47, _ => cut_of orc_L_ok (andL (andR (andR (andR m5_ok))))
  | 48, _ => cut_of orc_L_ok (andL (andR (andR (andR (andR m5_ok)))))
  | 49, _ => cut_of orc_L_ok (andL (andR (andR (andR (andR (andR m5_ok))))))
  | 50, _ => cut_of orc_L_ok (andL (andR (andR (andR (andR (andR (andR m5_ok)))))))
  | 51, _ => cut_of orc_L_ok (andR (andR (andR (andR (andR (andR (andR m5_ok)))))))
  | 52, _ => cut_of orc_L_ok (andL m6_ok)
  | 53, _ => cut_of orc_L_ok (andL (andR m6_ok))
  | 54, _ => cut_of orc_L_ok (andL (andR (andR m6_ok)))
  | 55, _ => cut_of orc_L_ok (andL (andR (andR (andR m6_ok))))
  | 56, _ => cut_of orc_L_ok (andL (andR (andR (andR (andR m6_ok)))))
  | 57, _ => cut_of orc_L_ok (andL (andR (andR (andR (andR (andR m6_ok))))))
  | 58, _ => cut_of orc_L_ok (andL (andR (andR (andR (andR (andR (andR m6_ok)))))))
  | 59, _ => cut_of orc_L_ok (andR (andR (andR (andR (andR (andR (andR m6_ok)))))))
  | n + 60, h => absurd h (by omega)
theorem cut_at : OrcAt 4 cutO := fun args H v H' h μ w cargs hr _ hl => by
  unfold cutO at h
  split at h
  · rename_i n
    split at h
    · rename_i hb
      cases h
      exact cuts n (by rwa [Nat.blt_eq] at hb) H μ w cargs hr hl
    · cases h
  · cases h
theorem orc_T_ok : OrcOk Tryz.prog 0 orc_T := by
  intro f g hg
  unfold orc_T at hg
  split at hg
  · injection hg with hg; subst hg; exact (OrcAt.or (cr_at [5, 6, 7]) (cr_at [134, 135, 136]))
  · injection hg with hg; subst hg; exact (nf4_at [136, 137, 138, 139, 140, 141, 143, 144, 145, 146])
  · injection hg with hg; subst hg; exact (dp4_at [136, 137, 138, 139, 140, 141, 143, 144, 145])
  · injection hg with hg; subst hg; exact (mb12_at [])
  · injection hg with hg; subst hg; exact (OrcAt.or (t0_at [150]) (u5_at [158]))
  · injection hg with hg; subst hg; exact (e8_at [205])
  · injection hg with hg; subst hg; exact cut_at
  · injection hg with hg; subst hg; exact aw_at
  · exact orc1_ok f g hg
end Go.Abs
namespace Go.Proofs.YtmfondkhhnnjjaaGreatDoor
open Go Go.Abs
theorem walked : Walked := fun w => by
  obtain ⟨H', h⟩ := callA_of_callN (P := Tryz.prog) (ng := 0) (lf := 1000000) (n := 100) (orc := orc_T) (f := 3) (args := []) (H := noHeap) top_ok
  exact calls_of_callA mixedT orc_T_ok Tryz.func3 (by kernel_rfl) rfl h w
theorem law : Rows.KeepNamesCardSaid := card walked
end Go.Proofs.YtmfondkhhnnjjaaGreatDoor
#print axioms Go.Proofs.YtmfondkhhnnjjaaGreatDoor.law
