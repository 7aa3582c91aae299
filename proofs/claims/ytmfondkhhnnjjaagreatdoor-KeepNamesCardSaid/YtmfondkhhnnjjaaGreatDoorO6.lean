/- slices.Clone of all rows of a block: the oracle is right; the three oracles at the program. -/
import Derived.Test.YtmfondkhhnnjjaaGreatDoorOL
import Derived.Test.YtmfondkhhnnjjaaGreatDoorO7

namespace Go.Abs
open Go Go.RowKit Go.Shelf Go.Proofs Go.Lib Go.Maps

set_option maxRecDepth 20000 in
theorem cloneO_ok {args : List AV} {H : AH} {v : AV} {H' : AH} (h : cloneO 512 args H = some (v, H')) {μ : Inj} {w : World} {cargs : List Value} (hr : HRel μ H w) (hl : LRel μ args cargs) :
    FnOk Tryz.prog μ H w 65 cargs.toArray v H' := by
  unfold cloneO at h
  split at h
  · rename_i b n cap z e
    split at h
    · rename_i hc
      simp only [Bool.and_eq_true, Nat.blt_eq] at hc
      obtain ⟨hz, hn⟩ := hc
      obtain rfl := Nat.eq_of_beq_eq_true hz
      split at h
      · rename_i sz cnt zz t hb
        split at h
        · rename_i hc2
          simp only [Bool.and_eq_true] at hc2
          obtain rfl := Nat.eq_of_beq_eq_true hc2.1
          obtain rfl := Nat.eq_of_beq_eq_true hc2.2
          cases h
          cases hl with
          | cons hv t' =>
          cases t'
          cases hv with
          | slc hμ hnc hcc he hrr =>
          rename_i β δ r cc
          obtain ⟨β', δ', r', hμ', ho⟩ := hr.obj b _ hb
          rw [hμ] at hμ'; injection hμ' with e1; injection e1 with e1 e2; injection e2 with e2 e3; subst e1 e2 e3
          obtain ⟨hok, hsz, hsh, hf, hcells⟩ := ho
          have hcell : ∀ j, j < cnt * 512 → ∃ v c, (Blk.rows 512 cnt zz t).cell j = some v ∧ v.one = true ∧ w.cell? ⟨β, δ + j, none⟩ = some c ∧ VRel μ v c := fun j hj => by
            obtain ⟨v, hv⟩ := Blk.cell_some hok (i := j) (by simp only [Blk.size]; omega)
            obtain ⟨h1, c, h2, h3⟩ := hcells j v hv
            exact ⟨v, c, hv, h1, h2, h3⟩
          generalize hnews : (List.range (cnt * 512)).map (fun j => (w.cell? ⟨β, δ + j, none⟩).getD undef) = news
          have hget : ∀ j u, news[j]? = some u → j < cnt * 512 ∧ w.cell? ⟨β, δ + j, none⟩ = some u ∧ u.oneCell' = true := fun j u hj => by
            rw [← hnews, List.getElem?_map, Option.map_eq_some_iff] at hj
            obtain ⟨i, hi, hu⟩ := hj
            obtain ⟨hlt, hi⟩ := List.getElem?_eq_some_iff.1 hi
            simp only [List.length_range] at hlt
            simp only [List.getElem_range] at hi
            subst hi
            obtain ⟨v, c, _, h1, h2, h3⟩ := hcell j hlt
            rw [h2] at hu
            simp only [Option.getD_some] at hu
            subst hu
            exact ⟨hlt, h2, h3.one h1⟩
          have hlen : news.length = cnt * 512 := by rw [← hnews]; simp
          have hle : cnt ≤ 65536 := hok.2.1
          have con := AnyE.slices_Clone cloneL Tryz.t132 (Tryz.t132.zero.getD (.bool false)) 512 512 (by kernel_rfl) (by kernel_rfl) (by kernel_rfl) (by kernel_rfl) (by kernel_rfl) (by omega) Tryz.sizeOf132 β (δ + 0) cnt cc news w hlen (by unfold maxLen; omega) (by omega)
            (fun j u hj => by rw [Nat.add_zero]; exact (hget j u hj).2.1) (fun u hu => by obtain ⟨j, hj⟩ := List.mem_iff_getElem?.1 hu; exact (hget j u hj).2.2)
          refine .inl ⟨_, _, Tryz.func65, by kernel_rfl, rfl, Calls.mono con ?_⟩
          rintro e w' ⟨v', rfl, hrow, hne, hbel⟩
          rcases hrow.2 with ⟨h0, _⟩ | ⟨g, cap', cur, rfl, hbase, hg, q1, q2, q3, q4⟩
          · exact absurd h0 hne
          · have ho : ORel (μ.upd H.next (g, 0, cap' * 512)) H.next (.blk (.rows 512 cnt zz t)) g 0 (cap' * 512) w' := by
              refine ⟨hok, by show 512 * cnt ≤ _; omega, ⟨132, by simp only [World.shape?, hg]; simp; exact ⟨rfl, q3⟩⟩, fun i hi => by simp only [World.frozen?, hg]; simp, fun i v hv => ?_⟩
              have hi : i < cnt * 512 := by have h5 : i < 512 * cnt := Blk.cell_lt hok hv; rw [Nat.mul_comm]; exact h5
              obtain ⟨v2, c, h1, h2, h3, h4⟩ := hcell i hi
              rw [hv] at h1; injection h1 with h1; subst h1
              refine ⟨h2, c, ?_, h4.mono (Inj.le_upd (hr.fresh H.next (Nat.le_refl _)).1)⟩
              have hnj : news[i]? = some c := by
                rw [← hnews, List.getElem?_map, List.getElem?_range hi]
                simp [h3]
              have hcur : cur.toList[i]? = some c := by
                have := congrArg (fun l => l[i]?) q4
                rw [List.getElem?_take_of_lt hi] at this
                exact this.trans hnj
              simp only [World.cell?, hg]
              simpa using hcur
            exact ⟨_, Ext.of_below hr hbel hbase ho, .slc (δ := 0) (o := 0) (Inj.upd_same _ _ _) (Nat.le_refl _) q1 (fun e => by cases e) (fun _ => by omega)⟩
        · cases h
      · cases h
    · cases h
  · cases h

theorem sortsL (m : Nat) : AnyZI.SortsIn Tryz.prog sortedL_ren Fence.wide m :=
  ⟨fun blk off cap ss W hH hblk hsz => callsIn_wide.2 (AnyM.slices_Sort_int sortL blk off cap ss W hH hblk hsz),
   fun p cap W => callsIn_wide.2 (AnyM.slices_Sort_int_none sortL p cap W)⟩

theorem sortedO_at {args : List AV} {H : AH} {v : AV} {H' : AH} (h : sortedO 246 args H = some (v, H')) {μ : Inj} {w : World} {cargs : List Value} (hr : HRel μ H w) (hl : LRel μ args cargs) :
    FnOk Tryz.prog μ H w 176 cargs.toArray v H' :=
  sortedO_ok sortedL keysIt sortsL (enters_of Tryz.func217 (by kernel_rfl) rfl) Tryz.func176 (by kernel_rfl) rfl (enters_of Tryz.func246 (by kernel_rfl) rfl) h hr hl

theorem copyO_at {args : List AV} {H : AH} {v : AV} {H' : AH} (h : copyO 512 args H = some (v, H')) {μ : Inj} {w : World} {cargs : List Value} (hr : HRel μ H w) (hl : LRel μ args cargs) :
    FnOk Tryz.prog μ H w 182 cargs.toArray v H' :=
  copyO_ok Tryz.underlying3 (fun bd bs nd ns Dd Ds w hd hs hne hroom =>
    copyRows_walk (by kernel_rfl) Tryz.func182 Tryz.underlying0 Tryz.isAgg0 Tryz.sizeOf0 Tryz.zeroValue0 Tryz.underlying4 Tryz.isAgg4 Tryz.sizeOf4 Tryz.zeroValue4 Tryz.underlying179 Tryz.isAgg179 Tryz.sizeOf179 Tryz.zeroValue179
      Tryz.underlying3 Tryz.isAgg3 Tryz.sizeOf3 512 _ (by kernel_rfl) Tryz.isAgg183 Tryz.sizeOf183 Tryz.zeroValue183 bd bs nd ns Dd Ds w hd hs hne hroom) Tryz.func182 (by kernel_rfl) rfl h hr hl
end Go.Abs
