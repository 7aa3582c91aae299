/- slices.Insert of one element in place, and the oracle. -/
import Derived.Test.YtmfondkhhnnjjaaGreatDoorO11

namespace Go.Abs
open Go Go.RowKit Go.Shelf Go.Proofs Go.Lib Go.Maps Go.Sort

/-- The row with one more element, in its own block. -/
theorem insert_room (β off n c i β2 off2 vc : Nat) (olds news : List Value) (w : World) (hi : i < n) (hn : n < 65536) (hroom : n + 1 ≤ c) (ho : RowAt w β off olds) (hol : olds.length = n * 4) (ho1 : ∀ v ∈ olds, v.oneCell' = true)
    (hv : RowAt w β2 off2 news) (hnl : news.length = 4) (hv1 : ∀ v ∈ news, v.oneCell' = true) (hne : β2 ≠ β) (t N : Nat) (hβ : w.shape? β = some (t, N)) (hsp : off + (n + 1) * 4 ≤ N) (hf : ∀ j, j < (n + 1) * 4 → w.frozen? ⟨β, off + j, none⟩ = false)
    (t2 N2 : Nat) (hβ2 : w.shape? β2 = some (t2, N2)) (hfa : w.frozen? ⟨β2, off2, none⟩ = false) :
    Calls Tryz.prog 172 #[.slice (some ⟨β, off, none⟩) n c, .int .i64 i, .slice (some ⟨β2, off2, none⟩) 1 vc] w fun e w' => e = .returned (.slice (some ⟨β, off, none⟩) (n + 1) c) ∧ Kept w w' β off (off + (n + 1) * 4) ∧
      RowAt w' β off (olds.take (i * 4) ++ (news ++ olds.drop (i * 4))) := by
  have hdl : (olds.drop (i * 4)).length = (n - i) * 4 := by rw [List.length_drop, hol]; omega
  have htl : (olds.take (i * 4)).length = i * 4 := by rw [List.length_take, hol, Nat.min_eq_left (by omega)]
  obtain ⟨b, W0, hrun, hh, hos, hout⟩ := run_overlaps_any (P := Tryz.prog) w 266 4 272 Tryz.underlying266 4 Tryz.sizeOf272 ⟨β2, off2, none⟩ ((⟨β, off, none⟩ : Addr).add ((i + 1) * 4)) 1 vc (n - i) (c - (i + 1)) (by rw [Addr.add_lit]; exact hne) t2 t N2 N hβ2 (by rw [Addr.add_lit]; exact hβ) hfa
  have hov : (callFunc 242 #[.slice (some ⟨β2, off2, none⟩) 1 vc, .slice (some ((⟨β, off, none⟩ : Addr).add ((i + 1) * 4))) (n - i) (c - (i + 1))]).run Tryz.prog w = .ok (.value (.bool b)) W0 := by
    rw [run_callFunc_extern Tryz.func242 (by kernel_rfl) (by kernel_rfl) (by kernel_rfl) (e := Extern.SlicesOverlaps.overlaps #[266, 266] #[4]) (by kernel_rfl), hrun]
    rfl
  have k0 : ∀ lo hi, Kept w W0 β lo hi := fun lo hi => Kept.same hh hos hout _ _ _
  have kd : ∀ (W : World) lo hi, Kept W W.drew β lo hi := fun W lo hi => Kept.same (w := W) (w' := W.drew) rfl rfl rfl _ _ _
  cases b with
  | false =>
    have kW : Kept w W0.drew β off off := (k0 _ _).trans (kd _ _ _)
    obtain ⟨W1, hW1⟩ : ∃ W1, W1 = W0.drew.setCells β (off + (i + 1) * 4) (olds.drop (i * 4)) := ⟨_, rfl⟩
    obtain ⟨W2, hW2⟩ : ∃ W2, W2 = W1.setCells β (off + i * 4) news := ⟨_, rfl⟩
    have k1 : Kept W0.drew W1 β (off + (i + 1) * 4) (off + (i + 1) * 4 + (olds.drop (i * 4)).length) := by rw [hW1]; exact Kept.cells _ _ _ _
    have k2 : Kept W1 W2 β (off + i * 4) (off + i * 4 + news.length) := by rw [hW2]; exact Kept.cells _ _ _ _
    have hs0 : W0.drew.shape? β = some (t, N) := kW.shape.trans hβ
    have hs1 : W1.shape? β = some (t, N) := k1.shape.trans hs0
    have hc1 : ∀ ty dc sc, (Builtin.copy_ #[266, 266] ty #[.slice (some ((⟨β, off, none⟩ : Addr).add ((i + 1) * 4))) (n - i) dc, .slice (some ((⟨β, off, none⟩ : Addr).add (i * 4))) (n + 1 - i) sc]).run Tryz.prog W0.drew = .ok (goInt (n - i : Nat)) W1 := fun ty dc sc => by
      have e : Nat.min (n + 1 - i) (n - i) = n - i := by simp only [Nat.min_def]; split <;> omega
      have := run_copy_cells_n (P := Tryz.prog) W0.drew 266 266 ty 272 4 β (off + (i + 1) * 4) (n - i) dc ((⟨β, off, none⟩ : Addr).add (i * 4)) (n + 1 - i) sc (olds.drop (i * 4)) Tryz.underlying266 size272 (by rw [hdl, e])
        (fun j v hj => by rw [Addr.add_lit, Addr.add_lit]; exact (((ho.drop (i * 4)).kept kW (.inr (.inr (by omega))))) j v hj) (fun j hj => cells_some hs0 (by omega)) (fun j hj => by rw [kW.frozen, Nat.add_assoc]; exact hf _ (by omega)) (fun v hv => ho1 v (List.mem_of_mem_drop hv))
      rw [e] at this
      rw [hW1, Addr.add_lit]; exact this
    have hc2 : ∀ ty dc, (Builtin.copy_ #[266, 266] ty #[.slice (some ((⟨β, off, none⟩ : Addr).add (i * 4))) (n + 1 - i) dc, .slice (some ⟨β2, off2, none⟩) 1 vc]).run Tryz.prog W1 = .ok (goInt 1) W2 := fun ty dc => by
      have e : Nat.min 1 (n + 1 - i) = 1 := by simp only [Nat.min_def]; split <;> omega
      have := run_copy_cells_n (P := Tryz.prog) W1 266 266 ty 272 4 β (off + i * 4) (n + 1 - i) dc ⟨β2, off2, none⟩ 1 vc news Tryz.underlying266 size272 (by rw [hnl, e])
        (fun j v hj => by rw [Addr.add_lit]; exact ((hv.kept kW (.inl hne)).kept k1 (.inl hne)) j v hj) (fun j hj => cells_some hs1 (by omega)) (fun j hj => by rw [k1.frozen, kW.frozen, Nat.add_assoc]; exact hf _ (by omega)) hv1
      rw [e] at this
      rw [hW2, Addr.add_lit]; exact this
    refine (insert_shift_walk ⟨β, off, none⟩ n i c ⟨β2, off2, none⟩ vc w hi hn hroom W0 W1 W2 hov hc1 hc2).mono ?_
    rintro e w' ⟨rfl, hw⟩
    rw [hw]
    refine ⟨rfl, ((kW.wide (Nat.le_refl _) (by omega)).trans (k1.wide (by omega) (by omega))).trans (k2.wide (by omega) (by omega)), RowAt.append ?_ (RowAt.append ?_ ?_)⟩
    · exact (((ho.take (i * 4)).kept kW (.inr (.inr (Nat.le_refl _)))).kept k1 (.inr (.inl (by omega)))).kept k2 (.inr (.inl (by omega)))
    · rw [htl, hW2]
      exact RowAt.set_in fun j hj => cells_some hs1 (by omega)
    · rw [htl, hnl, show off + i * 4 + 4 = off + (i + 1) * 4 by omega]
      have : RowAt W1 β (off + (i + 1) * 4) (olds.drop (i * 4)) := by rw [hW1]; exact RowAt.set_in fun j hj => cells_some hs0 (by omega)
      exact this.kept k2 (.inr (.inr (by omega)))
  | true =>
    obtain ⟨W1, hW1⟩ : ∃ W1, W1 = W0.setCells β (off + n * 4) news := ⟨_, rfl⟩
    have k1 : Kept W0 W1 β (off + n * 4) (off + n * 4 + news.length) := by rw [hW1]; exact Kept.cells _ _ _ _
    have hs0 : W0.shape? β = some (t, N) := (k0 0 0).shape.trans hβ
    have hs1 : W1.shape? β = some (t, N) := k1.shape.trans hs0
    have hc1 : ∀ ty dc, (Builtin.copy_ #[266, 266] ty #[.slice (some ((⟨β, off, none⟩ : Addr).add (n * 4))) 1 dc, .slice (some ⟨β2, off2, none⟩) 1 vc]).run Tryz.prog W0 = .ok (goInt 1) W1 := fun ty dc => by
      have := run_copy_cells_n (P := Tryz.prog) W0 266 266 ty 272 4 β (off + n * 4) 1 dc ⟨β2, off2, none⟩ 1 vc news Tryz.underlying266 size272 (by rw [hnl]; rfl)
        (fun j v hj => by rw [Addr.add_lit]; exact (hv.kept (k0 0 0) (.inl hne)) j v hj) (fun j hj => cells_some hs0 (by omega)) (fun j hj => by rw [(k0 0 0).frozen, Nat.add_assoc]; exact hf _ (by omega)) hv1
      rw [hW1, Addr.add_lit]; exact this
    obtain ⟨xs, hxl, hxf⟩ := quads (n - i) (olds.drop (i * 4)) hdl (fun v hv => ho1 v (List.mem_of_mem_drop hv))
    have hnq : [(⟨news, hnl, hv1⟩ : Quad)].flatMap q4 = news := by simp [q4]
    have hel : Els W1 β (off + i * 4) (xs ++ [(⟨news, hnl, hv1⟩ : Quad)]) := by
      refine Els.of_flat ?_
      rw [List.flatMap_append, hxf, hnq]
      refine RowAt.append (((ho.drop (i * 4)).kept (k0 0 0) (.inr (.inr (Nat.zero_le _)))).kept k1 (.inr (.inl (by omega)))) ?_
      rw [hdl, show off + i * 4 + (n - i) * 4 = off + n * 4 by omega, hW1]
      exact RowAt.set_in fun j hj => cells_some hs0 (by omega)
    have hlen : n + 1 - i = xs.length + 1 := by omega
    have hrt := rotR_walk β (off + i * 4) (c - i) xs ⟨news, hnl, hv1⟩ W1 (by omega) (by omega) ⟨t, N, hs1⟩ (by omega) hel (fun j hj => by rw [k1.frozen, (k0 0 0).frozen, Nat.add_assoc]; exact hf _ (by omega))
    have hrt2 : Calls Tryz.prog 243 #[.slice (some ((⟨β, off, none⟩ : Addr).add (i * 4))) (n + 1 - i) (c - i), .int .i64 1] W1 fun e w' => e = .returned (.tuple #[]) ∧ (Kept W1 w' β (off + i * 4) (off + i * 4 + (xs.length + 1) * 4) ∧ Els w' β (off + i * 4) ((⟨news, hnl, hv1⟩ : Quad) :: xs)) := by
      rw [hlen, Addr.add_lit]; exact hrt
    refine (insert_rot_walk ⟨β, off, none⟩ n i c ⟨β2, off2, none⟩ vc w hi hn hroom W0 W1 _ hov hc1 hrt2).mono ?_
    rintro e w' ⟨rfl, k2, e2⟩
    refine ⟨rfl, ((k0 _ _).trans (k1.wide (by omega) (by omega))).trans (k2.wide (by omega) (by omega)), RowAt.append ?_ ?_⟩
    · exact (((ho.take (i * 4)).kept (k0 0 0) (.inr (.inr (Nat.zero_le _)))).kept k1 (.inr (.inl (by omega)))).kept k2 (.inr (.inl (by omega)))
    · rw [htl]
      have := e2.flat
      rw [List.flatMap_cons, hxf] at this
      exact this

theorem insertO_ok {args : List AV} {H : AH} {v : AV} {H' : AH} (h : insertO 4 args H = some (v, H')) {μ : Inj} {w : World} {cargs : List Value} (hr : HRel μ H w) (hl : LRel μ args cargs) :
    FnOk Tryz.prog μ H w 172 cargs.toArray v H' := by
  unfold insertO at h
  split at h
  · rename_i b o n cp z i b2 o2 m c2 z2 e2
    split at h
    · rename_i hc
      simp only [Bool.and_eq_true, Nat.blt_eq, Bool.not_eq_true'] at hc
      obtain ⟨⟨⟨⟨⟨hz, hz2⟩, hi⟩, hn⟩, hm⟩, hbb⟩ := hc
      obtain rfl := Nat.eq_of_beq_eq_true hz
      obtain rfl := Nat.eq_of_beq_eq_true hz2
      obtain rfl := Nat.eq_of_beq_eq_true hm
      have hbb : b ≠ b2 := fun e => by subst e; rw [Nat.beq_refl] at hbb; cases hbb
      split at h
      · rename_i k k2 hb hb2
        split at h
        · rename_i l l2 hl1 hl2
          cases h
          cases hl with
          | cons hv1 t1 =>
          cases t1 with
          | cons hv2 t2 =>
          cases t2 with
          | cons hv3 t3 =>
          cases t3
          cases hv1 with
          | slc hμ hnc hcc he hrr =>
          rename_i β δ r cc
          cases hv3 with
          | slc hμ2 hnc2 hcc2 he2 hrr2 =>
          rename_i β2 δ2 r2 cc2
          have hint := toInt_small (show i < 65536 by omega)
          cases hv2 with
          | int _ _ hi64 =>
          have hrr := hrr rfl
          obtain ⟨olds, g1, g2, g3, g4, g5, _⟩ := row_rd hr hb hμ hl1
          obtain ⟨news, f1, f2, f3, f4, f5, f6⟩ := row_rd hr hb2 hμ2 hl2
          obtain ⟨β', δ', r', hμ', ho⟩ := hr.obj b _ hb
          rw [hμ] at hμ'; injection hμ' with e1; injection e1 with e1 e2; injection e2 with e2 e3; subst e1 e2 e3
          obtain ⟨β', δ', r', hμ', ho2⟩ := hr.obj b2 _ hb2
          rw [hμ2] at hμ'; injection hμ' with e1; injection e1 with e1 e2; injection e2 with e2 e3; subst e1 e2 e3
          have hne : β2 ≠ β := fun e => hbb (by subst e; exact hr.inj b b2 _ _ _ _ _ (by simp [hb]) (by simp [hb2]) hμ hμ2)
          obtain ⟨t, hsh⟩ := ho.2.2.1
          obtain ⟨t2', hsh2⟩ := ho2.2.2.1
          have hβ := ho.lt
          have hβ2 := ho2.lt
          -- the row's cells
          have hC : LRel μ (expand (catC (takeC (i * 4) l) (catC l2 (dropC (i * 4) l)))) (olds.take (i * 4) ++ (news ++ olds.drop (i * 4))) := by
            rw [expand_catC, expand_catC, expand_takeC, expand_dropC]
            exact (g1.take _).append (f1.append (g1.drop _))
          have hone : ∀ v ∈ expand (catC (takeC (i * 4) l) (catC l2 (dropC (i * 4) l))), v.one = true := fun v hv => by
            rw [expand_catC, expand_catC, expand_takeC, expand_dropC] at hv
            rcases List.mem_append.1 hv with hv | hv
            · exact g5 v (List.mem_of_mem_take hv)
            · rcases List.mem_append.1 hv with hv | hv
              · exact f5 v hv
              · exact g5 v (List.mem_of_mem_drop hv)
          have hClen : (olds.take (i * 4) ++ (news ++ olds.drop (i * 4))).length = (n + 1) * 4 := by
            simp only [List.length_append, List.length_take, List.length_drop, g4, f4]
            rw [Nat.min_eq_left (by omega)]; omega
          have hkill := Ext.of_kill hr b
          refine .inl ⟨_, _, Tryz.func172, by kernel_rfl, rfl, ?_⟩
          rw [hint]
          rcases Nat.lt_or_ge n cc with hroom | hroom
          · -- in place
            have walk := insert_room β (δ + o) n cc i β2 (δ2 + o2) cc2 olds news w hi hn hroom g2 g4 g3 f2 f4 f3 hne t (δ + r) hsh (by omega) (fun j hj => by rw [Nat.add_assoc]; exact ho.2.2.2.1 _ (by omega)) t2' (δ2 + r2) hsh2 (ho2.2.2.2.1 _ (f6 (by omega)))
            refine Calls.mono walk ?_
            rintro e w' ⟨rfl, kp, hrow⟩
            have hle : μ.le (μ.upd H.next (β, δ + o, r - o)) := Inj.le_upd (hr.fresh H.next (Nat.le_refl _)).1
            have horel := orel_row (b := H.next) (q := r - o) (hC.mono hle) hone hClen hrow ⟨t, by rw [kp.shape, hsh]; congr 2; omega⟩ (fun j hj => by rw [kp.frozen, Nat.add_assoc]; exact ho.2.2.2.1 _ (by omega)) (by omega)
            exact ⟨_, Ext.of_take hr hb hμ horel kp.size kp.other kp.os kp.output, .slc (δ := δ + o) (o := 0) (Inj.upd_same _ _ _) (Nat.le_refl _) (by omega) (fun e => by cases e) (fun _ => by omega)⟩
          · -- in a new block
            obtain rfl : cc = n := by omega
            have walk := insert_grow β (δ + o) cc i β2 (δ2 + o2) cc2 olds news w hi hn g2 g4 g3 f2 f4 f3 hβ hβ2
            refine Calls.mono walk ?_
            rintro e w' ⟨cap, hcap, rfl, hbel, hsh3, hfz3, hrow⟩
            obtain ⟨t3, hsh3⟩ := hsh3
            have hle : μ.le (μ.upd H.next (w.heap.size, 0, cap * 4)) := Inj.le_upd (hr.fresh H.next (Nat.le_refl _)).1
            have horel := orel_row (b := H.next) (q := cap * 4) (hC.mono hle) hone hClen hrow ⟨t3, by rw [hsh3, Nat.zero_add]⟩ (fun j hj => hfz3 _) (by omega)
            exact ⟨_, hkill.trans hr (Ext.of_below hkill.rel hbel (Nat.le_refl _) horel), .slc (δ := 0) (o := 0) (Inj.upd_same _ _ _) (Nat.le_refl _) hcap (fun e => by cases e) (fun _ => by omega)⟩
        · cases h
      · cases h
    · cases h
  · cases h
end Go.Abs
