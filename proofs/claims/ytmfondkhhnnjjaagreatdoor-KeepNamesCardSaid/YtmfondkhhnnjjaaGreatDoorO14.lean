/- (*rlog.Log).Members where no entry is a list of members: the walk, and the oracle. -/
import Derived.Test.YtmfondkhhnnjjaaGreatDoorO13
import Derived.RegionIn
import Derived.Shelf.RegionOpen

namespace Go.Abs
open Go Go.RowKit Go.Shelf Go.Proofs Go.Lib Go.Maps

set_option maxRecDepth 100000 in
theorem backward_in (p : Option Addr) (n c : Nat) (w : World) : CallsIn Fence.wide 5 Tryz.prog 209 #[.slice p n c] w fun e w' => e = .returned (.func (.func 268) #[] #[.pointer (some ⟨w.heap.size, 0, none⟩)]) ∧ w' = w.alloc (.cells #[.slice p n c] 57) := by
  refine callsIn_of_wp Tryz.func209 rfl trivial ?_ rfl
  simp only [Tryz.ntmps209, List.size_toArray, List.length_cons, List.length_nil, Nat.reduceAdd, Nat.reduceSub, Array.replicate_succ, Array.replicate_zero, List.push_toArray, List.append_toArray, List.nil_append, List.cons_append]
  gi_wp2
  go_ret
  exact ⟨rfl, rfl⟩

attribute [local go_sem] Oper.semAt_some

def tailOf (es : Nat → E4) (len : Nat) : List El → Prop := fun xs => xs = upto (backF es len) len

theorem back_seq (es : Nat → E4) (Bs b off len cap : Nat) (w : World) (hlen : len < 65536) (hBn : Bs < w.heap.size) (hb : b < w.heap.size) (hBs : w.cell? ⟨Bs, 0, none⟩ = some (.slice (some ⟨b, off, none⟩) len cap))
    (hc : ∀ j, j < len → w.cell? ⟨b, off + j * 4, none⟩ = some (es j).e0 ∧ w.cell? ⟨b, off + j * 4 + 1, none⟩ = some (es j).e1 ∧ w.cell? ⟨b, off + j * 4 + 2, none⟩ = some (es j).e2 ∧ w.cell? ⟨b, off + j * 4 + 3, none⟩ = some (es j).e3) :
    SeqStopsK Fence.wide 5 Tryz.prog 268 #[.pointer (some ⟨Bs, 0, none⟩)] (fun x : El => #[.int .i64 (x.1 : Int), elv x]) (Below w.heap.size) (tailOf es len) (fun _ => True) len w := fun l J Jx W hW _ _ hY h0 => by
  have hcell : ∀ i k v, i < w.heap.size → w.cell? ⟨i, k, none⟩ = some v → W.cell? ⟨i, k, none⟩ = some v := fun i k v hi h => (hW.cell (p := ⟨i, k, none⟩) hi).trans h
  refine (backward1_in Fence.wide 5 trivial rfl (by omega) l Bs w.heap.size b off len cap es hlen hb J Jx hY W hBn (hcell _ _ _ hBn hBs)
    (fun j hj => ⟨hcell _ _ _ hb (hc j hj).1, hcell _ _ _ hb (hc j hj).2.1, hcell _ _ _ hb (hc j hj).2.2.1, hcell _ _ _ hb (hc j hj).2.2.2⟩) h0).mono ?_
  intro e W' h
  exact h

set_option maxRecDepth 100000 in
set_option maxHeartbeats 4000000 in
theorem members_walk (β δ b off len cap : Nat) (z : Int) (es : Nat → E4) (w : World) (hlen : len < 65536) (hb : b < w.heap.size)
    (hg : w.cell? ⟨β, δ + 2, none⟩ = some (.slice (some ⟨b, off, none⟩) len cap))
    (hc : ∀ j, j < len → w.cell? ⟨b, off + j * 4, none⟩ = some (es j).e0 ∧ w.cell? ⟨b, off + j * 4 + 1, none⟩ = some (es j).e1 ∧ w.cell? ⟨b, off + j * 4 + 2, none⟩ = some (es j).e2 ∧ w.cell? ⟨b, off + j * 4 + 3, none⟩ = some (es j).e3)
    :
    CallsIn Fence.wide 6 Tryz.prog 120 #[.pointer (some ⟨β, δ, none⟩), .int .i64 z] w fun e w' => e = .returned (.tuple #[.slice none 0 0, .bool false]) ∧ Below w.heap.size w w' := by
  have cB := fun W => backward_in (some ⟨b, off, none⟩) len cap W
  have hg4 : ((((w.alloc (.cells #[.pointer (some ⟨β, δ, none⟩)] 155)).alloc (.cells #[.int .i64 z] 3)).alloc (.cells #[.slice none 0 0] 58)).alloc (.cells #[.bool false] 4)).cell? ⟨β, δ + 2, none⟩ = some (.slice (some ⟨b, off, none⟩) len cap) :=
    Lib.cell?_alloc_some _ (Lib.cell?_alloc_some _ (Lib.cell?_alloc_some _ (Lib.cell?_alloc_some _ hg)))
  have hf209 : Fence.wide.fn 209 := trivial
  refine callsIn_of_wp_marks Tryz.func120 rfl trivial ?_ rfl
  simp only [Tryz.ntmps120, List.size_toArray, List.length_cons, List.length_nil, Nat.reduceAdd, Nat.reduceSub, Array.replicate_succ, Array.replicate_zero, List.push_toArray, List.append_toArray, List.nil_append, List.cons_append]
  gi_wp2_with (gi_at_call 209; refine (cB _).mono ?_; rintro e w1 ⟨rfl, rfl⟩)
  obtain ⟨s0, hs0⟩ : ∃ s0, s0 = w.heap.size := ⟨_, rfl⟩
  obtain ⟨W5, hW5⟩ : ∃ W5, (((((w.alloc (.cells #[.pointer (some ⟨β, δ, none⟩)] 155)).alloc (.cells #[.int .i64 z] 3)).alloc (.cells #[.slice none 0 0] 58)).alloc (.cells #[.bool false] 4)).alloc (.cells #[.slice (some ⟨b, off, none⟩) len cap] 57)) = W5 := ⟨_, rfl⟩
  have hsz : W5.heap.size = w.heap.size + 5 := by rw [← hW5]; simp
  have hbel : Below w.heap.size w W5 := by
    rw [← hW5]
    exact (((((Below.refl _ w).alloc (Nat.le_refl _) _).alloc (by simp) _).alloc (by simp; omega) _).alloc (by simp; omega) _).alloc (by simp; omega) _
  have hbox : W5.cell? ⟨w.heap.size + 1 + 1 + 1 + 1, 0, none⟩ = some (.slice (some ⟨b, off, none⟩) len cap) := by
    rw [← hW5]
    have e := heap_alloc_new ((((w.alloc (.cells #[.pointer (some ⟨β, δ, none⟩)] 155)).alloc (.cells #[.int .i64 z] 3)).alloc (.cells #[.slice none 0 0] 58)).alloc (.cells #[.bool false] 4)) (.cells #[.slice (some ⟨b, off, none⟩) len cap] 57)
    simp only [World.size_alloc] at e
    simp only [World.cell?, e]; rfl
  have hr1 : W5.heap[w.heap.size + 1 + 1]? = some (.cells #[.slice none 0 0] 58 (0, 0)) := by
    rw [← hW5, heap_alloc_old _ _ _ (by simp), heap_alloc_old _ _ _ (by simp)]
    have e := heap_alloc_new ((w.alloc (.cells #[.pointer (some ⟨β, δ, none⟩)] 155)).alloc (.cells #[.int .i64 z] 3)) (.cells #[.slice none 0 0] 58)
    simp only [World.size_alloc] at e
    exact e
  have hr2 : W5.heap[w.heap.size + 1 + 1 + 1]? = some (.cells #[.bool false] 4 (0, 0)) := by
    rw [← hW5, heap_alloc_old _ _ _ (by simp)]
    have e := heap_alloc_new (((w.alloc (.cells #[.pointer (some ⟨β, δ, none⟩)] 155)).alloc (.cells #[.int .i64 z] 3)).alloc (.cells #[.slice none 0 0] 58)) (.cells #[.bool false] 4)
    simp only [World.size_alloc] at e
    exact e
  have hcW : ∀ i k v, i < w.heap.size → w.cell? ⟨i, k, none⟩ = some v → W5.cell? ⟨i, k, none⟩ = some v := fun i k v hi h => (hbel.cell (p := ⟨i, k, none⟩) hi).trans h
  have hseq := back_seq es (w.heap.size + 1 + 1 + 1 + 1) b off len cap W5 hlen (by omega) (by omega) hbox
    (fun j hj => ⟨hcW _ _ _ hb (hc j hj).1, hcW _ _ _ hb (hc j hj).2.1, hcW _ _ _ hb (hc j hj).2.2.1, hcW _ _ _ hb (hc j hj).2.2.2⟩)
  rw [hW5]
  clear hW5 hg4 cB hbox hcW hg hc
  refine wpIn_rangeFunc_ownH (α := El) rfl (by omega) (gf := 268) (lb := #[.pointer (some ⟨w.heap.size + 1 + 1 + 1 + 1, 0, none⟩)]) rfl trivial (enters_of Tryz.func268 (by kernel_rfl) rfl) (encs := fun x : El => #[.int .i64 (x.1 : Int), elv x]) hseq
    (fun h1 h2 => h1.trans h2) (fun W l o o' hl _ _ _ => ⟨rfl, rfl, rfl, by simp, fun k hk => World.putObj_heap_other (by omega)⟩) (Below.refl _ _) (fun x => rfl)
    (fun _ W => Below W5.heap.size W5 W) (fun _ _ _ => False) ?hI (fun _ => fun _ _ _ _ h _ _ => h) (Below.refl _ _)
    (fun x a' W => ∃ blk, W5.heap.size ≤ blk ∧ a' = ⟨#[.pointer (some ⟨β, δ, none⟩), .int .i64 z, .pointer (some ⟨w.heap.size, 0, none⟩), .pointer (some ⟨w.heap.size + 1, 0, none⟩), .pointer (some ⟨w.heap.size + 1 + 1, 0, none⟩), .pointer (some ⟨w.heap.size + 1 + 1 + 1, 0, none⟩),
      .int .i64 (x.1 : Int), .pointer (some ⟨blk, 0, none⟩), .pointer (some ⟨β, δ, none⟩), .bool false, .pointer (some ⟨β, δ, none⟩), .pointer (some ⟨β, δ, none⟩), .pointer (some ⟨β, δ + 2, none⟩), .slice (some ⟨b, off, none⟩) len cap,
      .func (.func 268) #[] #[.pointer (some ⟨w.heap.size + 1 + 1 + 1 + 1, 0, none⟩)], .int .i64 (x.1 : Int), elv x, undef, undef, undef, undef, undef, undef, undef, undef, undef, undef, undef, undef, undef, undef, undef, undef, undef], []⟩ ∧
      W.heap[blk]? = some (.cells #[x.2.e0, x.2.e1, x.2.e2, x.2.e3] 79 (0, 0)))
    ?hAx ?hassign ?hbody ?hdone (fun _ _ _ _ _ _ h _ => h.elim)
  case hI => exact fun s W W' row hs hg hr => hs.grown hg hs.size (fun k e => (hr k e).1)
  case hAx =>
    rintro x a' s W W' row ⟨blk, h1, h2, h3⟩ hg hr
    refine ⟨blk, h1, h2, (hg.block blk (Array.getElem?_eq_some_iff.1 h3).1 (fun e => ?_)).trans h3⟩
    obtain ⟨_, o, ho, hcells⟩ := hr blk e.symm
    rw [h3] at ho; cases ho; cases hcells
  case hassign =>
    rintro l pre ⟨j, v0, v1, v2, v3, o0, ⟨kx, rfl, hkx⟩, o2, o3⟩ W K hIW hK
    simp only [elv] at hK ⊢
    have r0 : ∀ (W : World) (a : Addr) (m : Mode), (store a v0 m).run Tryz.prog W = stored Tryz.prog W a v0 m := fun W a m => run_store _ _ _ _ _ o0
    have r2 : ∀ (W : World) (a : Addr) (m : Mode), (store a v2 m).run Tryz.prog W = stored Tryz.prog W a v2 m := fun W a m => run_store _ _ _ _ _ o2
    have r3 : ∀ (W : World) (a : Addr) (m : Mode), (store a v3 m).run Tryz.prog W = stored Tryz.prog W a v3 m := fun W a m => run_store _ _ _ _ _ o3
    gi_wp2
    exact hK _ _ ((KeepsOthers.alloc W _).from _) ((Below.refl _ W).alloc hIW.size _) (hIW.alloc hIW.size _) ⟨W.heap.size, hIW.size, rfl, heap_alloc_new W _⟩
  case hbody =>
    rintro l pre ⟨j, v0, v1, v2, v3, o0, ⟨kx, rfl, hkx⟩, o2, o3⟩ a' W hl hrec hIW ⟨blk, hblk, rfl, hb5⟩ hlt
    simp only [elv]
    have hcell : W.cell? ⟨blk, 1, none⟩ = some (.int .u8 kx) := by simp only [World.cell?, hb5]; rfl
    have mixed : Tryz.prog.follows .mixedOrders = true := by kernel_rfl
    have hk3 : ¬ (kx = 3) := hkx
    gi_wp2
    gi_region
    all_goals gi_wp2
    all_goals exact ⟨⟨Nat.le_refl _, fun _ _ _ h _ => h⟩, ⟨rfl, rfl, rfl, Nat.le_refl _, fun _ _ => rfl⟩, hIW.trans ⟨rfl, rfl, rfl, Nat.le_refl _, fun _ _ => rfl⟩⟩
  case hdone =>
    intro D xs W hD hS hIW hdef
    have q1 := (hIW.block (w.heap.size + 1 + 1) (by omega)).trans hr1
    have q2 := (hIW.block (w.heap.size + 1 + 1 + 1) (by omega)).trans hr2
    obtain ⟨c1, f1⟩ := cell_of_box_a q1
    obtain ⟨c2, f2⟩ := cell_of_box_a q2
    have hl1 : w.heap.size + 1 + 1 < W.heap.size := by have := hIW.size; omega
    gi_wp2
    obtain ⟨W3, hW3⟩ : ∃ W3, ((W.setCell ⟨w.heap.size + 1 + 1, 0, none⟩ (.slice none 0 0)).setCell ⟨w.heap.size + 1 + 1 + 1, 0, none⟩ (.bool false)) = W3 := ⟨_, rfl⟩
    rw [hW3]
    have hg3 : Below w.heap.size w W3 := by
      rw [← hW3]
      have b0 : Below w.heap.size w W := hbel.trans (hIW.mono (by omega))
      exact (b0.grown (grownBy_setCell0_a _ _ _) b0.size (fun k e => by cases e; omega)).grown (grownBy_setCell0_a _ _ _) (by have := b0.size; simp; exact this) (fun k e => by cases e; omega)
    have hD3 : W3.heap[D]? = some (.deferred (some [])) := by
      rw [← hW3]
      refine ((grownBy_setCell0_a _ _ _).block D ?_ (fun e => by cases e; omega)).trans (((grownBy_setCell0_a _ _ _).block D ?_ (fun e => by cases e; omega)).trans hdef)
      · have := (Array.getElem?_eq_some_iff.1 hdef).1; simpa using this
      · exact (Array.getElem?_eq_some_iff.1 hdef).1
    have e1 : W3.cell? ⟨w.heap.size + 1 + 1, 0, none⟩ = some (.slice none 0 0) := by
      rw [← hW3, World.cell?_setCell_other _ _ _ _ (by simp)]
      exact World.cell?_setCell_same _ _ _ c1
    have e2 : W3.cell? ⟨w.heap.size + 1 + 1 + 1, 0, none⟩ = some (.bool false) := by
      rw [← hW3]
      exact World.cell?_setCell_same (u := .bool false) _ _ (.bool false) (by rw [World.cell?_setCell_other _ _ _ _ (by simp)]; exact c2)
    clear hW3
    have e1' : (W3.putObj D (.deferred none)).cell? ⟨w.heap.size + 1 + 1, 0, none⟩ = some (.slice none 0 0) := by
      rw [← e1]; simp only [World.cell?]; rw [World.putObj_heap_other (by omega)]
    have e2' : (W3.putObj D (.deferred none)).cell? ⟨w.heap.size + 1 + 1 + 1, 0, none⟩ = some (.bool false) := by
      rw [← e2]; simp only [World.cell?]; rw [World.putObj_heap_other (by omega)]
    have hg4 : Below w.heap.size w (W3.putObj D (.deferred none)) := hg3.grown (grownBy_putObj_a _ _ _) hg3.size (fun k e => by cases e; omega)
    refine ⟨by simp, .inl ⟨_, _, rfl, run_takeDeferred hD3, ?_⟩⟩
    refine ⟨.tuple #[.slice none 0 0, .bool false], ?_, rfl, hg4⟩
    generalize W3.putObj D (.deferred none) = W4 at e1' e2' ⊢
    simp [results, loadVar, Tryz.isAgg58, Tryz.isAgg4, asAddr, e1', e2']

theorem noMem_spec {k : Blk} {o : Nat} : ∀ {n : Nat}, noMem k o n = true → ∀ j, j < n → ∃ x, k.rd1 (o + 4 * j + 1) = some (.int .u8 x) ∧ x ≠ 3
  | 0, _, j, hj => by omega
  | n + 1, h, j, hj => by
    simp only [noMem, Bool.and_eq_true] at h
    by_cases e : j = n
    · subst e
      have h1 := h.1
      split at h1
      · rename_i x hx
        refine ⟨x, hx, fun e => ?_⟩
        subst e
        simp at h1
      · cases h1
    · exact noMem_spec h.2 j (by omega)

theorem membersO_ok {args : List AV} {H : AH} {v : AV} {H' : AH} (h : membersO args H = some (v, H')) {μ : Inj} {w : World} {cargs : List Value} (hr : HRel μ H w) (hl : LRel μ args cargs) :
    FnOk Tryz.prog μ H w 120 cargs.toArray v H' := by
  unfold membersO at h
  split at h
  · rename_i g i
    split at h
    · rename_i c hg
      split at h
      · rename_i b o n cp z e hc
        split at h
        · rename_i k hb
          split at h
          · rename_i hck
            simp only [Bool.and_eq_true, Nat.blt_eq] at hck
            obtain ⟨⟨⟨hz, hn⟩, hsz⟩, hnm⟩ := hck
            obtain rfl := Nat.eq_of_beq_eq_true hz
            have hsz := Nat.le_of_ble_eq_true hsz
            cases h
            cases hl with
            | cons hv1 t1 =>
            cases t1 with
            | cons hv2 t2 =>
            cases t2
            cases hv1 with
            | ptr hμ =>
            rename_i β δ r
            cases hv2 with
            | int _ _ hi64 =>
            obtain ⟨β', δ', r', hμ', ho⟩ := hr.obj g _ hg
            rw [hμ] at hμ'; injection hμ' with e1; injection e1 with e1 e2; injection e2 with e2 e3; subst e1 e2 e3
            rw [Blk.rd1_eq] at hc
            obtain ⟨_, _, _, _, hcells⟩ := ho
            obtain ⟨_, cs, hcs, hvs⟩ := hcells _ _ hc
            cases hvs with
            | slc hμb hnc hcc he hrr =>
            rename_i βb δb rb cc
            obtain ⟨β', δ', r', hμ', hob⟩ := hr.obj b _ hb
            rw [hμb] at hμ'; injection hμ' with e1; injection e1 with e1 e2; injection e2 with e2 e3; subst e1 e2 e3
            have hlt := hob.lt
            obtain ⟨hok, _, _, _, hcb⟩ := hob
            have hone : ∀ j t, j < n → t < 4 → ∃ c, w.cell? ⟨βb, δb + o + j * 4 + t, none⟩ = some c ∧ c.oneCell' = true := fun j t hj ht => by
              obtain ⟨v, hv⟩ := Blk.cell_some hok (i := o + 4 * j + t) (by omega)
              obtain ⟨h1, c, h2, h3⟩ := hcb _ _ hv
              exact ⟨c, by rw [show δb + o + j * 4 + t = δb + (o + 4 * j + t) by omega]; exact h2, h3.one h1⟩
            have hes : ∀ j, ∃ e : E4, j < n → w.cell? ⟨βb, δb + o + j * 4, none⟩ = some e.e0 ∧ w.cell? ⟨βb, δb + o + j * 4 + 1, none⟩ = some e.e1 ∧ w.cell? ⟨βb, δb + o + j * 4 + 2, none⟩ = some e.e2 ∧ w.cell? ⟨βb, δb + o + j * 4 + 3, none⟩ = some e.e3 := fun j => by
              by_cases hj : j < n
              · obtain ⟨c0, a0, b0⟩ := hone j 0 hj (by omega)
                obtain ⟨c2, a2, b2⟩ := hone j 2 hj (by omega)
                obtain ⟨c3, a3, b3⟩ := hone j 3 hj (by omega)
                obtain ⟨x, hx, hx3⟩ := noMem_spec hnm j hj
                rw [Blk.rd1_eq] at hx
                obtain ⟨_, c1, a1, v1⟩ := hcb _ _ hx
                have hc1 : c1 = .int .u8 (x : Int) := by
                  cases v1 with
                  | int _ _ _ => rw [toInt_u8]
                exact ⟨⟨c0, c1, c2, c3, b0, ⟨x, hc1, by omega⟩, b2, b3⟩, fun _ => ⟨a0, by rw [show δb + o + j * 4 + 1 = δb + (o + 4 * j + 1) by omega]; exact a1, a2, a3⟩⟩
              · exact ⟨⟨.bool false, .int .u8 0, .bool false, .bool false, rfl, ⟨0, rfl, by omega⟩, rfl, rfl⟩, fun h => absurd h hj⟩
            obtain ⟨es, hes⟩ := Classical.skolem.1 hes
            have walk := callsIn_wide.1 (members_walk β (δ + 0) βb (δb + o) n cc (toInt .i64 i) es w hn hlt (by rw [Nat.add_zero]; exact hcs) hes)
            refine .inl ⟨_, _, Tryz.func120, by kernel_rfl, rfl, Calls.mono walk ?_⟩
            rintro e w' ⟨rfl, hbel⟩
            exact ⟨μ, Ext.below hr hbel, .tup (.cons .nils (.cons (.bool false) .nil))⟩
          · cases h
        · cases h
      · cases h
    · cases h
  · cases h
end Go.Abs
