/- The walk of maps.Copy at a map of rows of cells (an array of bytes): the value is boxed at each round. -/
import Derived.Test.YtmfondkhhnnjjaaGreatDoorO4
import Derived.Test.YtmfondkhhnnjjaaGreatDoorO5
import Derived.Test.YtmfondkhhnnjjaaGreatDoorProg

namespace Go.Abs
open Go Go.RowKit Go.Maps Go.Sort Go.Shelf Go.Proofs
open Go.WideElems (Fit rd rg rd_mk rg_of rd_key rd_val)
open Go.ChangeMaps Go.MapKept

theorem tape_setCells (b : Nat) : ∀ (vs : List Value) (o : Nat) (w : World), (w.setCells b o vs).tape = w.tape
  | [], _, _ => rfl
  | v :: r, o, w => by rw [World.setCells]; exact (tape_setCells b r _ _).trans rfl

/-- A new block, and cells laid into it. -/
theorem grownBy_boxed (w : World) (Z : Array Value) (t : TypeId) (cs : List Value) : w.grownBy ((w.alloc (.cells Z t)).setCells w.heap.size 0 cs) none where
  os := (os_setCells _ _ _ _).1
  tape := tape_setCells _ _ _ _
  output := (os_setCells _ _ _ _).2
  size := by rw [size_setCells']; simp
  block := fun j hj _ => by rw [heap_setCells_other _ _ _ _ _ (by omega)]; exact heap_alloc_old _ _ _ hj

set_option maxHeartbeats 4000000 in
set_option maxRecDepth 100000 in
theorem copyRows_walk {P : Program} (mixed : P.follows .mixedOrders = true) (hF : P.funcs[182]? = some Tryz.f182)
    (t0 : P.underlying 0 = some (TypeDesc.tuple #[])) (a0 : ∀ w, (isAgg 0).run P w = .ok false w) (z0 : ∀ w, (Go.sizeOf 0).run P w = .ok 1 w) (v0 : ∀ w, (zeroValue 0).run P w = .ok (Value.tuple #[]) w)
    (t4 : P.underlying 4 = some TypeDesc.bool) (a4 : ∀ w, (isAgg 4).run P w = .ok false w) (z4 : ∀ w, (Go.sizeOf 4).run P w = .ok 1 w) (v4 : ∀ w, (zeroValue 4).run P w = .ok (Value.bool false) w)
    (t179 : P.underlying 179 = some (TypeDesc.map 3 183)) (a179 : ∀ w, (isAgg 179).run P w = .ok false w) (z179 : ∀ w, (Go.sizeOf 179).run P w = .ok 1 w) (v179 : ∀ w, (zeroValue 179).run P w = .ok (Value.map none) w)
    (t3 : P.underlying 3 = some (TypeDesc.int .i64)) (a3 : ∀ w, (isAgg 3).run P w = .ok false w) (z3 : ∀ w, (Go.sizeOf 3).run P w = .ok 1 w)
    (k : Nat) (Z : Array Value) (hZ : Z.size = k) (a183 : ∀ w, (isAgg 183).run P w = .ok true w) (z183 : ∀ w, (Go.sizeOf 183).run P w = .ok k w) (v183 : ∀ w, (zeroValue 183).run P w = .ok (Value.agg Z) w)
    (bd bs nd ns : Nat) (Dd Ds : DataW Value) (w : World) (hd : w.ownsMap P 3 (rowR k) bd nd Dd) (hs : w.ownsMap P 3 (rowR k) bs ns Ds) (hne : bd ≠ bs) (hroom : nd + Maps.size Ds ≤ maxLen) :
    Calls P 182 #[.map (some bd), .map (some bs)] w fun e w' => e = .returned (.tuple #[]) ∧ w'.ownsMap P 3 (rowR k) bd (nd + Maps.size Ds) (Lib.mergeD Dd Ds) ∧ w.grownBy w' (some bd) := by
  have hbd := hd.lt
  have hbs := hs.lt
  have K : Keyed P 3 := int_keyed t3
  go_enter hF, Tryz.ntmps182
  go_wp2_with (first
    | (at_range; refine wpList_range_own _ rfl _ 179 rfl 3 183 K t179 (rowR k) bs ns _ rfl hs ?_; intro w0 hrg0 hg0 hs0)
    | go_in)
  go_frame
  go_loopw [8] (fun _ wr => ∃ (left : Lit → Bool) (cnt : Nat) (Dout : DataW Value), wr.ranges P 3 (rowR k) bs w.heap.size ns Ds left cnt ∧ cnt ≤ Maps.size Ds ∧
      wr.ownsMap P 3 (rowR k) bd (nd + (Maps.size Ds - cnt)) Dout ∧ Merged Dout Dd Ds left ∧ w.grownBy wr (some bd))
    (fun _ wr => wr.rangeLeft bs w.heap.size)
  case atStart =>
    exact ⟨_, _, Dd, hrg0, Nat.le_refl _, (hd.kept hg0 (by simp)).mono (by omega), merged_start Dd Ds, hg0.but _⟩
  case round =>
    obtain ⟨left, cnt, Dout, hrg, hcs, hout, hM, hgw⟩ := hrel
    go_wp2_with (first
      | (at_next; refine wpList_next_ranges _ rfl _ rfl 3 K (rowR k) id id (fun key _ _ => ⟨key, rfl⟩) (fun v _ _ => ⟨v, rfl⟩) bs w.heap.size ns _ _ _ rfl hrg ?_ ?_)
      | go_in)
    · intro hc0 hl0
      go_wp2
      go_end0
      subst hc0
      have e := merged_eq K.one hM hl0 (hout.canon K) (hd.canonK K) (hs.canonK K)
      subst e
      exact ⟨rfl, by simpa using hout, hgw⟩
    · intro x c kl yd yp w1 cnt1 hkey hlx hv hat hrg1 hlt hg1 hs1 hen
      have hout1 := hout.kept hg1 (fun e => by have := Option.some.inj e; omega)
      obtain ⟨cs, hc, hcl, hco, hy⟩ := rowR_inv hv
      subst hc
      cases hy
      clear a0 z0 v0 a4 z4 v4 a179 z179 v179 hs hd hs1
      have hcells : ∀ j, j < cs.length → ((w1.alloc (.cells Z 183)).cell? ⟨w1.heap.size, 0 + j, none⟩).isSome = true := fun j hj => by
        simp only [World.cell?, heap_alloc_new]
        simp [hZ, ← hcl, hj]
      obtain ⟨W2, hW2⟩ : ∃ W2, (w1.alloc (.cells Z 183)).setCells w1.heap.size 0 cs = W2 := ⟨_, rfl⟩
      have hst : Sem.run P (storeCells ⟨w1.heap.size, 0, none⟩ cs) (w1.alloc (.cells Z 183)) = .ok () W2 := by
        have := run_storeCells_cells (P := P) w1.heap.size 0 cs 0 (w1.alloc (.cells Z 183)) (by simpa using hcells) (fun j hj => by simp only [World.frozen?, heap_alloc_new]; simp) hco
        rw [← hW2]; simpa using this
      have hrow : RowAt W2 w1.heap.size 0 cs := by rw [← hW2]; exact RowAt.set_in hcells
      have hld := run_loadCells_list (P := P) W2 ⟨w1.heap.size, 0, none⟩ cs (fun j v hj => by rw [Addr.add_lit]; exact hrow j v hj)
      rw [hcl] at hld
      have hld2 : Sem.run P (loadCellsFrom ⟨w1.heap.size, 0, none⟩ 0 k #[]) W2 = .ok cs.toArray W2 := hld
      have hgB : w1.grownBy W2 none := by rw [← hW2]; exact grownBy_boxed w1 Z 183 cs
      have houtB := hout1.kept hgB (by simp)
      have hrgB := hrg1.kept hgB (by simp) (by simp)
      have HM : Hid (Merged Dout Dd Ds left) := hM
      have hvR : rowR k (.agg cs.toArray) = some (.held (.agg cs.toArray), []) := hv
      clear hcells hW2 hrow hld hM hco hZ
      go_wp2_with (first
        | (at_mapUpdate; refine wpList_mapUpdate_own _ rfl _ _ _ 179 rfl 3 183 K t179 (rowR k) bd _ _ rfl houtB (by omega) _ _ _ rfl rfl hkey _ _ hvR ?_; intro w2 hout2 hg2; go_frame)
        | go_in)
      have hrg2 := hrgB.kept hg2 (fun e => hne (Option.some.inj e).symm) (fun e => by have := Option.some.inj e; omega)
      go_roundw
      case rel =>
        exact ⟨_, cnt1, _, hrg2, by omega, hout2.mono (by omega), merged_step HM.out hout.isMap (K.key hkey) hat, ((hgw.andThen hg1 (fun j hj => .inl (by cases hj; exact Nat.le_refl _))).andThen hgB (fun j hj => by cases hj)).andThen hg2 (fun j hj => .inr hj)⟩
      case measure => rw [hrg2.left_eq, hrg.left_eq]; exact hlt
end Go.Abs
