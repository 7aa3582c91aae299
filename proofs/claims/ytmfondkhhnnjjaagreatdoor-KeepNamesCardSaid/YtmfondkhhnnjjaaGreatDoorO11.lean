/- slices.Insert of one element: the oracle is right. -/
import Derived.Test.YtmfondkhhnnjjaaGreatDoorO10

namespace Go.Abs
open Go Go.RowKit Go.Shelf Go.Proofs Go.Lib Go.Maps Go.Sort

section
variable {μ : Inj} {w : World}
/-- The cells of a row, in the model. -/
theorem row_of {β : Nat} : ∀ {l : List AV} {off : Nat}, (∀ j v, l[j]? = some v → v.one = true ∧ ∃ c, w.cell? ⟨β, off + j, none⟩ = some c ∧ VRel μ v c) → ∃ cs, LRel μ l cs ∧ RowAt w β off cs ∧ ∀ c ∈ cs, c.oneCell' = true
  | [], off, _ => ⟨[], .nil, fun j v hj => by simp at hj, by simp⟩
  | v :: l, off, h => by
    obtain ⟨h1, c, h2, h3⟩ := h 0 v rfl
    obtain ⟨cs, g1, g2, g3⟩ := row_of (l := l) (off := off + 1) fun j u hj => by
      have := h (j + 1) u (by simpa using hj)
      rwa [show off + (j + 1) = off + 1 + j by omega] at this
    refine ⟨c :: cs, .cons h3 g1, fun j u hj => ?_, fun d hd => ?_⟩
    · cases j with
      | zero => simp at hj; subst hj; exact h2
      | succ j =>
        have := g2 j u (by simpa using hj)
        rwa [show off + (j + 1) = off + 1 + j by omega]
    · rcases List.mem_cons.1 hd with rfl | hd
      · exact h3.one h1
      · exact g3 d hd

/-- A row that was read out of a block. -/
theorem row_rd {H : AH} (h : HRel μ H w) {b β δ r o n : Nat} {k : Blk} {l : List AV} (hb : H.get b = some (.blk k)) (hμ : μ b = some (β, δ, r)) (hl : k.rd o n = some l) :
    ∃ cs, LRel μ (expand l) cs ∧ RowAt w β (δ + o) cs ∧ (∀ c ∈ cs, c.oneCell' = true) ∧ cs.length = n ∧ (∀ v ∈ expand l, v.one = true) ∧ (0 < n → o < r) := by
  obtain ⟨β', δ', r', hμ', hok, hsz, hsh, hf, hcells⟩ := h.obj b _ hb
  rw [hμ] at hμ'; injection hμ' with e1; injection e1 with e1 e2; injection e2 with e2 e3; subst e1 e2 e3
  obtain ⟨hlen, hget⟩ := Blk.rd_has hok hl
  have hh : ∀ j v, (expand l)[j]? = some v → v.one = true ∧ ∃ c, w.cell? ⟨β, δ + o + j, none⟩ = some c ∧ VRel μ v c := fun j v hj => by
    have hlt := (List.getElem?_eq_some_iff.1 hj).1
    have := hget j (by omega)
    obtain ⟨h1, c, h2, h3⟩ := hcells (o + j) v (this.trans hj)
    exact ⟨h1, c, by rw [Nat.add_assoc]; exact h2, h3⟩
  obtain ⟨cs, g1, g2, g3⟩ := row_of hh
  refine ⟨cs, g1, g2, g3, by rw [← g1.length, hlen], fun v hv => ?_, fun hn => ?_⟩
  · obtain ⟨j, hj⟩ := List.mem_iff_getElem?.1 hv
    exact (hh j v hj).1
  · have := hget 0 hn
    rw [List.getElem?_eq_getElem (by omega)] at this
    have := Blk.cell_lt hok this
    omega

/-- An object that is a row. -/
theorem orel_row {L : List AV} {C : List Value} {N b β d q : Nat} {w' : World} (hL : LRel μ (expand L) C) (h1 : ∀ v ∈ expand L, v.one = true) (hN : C.length = N) (hrow : RowAt w' β d C) (hsh : ∃ t, w'.shape? β = some (t, d + q))
    (hf : ∀ i, i < q → w'.frozen? ⟨β, d + i, none⟩ = false) (hq : N ≤ q) : ORel μ b (.blk (.lst N L)) β d q w' := by
  refine ⟨?_, hq, hsh, hf, fun i v hv => ?_⟩
  · show clen L = N
    rw [clen_eq, hL.length, hN]
  · simp only [Blk.cell] at hv
    obtain ⟨c, hc, hvr⟩ := hL.get i v hv
    exact ⟨h1 v (List.mem_of_getElem? hv), c, hrow i c hc, hvr⟩
end

theorem cells_some {w : World} {β t N : Nat} (h : w.shape? β = some (t, N)) {i : Nat} (hi : i < N) : (w.cell? ⟨β, i, none⟩).isSome = true := World.cell_of_shape h hi

theorem toInt_small {i : Nat} (h : i < 65536) : toInt .i64 i = (i : Int) := by
  unfold toInt
  have : Nat.ble (2 ^ (IntKind.i64.bits - 1)) i = false := by
    cases hb : Nat.ble (2 ^ (IntKind.i64.bits - 1)) i with
    | false => rfl
    | true => have := Nat.le_of_ble_eq_true hb; simp only [IntKind.bits] at this; omega
  rw [this, Bool.and_false]; rfl

theorem bytes272 : Tryz.t272.bytes = 48 := rfl

/-- The row with one more element, in a new block. -/
theorem insert_grow (β off n i β2 off2 vc : Nat) (olds news : List Value) (w : World) (hi : i < n) (hn : n < 65536) (ho : RowAt w β off olds) (hol : olds.length = n * 4) (ho1 : ∀ c ∈ olds, c.oneCell' = true)
    (hv : RowAt w β2 off2 news) (hnl : news.length = 4) (hv1 : ∀ c ∈ news, c.oneCell' = true) (hβ : β < w.heap.size) (hβ2 : β2 < w.heap.size) :
    Calls Tryz.prog 172 #[.slice (some ⟨β, off, none⟩) n n, .int .i64 i, .slice (some ⟨β2, off2, none⟩) 1 vc] w fun e w' => ∃ cap, n + 1 ≤ cap ∧ e = .returned (.slice (some ⟨w.heap.size, 0, none⟩) (n + 1) cap) ∧ Below w.heap.size w w' ∧
      (∃ t, w'.shape? w.heap.size = some (t, cap * 4)) ∧ (∀ j, w'.frozen? ⟨w.heap.size, j, none⟩ = false) ∧ RowAt w' w.heap.size 0 (olds.take (i * 4) ++ (news ++ olds.drop (i * 4))) := by
  obtain ⟨m, hm⟩ : ∃ m, m = n + 1 - i := ⟨_, rfl⟩
  have hz : Tryz.t272.zero = some (Tryz.t272.zero.getD (.bool false)) := by kernel_rfl
  have hzs : (Tryz.t272.zero.getD (.bool false)).cells.size = Tryz.t272.size := by kernel_rfl
  generalize Tryz.t272.zero.getD (.bool false) = z at hz hzs
  have hs4 : Tryz.t272.size = 4 := by kernel_rfl
  have hcap := grownCap_ge w (i + m) n 272
  have ap := fun ty => (Apd.of_int (P := Tryz.prog) (w := w) (t := 266) (tx := 3) (ty := ty) Tryz.underlying266 info272 hz hzs (kn := .i64) (k := .i64) Tryz.underlying3 (m := m) (by omega) (by rw [bytes272]; omega)).grow (some ⟨β, off, none⟩) i n (olds.take (i * 4))
    (by
      have := run_loadCells_list (P := Tryz.prog) w.drew ⟨β, off, none⟩ (olds.take (i * 4)) (fun j v hj => by rw [Addr.add_lit]; exact (ho.take (i * 4)) j v hj)
      rw [List.length_take, hol, Nat.min_eq_left (by omega)] at this
      rw [hs4]; exact this) (by omega) (by omega) (by
        have h1 := nextslicecap_le (show n < i + m by omega)
        have h2 := Nat.mul_le_mul_right 48 h1
        rw [bytes272]; omega)
  generalize grownCap w (i + m) n 272 = cap at hcap ap
  have him : i + m = n + 1 := by omega
  rw [him] at hcap
  generalize hA : ((olds.take (i * 4) ++ (Builtin.zeroCells z.cells m).toList).toArray ++ Builtin.zeroCells z.cells (cap - (i + m))) = A at ap
  have hAs : A.size = cap * 4 := by
    rw [← hA]
    simp only [Array.size_append, List.size_toArray, List.length_append, List.length_take, hol, Array.length_toList, Builtin.zeroCells, Array.size_map, Array.size_range, hzs, hs4]
    rw [Nat.min_eq_left (by omega), him]
    omega
  have hAt : RowAt (w.drew.alloc (.cells A 272)) w.heap.size 0 (olds.take (i * 4)) := fun j v hj => by
    have hlt := (List.getElem?_eq_some_iff.1 hj).1
    have e := heap_alloc_new w.drew (.cells A 272)
    have e2 : (w.drew.alloc (.cells A 272)).heap[w.heap.size]? = some (.cells A 272 (0, 0)) := e
    simp only [World.cell?, e2, Nat.zero_add]
    rw [← hA, Array.getElem?_append_left (by rw [List.size_toArray, List.length_append]; omega)]
    simp only [List.getElem?_toArray]
    rw [List.getElem?_append_left hlt]; simpa using hj
  -- the worlds
  have hsh1 : (w.drew.alloc (.cells A 272)).shape? w.heap.size = some (272, cap * 4) := by
    have e2 : (w.drew.alloc (.cells A 272)).heap[w.heap.size]? = some (.cells A 272 (0, 0)) := heap_alloc_new w.drew (.cells A 272)
    simp only [World.shape?, e2, hAs]
  have hfz1 : ∀ j, (w.drew.alloc (.cells A 272)).frozen? ⟨w.heap.size, j, none⟩ = false := fun j => by
    have e2 : (w.drew.alloc (.cells A 272)).heap[w.heap.size]? = some (.cells A 272 (0, 0)) := heap_alloc_new w.drew (.cells A 272)
    simp only [World.frozen?, e2]; simp
  have hold1 : ∀ β', β' < w.heap.size → (w.drew.alloc (.cells A 272)).heap[β']? = w.heap[β']? := fun β' h => heap_alloc_old w.drew _ _ h
  obtain ⟨W1, hW1⟩ : ∃ W1, W1 = w.drew.alloc (.cells A 272) := ⟨_, rfl⟩
  have hW1s : W1.heap.size = w.heap.size + 1 := by rw [hW1]; simp
  have hW1o : W1.os = w.os ∧ W1.tape = w.tape ∧ W1.output = w.output := by rw [hW1]; exact ⟨rfl, rfl, rfl⟩
  rw [← hW1] at hAt hsh1 hfz1 hold1 ap
  obtain ⟨W2, hW2⟩ : ∃ W2, W2 = W1.setCells w.heap.size (i * 4) news := ⟨_, rfl⟩
  obtain ⟨W3, hW3⟩ : ∃ W3, W3 = W2.drew.setCells w.heap.size ((i + 1) * 4) (olds.drop (i * 4)) := ⟨_, rfl⟩
  have k12 : Kept W1 W2 w.heap.size (i * 4) (i * 4 + news.length) := by rw [hW2]; exact Kept.cells _ _ _ _
  have k22 : Kept W2 W2.drew w.heap.size 0 0 := Kept.same (w := W2) (w' := W2.drew) rfl rfl rfl _ _ _
  have k23 : Kept W2.drew W3 w.heap.size ((i + 1) * 4) ((i + 1) * 4 + (olds.drop (i * 4)).length) := by rw [hW3]; exact Kept.cells _ _ _ _
  have hdl : (olds.drop (i * 4)).length = (n - i) * 4 := by rw [List.length_drop, hol]; omega
  have hc1 : ∀ ty dc, (Builtin.copy_ #[266, 266] ty #[.slice (some ⟨w.heap.size, i * 4, none⟩) (n + 1 - i) dc, .slice (some ⟨β2, off2, none⟩) 1 vc]).run Tryz.prog W1 = .ok (goInt 1) W2 := fun ty dc => by
    have := run_copy_cells_n (P := Tryz.prog) W1 266 266 ty 272 4 w.heap.size (i * 4) (n + 1 - i) dc ⟨β2, off2, none⟩ 1 vc news Tryz.underlying266 size272 (by rw [hnl]; simp only [Nat.min_def]; split <;> omega)
      (fun j v hj => by rw [Addr.add_lit]; exact (hv.heap (hold1 β2 hβ2)) j v hj) (fun j hj => cells_some hsh1 (by omega)) (fun j hj => hfz1 _) hv1
    rw [hW2]
    have e : Nat.min 1 (n + 1 - i) = 1 := by simp only [Nat.min_def]; split <;> omega
    rw [e] at this; exact this
  have hsh2 : W2.shape? w.heap.size = some (272, cap * 4) := k12.shape.trans hsh1
  have hold2 : ∀ β', β' < w.heap.size → W2.heap[β']? = w.heap[β']? := fun β' h => (k12.other β' (by omega)).trans (hold1 β' h)
  have hc2 : ∀ ty dc sc, (Builtin.copy_ #[266, 266] ty #[.slice (some ⟨w.heap.size, (i + 1) * 4, none⟩) (n - i) dc, .slice (some ((⟨β, off, none⟩ : Addr).add (i * 4))) (n - i) sc]).run Tryz.prog W2.drew = .ok (goInt (n - i : Nat)) W3 := fun ty dc sc => by
    have := run_copy_cells_n (P := Tryz.prog) W2.drew 266 266 ty 272 4 w.heap.size ((i + 1) * 4) (n - i) dc ((⟨β, off, none⟩ : Addr).add (i * 4)) (n - i) sc (olds.drop (i * 4)) Tryz.underlying266 size272 (by rw [hdl]; simp [Nat.min_def])
      (fun j v hj => by rw [Addr.add_lit, Addr.add_lit]; exact ((ho.drop (i * 4)).heap (hold2 β hβ)) j v hj) (fun j hj => cells_some (w := W2.drew) hsh2 (by omega)) (fun j hj => (k12.frozen _).trans (hfz1 _)) (fun v hv => ho1 v (List.mem_of_mem_drop hv))
    rw [hW3]
    have e : Nat.min (n - i) (n - i) = n - i := by simp [Nat.min_def]
    rw [e] at this; exact this
  have hmi : ((m : Nat) : Int) = (n : Int) + 1 - (i : Int) := by omega
  have walk := insert_grow_walk ⟨β, off, none⟩ n i ⟨β2, off2, none⟩ vc w hi hn W1 W2 W3 w.heap.size cap
    (fun ty => by have := ap ty; rw [him, hmi] at this; exact this) hcap hc1 hc2
  refine walk.mono ?_
  rintro e w' ⟨rfl, hw⟩
  rw [hw]
  have hs3 : W3.shape? w.heap.size = some (272, cap * 4) := (k23.shape.trans k22.shape).trans hsh2
  refine ⟨cap, hcap, rfl, ⟨?_, ?_, ?_, ?_, fun β' h => ?_⟩, ⟨_, hs3⟩, fun j => ((k23.frozen _).trans (k22.frozen _)).trans ((k12.frozen _).trans (hfz1 j)), ?_⟩
  · rw [k23.os, k22.os, k12.os, hW1o.1]
  · rw [hW3, tape_setCells]; show W2.tape = _; rw [hW2, tape_setCells, hW1o.2.1]
  · rw [k23.output, k22.output, k12.output, hW1o.2.2]
  · rw [k23.size, k22.size, k12.size, hW1s]; omega
  · rw [k23.other β' (by omega), k22.other β' (by omega)]; exact hold2 β' h
  · have htl : (olds.take (i * 4)).length = i * 4 := by rw [List.length_take, hol, Nat.min_eq_left (by omega)]
    refine RowAt.append ?_ (RowAt.append ?_ ?_)
    · exact ((hAt.kept k12 (.inr (.inl (by omega)))).kept k22 (.inr (.inr (Nat.zero_le _)))).kept k23 (.inr (.inl (by omega)))
    · rw [htl, Nat.zero_add]
      have : RowAt W2 w.heap.size (i * 4) news := by rw [hW2]; exact RowAt.set_in fun j hj => cells_some hsh1 (by omega)
      exact (this.kept k22 (.inr (.inr (Nat.zero_le _)))).kept k23 (.inr (.inl (by omega)))
    · rw [htl, hnl, Nat.zero_add, show i * 4 + 4 = (i + 1) * 4 by omega, hW3]
      exact RowAt.set_in fun j hj => cells_some (w := W2.drew) hsh2 (by omega)
end Go.Abs
