/- The tail turned by one: slices.rotateRight of elements of four cells. -/
import Derived.Test.YtmfondkhhnnjjaaGreatDoorO8

namespace Go.Abs
open Go Go.RowKit Go.Shelf Go.Proofs Go.Lib Go.Maps Go.Sort

/-- What is left as it was, where cells of one block are written. -/
structure Kept (w w' : World) (β lo hi : Nat) : Prop where
  size : w'.heap.size = w.heap.size
  other : ∀ β', β' ≠ β → w'.heap[β']? = w.heap[β']?
  shape : w'.shape? β = w.shape? β
  frozen : ∀ a, w'.frozen? a = w.frozen? a
  out : ∀ i, ¬ (lo ≤ i ∧ i < hi) → w'.cell? ⟨β, i, none⟩ = w.cell? ⟨β, i, none⟩
  os : w'.os = w.os
  output : w'.output = w.output

theorem Kept.same {w w' : World} (h : w'.heap = w.heap) (ho : w'.os = w.os) (hp : w'.output = w.output) (β lo hi : Nat) : Kept w w' β lo hi :=
  ⟨by rw [h], fun _ _ => by rw [h], by simp only [World.shape?, h], fun a => by simp only [World.frozen?, h], fun i _ => by simp only [World.cell?, h], ho, hp⟩
theorem Kept.trans {w w1 w2 : World} {β lo hi : Nat} (a : Kept w w1 β lo hi) (b : Kept w1 w2 β lo hi) : Kept w w2 β lo hi :=
  ⟨b.size.trans a.size, fun β' h => (b.other β' h).trans (a.other β' h), b.shape.trans a.shape, fun x => (b.frozen x).trans (a.frozen x), fun i h => (b.out i h).trans (a.out i h), b.os.trans a.os, b.output.trans a.output⟩
theorem Kept.wide {w w1 : World} {β lo hi lo' hi' : Nat} (a : Kept w w1 β lo hi) (h1 : lo' ≤ lo) (h2 : hi ≤ hi') : Kept w w1 β lo' hi' :=
  ⟨a.size, a.other, a.shape, a.frozen, fun i h => a.out i (by omega), a.os, a.output⟩
theorem Kept.cells (w : World) (β off : Nat) (vs : List Value) : Kept w (w.setCells β off vs) β off (off + vs.length) :=
  ⟨size_setCells' _ _ _ _, fun β' h => heap_setCells_other _ _ _ _ _ h, shape_setCells _ _ _ _ _, fun a => World.frozen?_setCells _ _ _ _ _, fun i h => World.cell?_setCells_out _ _ _ _ _ (fun _ _ => by show i < off ∨ off + vs.length ≤ i; omega), (os_setCells _ _ _ _).1, (os_setCells _ _ _ _).2⟩

/-- A row of another part, or of another block. -/
theorem RowAt.kept {w w' : World} {β lo hi b off : Nat} {cs : List Value} (h : RowAt w b off cs) (k : Kept w w' β lo hi) (ho : b ≠ β ∨ off + cs.length ≤ lo ∨ hi ≤ off) : RowAt w' b off cs := fun j v hj => by
  have hlt := (List.getElem?_eq_some_iff.1 hj).1
  by_cases hb : b = β
  · subst hb
    rw [k.out _ (by rcases ho with h | h | h <;> omega)]
    exact h j v hj
  · have := h j v hj
    simp only [World.cell?, k.other b hb] at this ⊢
    exact this

/-! ## Elements of four cells -/

abbrev Quad := {l : List Value // l.length = 4 ∧ ∀ v ∈ l, v.oneCell' = true}
instance : Inhabited Quad := ⟨⟨[.bool false, .bool false, .bool false, .bool false], rfl, by intro v hv; simp at hv; subst hv; rfl⟩⟩
def q4 (x : Quad) : List Value := x.1
theorem q4_len (x : Quad) : (q4 x).length = 4 := x.2.1
theorem q4_one (x : Quad) : ∀ v ∈ q4 x, v.oneCell' = true := x.2.2

/-- Elements, each where it lies. -/
def Els (w : World) (β off : Nat) (l : List Quad) : Prop := ∀ i x, l[i]? = some x → RowAt w β (off + i * 4) (q4 x)

theorem Els.flat {w : World} {β : Nat} : ∀ {l : List Quad} {off : Nat}, Els w β off l → RowAt w β off (l.flatMap q4)
  | [], _, _ => fun j v hj => by simp at hj
  | x :: l, off, h => by
    rw [List.flatMap_cons]
    refine RowAt.append (by simpa using h 0 x rfl) ?_
    rw [q4_len]
    refine Els.flat fun i y hy => ?_
    have := h (i + 1) y (by simpa using hy)
    rwa [show off + (i + 1) * 4 = off + 4 + i * 4 by omega] at this
theorem RowAt.left {w : World} {b off : Nat} {cs ds : List Value} (h : RowAt w b off (cs ++ ds)) : RowAt w b off cs := fun j v hj => h j v (by rw [List.getElem?_append_left (List.getElem?_eq_some_iff.1 hj).1]; exact hj)
theorem RowAt.right {w : World} {b off : Nat} {cs ds : List Value} (h : RowAt w b off (cs ++ ds)) : RowAt w b (off + cs.length) ds := fun j v hj => by
  rw [Nat.add_assoc]; exact h _ v (by rw [List.getElem?_append_right (by omega)]; simpa using hj)
theorem Els.of_flat {w : World} {β : Nat} : ∀ {l : List Quad} {off : Nat}, RowAt w β off (l.flatMap q4) → Els w β off l
  | [], _, _ => fun i x hx => by simp at hx
  | x :: l, off, h => by
    rw [List.flatMap_cons] at h
    intro i y hy
    cases i with
    | zero => simp at hy; subst hy; simpa using h.left
    | succ i =>
      have := Els.of_flat (l := l) (by have := h.right; rwa [q4_len] at this) i y (by simpa using hy)
      rwa [show off + (i + 1) * 4 = off + 4 + i * 4 by omega]
theorem quads : ∀ (m : Nat) (l : List Value), l.length = m * 4 → (∀ v ∈ l, v.oneCell' = true) → ∃ xs : List Quad, xs.length = m ∧ xs.flatMap q4 = l
  | 0, l, h, _ => ⟨[], rfl, by rw [List.eq_nil_of_length_eq_zero (by omega : l.length = 0)]; rfl⟩
  | m + 1, l, h, h1 => by
    obtain ⟨xs, e1, e2⟩ := quads m (l.drop 4) (by rw [List.length_drop]; omega) (fun v hv => h1 v (List.mem_of_mem_drop hv))
    refine ⟨⟨l.take 4, by rw [List.length_take]; omega, fun v hv => h1 v (List.mem_of_mem_take hv)⟩ :: xs, by simp [e1], ?_⟩
    rw [List.flatMap_cons, e2]
    exact List.take_append_drop 4 l
theorem flat_len : ∀ (l : List Quad), (l.flatMap q4).length = l.length * 4
  | [] => rfl
  | x :: l => by rw [List.flatMap_cons, List.length_append, q4_len, flat_len l, List.length_cons]; omega

theorem Els.holds {w : World} {β off : Nat} {d : Array Quad} (h : Els w β off d.toList) (hf : ∀ j, j < d.size * 4 → w.frozen? ⟨β, off + j, none⟩ = false) : HoldsK q4 4 w β off d := by
  intro t ht
  rw [size_flatK] at ht
  refine ⟨?_, hf t ht⟩
  have hi : t / 4 < d.size := by omega
  have hx : d.toList[t / 4]? = some d[t / 4]! := by rw [getElem!_pos d _ hi]; simp [hi]
  have hc : t % 4 < (q4 d[t / 4]!).length := by rw [q4_len]; omega
  have := h _ _ hx (t % 4) _ (List.getElem?_eq_getElem hc)
  rw [get_flatK _ _ _ _ ht, show off + t = off + t / 4 * 4 + t % 4 by omega, this, id_eq, getElem!_pos (q4 d[t / 4]!) (t % 4) hc]

theorem Els.of_holds {w : World} {β off : Nat} {d : Array Quad} (h : HoldsK q4 4 w β off d) : Els w β off d.toList := fun i x hx => by
  have hi : i < d.size := by have := (List.getElem?_eq_some_iff.1 hx).1; simpa using this
  have hxe : x = d[i]! := by
    rw [getElem!_pos d i hi]
    have := List.getElem?_eq_some_iff.1 hx
    obtain ⟨_, e⟩ := this
    simpa using e.symm
  subst hxe
  intro c v hv
  obtain ⟨hc, e⟩ := List.getElem?_eq_some_iff.1 hv
  have := (h.cell (c := c) hi (by rw [q4_len] at hc; exact hc)).1
  rw [this, getElem!_pos _ c hc, e]

theorem Kept.row (w : World) (n β off : Nat) (d0 d : Array Quad) (hβ : ∃ t N, w.shape? β = some (t, N)) : Kept w (putRowK q4 4 (Sort.ahead w n) β off d) β off (off + d.size * 4) where
  size := by unfold putRowK; simp
  other := fun β' h => by
    unfold putRowK putRow mapBlock
    simp only [heap_ahead, Array.getElem?_modify]
    rw [if_neg (fun e => h e.symm)]
  shape := by
    obtain ⟨t, N, ht⟩ := hβ
    unfold putRowK putRow mapBlock
    simp only [World.shape?, heap_ahead, Array.getElem?_modify, if_true] at ht ⊢
    cases hb : w.heap[β]? with
    | none => rfl
    | some o =>
      cases o <;> simp [onCells, putCells]
  frozen := fun a => by unfold putRowK; rw [frozen?_putRow]; rfl
  out := fun i h => by
    unfold putRowK
    rw [cell?_putRow_other id _ _ _ _ _ (.inr (by simp only [size_flatK]; omega))]; rfl
  os := rfl
  output := rfl

/-- slices.Reverse of such a row. -/
theorem rev_spec (β off cap : Nat) (l : List Quad) (w : World) (hl : l.length < 65536 + 1) (hβ : ∃ t N, w.shape? β = some (t, N)) (h : Els w β off l) (hf : ∀ j, j < l.length * 4 → w.frozen? ⟨β, off + j, none⟩ = false) :
    Calls Tryz.prog 318 #[.slice (some ⟨β, off, none⟩) l.length cap] w fun e w' => e = .returned (.tuple #[]) ∧ Kept w w' β off (off + l.length * 4) ∧ Els w' β off l.reverse := by
  have hH : HoldsK q4 4 w β off l.toArray := Els.holds (by simpa using h) (by simpa using hf)
  have con := AnyQ.slices_Reverse revL 4 Tryz.isAgg272 Tryz.sizeOf272 q4 q4_len q4_one β off cap l.toArray w hH (by simp; omega)
  change Calls Tryz.prog 318 #[.slice (some ⟨β, off, none⟩) l.length cap] w _ at con
  refine con.mono ?_
  rintro e w' ⟨rfl, n, rfl⟩
  refine ⟨rfl, by simpa using Kept.row w n β off l.toArray l.toArray.reverse hβ, ?_⟩
  have := Els.of_holds (holdsK_putRowK q4 4 (Sort.ahead w n) β off l.toArray l.toArray.reverse (holdsK_ahead q4 4 w n β off _ hH) (by simp))
  simpa using this
end Go.Abs
