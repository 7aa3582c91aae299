/- slices.Insert of one element: rows of cells, the copy at elements of any size, slices.overlaps at two blocks. -/
import Derived.Test.YtmfondkhhnnjjaaGreatDoorO3
import Derived.Shelf.Spec.SlicesInsert

namespace Go.Abs
open Go Go.RowKit Go.Shelf Go.Proofs Go.Lib

section
variable {P : Program}

/-- A row of cells, as it lies. -/
def RowAt (w : World) (b off : Nat) (cs : List Value) : Prop := ∀ j v, cs[j]? = some v → w.cell? ⟨b, off + j, none⟩ = some v

theorem RowAt.drop {w : World} {b off : Nat} {cs : List Value} (h : RowAt w b off cs) (k : Nat) : RowAt w b (off + k) (cs.drop k) := fun j v hj => by
  rw [Nat.add_assoc]; exact h (k + j) v (by rwa [List.getElem?_drop] at hj)
theorem RowAt.take {w : World} {b off : Nat} {cs : List Value} (h : RowAt w b off cs) (k : Nat) : RowAt w b off (cs.take k) := fun j v hj => by
  have hlt := (List.getElem?_eq_some_iff.1 hj).1
  simp only [List.length_take] at hlt
  rw [List.getElem?_take_of_lt (by omega)] at hj
  exact h j v hj
theorem RowAt.append {w : World} {b off : Nat} {cs ds : List Value} (h : RowAt w b off cs) (g : RowAt w b (off + cs.length) ds) : RowAt w b off (cs ++ ds) := fun j v hj => by
  rcases Nat.lt_or_ge j cs.length with hl | hl
  · rw [List.getElem?_append_left hl] at hj; exact h j v hj
  · rw [List.getElem?_append_right hl] at hj
    have := g _ v hj
    rwa [show off + cs.length + (j - cs.length) = off + j by omega] at this
theorem RowAt.heap {w w' : World} {b off : Nat} {cs : List Value} (h : RowAt w b off cs) (hh : w'.heap[b]? = w.heap[b]?) : RowAt w' b off cs := fun j v hj => by
  have := h j v hj
  simp only [World.cell?, hh] at this ⊢
  exact this
theorem RowAt.set_in {w : World} {b off : Nat} {vs : List Value} (hc : ∀ j, j < vs.length → (w.cell? ⟨b, off + j, none⟩).isSome = true) : RowAt (w.setCells b off vs) b off vs := fun j v hj => by
  have hlt := (List.getElem?_eq_some_iff.1 hj).1
  rw [World.cell?_setCells_in b vs off w hc j hlt]
  rw [List.getElem?_eq_getElem hlt] at hj; exact hj
theorem RowAt.set_out {w : World} {b off o : Nat} {cs vs : List Value} (h : RowAt w b off cs) (ho : off + cs.length ≤ o ∨ o + vs.length ≤ off) : RowAt (w.setCells b o vs) b off cs := fun j v hj => by
  have hlt := (List.getElem?_eq_some_iff.1 hj).1
  rw [World.cell?_setCells_out _ _ _ _ _ (fun _ _ => by simp; omega)]
  exact h j v hj

/-- 'copy' at elements of any size. -/
theorem run_copy_cells_n (w : World) (dT sT ty elem : TypeId) (z b o dLen dCap : Nat) (a : Addr) (sLen sCap : Nat) (cs : List Value)
    (hu : P.underlying dT = some (.slice elem)) (hs : (P.info? elem).map (·.size) = some z) (hn : cs.length = Nat.min sLen dLen * z)
    (hsrc : ∀ j v, cs[j]? = some v → w.cell? (a.add j) = some v) (hc : ∀ j, j < cs.length → (w.cell? ⟨b, o + j, none⟩).isSome = true) (hf : ∀ j, j < cs.length → w.frozen? ⟨b, o + j, none⟩ = false) (h1 : ∀ v ∈ cs, v.oneCell' = true) :
    (Builtin.copy_ #[dT, sT] ty #[.slice (some ⟨b, o, none⟩) dLen dCap, .slice (some a) sLen sCap]).run P w = .ok (goInt (Nat.min sLen dLen)) (w.setCells b o cs) := by
  have hl := run_loadCells_list (P := P) w a cs hsrc
  have hst := run_storeCells_cells (P := P) b o cs 0 w (by simpa using hc) (by simpa using hf) h1
  cases hq : P.info? elem with
  | none => simp [hq] at hs
  | some i =>
    have hi : i.size = z := by simpa [hq] using hs
    rw [hn] at hl
    simp [Builtin.copy_, run_underlying hu, Builtin.lenOf, Builtin.firstCells, sizeOf, typeInfo, hq, hi, hl, hst]

set_option maxHeartbeats 2000000 in
/-- slices.overlaps at two blocks: where both may be a string's bytes, the answer is drawn. -/
theorem run_overlaps_any (w : World) (tS tR e : TypeId) (ht : P.underlying tS = some (.slice e)) (size : Nat) (hz : ∀ w, (Go.sizeOf e).run P w = .ok size w)
    (a b : Addr) (la ca lb cb : Nat) (hne : a.block ≠ b.block) (tA tB : TypeId) (kA kB : Nat)
    (hsa : w.shape? a.block = some (tA, kA)) (hsb : w.shape? b.block = some (tB, kB)) (hfa : w.frozen? a = false) :
    ∃ (t : Bool) (w' : World), (Extern.SlicesOverlaps.overlaps #[tS, tS] #[tR] #[.slice (some a) la ca, .slice (some b) lb cb]).run P w = .ok (.bool t) w' ∧ w'.heap = w.heap ∧ w'.os = w.os ∧ w'.output = w.output := by
  have hnb : (a.block != b.block) = true := by simpa using hne
  have hnb' : (a.block == b.block) = false := by simpa using hne
  have e : (Extern.SlicesOverlaps.overlaps #[tS, tS] #[tR] #[.slice (some a) la ca, .slice (some b) lb cb]).run P w = Sem.run P (α := Value) (do
    let some t := (#[tS, tS] : Array TypeId)[0]? | stuck "slices.overlaps: no parameter types"
    let .slice elem ← underlying t | stuck "slices.overlaps: slice type expected"
    let size ← sizeOf elem
    match (some a : Option Addr), (some b : Option Addr) with
    | some a, some b =>
      if la = 0 ∨ lb = 0 ∨ size = 0 then pure (Value.bool false)
      else if a.block != b.block && (← frozen a) && (← frozen b) then unsupported .addressObserved
      else do
        if a.block != b.block then do
          noView a; noView b
          if ← mayBeOne a b then return Value.bool ((← choose (.extern "sameAddr.stringBytes" 2)) == 1)
        pure (Value.bool (a.block == b.block && a.off < b.off + lb * size && b.off < a.off + la * size))
    | _, _ => pure (Value.bool false)) w := rfl
  rw [e]
  by_cases h0 : la = 0 ∨ lb = 0 ∨ size = 0
  · exact ⟨false, w, by simp [run_underlying ht, hz, h0], rfl, rfl, rfl⟩
  · have hfo : (Question.extern "sameAddr.stringBytes" 2).forced = false := by rfl
    cases hfb : w.frozen? b <;> cases hea : w.frozen? { block := a.block, off := kA } <;> cases heb : w.frozen? { block := b.block, off := kB } <;> cases kA <;> cases kB <;>
      first
        | (refine ⟨false, w, ?_, rfl, rfl, rfl⟩; simp [run_underlying ht, hz, h0, hnb, hnb', frozen, noView, viewAt, mayBeOne, stringish, shape, Sem.run, hsa, hsb, hfa, hfb, hea, heb, hfo]; done)
        | (refine ⟨((Question.extern "sameAddr.stringBytes" 2).cut (w.tape w.drawn (Question.extern "sameAddr.stringBytes" 2)) == 1), w.drew, ?_, rfl, rfl, rfl⟩; simp [run_underlying ht, hz, h0, hnb, hnb', frozen, noView, viewAt, mayBeOne, stringish, shape, Sem.run, hsa, hsb, hfa, hfb, hea, heb, hfo]; done)
end

end Go.Abs
