/- slices.rotateRight by one, and slices.Insert whole: the oracle is right. -/
import Derived.Test.YtmfondkhhnnjjaaGreatDoorO9

namespace Go.Abs
open Go Go.RowKit Go.Shelf Go.Proofs Go.Lib Go.Maps Go.Sort

theorem Els.left {w : World} {β off : Nat} {l m : List Quad} (h : Els w β off (l ++ m)) : Els w β off l := fun i x hx => h i x (by rw [List.getElem?_append_left (List.getElem?_eq_some_iff.1 hx).1]; exact hx)
theorem Els.right {w : World} {β off : Nat} {l m : List Quad} (h : Els w β off (l ++ m)) : Els w β (off + l.length * 4) m := fun i x hx => by
  have := h (l.length + i) x (by rw [List.getElem?_append_right (by omega)]; simpa using hx)
  rwa [show off + (l.length + i) * 4 = off + l.length * 4 + i * 4 by omega] at this
theorem Els.append {w : World} {β off : Nat} {l m : List Quad} (h : Els w β off l) (g : Els w β (off + l.length * 4) m) : Els w β off (l ++ m) := fun i x hx => by
  rcases Nat.lt_or_ge i l.length with hl | hl
  · rw [List.getElem?_append_left hl] at hx; exact h i x hx
  · rw [List.getElem?_append_right hl] at hx
    have := g _ x hx
    rwa [show off + l.length * 4 + (i - l.length) * 4 = off + i * 4 by omega] at this
theorem Els.kept {w w' : World} {β lo hi off : Nat} {l : List Quad} (h : Els w β off l) (k : Kept w w' β lo hi) (ho : off + l.length * 4 ≤ lo ∨ hi ≤ off) : Els w' β off l := fun i x hx => by
  have hlt := (List.getElem?_eq_some_iff.1 hx).1
  refine (h i x hx).kept k (.inr ?_)
  rw [q4_len]; omega

set_option maxRecDepth 100000 in
set_option maxHeartbeats 1000000 in
theorem rotL_walk (β off cap : Nat) (xs : List Quad) (v : Quad) (w : World) (hm : 0 < xs.length) (hl : xs.length < 65536) (hβ : ∃ t N, w.shape? β = some (t, N)) (hc : xs.length + 1 ≤ cap)
    (h : Els w β off (xs ++ [v])) (hf : ∀ j, j < (xs.length + 1) * 4 → w.frozen? ⟨β, off + j, none⟩ = false) :
    Calls Tryz.prog 287 #[.slice (some ⟨β, off, none⟩) (xs.length + 1) cap, .int .i64 (xs.length : Nat)] w fun e w' => e = .returned (.tuple #[]) ∧ Kept w w' β off (off + (xs.length + 1) * 4) ∧ Els w' β off (v :: xs) := by
  have u266 := run_underlying Tryz.underlying266
  have r1 := fun c => rev_spec β off c xs w (by omega) hβ h.left (fun j hj => hf j (by omega))
  have r2 : ∀ c w1, Kept w w1 β off (off + xs.length * 4) → Els w1 β off xs.reverse → Calls Tryz.prog 318 #[.slice (some ⟨β, off + xs.length * 4, none⟩) 1 c] w1 fun e w' => e = .returned (.tuple #[]) ∧ Kept w w' β off (off + (xs.length + 1) * 4) ∧ Els w' β off (xs.reverse ++ [v]) := fun c w1 k1 e1 => by
    have hv : Els w1 β (off + xs.length * 4) [v] := h.right.kept k1 (.inr (Nat.le_refl _))
    refine (rev_spec β (off + xs.length * 4) c [v] w1 (by simp) (by rw [k1.shape]; exact hβ) hv (fun j hj => by rw [k1.frozen, Nat.add_assoc]; exact hf _ (by simp at hj; omega))).mono ?_
    rintro e w' ⟨rfl, k2, e2⟩
    refine ⟨rfl, (k1.wide (Nat.le_refl _) (by omega)).trans (k2.wide (by omega) (by simp; omega)), (e1.kept k2 (.inl (by simp))).append (by simpa using e2)⟩
  have r3 : ∀ c w2, Kept w w2 β off (off + (xs.length + 1) * 4) → Els w2 β off (xs.reverse ++ [v]) → Calls Tryz.prog 318 #[.slice (some ⟨β, off, none⟩) (xs.length + 1) c] w2 fun e w' => e = .returned (.tuple #[]) ∧ Kept w w' β off (off + (xs.length + 1) * 4) ∧ Els w' β off (v :: xs) := fun c w2 k2 e2 => by
    have := rev_spec β off c (xs.reverse ++ [v]) w2 (by simp; omega) (by rw [k2.shape]; exact hβ) e2 (fun j hj => by rw [k2.frozen]; exact hf _ (by simpa using hj))
    have hlen : (xs.reverse ++ [v]).length = xs.length + 1 := by simp
    rw [hlen] at this
    refine this.mono ?_
    rintro e w' ⟨rfl, k3, e3⟩
    exact ⟨rfl, k2.trans k3, by simpa using e3⟩
  have R2 : Hid _ := r2
  have R3 : Hid _ := r3
  clear r2 r3 h hf hβ
  have hb1 : ¬ (cap = xs.length) := by omega
  have hb2 : xs.length ≤ cap := by omega
  have hb3 : xs.length + 1 - xs.length = 1 := by omega
  go_enter Tryz.func287, Tryz.ntmps287
  go_wp2_with fail
  refine (r1 _).mono ?_
  rintro e w1 ⟨rfl, k1, e1⟩
  have c2 := fun c => R2.out c w1 k1 e1
  clear r1 R2
  go_wp2_with fail
  refine (c2 _).mono ?_
  rintro e w2 ⟨rfl, k2, e2⟩
  have c3 := fun c => R3.out c w2 k2 e2
  clear c2 R3 k1 e1
  go_wp2_with fail
  refine (c3 _).mono ?_
  rintro e w3 ⟨rfl, k3, e3⟩
  go_wp2
  go_end0
  exact ⟨rfl, k3, e3⟩

set_option maxRecDepth 100000 in
set_option maxHeartbeats 1000000 in
theorem rotR_walk (β off cap : Nat) (xs : List Quad) (v : Quad) (w : World) (hm : 0 < xs.length) (hl : xs.length < 65536) (hβ : ∃ t N, w.shape? β = some (t, N)) (hc : xs.length + 1 ≤ cap)
    (h : Els w β off (xs ++ [v])) (hf : ∀ j, j < (xs.length + 1) * 4 → w.frozen? ⟨β, off + j, none⟩ = false) :
    Calls Tryz.prog 243 #[.slice (some ⟨β, off, none⟩) (xs.length + 1) cap, .int .i64 1] w fun e w' => e = .returned (.tuple #[]) ∧ Kept w w' β off (off + (xs.length + 1) * 4) ∧ Els w' β off (v :: xs) := by
  have r := rotL_walk β off cap xs v w hm hl hβ hc h hf
  have hw : IntKind.i64.wrap (((xs.length + 1 : Nat) : Int) - 1) = (xs.length : Int) := by rw [IntKind.wrap_i64]; omega
  have hw2 : IntKind.i64.wrap ((xs.length : Int) + 1 - 1) = (xs.length : Int) := by rw [IntKind.wrap_i64]; omega
  have hw3 : IntKind.i64.wrap (xs.length : Int) = (xs.length : Int) := by rw [IntKind.wrap_i64]; omega
  clear h hf hβ
  go_enter Tryz.func243, Tryz.ntmps243
  go_wp2_with (go_at_call 287; refine r.mono ?_; rintro e w3 ⟨rfl, k3, e3⟩)
  go_end0
  exact ⟨rfl, k3, e3⟩
end Go.Abs
