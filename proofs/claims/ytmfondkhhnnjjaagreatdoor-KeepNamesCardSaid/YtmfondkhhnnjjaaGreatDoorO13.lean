/- The iterator that goes backward over a row of elements of four cells. -/
import Derived.Test.YtmfondkhhnnjjaaGreatDoorO12
import Derived.RangeFuncNested
import Derived.RangeFuncLeaves

namespace Go.Abs
open Go Go.RowKit Go.Shelf Go.Proofs

/-- Four values of one cell each; the second is a kind, not the 3. -/
structure E4 where
  e0 : Value
  e1 : Value
  e2 : Value
  e3 : Value
  h0 : e0.oneCell' = true
  h1 : ∃ x : Int, e1 = .int .u8 x ∧ x ≠ 3
  h2 : e2.oneCell' = true
  h3 : e3.oneCell' = true
abbrev El := Nat × E4
def elv (x : El) : Value := .agg #[x.2.e0, x.2.e1, x.2.e2, x.2.e3]

/-- What has come when k rounds are over. -/
def upto {α : Type} (f : Nat → α) (k : Nat) : List α := (List.range k).map f
theorem upto_succ {α : Type} (f : Nat → α) (k : Nat) : upto f (k + 1) = upto f k ++ [f k] := by simp [upto, List.range_succ]
theorem upto_length {α : Type} (f : Nat → α) (k : Nat) : (upto f k).length = k := by simp [upto]

def backF (es : Nat → E4) (len t : Nat) : El := (len - 1 - t, es (len - 1 - t))

set_option maxRecDepth 100000 in
set_option maxHeartbeats 2000000 in
theorem backward1_in (F : Fence) (n : Nat) (h8 : F.fn 268) (hro : F.round = none) (hn : 1 ≤ n) (l Bs n₀ b off len cap : Nat) (es : Nat → E4) (hlen : len < 65536) (hb : b < n₀) (J Jx : List El → World → Prop)
    (hY : ∀ pre x W, J pre W → pre.length < len → YieldAt F (n - 1) Tryz.prog l #[.int .i64 (x.1 : Int), elv x] W fun e W' =>
      (e = .returned (.bool true) ∧ J (pre ++ [x]) W' ∧ Below n₀ W W') ∨ (e = .returned (.bool false) ∧ Jx (pre ++ [x]) W'))
    (W : World) (hBn : Bs < n₀) (hBs : W.cell? ⟨Bs, 0, none⟩ = some (.slice (some ⟨b, off, none⟩) len cap))
    (hc : ∀ j, j < len → W.cell? ⟨b, off + j * 4, none⟩ = some (es j).e0 ∧ W.cell? ⟨b, off + j * 4 + 1, none⟩ = some (es j).e1 ∧ W.cell? ⟨b, off + j * 4 + 2, none⟩ = some (es j).e2 ∧ W.cell? ⟨b, off + j * 4 + 3, none⟩ = some (es j).e3) (h0 : J [] W) :
    CallsIn F n Tryz.prog 268 #[.func (.yield l) #[] #[], .pointer (some ⟨Bs, 0, none⟩)] W fun e W' => (∃ v, e = .returned v) ∧
      ((∃ ys, ys = upto (backF es len) len ∧ J ys W') ∨ (∃ pre, True ∧ Jx pre W')) := by
  have u57 := run_underlying Tryz.underlying57
  have hw0 : IntKind.i64.wrap ((len : Int) - 1) = (len : Int) - 1 := by rw [IntKind.wrap_i64]; omega
  refine callsIn_of_wp Tryz.func268 rfl h8 ?_ hro
  simp only [Tryz.ntmps268, List.size_toArray, List.length_cons, List.length_nil, Nat.reduceAdd, Nat.reduceSub, Array.replicate_succ, Array.replicate_zero, List.push_toArray, List.append_toArray, List.nil_append, List.cons_append]
  gi_wp2
  gi_loopw [3] (fun i wr => ∃ m : Nat, m ≤ len ∧ i = .int .i64 ((len : Int) - 1 - (m : Int)) ∧ J (upto (backF es len) m) wr ∧ Below n₀ W wr)
    (fun i _ => (numOf i + 1).toNat)
  case atStart => exact ⟨0, Nat.zero_le _, by simp, h0, Below.refl _ _⟩
  case round =>
    obtain ⟨m, hm, rfl, hJs, hnx⟩ := hrel
    have hBs' : wr.cell? ⟨Bs, 0, none⟩ = some (.slice (some ⟨b, off, none⟩) len cap) := (hnx.cell (p := ⟨Bs, 0, none⟩) hBn).trans hBs
    by_cases hlt : m < len
    · obtain ⟨k, hk⟩ : ∃ k, k = len - 1 - m := ⟨_, rfl⟩
      have hki : (len : Int) - 1 - (m : Int) = (k : Int) := by omega
      have hkl : k < len := by omega
      have hx : backF es len m = (k, es k) := by unfold backF; rw [hk]
      obtain ⟨c0, c1, c2, c3⟩ := hc k hkl
      have d0 : wr.cell? ⟨b, off + k * 4, none⟩ = some (es k).e0 := (hnx.cell (p := ⟨b, off + k * 4, none⟩) hb).trans c0
      have d1 : wr.cell? ⟨b, off + k * 4 + 1, none⟩ = some (es k).e1 := (hnx.cell (p := ⟨b, off + k * 4 + 1, none⟩) hb).trans c1
      have d2 : wr.cell? ⟨b, off + k * 4 + 2, none⟩ = some (es k).e2 := (hnx.cell (p := ⟨b, off + k * 4 + 2, none⟩) hb).trans c2
      have d3 : wr.cell? ⟨b, off + k * 4 + 3, none⟩ = some (es k).e3 := (hnx.cell (p := ⟨b, off + k * 4 + 3, none⟩) hb).trans c3
      obtain ⟨fn, tmps, assign, body, hy, hR⟩ := hY _ (k, es k) wr hJs (by rw [upto_length]; exact hlt)
      unfold elv at hy
      dsimp only at hy
      rw [hki]
      have hw1 : IntKind.i64.wrap ((k : Int) - 1) = (k : Int) - 1 := by rw [IntKind.wrap_i64]; omega
      have HX : Hid (backF es len m = (k, es k)) := hx
      have HK : Hid ((len : Int) - 1 - (m : Int) = (k : Int)) := hki
      clear hk hx hki c0 c1 c2 c3
      gi_wp2
      refine hR.mono ?_
      rintro e W3 (⟨rfl, hJ3, hk3⟩ | ⟨rfl, hJx3⟩)
      · gi_wp2
        go_roundw
        case rel => exact ⟨m + 1, by omega, by have := HK.out; simp; omega, by rw [upto_succ, HX.out]; exact hJ3, hnx.trans hk3⟩
        case measure => simp [numOf]
      · gi_wp2
        refine bodyPost_ret (results_none rfl _ _ _) rfl ?_
        exact ⟨⟨_, rfl⟩, .inr ⟨_, trivial, hJx3⟩⟩
    · obtain rfl : m = len := by omega
      have hng : ¬ ((0 : Int) ≤ (m : Int) - 1 - (m : Int)) := by omega
      gi_wp2
      go_end0
      exact ⟨⟨_, rfl⟩, .inl hJs⟩
end Go.Abs
