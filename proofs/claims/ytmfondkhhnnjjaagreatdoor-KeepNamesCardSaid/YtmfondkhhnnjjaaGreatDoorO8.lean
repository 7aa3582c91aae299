/- The walk of slices.Insert of one element. -/
import Derived.Test.YtmfondkhhnnjjaaGreatDoorO6

namespace Go.Abs
open Go Go.RowKit Go.Shelf Go.Proofs Go.Lib Go.Maps

section
variable {P : Program}
/-- 'append' for the walk, where its run is known by an equation. -/
theorem wp_append_at (w : World) {o : Oper} {a : Act} {K : Act → World → Prop} {Q : Exit → Act → World → Prop} (d s : Operand) (t t' : TypeId)
    (ho : o.op = .call { callee := .builtin .append, args := #[d, s], argTypes := #[t, t'] }) (v u : Value) (hd : a.eval d = v) (hs : a.eval s = u) {v' : Value} {w' : World}
    (hr : (Builtin.append_ #[t, t'] o.type #[v, u]).run P w = .ok v' w') (h : K (a.put o.dst v') w') : o.wp P a w K Q := by
  unfold Oper.wp execOp
  simp only [ho, resolve, invoke, builtin, Sem.run_bind, Sem.run_pure, Result.andThen_ok, List.map_toArray, List.map_cons, List.map_nil, hd, hs, hr]
  exact h
theorem wpList_append_at (w : World) {ops : Array Oper} {rest : List Oper} {o : Oper} {a : Act} {Q : Exit → Act → World → Prop} (hgd : o.guard = none) (d s : Operand) (t t' : TypeId)
    (ho : o.op = .call { callee := .builtin .append, args := #[d, s], argTypes := #[t, t'] }) (v u : Value) (hd : a.eval d = v) (hs : a.eval s = u) {v' : Value} {w' : World}
    (hr : (Builtin.append_ #[t, t'] o.type #[v, u]).run P w = .ok v' w') (h : wpList P ops Q rest (a.put o.dst v') w') : wpList P ops Q (o :: rest) a w :=
  wpList_plain hgd fun _ hK => wp_append_at w d s t t' ho v u hd hs hr (hK _ _ h)
end

theorem info272 : Tryz.prog.info? 272 = some Tryz.t272 := by kernel_rfl
theorem size272 : (Tryz.prog.info? 272).map (·.size) = some 4 := by kernel_rfl

set_option maxRecDepth 100000 in
set_option maxHeartbeats 4000000 in
/-- No room: a new row. -/
theorem insert_grow_walk (a : Addr) (n i : Nat) (b2 : Addr) (vc : Nat) (w : World) (hi : i < n) (hn : n < 65536)
    (W1 W2 W3 : World) (g cap : Nat)
    (hap : ∀ ty, (Builtin.append_ #[266, 3] ty #[.slice (some a) i n, .int .i64 ((n : Int) + 1 - (i : Int))]).run Tryz.prog w = .ok (.slice (some ⟨g, 0, none⟩) (n + 1) cap) W1)
    (hcap : n + 1 ≤ cap)
    (hc1 : ∀ ty dc, (Builtin.copy_ #[266, 266] ty #[.slice (some ⟨g, i * 4, none⟩) (n + 1 - i) dc, .slice (some b2) 1 vc]).run Tryz.prog W1 = .ok (goInt 1) W2)
    (hc2 : ∀ ty dc sc, (Builtin.copy_ #[266, 266] ty #[.slice (some ⟨g, (i + 1) * 4, none⟩) (n - i) dc, .slice (some (a.add (i * 4))) (n - i) sc]).run Tryz.prog W2.drew = .ok (goInt (n - i : Nat)) W3) :
    Calls Tryz.prog 172 #[.slice (some a) n n, .int .i64 i, .slice (some b2) 1 vc] w fun e w' => e = .returned (.slice (some ⟨g, 0, none⟩) (n + 1) cap) ∧ w' = W3 := by
  have hz2 : ¬ ((i : Int) = (n : Int)) := by omega
  have hw1 : IntKind.i64.wrap ((n : Int) + 1) = (n : Int) + 1 := by rw [IntKind.wrap_i64]; omega
  have hw2 : IntKind.i64.wrap ((n : Int) + 1 - (i : Int)) = (n : Int) + 1 - (i : Int) := by rw [IntKind.wrap_i64]; omega
  have hw3 : IntKind.i64.wrap ((i : Int) + 1) = (i : Int) + 1 := by rw [IntKind.wrap_i64]; omega
  have hin : i ≤ n := by omega
  have u266 := run_underlying Tryz.underlying266
  go_enter Tryz.func172, Tryz.ntmps172
  go_wp2_with (at_builtin; refine wpList_append_at _ rfl _ _ 266 3 rfl _ _ rfl rfl (hap _) ?_)
  have hb1 : (0 : Int) ≤ (i : Int) + 1 := by omega
  have htn : ((i : Int) + 1).toNat = i + 1 := by omega
  have hb3 : (i : Int) + 1 ≤ (n : Int) + 1 := by omega
  have hb4 : i + 1 ≤ cap := by omega
  have hb5 : ¬ (cap = i + 1) := by omega
  have hb6 : ¬ (n = i) := by omega
  have mixed : Tryz.prog.follows .mixedOrders = true := by kernel_rfl
  go_region_law_o (refine step_copy_runI rfl _ _ 266 266 rfl _ _ (by simp [Act.eval, Act.put]) (by simp [Act.eval, Act.put]) (hc2 _ _ _) ?_)
  go_wp2
  go_ret
  exact ⟨rfl, rfl⟩

set_option maxRecDepth 100000 in
set_option maxHeartbeats 4000000 in
/-- There is room, and the rows are told apart: in place. -/
theorem insert_shift_walk (a : Addr) (n i c : Nat) (b2 : Addr) (vc : Nat) (w : World) (hi : i < n) (hn : n < 65536) (hroom : n + 1 ≤ c)
    (W0 W1 W2 : World)
    (hov : (callFunc 242 #[.slice (some b2) 1 vc, .slice (some (a.add ((i + 1) * 4))) (n - i) (c - (i + 1))]).run Tryz.prog w = .ok (.value (.bool false)) W0)
    (hc1 : ∀ ty dc sc, (Builtin.copy_ #[266, 266] ty #[.slice (some (a.add ((i + 1) * 4))) (n - i) dc, .slice (some (a.add (i * 4))) (n + 1 - i) sc]).run Tryz.prog W0.drew = .ok (goInt (n - i : Nat)) W1)
    (hc2 : ∀ ty dc, (Builtin.copy_ #[266, 266] ty #[.slice (some (a.add (i * 4))) (n + 1 - i) dc, .slice (some b2) 1 vc]).run Tryz.prog W1 = .ok (goInt 1) W2) :
    Calls Tryz.prog 172 #[.slice (some a) n c, .int .i64 i, .slice (some b2) 1 vc] w fun e w' => e = .returned (.slice (some a) (n + 1) c) ∧ w' = W2 := by
  have hz2 : ¬ ((i : Int) = (n : Int)) := by omega
  have hw1 : IntKind.i64.wrap ((n : Int) + 1) = (n : Int) + 1 := by rw [IntKind.wrap_i64]; omega
  have hw3 : IntKind.i64.wrap ((i : Int) + 1) = (i : Int) + 1 := by rw [IntKind.wrap_i64]; omega
  have hin : i ≤ n := by omega
  have u266 := run_underlying Tryz.underlying266
  have hb1 : (0 : Int) ≤ (i : Int) + 1 := by omega
  have htn : ((i : Int) + 1).toNat = i + 1 := by omega
  have hb3 : (i : Int) + 1 ≤ (n : Int) + 1 := by omega
  have hb5 : ¬ (c = i + 1) := by omega
  have hb6 : ¬ (c = i) := by omega
  have hb7 : ¬ ((c : Int) < (n : Int) + 1) := by omega
  have hb8 : ((n : Int) + 1) ≤ (c : Int) := by omega
  have hb9 : ((n : Int) + 1).toNat = n + 1 := by omega
  have hb11 : (i : Int) ≤ (n : Int) + 1 := by omega
  have mixed : Tryz.prog.follows .mixedOrders = true := by kernel_rfl
  go_enter Tryz.func172, Tryz.ntmps172
  go_wp2_with (simp only [hov])
  go_region_law_o (refine step_copy_runI rfl _ _ 266 266 rfl _ _ (by simp [Act.eval, Act.put]) (by simp [Act.eval, Act.put]) (hc1 _ _ _) ?_)
  go_wp2_with (at_builtin; refine wpList_copy_runI _ rfl _ _ 266 266 rfl _ _ rfl rfl (hc2 _ _) ?_)
  go_ret
  exact ⟨rfl, rfl⟩

set_option maxRecDepth 100000 in
set_option maxHeartbeats 4000000 in
/-- There is room, and the rows may be one: the element is laid behind, and the tail turned. -/
theorem insert_rot_walk (a : Addr) (n i c : Nat) (b2 : Addr) (vc : Nat) (w : World) (hi : i < n) (hn : n < 65536) (hroom : n + 1 ≤ c)
    (W0 W1 : World) (R : World → Prop)
    (hov : (callFunc 242 #[.slice (some b2) 1 vc, .slice (some (a.add ((i + 1) * 4))) (n - i) (c - (i + 1))]).run Tryz.prog w = .ok (.value (.bool true)) W0)
    (hc1 : ∀ ty dc, (Builtin.copy_ #[266, 266] ty #[.slice (some (a.add (n * 4))) 1 dc, .slice (some b2) 1 vc]).run Tryz.prog W0 = .ok (goInt 1) W1)
    (hrt : Calls Tryz.prog 243 #[.slice (some (a.add (i * 4))) (n + 1 - i) (c - i), .int .i64 1] W1 fun e w' => e = .returned (.tuple #[]) ∧ R w') :
    Calls Tryz.prog 172 #[.slice (some a) n c, .int .i64 i, .slice (some b2) 1 vc] w fun e w' => e = .returned (.slice (some a) (n + 1) c) ∧ R w' := by
  have hz2 : ¬ ((i : Int) = (n : Int)) := by omega
  have hw1 : IntKind.i64.wrap ((n : Int) + 1) = (n : Int) + 1 := by rw [IntKind.wrap_i64]; omega
  have hw3 : IntKind.i64.wrap ((i : Int) + 1) = (i : Int) + 1 := by rw [IntKind.wrap_i64]; omega
  have hin : i ≤ n := by omega
  have u266 := run_underlying Tryz.underlying266
  have hb1 : (0 : Int) ≤ (i : Int) + 1 := by omega
  have htn : ((i : Int) + 1).toNat = i + 1 := by omega
  have hb3 : (i : Int) + 1 ≤ (n : Int) + 1 := by omega
  have hb5 : ¬ (c = i + 1) := by omega
  have hb6 : ¬ (c = i) := by omega
  have hb7 : ¬ ((c : Int) < (n : Int) + 1) := by omega
  have hb8 : ((n : Int) + 1) ≤ (c : Int) := by omega
  have hb9 : ((n : Int) + 1).toNat = n + 1 := by omega
  have hb11 : (i : Int) ≤ (n : Int) + 1 := by omega
  have hb10 : ¬ (c = n) := by omega
  have mixed : Tryz.prog.follows .mixedOrders = true := by kernel_rfl
  go_enter Tryz.func172, Tryz.ntmps172
  go_wp2_with (first | (simp only [hov]) | (go_at_call 243; refine hrt.mono ?_; rintro e w' ⟨rfl, hR⟩))
  go_ret
  exact ⟨rfl, hR⟩
end Go.Abs
