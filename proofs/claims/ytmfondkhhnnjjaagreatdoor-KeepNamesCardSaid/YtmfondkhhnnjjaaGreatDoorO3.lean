/- slices.Sorted(maps.Keys(m)) at keys that are ints: the oracle is right. -/
import Derived.Test.YtmfondkhhnnjjaaGreatDoorO1
import Derived.Test.YtmfondkhhnnjjaaGreatDoorA23
import Derived.Shelf.SlIterI.Sorted

namespace Go.Abs
open Go Go.RowKit Go.Maps Go.Sort Go.Shelf Go.Proofs
open Go.WideElems (Fit rd rg rd_mk rg_of)
open Go.ChangeMaps Go.MapKept

/-! ## A map of the heap, in the shelf's words -/

/-- A map's element, whole. -/
def heldR (v : Value) : Option (DataW Value × List MemPlace) := some (.held v, [])

theorem wf_i64 {n : Nat} (h : n < 2 ^ 64) : (Lit.int .i64 (toInt .i64 n)).wf = true := by
  have e1 : IntKind.i64.min = -9223372036854775808 := rfl
  have e2 : IntKind.i64.max = 9223372036854775807 := rfl
  simp only [Lit.wf, e1, e2, Bool.and_eq_true, decide_eq_true_eq]
  unfold toInt
  rcases Nat.lt_or_ge n (2 ^ 63) with hl | hl
  · have : Nat.ble (2 ^ (IntKind.i64.bits - 1)) n = false := by
      cases hb : Nat.ble (2 ^ (IntKind.i64.bits - 1)) n with
      | false => rfl
      | true => have := Nat.le_of_ble_eq_true hb; simp only [IntKind.bits] at this; omega
    simp only [this, Bool.and_false, Bool.false_eq_true, if_false]
    omega
  · have hc : (IntKind.i64.signed && Nat.ble (2 ^ (IntKind.i64.bits - 1)) n) = true := by
      rw [Nat.ble_eq_true_of_le (show 2 ^ (IntKind.i64.bits - 1) ≤ n from hl)]; rfl
    rw [if_pos hc]
    simp only [IntKind.bits]
    omega

/-- A number's value. -/
def numOf : Value → Int
  | .int _ a => a
  | _ => 0

theorem keyNums_spec {μ : Inj} {b : Nat} : ∀ {es : List (AV × AV × Nat)} {p : List MapEntry} {l : List Nat}, MRel μ b es p → keyNums es = some l →
    p.map (·.key) = l.map (fun n => Value.int .i64 (toInt .i64 n)) ∧ ∀ n ∈ l, n < 2 ^ 64
  | [], _, l, .nil, h => by simp only [keyNums] at h; cases h; simp
  | (k, v, s) :: es, _, l, .cons (e := e) hk hv hs t, h => by
    cases k
    case int q n =>
      cases q
      case i64 =>
        simp only [keyNums] at h
        split at h
        · rename_i l' hl'
          cases h
          obtain ⟨h1, h2⟩ := keyNums_spec t hl'
          have hke : e.key = .int .i64 (toInt .i64 n) ∧ n < 2 ^ 64 := by
            generalize e.key = ck at hk
            cases hk with
            | int _ _ h => exact ⟨rfl, h⟩
          refine ⟨by simp [h1, hke.1], fun m hm => ?_⟩
          rcases List.mem_cons.1 hm with rfl | hm
          · exact hke.2
          · exact h2 m hm
        · cases h
      all_goals (simp [keyNums] at h)
    all_goals (simp [keyNums] at h)

theorem nodup_keys {l : List Nat} (hl : ∀ n ∈ l, n < 2 ^ 64) (h : l.Nodup) : (l.map fun n => Value.int .i64 (toInt .i64 n)).Nodup := by
  refine List.pairwise_map.2 (h.imp_of_mem fun {a b} ha hb hne e => hne ?_)
  injection e with _ e
  exact toInt_inj .i64 a b (hl a ha) (hl b hb) e

theorem MRel.val {μ : Inj} {b : Nat} : ∀ {es : List (AV × AV × Nat)} {p : List MapEntry}, MRel μ b es p → ∀ e ∈ p, ∃ x ∈ es, VRel μ x.2.1 e.val
  | _, _, .nil, e, he => by cases he
  | _, _, .cons hk hv _ t, e, he => by
    rcases List.mem_cons.1 he with rfl | he
    · exact ⟨_, List.mem_cons_self .., hv⟩
    · obtain ⟨x, hx, h⟩ := t.val e he
      exact ⟨x, List.mem_cons_of_mem _ hx, h⟩

/-- The keys are numbers, no number twice: the world owns the map. -/
theorem owns_of_rel {P : Program} {k : TypeId} (hk : P.underlying k = some (.int .i64)) (R : Value → Option (DataW Value × List MemPlace)) {μ : Inj} {b clock β δ r : Nat} {es : List (AV × AV × Nat)} {w : World} (h : ORel μ b (.mp es clock) β δ r w)
    {l : List Nat} (hl : keyNums es = some l) (hnd : l.Nodup) (hmax : l.length ≤ maxLen) (hR : ∀ x ∈ es, ∀ v, VRel μ x.2.1 v → R v = some (.held v, [])) :
    ∃ (ces : Array MapEntry) (cclock : Nat) (p : List MapEntry), w.heap[β]? = some (.map ces cclock) ∧ p.Perm ces.toList ∧ MRel μ b es p ∧ (∀ n ∈ l, n < 2 ^ 64) ∧ p.map (·.key) = l.map (fun n => Value.int .i64 (toInt .i64 n)) ∧
      p.map (rg P k R) = p.map (fun e => (match e.key with | .int q a => Lit.int q a | _ => .bool false, DataW.held e.val)) ∧
      w.ownsMap P k R β l.length (.map ((ces.toList.map (rg P k R)).foldr DataW.insert [])) := by
  obtain ⟨ces, cclock, h1, ⟨p, hp, hm⟩, h3, h4⟩ := h
  obtain ⟨g1, g2⟩ := keyNums_spec hm hl
  have hsz : ces.size = l.length := by
    have e1 := hp.length_eq
    have e2 := congrArg List.length g1
    simp only [List.length_map, Array.length_toList] at e1 e2
    omega
  have hkey : ∀ e ∈ p, ∃ n, n < 2 ^ 64 ∧ e.key = .int .i64 (toInt .i64 n) := fun e he => by
    have : e.key ∈ p.map (·.key) := List.mem_map_of_mem he
    rw [g1] at this
    obtain ⟨n, hn, e'⟩ := List.mem_map.1 this
    exact ⟨n, g2 n hn, e'.symm⟩
  have hval : ∀ e ∈ p, R e.val = some (.held e.val, []) := fun e he => by
    obtain ⟨x, hx, hv⟩ := hm.val e he
    exact hR x hx _ hv
  have hrd : ∀ e ∈ p, ∃ n, n < 2 ^ 64 ∧ e.key = .int .i64 (toInt .i64 n) ∧ rd P k R e = some (.int .i64 (toInt .i64 n), .held e.val) := fun e he => by
    obtain ⟨n, hn, hke⟩ := hkey e he
    refine ⟨n, hn, hke, ?_⟩
    have hv0 := hval e he
    obtain ⟨ek, ev, eb⟩ := e
    simp only at hke hv0
    subst hke
    show rd P k R ⟨.int .i64 (toInt .i64 n), ev, eb⟩ = some (.int .i64 (toInt .i64 n), .held ev)
    exact rd_mk (yv := (.held ev, [])) (keyOf_int_mk hk (wf_i64 hn)) hv0
  refine ⟨ces, cclock, p, h1, hp, hm, g2, g1, ?_, ces, cclock, h1, ⟨by omega, ⟨h4, h3, ?_⟩, fun x hx => ?_⟩, by omega, rfl⟩
  · refine List.map_congr_left fun e he => ?_
    obtain ⟨n, hn, hke, hr⟩ := hrd e he
    rw [rg_of hr, hke]
  · have := (hp.map (·.key)).nodup_iff.1 (by rw [g1]; exact nodup_keys g2 hnd)
    exact this
  · obtain ⟨n, _, _, hr⟩ := hrd x (hp.mem_iff.2 hx)
    exact ⟨_, hr⟩

/-! ## The walk of the iterator, where the box lies anywhere -/

section
variable {P : Program} {ρ : Ren}

set_option maxRecDepth 100000 in
set_option maxHeartbeats 1000000 in
theorem keysAt_in (L : SlLaysZI.n10 P ρ) {H : Type} (F : Fence) (n : Nat) (h10 : F.fn (ρ.f 10)) (hro : F.round = none) (hn : 1 ≤ n) (l Bm om b nn : Nat) (D0 : DataW H) {R : Value → Option (DataW H × List MemPlace)} (J : List Int → World → Prop)
    (hY : ∀ pre x W, J pre W → pre.length < Maps.size D0 → YieldAt F (n - 1) P l #[encZ x] W fun e W' => e = .returned (.bool true) ∧ J (pre ++ [x]) W' ∧ KeepsWalks W W')
    (W : World) (hJ : AbidesFrom W.heap.size J) (hm : W.cell? ⟨Bm, om, none⟩ = some (.map (some b))) (hown : W.ownsMap P (ρ.t 26) R b nn D0) (h0 : J [] W) :
    CallsIn F n P (ρ.f 10) #[.func (.yield l) #[] #[], .pointer (some ⟨Bm, om, none⟩)] W fun e W' => (∃ v, e = .returned v) ∧ ∃ ss : List Int, ss.Perm (intKeys D0) ∧ J ss W' := by
  have mixed := L.mixed; have t0 := L.t0; have a0 := L.a0; have z0 := L.z0; have v0 := L.v0; have t4 := L.t4; have a4 := L.a4; have z4 := L.z4; have v4 := L.v4; have t23 := L.t23; have a23 := L.a23; have z23 := L.z23; have v23 := L.v23; have t26 := L.t26; have a26 := L.a26; have z26 := L.z26; have v26 := L.v26; have t33 := L.t33; have a33 := L.a33; have z33 := L.z33; have v33 := L.v33
  have u0 := run_underlying L.t0; have u4 := run_underlying L.t4; have u23 := run_underlying L.t23; have u26 := run_underlying L.t26; have u33 := run_underlying L.t33
  obtain ⟨_, _, FG⟩ := L.f10
  refine callsIn_of_wp FG rfl h10 ?_ hro
  simp only [SlBodyZ.n10_ntmps ρ, List.size_toArray, List.length_cons, List.length_nil, Nat.reduceAdd, Nat.reduceSub, Array.replicate_succ, Array.replicate_zero, List.push_toArray, List.append_toArray, List.nil_append, List.cons_append]
  gi_wp2_with (first
    | (gi_at_range; refine wpListIn_range_own _ rfl _ (ρ.t 23) rfl (ρ.t 26) (ρ.t 3) (int_keyed L.t26) L.t23 _ b nn _ rfl hown ?_; intro w0 hrg0 hg0 hs0)
    | gi_in)
  go_frame
  gi_loopw [3] (fun _ wr => ∃ (left : Lit → Bool) (cnt : Nat) (ss : List Int), wr.ranges P (ρ.t 26) R b W.heap.size nn D0 left cnt ∧ ss.length + cnt ≤ Maps.size D0 ∧ CollectedI D0 left ss ∧ J ss wr)
    (fun _ wr => wr.rangeLeft b W.heap.size)
  case atStart =>
    exact ⟨_, _, [], hrg0, by simp, CollectedI.start D0, hJ [] W w0 none h0 hg0 (fun r e => by cases e)⟩
  case round =>
    obtain ⟨left, cnt, ss, hrg, hcs, hC, hJs⟩ := hrel
    gi_wp2_with (first
      | (gi_at_next; refine wpListIn_next_ranges _ rfl _ rfl (ρ.t 26) (int_keyed L.t26) R encZ id (fun key kl hk => by obtain ⟨x, hx, _⟩ := Maps.keyOf_i64 L.t26 hk; exact ⟨x, hx⟩) (fun v _ _ => ⟨v, rfl⟩) b W.heap.size nn _ _ _ rfl hrg ?_ ?_)
      | gi_in)
    · intro hc0 hl0
      gi_wp2
      go_end0
      exact ⟨⟨_, rfl⟩, ss, hC.perm hown (int_keyed L.t26) L.t26 hl0, hJs⟩
    · intro x c kl yd yp w2 cnt2 hkey hlk hv hat hrg2 hlt hg2 hs2 hen
      obtain ⟨x', ex, rfl, _⟩ := Maps.keyOf_i64 L.t26 hkey
      obtain rfl : x = x' := encZ_inj ex
      have hJ2 : J ss w2 := hJ ss wr w2 (some W.heap.size) hJs hg2 (fun r e => by cases e; exact ⟨Nat.le_refl _, hrg.iter_walk⟩)
      obtain ⟨fn, tmps, assign, body, hy, hR⟩ := hY ss x w2 hJ2 (by omega)
      clear hs2
      gi_wp2
      refine hR.mono ?_
      rintro e W3 ⟨rfl, hJ3, hk3⟩
      gi_wp2
      have hrg3 := hrg2.of_walks hk3
      go_roundw
      case rel => exact ⟨_, cnt2, ss ++ [x], hrg3, by simp; omega, hC.step hlk hat, hJ3⟩
      case measure => rw [hrg3.left_eq, hrg.left_eq]; exact hlt

theorem keysAt_gives (L : SlLaysZI.n10 P ρ) {H : Type} (F : Fence) (n : Nat) (h10 : F.fn (ρ.f 10)) (hro : F.round = none) (hn : 1 ≤ n) (Bm om b nn : Nat) (D0 : DataW H) {R : Value → Option (DataW H × List MemPlace)} (w : World) (hBm : Bm < w.heap.size)
    (hm : w.cell? ⟨Bm, om, none⟩ = some (.map (some b))) (hown : w.ownsMap P (ρ.t 26) R b nn D0) :
    SeqGives F n P (ρ.f 10) #[.pointer (some ⟨Bm, om, none⟩)] encZ (fun ss => ss.Perm (intKeys D0)) (Maps.size D0) w := fun l J W hW hJ hY h0 => by
  have hown' : W.ownsMap P (ρ.t 26) R b nn D0 := by
    have hbl := hown.lt
    obtain ⟨es, clock, hb, Ft, hs, hD⟩ := hown
    exact ⟨es, clock, (hW.block b hbl).trans hb, Ft, hs, hD⟩
  exact keysAt_in { L with } F n h10 hro hn l Bm om b nn D0 J hY W hJ ((hW.cell (p := ⟨Bm, om, none⟩) hBm).trans hm) hown' h0
end

/-! ## What is made below, seen from the heap -/

/-- Nothing that lay there has turned, and one new block is put to use. -/
theorem Ext.of_below {μ : Inj} {H : AH} {w w' : World} (h : HRel μ H w) (hb : Below w.heap.size w w') {o : AObj} {g r : Nat} (hg : w.heap.size ≤ g) (ho : ORel (μ.upd H.next (g, 0, r)) H.next o g 0 r w') :
    Ext μ H w (μ.upd H.next (g, 0, r)) (H.push o) w' := by
  have hfresh := (h.fresh H.next (Nat.le_refl _)).1
  have hle : μ.le (μ.upd H.next (g, 0, r)) := Inj.le_upd hfresh
  have hold : ∀ b, b ≠ H.next → (μ.upd H.next (g, 0, r)) b = μ b := fun b hb => by simp [Inj.upd, hb]
  have hdead : H.get H.next = none := by
    cases e : H.get H.next with
    | none => rfl
    | some o => obtain ⟨β, δ, r, hμ, _⟩ := h.obj _ _ e; rw [hfresh] at hμ; cases hμ
  have hget : ∀ b, b ≠ H.next → (H.push o).get b = H.get b := fun b hb => by rw [AH.get_push, if_neg (fun e => hb e.1)]
  have hplace : ∀ b β δ r', (H.get b).isSome = true → μ b = some (β, δ, r') → β < w.heap.size := fun b β δ r' hs hm => h.img_lt ⟨b, δ, r', hs, hm⟩
  refine ⟨hle, ⟨fun b o' hg' => ?_, fun b b' β δ r1 δ' r2 hs hs' hm hm' => ?_, fun b hb => ?_, fun b es clock hg' s hs => ?_⟩, hb.size, by simp [AH.push], fun b hb' hs => ?_, fun b β δ r' h1 h2 => ?_, fun β hβ _ => hb.block β hβ, hb.os, hb.output, fun b s x h1 h2 => by (rw [show (μ.upd H.next (g, 0, r)).st b s = μ.st b s from rfl, h1] at h2; cases h2)⟩
  · by_cases e : b = H.next
    · subst e
      rw [AH.get_push] at hg'
      split at hg'
      · injection hg' with hg'; subst hg'
        exact ⟨_, _, _, Inj.upd_same _ _ _, ho⟩
      · rw [hdead] at hg'; cases hg'
    · rw [hget b e] at hg'
      obtain ⟨β, δ, r', hm, hr⟩ := h.obj b o' hg'
      exact ⟨β, δ, r', by rw [hold b e]; exact hm, hr.keep hle (hb.block _ hr.lt)⟩
  · by_cases e : b = H.next <;> by_cases e' : b' = H.next
    · rw [e, e']
    · subst e
      rw [Inj.upd_same] at hm; injection hm with hm; injection hm with hm1 hm2
      rw [hget b' e'] at hs'; rw [hold b' e'] at hm'
      have := hplace b' _ _ _ hs' hm'; omega
    · subst e'
      rw [Inj.upd_same] at hm'; injection hm' with hm1; injection hm1 with hm1 hm2
      rw [hget b e] at hs; rw [hold b e] at hm
      have := hplace b _ _ _ hs hm; omega
    · rw [hget b e] at hs; rw [hget b' e'] at hs'; rw [hold b e] at hm; rw [hold b' e'] at hm'
      exact h.inj b b' β δ r1 δ' r2 hs hs' hm hm'
  · simp only [AH.push] at hb
    rw [hold b (by omega)]; exact h.fresh b (by omega)
  · by_cases e : b = H.next
    · subst e; exact (h.fresh _ (Nat.le_refl _)).2 s
    · rw [hget b e] at hg'; exact h.freshS b es clock hg' s hs
  · rwa [hget b (by omega)] at hs
  · by_cases e : b = H.next
    · subst e
      rw [Inj.upd_same] at h2; injection h2 with h2; injection h2 with h2 h3
      exact ⟨Nat.le_refl _, .inl (by omega)⟩
    · rw [hold b e, h1] at h2; cases h2

theorem Ext.below {μ : Inj} {H : AH} {w w' : World} (h : HRel μ H w) (hb : Below w.heap.size w w') : Ext μ H w μ H w' where
  le := μ.le_refl
  rel := ⟨fun b o hb' => by
      obtain ⟨β, δ, r, hμ, ho⟩ := h.obj b o hb'
      exact ⟨β, δ, r, hμ, ho.keep μ.le_refl (hb.block _ ho.lt)⟩, h.inj, h.fresh, h.freshS⟩
  size := hb.size
  next := Nat.le_refl _
  live := fun _ _ hs => hs
  img := fun b β δ r h1 h2 => by rw [h1] at h2; cases h2
  frame := fun β hβ _ => hb.block β hβ
  os := hb.os
  out := hb.output
  stamp := fun b s x h1 h2 => by rw [h1] at h2; cases h2

theorem upBy_pw {f : Nat → Nat} : ∀ {l : List Nat}, upBy f l = true → l.Pairwise (fun a b => f a < f b)
  | [], _ => .nil
  | a :: r, h => by
    simp only [upBy, Bool.and_eq_true] at h
    have ih := upBy_pw h.2
    refine List.pairwise_cons.2 ⟨fun x hx => ?_, ih⟩
    cases r with
    | nil => cases hx
    | cons b l =>
      have h1 : f a < f b := by simpa [Nat.blt_eq] using h.1
      rcases List.mem_cons.1 hx with rfl | hx
      · exact h1
      · exact Nat.lt_trans h1 ((List.pairwise_cons.1 ih).1 x hx)
theorem upNums_nodup {l : List Nat} (h : upNums l = true) : l.Pairwise (fun a b => key .i64 a < key .i64 b) := upBy_pw h

theorem expand_ints : ∀ (l : List Nat), expand (l.map (AV.int .i64 ·)) = l.map (AV.int .i64 ·)
  | [] => rfl
  | n :: l => by rw [List.map_cons, expand_cons, expand_ints l]; rfl

section
variable {P : Program} {ρ ρk : Ren}
set_option maxRecDepth 10000 in
theorem sortedO_ok (L6 : SlLaysZI.n6 P ρ) (L10 : SlLaysZI.n10 P ρk) (hs : ∀ m, AnyZI.SortsIn P ρ Fence.wide m) (e9 : Enters P (ρ.f 9)) {fn : Func} {c : Code} (hf : P.funcs[ρ.f 6]? = some fn) (hn : (fn.name == "runtime.NumGoroutine") = false) (hbd : fn.body = some c)
    (eg : Enters P (ρk.f 10)) {args : List AV} {H : AH} {v : AV} {H' : AH} (h : sortedO (ρk.f 10) args H = some (v, H')) {μ : Inj} {w : World} {cargs : List Value} (hr : HRel μ H w) (hl : LRel μ args cargs) :
    FnOk P μ H w (ρ.f 6) cargs.toArray v H' := by
  unfold sortedO at h
  split at h
  · rename_i g b
    split at h
    · rename_i hg
      subst hg
      split at h
      · rename_i k hb
        split at h
        · rename_i m hm
          split at h
          · rename_i es clock hmm
            split at h
            · rename_i l hk
              split at h
              · rename_i hup
                simp only [Bool.and_eq_true] at hup
                obtain ⟨hup, hlen⟩ := hup
                have hlen := Nat.le_of_ble_eq_true hlen
                -- the arguments
                cases hl with
                | cons h1 t =>
                cases t
                cases h1 with
                | fn _ hf1 hf2 =>
                cases hf1
                cases hf2 with
                | cons hp t =>
                cases t
                cases hp with
                | ptr hμ =>
                rename_i β δ r
                obtain ⟨β', δ', r', hμ', ho⟩ := hr.obj b _ hb
                rw [hμ] at hμ'; injection hμ' with e; injection e with e1 e; injection e with e2 e3; subst e1 e2 e3
                have hlt := ho.lt
                obtain ⟨_, _, _, _, hcells⟩ := ho
                rw [Blk.rd1_eq] at hm
                obtain ⟨_, cm, hcm, hvm⟩ := hcells _ _ hm
                cases hvm with
                | map hμm =>
                rename_i βm δm rm
                obtain ⟨β', δ', r', hμ', hom⟩ := hr.obj m _ hmm
                rw [hμm] at hμ'; injection hμ' with e; injection e with e1 e; injection e with e2 e3; subst e1 e2 e3
                have hperm := sortNums_perm l
                have hpw := upNums_nodup hup
                have hnd : l.Nodup := hperm.nodup_iff.1 (hpw.imp fun {a b} hlt e => by subst e; exact Nat.lt_irrefl _ hlt)
                obtain ⟨ces, cclock, p, q1, q2, q3, q4, q5, q6, q7⟩ := owns_of_rel L10.t26 heldR hom hk hnd (by unfold maxLen; omega) (fun _ _ _ _ => rfl)
                generalize hD : (DataW.map ((ces.toList.map (rg P (ρk.t 26) heldR)).foldr DataW.insert [])) = D at q7
                have hkeys : (intKeys D).Perm (l.map (toInt .i64)) := by
                  rw [← hD]
                  have p1 : ((ces.toList.map (rg P (ρk.t 26) heldR)).foldr DataW.insert []).Perm (p.map (rg P (ρk.t 26) heldR)) := (WideShapes.sorted_perm _).trans (q2.symm.map _)
                  have p2 := p1.map (fun x => intOf x.1)
                  refine p2.trans (.of_eq ?_)
                  rw [q6, List.map_map]
                  have hnum : ∀ e ∈ p, ((fun x : Lit × DataW Value => intOf x.1) ∘ fun e : MapEntry => (match e.key with | .int q a => Lit.int q a | _ => .bool false, DataW.held e.val)) e = numOf e.key := by
                    intro e _
                    simp only [Function.comp]
                    cases e.key <;> rfl
                  rw [List.map_congr_left hnum]
                  have e5 := congrArg (List.map numOf) q5
                  rw [List.map_map, List.map_map] at e5
                  exact e5
                have hDs : Maps.size D = l.length := by
                  have := hkeys.length_eq
                  rw [← hD] at this ⊢
                  simpa [intKeys, Maps.size] using this
                have hseq := keysAt_gives L10 Fence.wide 3 trivial rfl (by omega) β (δ + 0) βm l.length D w hlt hcm q7
                have cS := (callsIn_wide (n := 6)).1 (AnyZI.sorted_in L6 Fence.wide 6 trivial trivial trivial trivial rfl (by omega) (hs _) e9 (ρk.f 10) #[.pointer (some ⟨β, δ + 0, none⟩)] trivial eg _ _ (by rw [hDs]; unfold maxLen; omega) (by rw [hDs]; omega) w hseq)
                refine .inl ⟨fn, c, hf, hn, hbd, cS.mono ?_⟩
                rintro e w' ⟨v', ss, rfl, hS, hrow, hnil, hbel⟩
                have hsort := sortNums_eq q4 (hS.trans hkeys)
                rw [hsort] at hrow
                have hlens : ss.length = l.length := by rw [(hS.trans hkeys).length_eq, List.length_map]
                split at h
                · -- nothing is there
                  cases h
                  have hss : ss = [] := List.eq_nil_of_length_eq_zero (by rw [hlens]; rfl)
                  rw [hnil.2 hss]
                  exact ⟨μ, Ext.below hr hbel, .nils⟩
                · rename_i hne
                  cases h
                  rcases hrow.2 with ⟨_, hz⟩ | ⟨gb, cap, cur, rfl, hbase, hgb, r1, r2, r3, r4⟩
                  · exact absurd (List.eq_nil_of_length_eq_zero (hlens ▸ hz)) hne
                  · have hsl : (sortNums l).length = l.length := hperm.length_eq
                    have ho : ORel (μ.upd H.next (gb, 0, cap)) H.next (.blk (.lst l.length ((sortNums l).map (.int .i64 ·)))) gb 0 cap w' := by
                      refine ⟨?_, by simp only [Blk.size]; omega, ⟨ρ.t 26, by simp only [World.shape?, hgb]; simp; omega⟩, fun i hi => by simp only [World.frozen?, hgb]; simp, fun i v hv => ?_⟩
                      · show clen _ = _
                        rw [clen_eq, expand_ints, List.length_map, hsl]
                      · simp only [Blk.cell, expand_ints, List.getElem?_map, Option.map_eq_some_iff] at hv
                        obtain ⟨x, hx, rfl⟩ := hv
                        have hi : i < l.length := by rw [← hsl]; exact (List.getElem?_eq_some_iff.1 hx).1
                        refine ⟨rfl, .int .i64 (toInt .i64 x), ?_, .int _ _ (q4 x (hperm.mem_iff.1 (List.mem_of_getElem? hx)))⟩
                        have hcur : cur.toList[i]? = some (.int .i64 (toInt .i64 x)) := by
                          have := congrArg (fun l => l[i]?) r4
                          rw [List.getElem?_take_of_lt (by omega)] at this
                          rw [this]
                          simp [hx]
                        simp only [World.cell?, hgb]
                        simpa using hcur
                    refine ⟨_, Ext.of_below hr hbel hbase ho, ?_⟩
                    rw [hlens]
                    exact .slc (δ := 0) (o := 0) (Inj.upd_same _ _ _) (Nat.le_refl _) (by omega) (fun e => by cases e) (fun _ => by omega)
              · cases h
            · cases h
          · cases h
        · cases h
      · cases h
    · cases h
  · cases h
end

end Go.Abs
