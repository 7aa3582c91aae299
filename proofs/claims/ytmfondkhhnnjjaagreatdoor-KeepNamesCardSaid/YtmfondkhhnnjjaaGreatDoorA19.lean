/- Appending. -/
import Derived.Test.YtmfondkhhnnjjaaGreatDoorA17
import Derived.Deep.AppendSrc
import Derived.Room.AppendOwn

namespace Go.Abs

/-- What appending comes to. (Where it asks for more room than there is, it lays a mark and goes on.) -/
def AOk (P : Program) (μ : Inj) (H : AH) (w : World) (s : Sem Value) (v : AV) (H' : AH) : Prop := VOk P μ H w s v H'

section
variable {P : Program} {μ : Inj} {H : AH} {w : World}

theorem HRel.same {w' : World} (h : HRel μ H w) (e : w'.heap = w.heap) : HRel μ H w' :=
  ⟨fun b o hb => let ⟨β, δ, r, hμ, ho⟩ := h.obj b o hb; ⟨β, δ, r, hμ, ho.keep μ.le_refl (by rw [e])⟩, h.inj, h.fresh, h.freshS⟩

theorem Ext.same {w' : World} (h : HRel μ H w) (e : w'.heap = w.heap) (hos : w'.os = w.os) (hout : w'.output = w.output) : Ext μ H w μ H w' :=
  ⟨μ.le_refl, h.same e, by rw [e]; exact Nat.le_refl _, Nat.le_refl _, fun _ _ h => h, fun b β δ r h1 h2 => by rw [h1] at h2; (cases h2), fun _ _ _ => by rw [e], hos, hout, fun b s x h1 h2 => by rw [h1] at h2; (cases h2)⟩

theorem Ext.of_kill (h : HRel μ H w) (b : Nat) : Ext μ H w μ (H.kill b) w := by
  have hback : ∀ b' o, (H.kill b).get b' = some o → H.get b' = some o := by
    intro b' o hg
    rw [AH.get_kill] at hg
    split at hg
    · cases hg
    · exact hg
  have hback' : ∀ b', ((H.kill b).get b').isSome = true → (H.get b').isSome = true := by
    intro b' hs
    obtain ⟨o, ho⟩ := Option.isSome_iff_exists.1 hs
    rw [hback _ _ ho]; rfl
  exact ⟨μ.le_refl, ⟨fun b' o hb => h.obj b' o (hback _ _ hb), fun b1 b2 β δ1 r1 δ2 r2 h1 h2 => h.inj b1 b2 β δ1 r1 δ2 r2 (hback' _ h1) (hback' _ h2), h.fresh, fun b' es clock hg => h.freshS b' es clock (hback _ _ hg)⟩,
    Nat.le_refl _, Nat.le_refl _, fun b' _ hs => hback' b' hs, fun b' β' δ' r' h1 h2 => by (rw [h1] at h2; cases h2), fun _ _ _ => rfl, rfl, rfl, fun b s x h1 h2 => by (rw [h1] at h2; cases h2)⟩

/-- A block's number given up; a new one for a part of what it named. -/
theorem Ext.of_take (h : HRel μ H w) {b : Nat} {o0 o : AObj} (hb : H.get b = some o0) {β δ r d q : Nat} (hμ : μ b = some (β, δ, r)) {w' : World}
    (hrel : ORel (μ.upd H.next (β, d, q)) H.next o β d q w') (hsize : w'.heap.size = w.heap.size) (hother : ∀ β', β' ≠ β → w'.heap[β']? = w.heap[β']?) (hos : w'.os = w.os) (hout : w'.output = w.output) :
    Ext μ H w (μ.upd H.next (β, d, q)) ((H.kill b).push o) w' := by
  have hfresh := (h.fresh H.next (Nat.le_refl _)).1
  have hle : μ.le (μ.upd H.next (β, d, q)) := Inj.le_upd hfresh
  have hold : ∀ b', b' ≠ H.next → (μ.upd H.next (β, d, q)) b' = μ b' := fun b' hb => by simp [Inj.upd, hb]
  have hb0 := AH.get_lt hb
  have hget : ∀ b' o', b' ≠ H.next → ((H.kill b).push o).get b' = some o' → b' ≠ b ∧ H.get b' = some o' := by
    intro b' o' hne hg
    rw [AH.get_push, if_neg (fun e => hne e.1), AH.get_kill] at hg
    split at hg
    · cases hg
    · rename_i hn; exact ⟨fun e => hn ⟨e, hb0⟩, hg⟩
  have hgets : ∀ b', b' ≠ H.next → (((H.kill b).push o).get b').isSome = true → b' ≠ b ∧ (H.get b').isSome = true := by
    intro b' hne hs
    obtain ⟨o', ho⟩ := Option.isSome_iff_exists.1 hs
    obtain ⟨h1, h2⟩ := hget _ _ hne ho
    exact ⟨h1, by rw [h2]; rfl⟩
  have hbs : (H.get b).isSome = true := by rw [hb]; rfl
  have hne : ∀ b' β' δ' r', b' ≠ b → (H.get b').isSome = true → μ b' = some (β', δ', r') → β' ≠ β := by
    intro b' β' δ' r' hn hs hm e
    subst e
    exact hn (h.inj b' b β' δ' r' δ r hs hbs hm hμ)
  refine ⟨hle, ⟨fun b' o' hg => ?_, fun b1 b2 β' δ1 r1 δ2 r2 hs1 hs2 hm1 hm2 => ?_, fun b' hb' => ?_, fun b' es clock hg s hs => ?_⟩, by omega, by simp [AH.push, AH.kill], fun b' hb' hs => ?_, fun b' β' δ' r' h1 h2 => ?_, fun β' hβ hi => hother β' fun e => hi ⟨b, δ, r, hbs, by rw [e]; exact hμ⟩, hos, hout, fun b' s x h1 h2 => by (rw [show (μ.upd H.next (β, d, q)).st b' s = μ.st b' s from rfl, h1] at h2; cases h2)⟩
  · by_cases e : b' = H.next
    · subst e
      rw [AH.get_push] at hg
      split at hg
      · injection hg with hg; subst hg
        exact ⟨_, _, _, Inj.upd_same _ _ _, hrel⟩
      · rename_i hn
        have hd : H.get H.next = none := by
          cases e : H.get H.next with
          | none => rfl
          | some o => obtain ⟨β, δ, r, hμ, _⟩ := h.obj _ _ e; rw [hfresh] at hμ; cases hμ
        rw [AH.get_kill, hd] at hg
        split at hg <;> cases hg
    · obtain ⟨hn, hg⟩ := hget _ _ e hg
      obtain ⟨β', δ', r', hm, hr⟩ := h.obj b' o' hg
      exact ⟨β', δ', r', by rw [hold b' e]; exact hm, hr.keep hle (hother _ (hne _ _ _ _ hn (by rw [hg]; rfl) hm))⟩
  · by_cases e1 : b1 = H.next <;> by_cases e2 : b2 = H.next
    · rw [e1, e2]
    · subst e1
      rw [Inj.upd_same] at hm1; injection hm1 with hm1; injection hm1 with hm1 _; subst hm1
      rw [hold b2 e2] at hm2
      obtain ⟨hn, hs⟩ := hgets _ e2 hs2
      exact absurd rfl (hne _ _ _ _ hn hs hm2)
    · subst e2
      rw [Inj.upd_same] at hm2; injection hm2 with hm2; injection hm2 with hm2 _; subst hm2
      rw [hold b1 e1] at hm1
      obtain ⟨hn, hs⟩ := hgets _ e1 hs1
      exact absurd rfl (hne _ _ _ _ hn hs hm1)
    · rw [hold b1 e1] at hm1; rw [hold b2 e2] at hm2
      exact h.inj b1 b2 β' δ1 r1 δ2 r2 (hgets _ e1 hs1).2 (hgets _ e2 hs2).2 hm1 hm2
  · simp only [AH.push, AH.kill] at hb'
    rw [hold b' (by omega)]; exact h.fresh b' (by omega)
  · by_cases e : b' = H.next
    · subst e; exact (h.fresh _ (Nat.le_refl _)).2 s
    · exact h.freshS b' es clock (hget _ _ e hg).2 s hs
  · exact (hgets b' (by omega) hs).2
  · by_cases e : b' = H.next
    · subst e
      rw [Inj.upd_same] at h2; injection h2 with h2; injection h2 with h2 h3; subst h2
      exact ⟨Nat.le_refl _, .inr ⟨b, δ, r, hbs, hμ⟩⟩
    · rw [hold b' e, h1] at h2; cases h2

theorem VOk.after {H2 : AH} {w2 : World} {s : Sem Value} {v : AV} {H' : AH} (h : HRel μ H w) (e : Ext μ H w μ H2 w2) (ho : ∃ μ' w' c, s.run P w = .ok c w' ∧ Ext μ H2 w2 μ' H' w' ∧ VRel μ' v c) : VOk P μ H w s v H' :=
  let ⟨μ', w', c, h1, h2, h3⟩ := ho
  ⟨μ', w', c, h1, e.trans h h2, h3⟩

theorem Row.oneCell {l : List AV} {cs : List Value} (h : Row μ l cs) : ∀ c ∈ cs, c.oneCell' = true := by
  intro c hcm
  obtain ⟨j, hj⟩ := List.mem_iff_getElem?.1 hcm
  have hlt := (List.getElem?_eq_some_iff.1 hj).1
  have e := List.getElem?_eq_getElem (l := expand l) (i := j) (by rw [h.1.length]; exact hlt)
  obtain ⟨c', hc', hv⟩ := h.1.get j _ e
  rw [hj] at hc'; injection hc' with hc'; subst hc'
  exact hv.one (h.2 _ (List.getElem_mem _))

theorem Row.cat {l m : List AV} {cs ds : List Value} (h : Row μ l cs) (g : Row μ m ds) : Row μ (catC l m) (cs ++ ds) := by
  refine ⟨by rw [expand_catC]; exact h.1.append g.1, fun v hv => ?_⟩
  rw [expand_catC] at hv
  rcases List.mem_append.1 hv with hv | hv
  · exact h.2 v hv
  · exact g.2 v hv

theorem expand_repG (z : List AV) : ∀ n, expand (repG z n) = (List.replicate n (expand z)).flatten
  | 0 => rfl
  | n + 1 => by rw [repG, expand_append, expand_repG z n, List.replicate_succ, List.flatten_cons]

theorem expand_repA (z : List AV) (n : Nat) : expand (repA n z) = (List.replicate n (expand z)).flatten := by
  unfold repA
  split
  · simp only [expand, List.append_nil]
    have : runCells n 0 = List.replicate n (.int .u8 0) := by
      apply List.ext_getElem?
      intro i
      by_cases h : i < n
      · rw [runCells_get n 0 i h, List.getElem?_replicate, if_pos h]
        simp [shr8_eq]
      · rw [List.getElem?_eq_none (by simp; omega), List.getElem?_eq_none (by simp; omega)]
    rw [this]
    clear this
    induction n with
    | zero => rfl
    | succ n ih => rw [List.replicate_succ, List.replicate_succ, List.flatten_cons, ← ih]; rfl
  · exact expand_repG _ _

theorem LRel.rep {l : List AV} {cs : List Value} (h : LRel μ l cs) : ∀ n, LRel μ (List.replicate n l).flatten (List.replicate n cs).flatten
  | 0 => .nil
  | n + 1 => by rw [List.replicate_succ, List.replicate_succ, List.flatten_cons, List.flatten_cons]; exact h.append (h.rep n)

theorem Row.rep {z : List AV} {cs : List Value} (h : Row μ z cs) (n : Nat) : Row μ (repA n z) (List.replicate n cs).flatten := by
  refine ⟨by rw [expand_repA]; exact h.1.rep n, fun v hv => ?_⟩
  rw [expand_repA, List.mem_flatten] at hv
  obtain ⟨l, hl, hv⟩ := hv
  rw [(List.mem_replicate.1 hl).2] at hv
  exact h.2 v hv

theorem get_rep (cs : List Value) : ∀ (n i : Nat), (List.replicate n cs).flatten[i]? = if i < n * cs.length then cs[i % cs.length]? else none
  | 0, i => by simp
  | n + 1, i => by
    rw [List.replicate_succ, List.flatten_cons]
    have e : (n + 1) * cs.length = n * cs.length + cs.length := Nat.succ_mul _ _
    by_cases h : i < cs.length
    · rw [List.getElem?_append_left h, Nat.mod_eq_of_lt h, if_pos (by omega)]
    · rw [List.getElem?_append_right (by omega), get_rep cs n]
      have hm : (i - cs.length) % cs.length = i % cs.length := by
        conv => rhs; rw [← Nat.sub_add_cancel (Nat.le_of_not_lt h), Nat.add_mod_right]
      rw [hm]
      by_cases h2 : i < (n + 1) * cs.length
      · rw [if_pos h2, if_pos (by omega)]
      · rw [if_neg h2, if_neg (by omega)]

theorem range_rep (cs : List Value) (n : Nat) (f : Nat → Value) (hf : ∀ i c, cs[i]? = some c → f i = c) : ((Array.range (n * cs.length)).map fun i => f (i % cs.length)).toList = (List.replicate n cs).flatten := by
  apply List.ext_getElem?
  intro i
  rw [get_rep]
  by_cases h : i < n * cs.length
  · have hpos : 0 < cs.length := Nat.pos_of_ne_zero fun e => by rw [e] at h; simp at h
    have hlt : i % cs.length < cs.length := Nat.mod_lt _ hpos
    rw [if_pos h, List.getElem?_eq_getElem hlt]
    simp [h, hf _ _ (List.getElem?_eq_getElem hlt)]
  · rw [if_neg h]; simp; omega

theorem zeroCells_list (cs : List Value) (n : Nat) : (Builtin.zeroCells cs.toArray n).toList = (List.replicate n cs).flatten := by
  have := range_rep cs n (fun i => cs.toArray[i]!) (fun i c h => by
    obtain ⟨hlt, rfl⟩ := List.getElem?_eq_some_iff.1 h
    simp [hlt])
  simpa [Builtin.zeroCells] using this

/-- What is appended, as the model's append takes it: the three ways of its run. -/
structure Apd (P : Program) (t tx ty e : TypeId) (i : TypeInfo) (z : Value) (cx : Value) (m : Nat) (news : List Value) (w : World) : Prop where
  len : news.length = m * i.size
  none : m = 0 → ∀ base n cc, n ≤ cc → (Builtin.append_ #[t, tx] ty #[.slice base n cc, cx]).run P w = .ok (.slice base n cc) w
  room : ∀ (a : Addr) n cc w', n + m ≤ cc → (storeCells (a.add (n * i.size)) news).run P w = .ok () w' → (Builtin.append_ #[t, tx] ty #[.slice (some a) n cc, cx]).run P w = .ok (.slice (some a) (n + m) cc) w'
  grow : ∀ base n cc olds, (Builtin.firstCells i.size n (.slice base n cc)).run P w.drew = .ok (List.toArray olds) w.drew → cc < n + m → ((n + m : Nat) : Int) ≤ 9223372036854775807 → Builtin.nextslicecap (n + m) cc * i.bytes ≤ 281474976710656 →
    (Builtin.append_ #[t, tx] ty #[.slice base n cc, cx]).run P w =
      .ok (.slice (some ⟨w.heap.size, 0, Option.none⟩) (n + m) (grownCap w (n + m) cc e)) (w.drew.alloc (.cells ((olds ++ news).toArray ++ Builtin.zeroCells z.cells (grownCap w (n + m) cc e - (n + m))) e))

theorem lenOf_pure {x : AV} {c : Value} {n : Nat} (hx : VRel μ x c) (h : srcLen x = some n) : Builtin.lenOf c = Sem.pure n := by
  unfold srcLen at h
  split at h
  · cases hx; injection h with h; subst h; rfl
  · cases hx; injection h with h; subst h; rfl
  · cases hx; injection h with h; subst h; rfl
  · cases hx with
    | str _ _ s hs => injection h with h; subst h; simp only [Builtin.lenOf, str_size hs]; rfl
  · cases h

/-- Nothing is appended. -/
theorem run_append_none {t tx ty e : TypeId} {i : TypeInfo} (ht : P.underlying t = some (.slice e)) (hi : P.info? e = some i) {cx : Value} {news : List Value} (hs : Src P i.size tx cx 0 news w) {base : Option Addr} {n cc : Nat} (hn : n ≤ cc) :
    (Builtin.append_ #[t, tx] ty #[.slice base n cc, cx]).run P w = .ok (.slice base n cc) w := by
  have hnil : news = [] := List.eq_nil_of_length_eq_zero (by rw [hs.newsLen]; simp)
  subst hnil
  rcases hs.kind with ⟨e', hk⟩ | hk <;> cases base <;>
    simp [Builtin.append_, run_underlying ht, run_underlying hk, sizeOf, typeInfo, hi, hs.len, hn, hs.cells, run_storeCells_nil]

theorem Apd.of_src {t tx ty e : TypeId} {i : TypeInfo} {z : Value} (ht : P.underlying t = some (.slice e)) (hi : P.info? e = some i) (hz : i.zero = some z) {cx : Value} {m : Nat} {news : List Value} (hs : Src P i.size tx cx m news w) : Apd P t tx ty e i z cx m news w where
  len := hs.newsLen
  none := fun hm base n cc hn => by subst hm; exact run_append_none ht hi hs hn
  room := fun a n cc w' hroom hrun => by
    rcases hs.kind with ⟨e', hk⟩ | hk <;>
      simp [Builtin.append_, run_underlying ht, run_underlying hk, sizeOf, typeInfo, hi, hs.len, hroom, hs.cells, hrun]
  grow := fun base n cc olds hold hg h63 hfit => run_append_grow_src (P := P) w t tx ty e i z ht hi hz base n cc olds hold cx m news hs hg h63 hfit

theorem Apd.of_int {t tx ty e : TypeId} {i : TypeInfo} {z : Value} (ht : P.underlying t = some (.slice e)) (hi : P.info? e = some i) (hz : i.zero = some z) (hzs : z.cells.size = i.size) {kn k : IntKind} (htx : P.underlying tx = some (.int kn)) {m : Nat} (h40 : m ≤ 2 ^ 40) (hb : m * i.bytes ≤ 2 ^ 40) :
    Apd P t tx ty e i z (.int k (m : Int)) m (Builtin.zeroCells z.cells m).toList w := by
  have hw : IntKind.i64.wrap (m : Int) = m := by rw [IntKind.wrap_i64]; omega
  have h48 : ¬ (281474976710656 < (m : Int) * (i.bytes : Int)) := by
    have : ((m * i.bytes : Nat) : Int) = (m : Int) * (i.bytes : Int) := by push_cast; rfl
    omega
  have hneg : ¬ ((m : Int) < 0) := by omega
  have hlen : (Builtin.zeroCells z.cells m).toList.length = m * i.size := by simp [Builtin.zeroCells, hzs]
  have hnil : m * i.size = 0 → (Builtin.zeroCells z.cells m).toList = [] := fun h0 => List.eq_nil_of_length_eq_zero (by rw [hlen, h0])
  refine ⟨hlen, fun hm base n cc hn => ?_, fun a n cc w' hroom hrun => ?_, fun base n cc olds hold hg h63 hfit => ?_⟩
  · subst hm
    cases base <;> simp [Builtin.append_, run_underlying ht, run_underlying htx, sizeOf, typeInfo, hi, asInt, asIntOf, hn, run_storeCells_nil, IntKind.wrap_i64]
  · by_cases h0 : m * i.size = 0
    · rw [hnil h0] at hrun
      simp [Builtin.append_, run_underlying ht, run_underlying htx, sizeOf, typeInfo, hi, asInt, asIntOf, hw, hneg, h48, hroom, h0, hrun]
    · simp [Builtin.append_, run_underlying ht, run_underlying htx, sizeOf, typeInfo, zeroValue, hi, hz, asInt, asIntOf, hw, hneg, h48, hroom, h0, hrun]
  · have hn : ¬ (n + m ≤ cc) := by omega
    have h63' : ¬ (9223372036854775807 < ((n : Int) + (m : Int))) := by omega
    have h48' : ¬ (281474976710656 < Builtin.nextslicecap (n + m) cc * i.bytes) := by omega
    by_cases h0 : m * i.size = 0
    · have := hnil h0
      simp [Builtin.append_, run_underlying ht, run_underlying htx, sizeOf, typeInfo, zeroValue, hi, hz, asInt, asIntOf, hw, hneg, h48, hn, h63', h48', Question.forced, h0, hold, newRow, grownCap, this]
    · simp [Builtin.append_, run_underlying ht, run_underlying htx, sizeOf, typeInfo, zeroValue, hi, hz, asInt, asIntOf, hw, hneg, h48, hn, h63', h48', Question.forced, h0, hold, newRow, grownCap]
      congr 2
      apply Array.ext'
      simp

theorem appendSrc_rel (h : HRel μ H w) {t tx ty e : TypeId} {i : TypeInfo} {z : Value} (ht : P.underlying t = some (.slice e)) (hi : P.info? e = some i) (hz : i.zero = some z) (hzs : z.cells.size = i.size) {m : Nat} {x : AV} {c : Value} {new : List AV} (hx : VRel μ x c)
    (hs : appendSrc P H #[t, tx] i.size i.bytes (match ofValue z with | some v => cellsOfA v | none => none) x = some (m, new)) :
    ∃ news, Apd P t tx ty e i z c m news w ∧ Row μ new news := by
  unfold appendSrc at hs
  have key : ∀ d, P.underlying tx = some d → ((∃ e, d = .slice e) ∨ d = .string) → (match srcLen x with | none => none | some m => match srcCells H i.size m x with | none => none | some new => some (m, new)) = some (m, new) →
      ∃ news, Apd P t tx ty e i z c m news w ∧ Row μ new news := by
    intro d hu hd hs
    split at hs
    · cases hs
    · rename_i m' hm
      split at hs
      · cases hs
      · rename_i new' hn
        injection hs with hs; injection hs with h1 h2; subst h1 h2
        obtain ⟨cs, hcs, hrow, hlen⟩ := srcCells_rel' (P := P) h hx hn
        refine ⟨cs, Apd.of_src ht hi hz ⟨?_, fun w' => srcLen_rel hx hm w', hcs w rfl, hcs w.drew rfl, hlen, hrow.oneCell⟩, hrow⟩
        rcases hd with ⟨e, rfl⟩ | rfl
        · exact .inl ⟨e, hu⟩
        · exact .inr hu
  dsimp only at hs
  split at hs
  · rename_i e hu; exact key _ hu (.inl ⟨e, rfl⟩) hs
  · rename_i hu; exact key _ hu (.inr rfl) hs
  · rename_i kn hu
    split at hs
    · rename_i k n zl hzl
      split at hs
      · rename_i hc
        simp only [Bool.and_eq_true, Bool.not_eq_true'] at hc
        obtain ⟨⟨⟨hneg, h1⟩, h2⟩, h3⟩ := hc
        injection hs with hs; injection hs with e1 e2; subst e1 e2
        cases hx with
        | int _ _ hk =>
          have hval : toInt k n = (n : Int) := by
            unfold toInt; unfold isNeg at hneg; rw [hneg]; rfl
          rw [hval]
          refine ⟨_, Apd.of_int ht hi hz hzs hu (Nat.le_of_ble_eq_true h1) (Nat.le_of_ble_eq_true h2), ?_⟩
          have hzl' : ∃ v, ofValue z = some v ∧ cellsOfA v = some zl := by
            cases hv : ofValue z with
            | none => rw [hv] at hzl; cases hzl
            | some v => rw [hv] at hzl; exact ⟨v, rfl, hzl⟩
          obtain ⟨v, hv, hvl⟩ := hzl'
          have hrow := cellsOfA_rel (ofValue_rel μ hv) hvl
          have hrep := hrow.rep n
          have hzc := zeroCells_list z.cells.toList n
          simp only [Array.toArray_toList] at hzc
          rw [hzc]; exact hrep
      · cases hs
    · cases hs
  · cases hs

theorem World.cell_of_shape {β i n : Nat} {t : TypeId} (h : w.shape? β = some (t, n)) (hi : i < n) : (w.cell? ⟨β, i, none⟩).isSome = true := by
  simp only [World.shape?] at h
  simp only [World.cell?]
  split at h
  · injection h with h; injection h with _ h; subst h
    simp [hi]
  · cases h

theorem run_bind_halt {α β : Type} {x : Sem α} {f : α → Sem β} : (x.bind f).run P w = (x.run P w).andThen fun a w' => (f a).run P w' := Sem.run_bind' P _ _ w

/-- The slice has not the room: a new block, or the question for more room than there is. -/
theorem grow_rel (h : HRel μ H w) {t tx ty e : TypeId} {i : TypeInfo} {z : Value} (hzs : z.cells.size = i.size)
    {cx : Value} {m : Nat} {news : List Value} {new : List AV} (hs : Apd P t tx ty e i z cx m news w) (hrn : Row μ new news)
    {base : Option Addr} {n cc : Nat} {olds : List Value} {old : List AV} (hold : (Builtin.firstCells i.size n (.slice base n cc)).run P w.drew = .ok olds.toArray w.drew) (hro : Row μ old olds) (hlo : olds.length = n * i.size)
    (hg : cc < n + m) (hb1 : n + m ≤ 2 ^ 40) (hb2 : (n + m) * i.bytes ≤ 2 ^ 40) :
    AOk P μ H w (Builtin.append_ #[t, tx] ty #[.slice base n cc, cx]) (.slc H.next 0 (n + m) (n + m) i.size false) (H.push (.blk (.lst ((n + m) * i.size) (catC old new)))) := by
  have h63 : ((n + m : Nat) : Int) ≤ 9223372036854775807 := by omega
  have hfit : Builtin.nextslicecap (n + m) cc * i.bytes ≤ 281474976710656 := by
    have h1 := nextslicecap_le hg
    have h2 := Nat.mul_le_mul_right i.bytes h1
    have h3 : 2 * (n + m) * i.bytes = 2 * ((n + m) * i.bytes) := Nat.mul_assoc _ _ _
    omega
  have hrun := hs.grow base n cc olds hold hg h63 hfit
  have hge := grownCap_ge w (n + m) cc e
  generalize hcap : grownCap w (n + m) cc e = cap at hrun hge
  have hcells : ((olds ++ news).toArray ++ Builtin.zeroCells z.cells (cap - (n + m))) = (olds ++ news ++ (Builtin.zeroCells z.cells (cap - (n + m))).toList).toArray := by
    apply Array.ext'; simp
  rw [hcells] at hrun
  have hrow := hro.cat hrn
  have hlen : (olds ++ news).length = (n + m) * i.size := by rw [List.length_append, hlo, hs.len, Nat.add_mul]
  have hext := rel_new (μ := μ) (H := H) (w := w.drew) (h.same rfl) (k := .lst ((n + m) * i.size) (catC old new)) (cells := olds ++ news ++ (Builtin.zeroCells z.cells (cap - (n + m))).toList) e (0, 0) (.inl (Nat.le_refl _))
    (by show clen _ = _; rw [clen_eq, hrow.1.length, hlen]) (by show _ ≤ _; rw [List.length_append, hlen]; exact Nat.le_add_right _ _)
    (fun j v hv => by
      obtain ⟨c, hc, hvr⟩ := hrow.1.get j v hv
      exact ⟨hrow.2 v (List.mem_of_getElem? hv), c, by rw [List.getElem?_append_left (List.getElem?_eq_some_iff.1 hc).1]; exact hc, hvr⟩)
  refine ⟨_, _, _, hrun, (Ext.same h (w' := w.drew) rfl rfl rfl).trans h hext, ?_⟩
  refine VRel.slc (δ := 0) (o := 0) (Inj.upd_same _ _ _) (Nat.le_refl _) hge (fun hf => by cases hf) fun _ => ?_
  rw [List.length_append, hlen]
  have : (Builtin.zeroCells z.cells (cap - (n + m))).toList.length = (cap - (n + m)) * i.size := by simp [Builtin.zeroCells, hzs]
  rw [this, ← Nat.add_mul, Nat.zero_add]
  exact Nat.mul_le_mul_right _ (by omega)

/-- The slice has room after all: its block under a new number. -/
theorem place_rel (h : HRel μ H w) {t tx ty e : TypeId} {i : TypeInfo} {z : Value}
    {cx : Value} {m : Nat} {news : List Value} {new : List AV} (hs : Apd P t tx ty e i z cx m news w) (hrn : Row μ new news)
    {b β δ r off n cc : Nat} {k : Blk} (hb : H.get b = some (.blk k)) (hμ : μ b = some (β, δ, r)) {olds : List Value} {old : List AV} (hold : ∀ j c, olds[j]? = some c → w.cell? ⟨β, δ + (off + j), none⟩ = some c) (hro : Row μ old olds) (hlo : olds.length = n * i.size)
    (hroom : n + m ≤ cc) (hr : off + cc * i.size ≤ r) :
    VOk P μ H w (Builtin.append_ #[t, tx] ty #[.slice (some ⟨β, δ + off, none⟩) n cc, cx]) (.slc H.next 0 (n + m) (n + m) i.size false) ((H.kill b).push (.blk (.lst ((n + m) * i.size) (catC old new)))) := by
  obtain ⟨hok, hsz, ⟨tt, hsh⟩, hf, hc⟩ := h.blk hb hμ
  have hcap : (n + m) * i.size ≤ cc * i.size := Nat.mul_le_mul_right _ hroom
  have hnl := hs.len
  have hadd : (n + m) * i.size = n * i.size + m * i.size := Nat.add_mul _ _ _
  have hthere : ∀ j, j < news.length → (w.cell? ⟨β, δ + off + n * i.size + j, none⟩).isSome = true := fun j hj => World.cell_of_shape hsh (by omega)
  have hfr : ∀ j, j < news.length → w.frozen? ⟨β, δ + off + n * i.size + j, none⟩ = false := fun j hj => by
    have := hf (off + n * i.size + j) (by omega)
    rw [show δ + off + n * i.size + j = δ + (off + n * i.size + j) by omega]; exact this
  have hst := run_storeCells_cells (P := P) β (δ + off + n * i.size) news 0 w (by simpa using hthere) (by simpa using hfr) hrn.oneCell
  simp only [Nat.add_zero] at hst
  have hrun := hs.room ⟨β, δ + off, none⟩ n cc _ hroom (by rw [Addr.add_lit]; exact hst)
  have hrow := hro.cat hrn
  have hlen : (olds ++ news).length = (n + m) * i.size := by rw [List.length_append, hlo, hs.len, Nat.add_mul]
  have hle : μ.le (μ.upd H.next (β, δ + off, r - off)) := Inj.le_upd (h.fresh H.next (Nat.le_refl _)).1
  refine ⟨_, _, _, hrun, Ext.of_take h hb hμ (d := δ + off) (q := r - off) ⟨?_, ?_, ⟨tt, ?_⟩, fun j hj => ?_, fun j v hv => ?_⟩ (size_setCells' _ _ _ _) (fun β' hne => heap_setCells_other _ _ _ _ _ hne) (os_setCells _ _ _ _).1 (os_setCells _ _ _ _).2, ?_⟩
  · show clen _ = _; rw [clen_eq, hrow.1.length, hlen]
  · show (n + m) * i.size ≤ r - off; omega
  · rw [shape_setCells, hsh, show δ + off + (r - off) = δ + r by omega]
  · rw [World.frozen?_setCells]
    have := hf (off + j) (by omega)
    rw [show δ + off + j = δ + (off + j) by omega]; exact this
  · obtain ⟨c, hcv, hvr⟩ := hrow.1.get j v hv
    refine ⟨hrow.2 v (List.mem_of_getElem? hv), c, ?_, hvr.mono hle⟩
    by_cases hj : j < olds.length
    · rw [List.getElem?_append_left hj] at hcv
      rw [World.cell?_setCells_out _ _ _ _ _ (fun _ _ => by simp; omega)]
      have := hold j c hcv
      rw [show δ + off + j = δ + (off + j) by omega]; exact this
    · rw [List.getElem?_append_right (by omega)] at hcv
      have hlt := (List.getElem?_eq_some_iff.1 hcv).1
      have := World.cell?_setCells_in β news (δ + off + n * i.size) w hthere (j - olds.length) hlt
      rw [show δ + off + n * i.size + (j - olds.length) = δ + off + j by omega] at this
      rw [this]
      rw [List.getElem?_eq_getElem hlt] at hcv; exact hcv
  · refine VRel.slc (δ := δ + off) (o := 0) (Inj.upd_same _ _ _) (Nat.le_refl _) hroom (fun hf => by cases hf) fun _ => ?_
    omega

theorem AOk.after {H2 : AH} {s : Sem Value} {v : AV} {H' : AH} (h : HRel μ H w) (e : Ext μ H w μ H2 w) (ho : AOk P μ H2 w s v H') : AOk P μ H w s v H' :=
  let ⟨μ', w', c, hrun, hext, hv⟩ := ho; ⟨μ', w', c, hrun, e.trans h hext, hv⟩

theorem appendA_rel (h : HRel μ H w) {t tx ty : TypeId} {s x v : AV} {cs cx : Value} {H' : AH} (hs : VRel μ s cs) (hx : VRel μ x cx) (ha : appendA P H #[t, tx] s x = some (v, H')) :
    AOk P μ H w (Builtin.append_ #[t, tx] ty #[cs, cx]) v H' := by
  unfold appendA at ha
  rw [show (#[t, tx] : Array TypeId)[0]? = some t from rfl] at ha
  dsimp only at ha
  split at ha
  · rename_i e ht
    split at ha
    · cases ha
    · rename_i i hi
      split at ha
      · cases ha
      · rename_i z hz
        split at ha
        · cases ha
        · rename_i hzs
          have hzs : z.cells.size = i.size := by simpa [Nat.beq_eq] using hzs
          split at ha
          · cases ha
          · rename_i m new hsrc
            obtain ⟨news, hsr, hrn⟩ := appendSrc_rel (ty := ty) h ht hi hz hzs hx hsrc
            split at ha
            · -- nil
              cases hs
              split at ha
              · rename_i hm; subst hm
                injection ha with ha; injection ha with h1 h2; subst h1 h2
                exact ⟨μ, w, _, hsr.none rfl _ _ _ (Nat.le_refl _), Ext.refl h, .nils⟩
              · rename_i hm
                split at ha
                · rename_i hb
                  injection ha with ha; injection ha with h1 h2; subst h1 h2
                  have := grow_rel (ty := ty) h hzs hsr hrn (base := none) (n := 0) (cc := 0) (olds := []) (old := []) (run_firstCells_none w.drew i.size 0 0 0) ⟨.nil, by simp [expand]⟩ (by simp) (by omega) (by omega) (by rw [Nat.zero_add]; exact hb.2)
                  simpa [catC] using this
                · cases ha
            · -- empty
              rename_i b s'
              cases hs with
              | slc0 hμ hr =>
                rename_i off cc β δ r
                split at ha
                · rename_i hm; subst hm
                  injection ha with ha; injection ha with h1 h2; subst h1 h2
                  exact ⟨μ, w, _, hsr.none rfl _ _ _ (Nat.zero_le _), Ext.refl h, .slc0 hμ hr⟩
                · rename_i hm
                  split at ha
                  · rename_i k hb
                    split at ha
                    · rename_i hb'
                      injection ha with ha; injection ha with h1 h2; subst h1 h2
                      obtain ⟨rfl, hb1, hb2⟩ := hb'
                      by_cases hroom : m ≤ cc
                      · have := place_rel (ty := ty) h hsr hrn hb hμ (off := off) (n := 0) (cc := cc) (olds := []) (old := []) (by simp) ⟨.nil, by simp [expand]⟩ (by simp) (by omega) hr
                        exact (show VOk P μ H w _ _ _ from by simpa [catC] using this)
                      · have hk := Ext.of_kill h b
                        have hfc : (Builtin.firstCells i.size 0 (.slice (some ⟨β, δ + off, none⟩) 0 cc)).run P w.drew = .ok ([] : List Value).toArray w.drew := run_firstCells_some w.drew i.size 0 _ 0 cc [] (by simp) (by simp)
                        have := grow_rel (ty := ty) hk.rel hzs hsr hrn (olds := []) (old := []) hfc ⟨.nil, by simp [expand]⟩ (by simp) (by omega) (by omega) (by rw [Nat.zero_add]; exact hb2)
                        have := AOk.after h hk this
                        simpa [catC, AH.kill] using this
                    · cases ha
                  · cases ha
            · -- some
              rename_i b o n c s' ex
              split at ha
              · rename_i hss; subst hss
                cases hs with
                | slc hμ hn hc he hr =>
                  rename_i β δ r cc
                  split at ha
                  · rename_i hm; subst hm
                    injection ha with ha; injection ha with h1 h2; subst h1 h2
                    exact ⟨μ, w, _, hsr.none rfl _ _ _ (Nat.le_trans hn hc), Ext.refl h, .slc hμ hn hc he hr⟩
                  · rename_i hm
                    split at ha
                    · rename_i k hb
                      split at ha
                      · rename_i hroom
                        split at ha
                        · rename_i k' hw
                          injection ha with ha; injection ha with h1 h2; subst h1 h2
                          obtain ⟨hok, hsz, ⟨tt, hsh⟩, hf, _⟩ := h.blk hb hμ
                          have hnl : (expand new).length = m * i.size := by rw [hrn.1.length, hsr.len]
                          obtain ⟨w', hrun, hext⟩ := rel_store (P := P) h hμ hb hw hnl hrn.1 hrn.2
                          refine ⟨μ, w', _, ?_, hext, .slc hμ hroom (by omega) he hr⟩
                          have hrun' : (storeCells (Addr.add ⟨β, δ + o, none⟩ (n * i.size)) news).run P w = .ok () w' := by
                            rw [Addr.add_mk, Nat.add_assoc]; exact hrun
                          have hcc : n + m ≤ cc := by omega
                          exact hsr.room _ _ _ _ hcc hrun'
                        · cases ha
                      · rename_i hroom
                        split at ha
                        · rename_i hb'
                          split at ha
                          · cases ha
                          · rename_i old hrd
                            obtain ⟨olds, hol, hoc, hro1, hro2⟩ := rel_cells h hμ hb hrd
                            have hro : Row μ old olds := ⟨hro1, hro2⟩
                            have hfc : (Builtin.firstCells i.size n (.slice (some ⟨β, δ + o, none⟩) n cc)).run P w.drew = .ok olds.toArray w.drew :=
                              run_firstCells_some w.drew i.size n _ n cc olds hol fun j u hj => by
                                rw [Addr.add_mk, Nat.add_assoc]; exact hoc j u hj
                            split at ha
                            · rename_i hex
                              injection ha with ha; injection ha with h1 h2; subst h1 h2
                              have hcc := he hex
                              exact grow_rel h hzs hsr hrn hfc hro hol (by omega) hb'.1 hb'.2
                            · rename_i hex
                              injection ha with ha; injection ha with h1 h2; subst h1 h2
                              have hr' := hr (by simpa using hex)
                              by_cases hfit : n + m ≤ cc
                              · exact (place_rel h hsr hrn hb hμ (off := o) hoc hro hol hfit hr')
                              · have hk := Ext.of_kill h b
                                exact AOk.after h hk (grow_rel hk.rel hzs hsr hrn hfc hro hol (by omega) hb'.1 hb'.2)
                        · cases ha
                    · cases ha
              · cases ha
            · cases ha
  · cases ha

end
end Go.Abs

/- Emptying; operations that read. -/
namespace Go.Abs

section
variable {P : Program} {μ : Inj} {H : AH} {w : World}

theorem clearA_rel (h : HRel μ H w) {ats : Array TypeId} {ty : TypeId} {x : AV} {cx : Value} {H' : AH} (hx : VRel μ x cx) (hc : clearA P H ats x = some H') :
    UOk P μ H w (Builtin.clear_ ats ty #[cx]) H' := by
  unfold clearA at hc
  split at hc
  · cases hc
  · rename_i t hat
    split at hc
    · -- a nil slice
      rename_i hu
      injection hc with hc; subst hc
      cases hx
      exact ⟨μ, w, by simp [Builtin.clear_, hat, run_und hu], Ext.refl h⟩
    · rename_i hu
      injection hc with hc; subst hc
      cases hx
      exact ⟨μ, w, by simp [Builtin.clear_, hat, run_und hu], Ext.refl h⟩
    · rename_i e b o n c s ex hu
      cases hx with
      | slc hμ =>
        rename_i β δ r cc
        split at hc
        · rename_i hn; subst hn
          injection hc with hc; subst hc
          exact ⟨μ, w, by simp [Builtin.clear_, hat, run_und hu], Ext.refl h⟩
        · rename_i hn
          split at hc
          · rename_i z s' k hz hs hb
            split at hc
            · rename_i zl hzl
              split at hc
              · rename_i hss
                obtain ⟨rfl, hcl⟩ := hss
                split at hc
                · rename_i k' hw
                  injection hc with hc; subst hc
                  obtain ⟨cz, hcz, hzr⟩ := run_zero (μ := μ) hz
                  have hrow := cellsOfA_rel hcz hzl
                  have hrep := hrow.rep n
                  have hlen : cz.cells.toList.length = s := by rw [← hrow.1.length, ← clen_eq, hcl]
                  have hsz : cz.cells.size = s := by simpa using hlen
                  obtain ⟨w', hrun, hext⟩ := rel_store (P := P) h hμ hb hw (by rw [hrep.1.length]; simp [hsz]) hrep.1 hrep.2
                  refine ⟨μ, w', ?_, hext⟩
                  have hzc : (Builtin.zeroCells cz.cells n).toList = (List.replicate n cz.cells.toList).flatten := by
                    have := zeroCells_list cz.cells.toList n
                    simpa using this
                  obtain ⟨n', rfl⟩ : ∃ n', n = n' + 1 := ⟨n - 1, by omega⟩
                  simp only [Builtin.clear_, hat, List.getElem?_toArray, List.getElem?_cons_zero, Sem.run_bind, run_und hu, Result.andThen_ok, hzr, hzc, hrun, Sem.run_pure]
                · cases hc
              · cases hc
            · cases hc
          · cases hc
    · rename_i hu
      injection hc with hc; subst hc
      cases hx
      exact ⟨μ, w, by simp [Builtin.clear_, hat, run_und hu], Ext.refl h⟩
    · rename_i kt vt b hu
      split at hc
      · rename_i es clock hb
        injection hc with hc; subst hc
        cases hx with
        | map hμ =>
          rename_i β δ r
          obtain ⟨ces, cclock, hg, ⟨p, hp, hr⟩, hn, hcl⟩ := h.mp hb hμ
          refine ⟨μ, _, ?_, Ext.of_map h hb hμ (w' := { w with heap := w.heap.setIfInBounds β (.map #[] cclock) }) μ rfl (fun _ _ _ h => h) (fun _ _ _ => rfl) (h.freshS b es clock hb)
            (ces' := #[]) (cclock' := cclock) rfl rfl rfl ⟨[], by simp, .nil⟩ (by simp) (by simp)⟩
          simp only [Builtin.clear_, hat, List.getElem?_toArray, List.getElem?_cons_zero, Sem.run_bind, run_und hu, Result.andThen_ok, run_getMap hg, run_setMap hg, Sem.run_pure]
      · cases hc
    · cases hc

end
end Go.Abs
