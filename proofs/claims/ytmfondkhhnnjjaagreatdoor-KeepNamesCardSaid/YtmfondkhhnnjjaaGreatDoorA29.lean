/- Regions drawn in any order: the pass's heaps, makes and reads. -/
import Derived.Test.YtmfondkhhnnjjaaGreatDoorA26

namespace Go.Abs
noncomputable section

section
variable {P : Program} {ng : Nat} {call : CallA} {ops : Array Oper} {before : Array Nat} {hs : List Nat} {st : Nat → DrawState} {b : Nat → Bool} {v : Nat → AV}

theorem Pass.tails (p : Pass P ng call ops before hs st b v) (i : Nat) : ∀ d, i + d ≤ ops.size → (∃ l, (st (i + d)).snaps = l ++ (st i).snaps) ∧ (∃ l, (st (i + d)).made = l ++ (st i).made) ∧ (∃ l, (st (i + d)).reads = l ++ (st i).reads) ∧ (st i).nid ≤ (st (i + d)).nid
  | 0, _ => ⟨⟨[], rfl⟩, ⟨[], rfl⟩, ⟨[], rfl⟩, Nat.le_refl _⟩
  | d + 1, h => by
    obtain ⟨⟨l1, h1⟩, ⟨l2, h2⟩, ⟨l3, h3⟩, h4⟩ := Pass.tails p i d (by omega)
    have ho := Array.getElem?_eq_getElem (xs := ops) (i := i + d) (by omega)
    obtain ⟨_, _, hk⟩ := p.step (i + d) _ ho
    rw [show i + (d + 1) = i + d + 1 by omega]
    rcases hk with ⟨_, _, e1, e2, e3, e4, _⟩ | ⟨_, _, _, e1, hk⟩
    · exact ⟨⟨_ :: l1, by rw [e1, h1]; rfl⟩, ⟨l2, by rw [e2, h2]⟩, ⟨l3, by rw [e4, h3]⟩, by rw [e3]; exact h4⟩
    · rcases hk with ⟨_, _, e2, e3, e4⟩ | ⟨_, _, ⟨f, obj, _, _, e2⟩, e3, e4⟩ | ⟨_, _, _, e2, e3, e4⟩ | ⟨_, _, _, _, e2, e3, e4⟩
      · exact ⟨⟨l1, by rw [e1, h1]⟩, ⟨l2, by rw [e2, h2]⟩, ⟨l3, by rw [e4, h3]⟩, by rw [e3]; exact h4⟩
      · exact ⟨⟨l1, by rw [e1, h1]⟩, ⟨_ :: l2, by rw [e2, h2]; rfl⟩, ⟨l3, by rw [e4, h3]⟩, by rw [e3]; omega⟩
      · exact ⟨⟨l1, by rw [e1, h1]⟩, ⟨l2, by rw [e2, h2]⟩, ⟨_ :: l3, by rw [e4, h3]; rfl⟩, by rw [e3]; exact h4⟩
      · exact ⟨⟨l1, by rw [e1, h1]⟩, ⟨l2, by rw [e2, h2]⟩, ⟨l3, by rw [e4, h3]⟩, by rw [e3]; exact h4⟩

theorem Pass.head (p : Pass P ng call ops before hs st b v) (h0 : (st 0).snaps = [(st 0).H]) (hk0 : (st 0).k = 0) : ∀ j, j ≤ ops.size → ∃ l, (st j).snaps = (st j).H :: l ∧ l.length = (st j).k
  | 0, _ => ⟨[], h0, by rw [hk0]; rfl⟩
  | j + 1, h => by
    obtain ⟨l, h1, h2⟩ := Pass.head p h0 hk0 j (by omega)
    have ho := Array.getElem?_eq_getElem (xs := ops) (i := j) (by omega)
    obtain ⟨_, _, hk⟩ := p.step j _ ho
    rcases hk with ⟨_, ek, e1, _⟩ | ⟨_, ek, eH, e1, _⟩
    · exact ⟨(st j).snaps, e1, by rw [h1, ek]; simp [h2]⟩
    · exact ⟨l, by rw [e1, eH]; exact h1, by rw [ek]; exact h2⟩

/-- The heap behind so many heavy operations. -/
def heapAt (st : Nat → DrawState) (n k : Nat) : AH := ((st n).snaps.reverse[k]?).getD (st 0).H

theorem Pass.heap (p : Pass P ng call ops before hs st b v) (h0 : (st 0).snaps = [(st 0).H]) (hk0 : (st 0).k = 0) {j : Nat} (hj : j ≤ ops.size) : (st ops.size).snaps.reverse[(st j).k]? = some (st j).H := by
  obtain ⟨⟨l1, h1⟩, _⟩ := p.tails j (ops.size - j) (by omega)
  rw [show j + (ops.size - j) = ops.size by omega] at h1
  obtain ⟨l, h2, h3⟩ := p.head h0 hk0 j hj
  rw [h1, h2, List.reverse_append, List.reverse_cons, List.append_assoc, List.getElem?_append_right (by simp [h3])]
  simp [h3]

theorem Pass.heapAt_eq (p : Pass P ng call ops before hs st b v) (h0 : (st 0).snaps = [(st 0).H]) (hk0 : (st 0).k = 0) {j : Nat} (hj : j ≤ ops.size) : heapAt st ops.size (st j).k = (st j).H := by
  unfold heapAt; rw [p.heap h0 hk0 hj]; rfl

/-- What was made, by whom, under which number. -/
theorem Pass.made (p : Pass P ng call ops before hs st b v) (h0 : (st 0).made = []) : ∀ j, j ≤ ops.size →
    (∀ x ∈ (st j).made, x.1 < j ∧ (st 0).nid ≤ x.2.1 ∧ x.2.1 < (st j).nid ∧ x.2.1 = (st x.1).nid ∧ ∃ o f, ops[x.1]? = some o ∧ b x.1 = true ∧ isHeavyOp P o = false ∧ isAllocOp P o = true ∧ allocOp P ((st x.1).e.ev ng) o = some (f, x.2.2) ∧ v x.1 = f x.2.1) ∧
    (st j).made.Pairwise (fun x y => x.1 ≠ y.1 ∧ x.2.1 ≠ y.2.1)
  | 0, _ => by rw [h0]; exact ⟨fun x hx => by simp at hx, .nil⟩
  | j + 1, h => by
    obtain ⟨h1, h2⟩ := Pass.made p h0 j (by omega)
    have ho := Array.getElem?_eq_getElem (xs := ops) (i := j) (by omega)
    have hmono := (p.tails 0 j (by omega)).2.2.2
    rw [Nat.zero_add] at hmono
    obtain ⟨_, _, hk⟩ := p.step j _ ho
    have keep : ∀ n, (st j).nid ≤ n → ∀ x ∈ (st j).made, x.1 < j + 1 ∧ (st 0).nid ≤ x.2.1 ∧ x.2.1 < n ∧ x.2.1 = (st x.1).nid ∧ ∃ o f, ops[x.1]? = some o ∧ b x.1 = true ∧ isHeavyOp P o = false ∧ isAllocOp P o = true ∧ allocOp P ((st x.1).e.ev ng) o = some (f, x.2.2) ∧ v x.1 = f x.2.1 := by
      intro n hn x hx
      obtain ⟨g1, g2, g3, g4⟩ := h1 x hx
      exact ⟨by omega, g2, by omega, g4⟩
    rcases hk with ⟨_, _, _, e2, e3, _⟩ | ⟨hh, _, _, _, hk⟩
    · rw [e2, e3]; exact ⟨keep _ (Nat.le_refl _), h2⟩
    · rcases hk with ⟨_, _, e2, e3, _⟩ | ⟨hb, ha, ⟨f, obj, hop, hv, e2⟩, e3, _⟩ | ⟨_, _, _, e2, e3, _⟩ | ⟨_, _, _, _, e2, e3, _⟩
      · rw [e2, e3]; exact ⟨keep _ (Nat.le_refl _), h2⟩
      · rw [e2, e3]
        refine ⟨fun x hx => ?_, List.pairwise_cons.2 ⟨fun x hx => ?_, h2⟩⟩
        · rcases List.mem_cons.1 hx with rfl | hx
          · exact ⟨by simp, hmono, by simp, rfl, _, f, ho, hb, hh, ha, hop, hv⟩
          · exact keep _ (by omega) x hx
        · obtain ⟨g1, _, g3, _⟩ := h1 x hx
          exact ⟨by simp; omega, by simp; omega⟩
      · rw [e2, e3]; exact ⟨keep _ (Nat.le_refl _), h2⟩
      · rw [e2, e3]; exact ⟨keep _ (Nat.le_refl _), h2⟩

theorem Pass.nid (p : Pass P ng call ops before hs st b v) : ∀ j, j ≤ ops.size → (st j).nid ≤ (st 0).nid + ((ops.toList.take j).filter (isAllocOp P)).length
  | 0, _ => by simp
  | j + 1, h => by
    have ih := Pass.nid p j (by omega)
    have ho := Array.getElem?_eq_getElem (xs := ops) (i := j) (by omega)
    have ht : ops.toList.take (j + 1) = ops.toList.take j ++ [ops[j]] := by
      rw [List.take_add_one]; simp [show j < ops.size by omega]
    rw [ht, List.filter_append, List.length_append]
    obtain ⟨_, _, hk⟩ := p.step j _ ho
    rcases hk with ⟨_, _, _, _, e3, _⟩ | ⟨_, _, _, _, hk⟩
    · omega
    · rcases hk with ⟨_, _, _, e3, _⟩ | ⟨_, ha, _, e3, _⟩ | ⟨_, _, _, _, e3, _⟩ | ⟨_, _, _, _, _, e3, _⟩
      · omega
      · rw [e3]; simp [ha]; omega
      · omega
      · omega

theorem sameAll_spec {M : Made} {i : Nat} {e : Env} {o : Oper} {u : AV} : ∀ {k : Nat} {l : List AH}, sameAll P ng before hs M i e o u k l = true → ∀ (d : Nat) (H : AH), l[d]? = some H →
    readOp P (e.ev ng) o (layIf (fun a => (before.getD i 0).testBit a && waitsAt before hs (k + d) a) M H) = some u
  | _, [], _, d, H, h => by simp at h
  | k, H0 :: l, hs', d, H, h => by
    simp only [sameAll, Bool.and_eq_true] at hs'
    obtain ⟨h1, h2⟩ := hs'
    cases d with
    | zero =>
      simp only [List.getElem?_cons_zero, Option.some.injEq] at h; subst h
      split at h1
      · rename_i u' hu
        rw [Nat.add_zero, hu, sameA_eq _ _ h1]
      · cases h1
    | succ d =>
      have := sameAll_spec h2 d H (by simpa using h)
      rw [show k + 1 + d = k + (d + 1) by omega] at this; exact this

theorem stable_spec {snaps : List AH} {M : Made} : ∀ {rs : Reads}, stable P ng before hs snaps M rs = true → ∀ i e o u, (i, e, o, u) ∈ rs → ∀ k H, behind before i hs ≤ k → k ≤ (match firstDep before i 0 hs with | some q => q | none => hs.length) → snaps[k]? = some H →
    readOp P (e.ev ng) o (layIf (fun a => (before.getD i 0).testBit a && waitsAt before hs k a) M H) = some u
  | [], _, _, _, _, _, h, _, _, _, _, _ => by simp at h
  | (i', e', o', u') :: rs, hst, i, e, o, u, hm, k, H, hlo, hhi, hk => by
    simp only [stable, Bool.and_eq_true] at hst
    rcases List.mem_cons.1 hm with he | hm
    · injection he with e1 he; injection he with e2 he; injection he with e3 e4; subst e1 e2 e3 e4
      have := sameAll_spec hst.1 (k - behind before i hs) H (by
        rw [List.getElem?_take]; refine (if_pos (Nat.sub_lt_sub_right hlo (Nat.lt_succ_of_le hhi))).trans ?_; rw [List.getElem?_drop, show behind before i hs + (k - behind before i hs) = k by omega]; exact hk)
      rw [show behind before i hs + (k - behind before i hs) = k by omega] at this; exact this
    · exact stable_spec hst.2 i e o u hm k H hlo hhi hk

end
end
end Go.Abs

/- Regions drawn in any order: temporaries. -/
namespace Go.Abs
noncomputable section

section
variable {P : Program} {ng : Nat} {call : CallA} {ops : Array Oper} {hs : List Nat} {st : Nat → DrawState} {b : Nat → Bool} {v : Nat → AV}

theorem tmpsOk_spec {bf : Array Nat} (h : tmpsOk ops bf = true) {j i : Nat} {o o' : Oper} (hj : ops[j]? = some o) {t : Tmp} (ht : t ∈ namesOf ops o) (hi : ops[i]? = some o') (hd : o'.dst = some t) (hne : i ≠ j) : (bf.getD (max i j) 0).testBit (min i j) = true := by
  unfold tmpsOk at h
  rw [List.all_eq_true] at h
  have hmem : ∀ {k : Nat} {x : Oper}, ops[k]? = some x → (x, k) ∈ ops.toList.zipIdx := by
    intro k x hk
    rw [List.mem_iff_getElem?]
    exact ⟨k, by simp [hk]⟩
  have h1 := h (o, j) (hmem hj)
  dsimp only at h1
  rw [List.all_eq_true] at h1
  have h2 := h1 t ht
  rw [List.all_eq_true] at h2
  have h3 := h2 (o', i) (hmem hi)
  simpa [hd, hne] using h3

/-- An operation that is next: not listed, all that it stands behind is. -/
structure Next1 (ops : Array Oper) (L : Nat → Bool) (i : Nat) (o : Oper) : Prop where
  op : ops[i]? = some o
  un : L i = false
  down : Down ops L
  ready : ∀ e ∈ o.after.toList, Region.binds .any e = true → L e.on = true
  sub : ∀ j, L j = true → j < ops.size

variable {L : Nat → Bool} {i : Nat} {o : Oper}

theorem Next1.prior (n : Next1 ops L i o) {j : Nat} (h : ((Region.before ops).getD i 0).testBit j = true) : L j = true := before_listed n.down i j o n.op n.ready h

theorem Next1.ahead (n : Next1 ops L i o) {j : Nat} (hj : L j = true) (h : ((Region.before ops).getD j 0).testBit i = true) : False := by
  have hlt := n.sub j hj
  have := before_listed n.down j i _ (Array.getElem?_eq_getElem hlt) (fun e he hb => n.down j _ hj (Array.getElem?_eq_getElem hlt) e he hb) h
  rw [n.un] at this; cases this

theorem dstOf_some {j : Nat} {t : Tmp} (h : dstOf ops j = some t) : ∃ o', ops[j]? = some o' ∧ o'.dst = some t := by
  unfold dstOf at h
  cases hj : ops[j]? with
  | none => rw [hj] at h; cases h
  | some o' => rw [hj] at h; exact ⟨o', rfl, h⟩

/-- Of the writers of a temporary that it names, those with a lower place are listed, and no other. -/
theorem Next1.writers (n : Next1 ops L i o) (ht : tmpsOk ops (Region.before ops) = true) {t : Tmp} (hn : t ∈ namesOf ops o) {j : Nat} (hj : dstOf ops j = some t) : L j = true ↔ j < i := by
  obtain ⟨o', ho', hd⟩ := dstOf_some hj
  constructor
  · intro hL
    rcases Nat.lt_trichotomy j i with hlt | he | hgt
    · exact hlt
    · subst he; rw [n.un] at hL; cases hL
    · have := tmpsOk_spec ht n.op hn ho' hd (by omega)
      rw [Nat.max_eq_left (by omega), Nat.min_eq_right (by omega)] at this
      exact (n.ahead hL this).elim
  · intro hlt
    have := tmpsOk_spec ht n.op hn ho' hd (by omega)
    rw [Nat.max_eq_right (by omega), Nat.min_eq_left (by omega)] at this
    exact n.prior this

/-- What the listed operations have written, in the order of their places. -/
def writes (ops : Array Oper) (v : Nat → AV) (L : Nat → Bool) : List (Option Tmp × AV) := ((List.range ops.size).filter L).map fun i => (dstOf ops i, v i)

theorem range_lt {n i : Nat} (h : i ≤ n) (p : Nat → Bool) : (List.range n).filter (fun j => decide (j < i) && p j) = (List.range i).filter p := by
  obtain ⟨d, rfl⟩ : ∃ d, n = i + d := ⟨n - i, by omega⟩
  rw [List.range_add, List.filter_append]
  have h1 : (List.range i).filter (fun j => decide (j < i) && p j) = (List.range i).filter p := by
    apply List.filter_congr
    intro j hj
    simp at hj; simp [hj]
  have h2 : ((List.range d).map (i + ·)).filter (fun j => decide (j < i) && p j) = [] := by
    rw [List.filter_eq_nil_iff]
    intro j hj
    simp at hj
    obtain ⟨k, _, rfl⟩ := hj
    rw [decide_eq_false (by omega)]; simp
  rw [h1, h2, List.append_nil]

theorem writes_filter (ops : Array Oper) (v : Nat → AV) (L : Nat → Bool) (t : Tmp) :
    ((writes ops v L).filter fun x => x.1 == some t) = ((List.range ops.size).filter fun j => L j && (dstOf ops j == some t)).map fun i => (dstOf ops i, v i) := by
  unfold writes
  rw [List.filter_map, List.filter_filter]
  congr 1
  apply List.filter_congr
  intro j _
  simp [Bool.and_comm]

theorem upto_filter (ops : Array Oper) (v : Nat → AV) (i : Nat) (t : Tmp) :
    ((((List.range i).map fun j => (dstOf ops j, v j))).filter fun x => x.1 == some t) = ((List.range i).filter fun j => dstOf ops j == some t).map fun i => (dstOf ops i, v i) := by
  rw [List.filter_map]; rfl

/-- The temporaries that the next operation names are as the evaluator had them there. -/
theorem Next1.get (n : Next1 ops L i o) (p : Pass P ng call ops (Region.before ops) hs st b v) (ht : tmpsOk ops (Region.before ops) = true) {t : Tmp} (hn : t ∈ namesOf ops o) :
    (puts (st 0).e (writes ops v L)).get t = (st i).e.get t := by
  have hi : i < ops.size := (Array.getElem?_eq_some_iff.1 n.op).1
  rw [p.env i (by omega)]
  apply puts_get
  rw [writes_filter, upto_filter, ← range_lt (n := ops.size) (by omega : i ≤ ops.size)]
  congr 1
  apply List.filter_congr
  intro j _
  by_cases hj : dstOf ops j = some t
  · have := n.writers ht hn hj
    by_cases hl : L j = true
    · simp [hl, this.1 hl, hj]
    · have h2 : ¬ j < i := fun h => hl (this.2 h)
      simp only [Bool.not_eq_true] at hl
      simp [hl, h2]
  · have hf : (dstOf ops j == some t) = false := beq_eq_false_iff_ne.2 hj
    rw [hf]; simp

theorem mem_names_dst {t : Tmp} (h : o.dst = some t) : t ∈ namesOf ops o := by simp [namesOf, h]
theorem mem_names_op {t : Tmp} (h : Operand.tmp t ∈ o.op.operands) : t ∈ namesOf ops o := by
  unfold namesOf
  refine List.mem_append_left _ (List.mem_append_right _ ?_)
  exact List.mem_filterMap.2 ⟨.tmp t, by simpa using h, rfl⟩

/-- One listed more. -/
def with1 (L : Nat → Bool) (i : Nat) : Nat → Bool := fun j => L j || j == i

theorem Next1.put (n : Next1 ops L i o) (p : Pass P ng call ops (Region.before ops) hs st b v) (ht : tmpsOk ops (Region.before ops) = true) {μ : Inj} {a : Act} (he : ERel μ (puts (st 0).e (writes ops v L)) a.tmps) {c : Value} (hv : VRel μ (v i) c) :
    ERel μ (puts (st 0).e (writes ops v (with1 L i))) (a.put o.dst c).tmps := by
  have hi : i < ops.size := (Array.getElem?_eq_some_iff.1 n.op).1
  have hdi : dstOf ops i = o.dst := by unfold dstOf; rw [n.op]; rfl
  refine (he.put o.dst hv).congr (by rw [puts_n, put_n, puts_n]) fun t => ?_
  by_cases hd : o.dst = some t
  · have hg := n.get p ht (mem_names_dst hd)
    rw [put_get_congr (e' := (st i).e) (by rw [puts_n, p.env i (by omega), puts_n]) hg]
    have hstep := (p.step i o n.op).2.1
    rw [← hstep, p.env (i + 1) (by omega)]
    apply puts_get
    rw [writes_filter, upto_filter, ← range_lt (n := ops.size) (by omega : i + 1 ≤ ops.size)]
    congr 1
    apply List.filter_congr
    intro j _
    by_cases hj : dstOf ops j = some t
    · have := n.writers ht (mem_names_dst hd) hj
      by_cases hji : j = i
      · subst hji; simp [with1, hj]
      · by_cases hl : L j = true
        · have := this.1 hl
          simp [with1, hl, hj, show j < i + 1 by omega]
        · have h2 : ¬ j < i := fun h => hl (this.2 h)
          simp only [Bool.not_eq_true] at hl
          simp [with1, hl, hji, show ¬ j < i + 1 by omega]
    · have hf : (dstOf ops j == some t) = false := beq_eq_false_iff_ne.2 hj
      rw [hf]; simp
  · rw [put_get_ne _ _ hd]
    apply puts_get
    rw [writes_filter, writes_filter]
    congr 1
    apply List.filter_congr
    intro j _
    by_cases hji : j = i
    · subst hji
      have hf : (o.dst == some t) = false := beq_eq_false_iff_ne.2 hd
      rw [hdi, hf]; simp
    · have hf : (j == i) = false := beq_eq_false_iff_ne.2 hji
      unfold with1
      rw [hf, Bool.or_false]

end
end
end Go.Abs

/- Regions drawn in any order: ranks among the heavy operations. -/
namespace Go.Abs
noncomputable section

section
variable {P : Program} {ng : Nat} {call : CallA} {ops : Array Oper} {hs : List Nat} {st : Nat → DrawState} {b : Nat → Bool} {v : Nat → AV}

theorem firstDep_some {bf : Array Nat} {i : Nat} : ∀ {l : List Nat} {q r : Nat}, firstDep bf i q l = some r → q ≤ r ∧ ∃ h, l[r - q]? = some h ∧ (bf.getD h 0).testBit i = true
  | [], _, _, h => by simp [firstDep] at h
  | x :: l, q, r, h => by
    simp only [firstDep] at h
    split at h
    · rename_i hb; injection h with h; subst h
      exact ⟨Nat.le_refl _, x, by simp, hb⟩
    · obtain ⟨h1, h', h2, h3⟩ := firstDep_some h
      refine ⟨by omega, h', ?_, h3⟩
      rw [show r - q = (r - (q + 1)) + 1 by omega, List.getElem?_cons_succ]; exact h2

theorem behind_spec {bf : Array Nat} {i : Nat} : ∀ {l : List Nat} (q : Nat), q < behind bf i l → ∃ h, l[q]? = some h ∧ (bf.getD i 0).testBit h = true
  | [], q, h => by simp [behind] at h
  | x :: l, q, h => by
    simp only [behind] at h
    split at h
    · rename_i hb
      cases q with
      | zero => exact ⟨x, rfl, hb⟩
      | succ q =>
        obtain ⟨h', h1, h2⟩ := behind_spec (bf := bf) (i := i) (l := l) q (by omega)
        exact ⟨h', by simpa using h1, h2⟩
    · omega

theorem ordered_spec {bf : Array Nat} : ∀ {l : List Nat}, ordered bf l = true → ∀ (p q : Nat) (x y : Nat), p < q → l[p]? = some x → l[q]? = some y → (bf.getD y 0).testBit x = true
  | [], _, _, _, _, _, _, h, _ => by simp at h
  | z :: l, ho, p, q, x, y, hpq, hp, hq => by
    simp only [ordered, Bool.and_eq_true, List.all_eq_true] at ho
    obtain ⟨q', rfl⟩ : ∃ q', q = q' + 1 := ⟨q - 1, by omega⟩
    simp only [List.getElem?_cons_succ] at hq
    cases p with
    | zero =>
      simp only [List.getElem?_cons_zero, Option.some.injEq] at hp; subst hp
      exact ho.1 y (List.mem_of_getElem? hq)
    | succ p =>
      simp only [List.getElem?_cons_succ] at hp
      exact ordered_spec ho.2 p q' x y (by omega) hp hq

/-- So many heavy operations are listed, and they are the first. -/
structure Ranked (hs : List Nat) (L : Nat → Bool) (k : Nat) : Prop where
  le : k ≤ hs.length
  heavy : ∀ q h, hs[q]? = some h → (L h = true ↔ q < k)

variable {L : Nat → Bool} {i : Nat} {o : Oper} {k : Nat}

theorem Next1.waits (n : Next1 ops L i o) (r : Ranked hs L k) : waitsAt (Region.before ops) hs k i = true := by
  unfold waitsAt
  split
  · rename_i q hq
    obtain ⟨_, h, h1, h2⟩ := firstDep_some hq
    rw [Nat.sub_zero] at h1
    rw [Nat.ble_eq]
    rcases Nat.lt_or_ge q k with hl | hl
    · exact (n.ahead ((r.heavy q h h1).2 hl) h2).elim
    · exact hl
  · rfl

theorem Next1.lo (n : Next1 ops L i o) (r : Ranked hs L k) : behind (Region.before ops) i hs ≤ k := by
  rcases Nat.lt_or_ge k (behind (Region.before ops) i hs) with hl | hl
  · obtain ⟨h, h1, h2⟩ := behind_spec k hl
    have := (r.heavy k h h1).1 (n.prior h2)
    omega
  · exact hl

theorem Next1.hi (n : Next1 ops L i o) (r : Ranked hs L k) : k ≤ (match firstDep (Region.before ops) i 0 hs with | some q => q | none => hs.length) := by
  split
  · rename_i q hq
    obtain ⟨_, h, h1, h2⟩ := firstDep_some hq
    rw [Nat.sub_zero] at h1
    rcases Nat.lt_or_ge q k with hl | hl
    · exact (n.ahead ((r.heavy q h h1).2 hl) h2).elim
    · exact hl
  · exact r.le

/-- A heavy operation that is next is the next of them. -/
theorem Next1.rank (n : Next1 ops L i o) (r : Ranked hs L k) (ho : ordered (Region.before ops) hs = true) {q : Nat} (hq : hs[q]? = some i) : q = k := by
  rcases Nat.lt_trichotomy q k with hl | he | hg
  · have := (r.heavy q i hq).2 hl
    rw [n.un] at this; cases this
  · exact he
  · have hlt : k < hs.length := by have := (List.getElem?_eq_some_iff.1 hq).1; omega
    have hk := List.getElem?_eq_getElem hlt
    have := n.prior (ordered_spec ho k q _ i hg hk hq)
    have := (r.heavy k _ hk).1 this
    omega

theorem Ranked.same (r : Ranked hs L k) (hi : ∀ q : Nat, hs[q]? ≠ some i) : Ranked hs (with1 L i) k :=
  ⟨r.le, fun q h hq => by
    have : h ≠ i := fun e => hi q (by rw [hq, e])
    have hf : (h == i) = false := beq_eq_false_iff_ne.2 this
    unfold with1
    rw [hf, Bool.or_false]; exact r.heavy q h hq⟩

theorem Ranked.more (r : Ranked hs L k) (hn : ∀ (p q x : Nat), hs[p]? = some x → hs[q]? = some x → p = q) (hi : hs[k]? = some i) : Ranked hs (with1 L i) (k + 1) :=
  ⟨(List.getElem?_eq_some_iff.1 hi).1, fun q h hq => by
    unfold with1
    by_cases e : h = i
    · subst e
      have := hn q k h hq hi
      subst this
      simp
    · have hf : (h == i) = false := beq_eq_false_iff_ne.2 e
      rw [hf, Bool.or_false, r.heavy q h hq]
      have : q ≠ k := fun e' => by subst e'; rw [hi] at hq; injection hq with hq; exact e hq.symm
      omega⟩

theorem heavies_inj : ∀ (l : List Oper) (i : Nat), (∀ (q h : Nat), (heavies P i l)[q]? = some h → i ≤ h) ∧ ∀ (p q x : Nat), (heavies P i l)[p]? = some x → (heavies P i l)[q]? = some x → p = q
  | [], _ => ⟨fun q h hq => by simp [heavies] at hq, fun p q x hp => by simp [heavies] at hp⟩
  | o :: l, i => by
    obtain ⟨h1, h2⟩ := heavies_inj l (i + 1)
    unfold heavies
    split
    · refine ⟨fun q h hq => ?_, fun p q x hp hq => ?_⟩
      · cases q with
        | zero => simp at hq; omega
        | succ q => have := h1 q h (by simpa using hq); omega
      · cases p with
        | zero =>
          cases q with
          | zero => rfl
          | succ q => simp at hp; subst hp; have := h1 q i (by simpa using hq); omega
        | succ p =>
          cases q with
          | zero => simp at hq; subst hq; have := h1 p i (by simpa using hp); omega
          | succ q => have := h2 p q x (by simpa using hp) (by simpa using hq); omega
    · exact ⟨fun q h hq => by have := h1 q h hq; omega, h2⟩

theorem waits_mono {bf : Array Nat} {a : Nat} (h : waitsAt bf hs (k + 1) a = true) : waitsAt bf hs k a = true ∧ firstDep bf a 0 hs ≠ some k := by
  unfold waitsAt at h ⊢
  split at h
  · rename_i q hq
    rw [Nat.ble_eq] at h
    rw [hq]
    refine ⟨by rw [Nat.ble_eq]; omega, fun e => by injection e with e; omega⟩
  · rename_i hq
    rw [hq]; exact ⟨rfl, fun e => by cases e⟩

theorem waits_of_first {bf : Array Nat} {a : Nat} (h : firstDep bf a 0 hs = some k) : waitsAt bf hs k a = true := by
  unfold waitsAt; rw [h]; exact Nat.ble_eq_true_of_le (Nat.le_refl _)

/-! ## What an operation reads of the environment -/

theorem wanted_congr {e e' : Env} (h : ∀ t ∈ guardTmp ops o, e.get t = e'.get t) : wantedA ops e o = wantedA ops e' o := by
  unfold wantedA
  unfold guardTmp at h
  cases hg : o.guard with
  | none => rfl
  | some x =>
    obtain ⟨j, want⟩ := x
    rw [hg] at h
    dsimp only at h ⊢
    cases hj : ops[j]? with
    | none => rfl
    | some g =>
      rw [hj] at h
      dsimp only at h ⊢
      cases hd : g.dst with
      | none => rfl
      | some d =>
        dsimp only
        rw [h d (by simp [hd])]

open Classical in
/-- The environment, at an operation's own operands. -/
noncomputable def evAt (ng : Nat) (e : Env) (o : Oper) (x : Operand) : Option AV := if x ∈ o.op.operands then e.ev ng x else none

theorem evAt_eq (e : Env) (x : Operand) (h : x ∈ o.op.operands) : e.ev ng x = evAt ng e o x := by unfold evAt; rw [if_pos h]

theorem evAt_rel {μ : Inj} (hg : GRel ng μ) {e E : Env} {a : Act} (he : ERel μ E a.tmps) (h : ∀ t, Operand.tmp t ∈ o.op.operands → E.get t = e.get t) : ∀ x u, evAt ng e o x = some u → VRel μ u (a.eval x) := by
  intro x u hx
  unfold evAt at hx
  split at hx
  · rename_i hm
    refine ev_rel hg he (x := x) ?_
    cases x with
    | tmp t => show E.get t = some u; rw [h t hm]; exact hx
    | const c => exact hx
    | global g => exact hx
    | func f => exact hx
  · cases hx

end
end
end Go.Abs
