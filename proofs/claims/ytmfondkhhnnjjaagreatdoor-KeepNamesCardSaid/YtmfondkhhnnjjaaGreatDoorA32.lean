/- Regions drawn in any order: the invariant, and a step. -/
import Derived.Test.YtmfondkhhnnjjaaGreatDoorA29

namespace Go.Abs
noncomputable section

theorem pairwise_any {α : Type} {R : α → α → Prop} : ∀ {l : List α}, l.Pairwise R → ∀ x ∈ l, ∀ y ∈ l, x = y ∨ R x y ∨ R y x
  | [], _, x, hx, _, _ => by simp at hx
  | z :: l, h, x, hx, y, hy => by
    rw [List.pairwise_cons] at h
    rcases List.mem_cons.1 hx with rfl | hx'
    · rcases List.mem_cons.1 hy with rfl | hy'
      · exact .inl rfl
      · exact .inr (.inl (h.1 y hy'))
    · rcases List.mem_cons.1 hy with rfl | hy'
      · exact .inr (.inr (h.1 x hx'))
      · exact pairwise_any h.2 x hx' y hy'

theorem layIf_next {c : Nat → Bool} : ∀ (M : Made) (S : AH), (layIf c M S).next = S.next
  | [], _ => rfl
  | (i, b, o) :: M, S => by
    simp only [layIf]
    rw [layIf_next M]
    split <;> rfl

section
variable {P : Program} {ng : Nat} {call : CallA} {ops : Array Oper} {hs : List Nat} {st : Nat → DrawState} {b : Nat → Bool} {v : Nat → AV} {H : AH} {kk : Nat}

/-- What the evaluator's pass over a drawn region has told. -/
structure Draw (P : Program) (ng : Nat) (call : CallA) (ops : Array Oper) (hs : List Nat) (st : Nat → DrawState) (b : Nat → Bool) (v : Nat → AV) (H : AH) (kk : Nat) : Prop where
  pass : Pass P ng call ops (Region.before ops) hs st b v
  hsEq : hs = heavies P 0 ops.toList
  tmps : tmpsOk ops (Region.before ops) = true
  ord : ordered (Region.before ops) hs = true
  edges : edgesOk ops = true
  snaps : (st 0).snaps = [(st 0).H]
  k0 : (st 0).k = 0
  made0 : (st 0).made = []
  nid0 : (st 0).nid = H.next
  ids : (st ops.size).nid ≤ H.next + kk
  stab : stable P ng (Region.before ops) hs (st ops.size).snaps.reverse (st ops.size).made (st ops.size).reads = true

structure Inv (ops : Array Oper) (hs : List Nat) (st : Nat → DrawState) (v : Nat → AV) (kk : Nat) (μ0 : Inj) (H : AH) (w0 : World) (a0 : Act) (L : Nat → Bool) (k : Nat) (μ : Inj) (w : World) (a : Act) : Prop where
  down : Down ops L
  sub : ∀ j, L j = true → j < ops.size
  ranked : Ranked hs L k
  env : ERel μ (puts (st 0).e (writes ops v L)) a.tmps
  defers : a.defers = a0.defers
  ext : Ext μ0 H w0 μ (heapAt st ops.size k) w
  next : H.next + kk ≤ (heapAt st ops.size k).next
  pend : ∀ x ∈ (st ops.size).made, L x.1 = true → waitsAt (Region.before ops) hs k x.1 = true → Pend μ (heapAt st ops.size k) w x
  apart : ∀ x ∈ (st ops.size).made, ∀ y ∈ (st ops.size).made, x.2.1 ≠ y.2.1 → L x.1 = true → waitsAt (Region.before ops) hs k x.1 = true → L y.1 = true → waitsAt (Region.before ops) hs k y.1 = true → Apart μ x y
  unl : ∀ x ∈ (st ops.size).made, L x.1 = false → μ x.2.1 = none ∧ ∀ s, μ.st x.2.1 s = none

variable {μ0 : Inj} {w0 : World} {a0 : Act} {L : Nat → Bool} {k : Nat} {μ : Inj} {w : World} {a : Act} {i : Nat} {o : Oper}

theorem Draw.idOf (d : Draw P ng call ops hs st b v H kk) {x : Nat × Nat × AObj} (hx : x ∈ (st ops.size).made) : H.next ≤ x.2.1 ∧ x.2.1 < H.next + kk := by
  obtain ⟨_, h1, h2, _⟩ := (d.pass.made d.made0 ops.size (Nat.le_refl _)).1 x hx
  have h3 := d.nid0; have h4 := d.ids
  exact ⟨by omega, by omega⟩

theorem Inv.lay (I : Inv ops hs st v kk μ0 H w0 a0 L k μ w a) (d : Draw P ng call ops hs st b v H kk) {c : Nat → Bool} {M : Made} (hM : ∃ l, (st ops.size).made = l ++ M) (hc : ∀ x ∈ M, c x.1 = true → L x.1 = true ∧ waitsAt (Region.before ops) hs k x.1 = true) :
    Ext μ0 H w0 μ (layIf c M (heapAt st ops.size k)) w ∧ ∀ β, Img μ (layIf c M (heapAt st ops.size k)) β → Img μ (heapAt st ops.size k) β ∨ ∃ x ∈ M, c x.1 = true ∧ ∃ r, μ x.2.1 = some (β, 0, r) := by
  obtain ⟨l, hl⟩ := hM
  have hmem : ∀ x ∈ M, x ∈ (st ops.size).made := fun x hx => by rw [hl]; exact List.mem_append_right _ hx
  refine Ext.lay M I.ext (fun x hx hcx => ⟨I.pend x (hmem x hx) (hc x hx hcx).1 (hc x hx hcx).2, (d.idOf (hmem x hx)).1⟩) ?_
  have hp := (d.pass.made d.made0 ops.size (Nat.le_refl _)).2
  rw [hl] at hp
  have hp2 := (List.pairwise_append.1 hp).2.1
  refine hp2.imp_of_mem fun {x y} hx hy hne hcx hcy => ?_
  exact I.apart x (hmem x hx) y (hmem y hy) hne.2 (hc x hx hcx).1 (hc x hx hcx).2 (hc y hy hcy).1 (hc y hy hcy).2

theorem with1_down (n : Next1 ops L i o) : Down ops (with1 L i) := by
  intro j o' hj ho' e he hb
  unfold with1 at hj ⊢
  rw [Bool.or_eq_true] at hj ⊢
  rcases hj with hj | hj
  · exact .inl (n.down j o' hj ho' e he hb)
  · have : j = i := by simpa using hj
    subst this
    rw [n.op] at ho'; injection ho' with ho'; subst ho'
    exact .inl (n.ready e he hb)

theorem with1_sub (n : Next1 ops L i o) : ∀ j, with1 L i j = true → j < ops.size := by
  intro j hj
  unfold with1 at hj
  rw [Bool.or_eq_true] at hj
  rcases hj with hj | hj
  · exact n.sub j hj
  · have : j = i := by simpa using hj
    subst this; exact (Array.getElem?_eq_some_iff.1 n.op).1

theorem with1_of_ne {j : Nat} (h : j ≠ i) : with1 L i j = L j := by
  unfold with1; rw [beq_eq_false_iff_ne.2 h, Bool.or_false]

/-- Nothing is made, nothing written. -/
theorem Inv.still (I : Inv ops hs st v kk μ0 H w0 a0 L k μ w a) (d : Draw P ng call ops hs st b v H kk) (n : Next1 ops L i o) (hh : isHeavyOp P o = false) (hm : ∀ x ∈ (st ops.size).made, x.1 ≠ i) {c : Value} (hv : VRel μ (v i) c) :
    Inv ops hs st v kk μ0 H w0 a0 (with1 L i) k μ w (a.put o.dst c) where
  down := with1_down n
  sub := with1_sub n
  ranked := I.ranked.same fun q hq => by
    rw [d.hsEq] at hq
    obtain ⟨_, _, _, o', ho', hh'⟩ := (d.pass.heavyK ops.toList 0 (fun j o h => by simpa using h)).1 q i hq
    rw [n.op] at ho'; injection ho' with ho'; subst ho'
    rw [hh] at hh'; cases hh'
  env := n.put d.pass d.tmps I.env hv
  defers := (defers_put _ _ _).trans I.defers
  ext := I.ext
  next := I.next
  pend x hx hl hw := by rw [with1_of_ne (hm x hx)] at hl; exact I.pend x hx hl hw
  apart x hx y hy hne hl hw hl' hw' := by
    rw [with1_of_ne (hm x hx)] at hl; rw [with1_of_ne (hm y hy)] at hl'
    exact I.apart x hx y hy hne hl hw hl' hw'
  unl x hx hl := by rw [with1_of_ne (hm x hx)] at hl; exact I.unl x hx hl

/-- What waits, and what is not listed, stays behind a heavy operation. -/
theorem Inv.past (I : Inv ops hs st v kk μ0 H w0 a0 L k μ w a) (h0 : HRel μ0 H w0) (d : Draw P ng call ops hs st b v H kk) (n : Next1 ops L i o) (hk : hs[k]? = some i) (hm : ∀ x ∈ (st ops.size).made, x.1 ≠ i)
    {M : Made} (hM : ∃ l, (st ops.size).made = l ++ M) {μ' : Inj} {w' : World} {c : Value}
    (hext : Ext μ (layIf (fun a => firstDep (Region.before ops) a 0 hs == some k) M (heapAt st ops.size k)) w μ' (heapAt st ops.size (k + 1)) w') (hv : VRel μ' (v i) c) :
    Inv ops hs st v kk μ0 H w0 a0 (with1 L i) (k + 1) μ' w' (a.put o.dst c) := by
  have hc : ∀ x ∈ M, (firstDep (Region.before ops) x.1 0 hs == some k) = true → L x.1 = true ∧ waitsAt (Region.before ops) hs k x.1 = true := by
    intro x hx hcx
    have hf : firstDep (Region.before ops) x.1 0 hs = some k := by simpa using hcx
    obtain ⟨_, h, h1, h2⟩ := firstDep_some hf
    rw [Nat.sub_zero, hk] at h1; injection h1 with h1; subst h1
    exact ⟨n.prior h2, waits_of_first hf⟩
  obtain ⟨hlay, himg⟩ := I.lay (c := fun a => firstDep (Region.before ops) a 0 hs == some k) d hM hc
  have hmem : ∀ x ∈ M, x ∈ (st ops.size).made := fun x hx => by obtain ⟨l, hl⟩ := hM; rw [hl]; exact List.mem_append_right _ hx
  have hnext := hext.next
  rw [layIf_next] at hnext
  have hbn : ∀ x ∈ (st ops.size).made, ¬ (layIf (fun a => firstDep (Region.before ops) a 0 hs == some k) M (heapAt st ops.size k)).next ≤ x.2.1 := by
    intro x hx
    rw [layIf_next]
    have h1 := (d.idOf hx).2; have h2 := I.next; omega
  have hpend : ∀ x ∈ (st ops.size).made, with1 L i x.1 = true → waitsAt (Region.before ops) hs (k + 1) x.1 = true → L x.1 = true ∧ waitsAt (Region.before ops) hs k x.1 = true ∧ ∃ β r, μ x.2.1 = some (β, 0, r) ∧ ORel μ x.2.1 x.2.2 β 0 r w ∧ (∀ s, μ.st x.2.1 s = none) ∧
      ¬ Img μ (layIf (fun a => firstDep (Region.before ops) a 0 hs == some k) M (heapAt st ops.size k)) β := by
    intro x hx hl hw
    rw [with1_of_ne (hm x hx)] at hl
    obtain ⟨hw', hne⟩ := waits_mono hw
    obtain ⟨β, r, h1, h2, h3, h4⟩ := I.pend x hx hl hw'
    refine ⟨hl, hw', β, r, h1, h2, h3, fun hi => ?_⟩
    rcases himg β hi with h5 | ⟨y, hy, hcy, r', h5⟩
    · exact h4 h5
    · have hcy' := hc y hy hcy
      have hxy : x.2.1 ≠ y.2.1 := by
        intro e
        rcases pairwise_any (d.pass.made d.made0 ops.size (Nat.le_refl _)).2 x hx y (hmem y hy) with h6 | h6 | h6
        · subst h6; exact hne (by simpa using hcy)
        · exact h6.2 e
        · exact h6.2 e.symm
      exact I.apart x hx y (hmem y hy) hxy hl hw' hcy'.1 hcy'.2 β r β r' h1 h5 rfl
  refine ⟨with1_down n, with1_sub n, I.ranked.more (fun p q x hp hq => by rw [d.hsEq] at hp hq; exact (heavies_inj ops.toList 0).2 p q x hp hq) hk, n.put d.pass d.tmps (I.env.mono hext.le) hv, (defers_put _ _ _).trans I.defers, hlay.trans h0 hext, Nat.le_trans I.next hnext, ?_, ?_, ?_⟩
  · intro x hx hl hw
    obtain ⟨_, _, β, r, h1, h2, h3, h4⟩ := hpend x hx hl hw
    refine ⟨β, r, hext.le.1 _ _ h1, h2.keep hext.le (hext.frame β h2.lt h4), fun s => ?_, fun hi => h4 (hext.imgBack hlay.rel h2.lt hi)⟩
    cases e : μ'.st x.2.1 s with
    | none => rfl
    | some y =>
      rcases hext.stamp _ _ _ (h3 s) e with h5 | h5
      · exact (hbn x hx h5).elim
      · exact (h4 ⟨x.2.1, 0, r, h5, h1⟩).elim
  · intro x hx y hy hne hl hw hl' hw' β r β' r' h1 h2
    obtain ⟨g1, g2, βx, rx, g3, _⟩ := hpend x hx hl hw
    obtain ⟨g4, g5, βy, ry, g6, _⟩ := hpend y hy hl' hw'
    have e1 := hext.le.1 _ _ g3
    have e2 := hext.le.1 _ _ g6
    rw [h1] at e1; injection e1 with e1; injection e1 with e1 e1'
    rw [h2] at e2; injection e2 with e2; injection e2 with e2 e2'
    subst e1 e2
    exact I.apart x hx y hy hne g1 g2 g4 g5 _ _ _ _ g3 g6
  · intro x hx hl
    rw [with1_of_ne (hm x hx)] at hl
    obtain ⟨h1, h2⟩ := I.unl x hx hl
    refine ⟨?_, fun s => ?_⟩
    · cases e : μ' x.2.1 with
      | none => rfl
      | some y =>
        obtain ⟨β, δ, r⟩ := y
        exact (hbn x hx (hext.img _ _ _ _ h1 e).1).elim
    · cases e : μ'.st x.2.1 s with
      | none => rfl
      | some y =>
        rcases hext.stamp _ _ _ (h2 s) e with h5 | h5
        · exact (hbn x hx h5).elim
        · obtain ⟨o', ho'⟩ := Option.isSome_iff_exists.1 h5
          obtain ⟨β, δ, r, hm', _⟩ := hlay.rel.obj _ _ ho'
          rw [h1] at hm'; cases hm'

end
end
end Go.Abs

/- Regions drawn in any order: a step, and the whole. -/
namespace Go.Abs
noncomputable section

section
variable {P : Program} {ng : Nat} {call : CallA} {ops : Array Oper} {hs : List Nat} {st : Nat → DrawState} {b : Nat → Bool} {v : Nat → AV} {H : AH} {kk : Nat}
variable {μ0 : Inj} {w0 : World} {a0 : Act} {L : Nat → Bool} {k : Nat} {μ : Inj} {w : World} {a : Act} {i : Nat} {o : Oper}

theorem Draw.notHeavy (d : Draw P ng call ops hs st b v H kk) (ho : ops[i]? = some o) (hh : isHeavyOp P o = false) : ∀ q : Nat, hs[q]? ≠ some i := by
  intro q hq
  rw [d.hsEq] at hq
  obtain ⟨_, _, _, o', ho', hh'⟩ := (d.pass.heavyK ops.toList 0 (fun j o h => by simpa using h)).1 q i hq
  rw [ho] at ho'; injection ho' with ho'; subst ho'
  rw [hh] at hh'; cases hh'

/-- A block is made. -/
theorem Inv.make (I : Inv ops hs st v kk μ0 H w0 a0 L k μ w a) (d : Draw P ng call ops hs st b v H kk) (n : Next1 ops L i o) (hh : isHeavyOp P o = false) {nid : Nat} {obj : AObj} (hx0 : (i, nid, obj) ∈ (st ops.size).made)
    {O : Obj} {r : Nat} {c : Value} {w' : World} (hheap : w'.heap = w.heap.push O) (hos : w'.os = w.os) (hout : w'.output = w.output)
    (hrel : ∀ (μ' : Inj), μ.le μ' → μ' nid = some (w.heap.size, 0, r) → VRel μ' (v i) c ∧ ∀ w'' : World, w''.heap[w.heap.size]? = some O → ORel μ' nid obj w.heap.size 0 r w'') :
    ∃ μ', Inv ops hs st v kk μ0 H w0 a0 (with1 L i) k μ' w' (a.put o.dst c) := by
  obtain ⟨hnone, hst⟩ := I.unl _ hx0 n.un
  dsimp only at hnone hst
  have hid := d.idOf hx0
  dsimp only at hid
  have hle : μ.le (μ.upd nid (w.heap.size, 0, r)) := Inj.le_upd hnone
  obtain ⟨hv, hor⟩ := hrel _ hle (Inj.upd_same _ _ _)
  have hold : ∀ b', b' ≠ nid → (μ.upd nid (w.heap.size, 0, r)) b' = μ b' := fun b' hne => by simp [Inj.upd, hne]
  have hw' : ∀ β, β < w.heap.size → w'.heap[β]? = w.heap[β]? := fun β hβ => by rw [hheap, Array.getElem?_push, if_neg (by omega)]
  have hnew : w'.heap[w.heap.size]? = some O := by rw [hheap]; simp
  have hpw := (d.pass.made d.made0 ops.size (Nat.le_refl _)).2
  have hfacts := (d.pass.made d.made0 ops.size (Nat.le_refl _)).1
  have hone : ∀ x ∈ (st ops.size).made, x.1 = i → x = (i, nid, obj) := by
    intro x hx e
    rcases pairwise_any hpw x hx _ hx0 with h | h | h
    · exact h
    · exact (h.1 e).elim
    · exact (h.1 e.symm).elim
  have himg : ∀ β, Img (μ.upd nid (w.heap.size, 0, r)) (heapAt st ops.size k) β → Img μ (heapAt st ops.size k) β := by
    rintro β ⟨b', δ, r', hs', hm⟩
    obtain ⟨o', ho'⟩ := Option.isSome_iff_exists.1 hs'
    obtain ⟨β', δ', r'', hm', _⟩ := I.ext.rel.obj _ _ ho'
    have hne : b' ≠ nid := by rintro rfl; rw [hnone] at hm'; cases hm'
    rw [hold b' hne] at hm
    exact ⟨b', δ, r', hs', hm⟩
  refine ⟨μ.upd nid (w.heap.size, 0, r), with1_down n, with1_sub n, I.ranked.same (d.notHeavy n.op hh), n.put d.pass d.tmps (I.env.mono hle) hv, (defers_put _ _ _).trans I.defers,
    I.ext.pend hid.1 (Nat.lt_of_lt_of_le hid.2 I.next) hnone hheap hos hout, I.next, ?_, ?_, ?_⟩
  · intro x hx hl hw
    by_cases e : x.1 = i
    · have := hone x hx e; subst this
      exact ⟨w.heap.size, r, Inj.upd_same _ _ _, hor _ hnew, hst, fun hi => Nat.lt_irrefl _ (I.ext.rel.img_lt (himg _ hi))⟩
    · rw [with1_of_ne e] at hl
      obtain ⟨β, r', h1, h2, h3, h4⟩ := I.pend x hx hl hw
      exact ⟨β, r', hle.1 _ _ h1, h2.keep hle (hw' β h2.lt), h3, fun hi => h4 (himg β hi)⟩
  · intro x hx y hy hne hl hw hl' hw2 β r1 β' r2 h1 h2
    have old : ∀ z ∈ (st ops.size).made, z.1 ≠ i → with1 L i z.1 = true → waitsAt (Region.before ops) hs k z.1 = true → ∀ β r1, (μ.upd nid (w.heap.size, 0, r)) z.2.1 = some (β, 0, r1) → L z.1 = true ∧ μ z.2.1 = some (β, 0, r1) ∧ β < w.heap.size := by
      intro z hz hzi hlz hwz β r1 hm
      rw [with1_of_ne hzi] at hlz
      obtain ⟨β2, r2, g1, g2, _⟩ := I.pend z hz hlz hwz
      have := hle.1 _ _ g1
      rw [hm] at this; injection this with this; injection this with e1 e2; subst e1; injection e2 with _ e2; subst e2
      exact ⟨hlz, g1, g2.lt⟩
    by_cases ex : x.1 = i
    · have := hone x hx ex; subst this
      by_cases ey : y.1 = i
      · have := hone y hy ey; subst this; exact (hne rfl).elim
      · obtain ⟨_, _, g⟩ := old y hy ey hl' hw2 β' r2 h2
        dsimp only at h1
        rw [Inj.upd_same] at h1; injection h1 with h1; injection h1 with h1 _
        omega
    · obtain ⟨g1, g2, g3⟩ := old x hx ex hl hw β r1 h1
      by_cases ey : y.1 = i
      · have := hone y hy ey; subst this
        dsimp only at h2
        rw [Inj.upd_same] at h2; injection h2 with h2; injection h2 with h2 _
        omega
      · obtain ⟨g4, g5, g6⟩ := old y hy ey hl' hw2 β' r2 h2
        exact I.apart x hx y hy hne g1 hw g4 hw2 _ _ _ _ g2 g5
  · intro x hx hl
    have e : x.1 ≠ i := by intro e; rw [e] at hl; unfold with1 at hl; simp at hl
    rw [with1_of_ne e] at hl
    obtain ⟨h1, h2⟩ := I.unl x hx hl
    have hne : x.2.1 ≠ nid := by
      intro e'
      rcases pairwise_any hpw x hx _ hx0 with h | h | h
      · rw [h] at e; exact e rfl
      · exact h.2 e'
      · exact h.2 e'.symm
    exact ⟨by rw [hold _ hne]; exact h1, h2⟩

/-- A step. -/
theorem Inv.step (I : Inv ops hs st v kk μ0 H w0 a0 L k μ w a) (h0 : HRel μ0 H w0) (hg0 : GRel ng μ0) (hcall : CallOk P ng call) (d : Draw P ng call ops hs st b v H kk) (n : Next1 ops L i o)
    {K : Act → World → Prop} {Q : Exit → Act → World → Prop} (hout : True) (hK : ∀ k' μ' w' a', Inv ops hs st v kk μ0 H w0 a0 (with1 L i) k' μ' w' a' → K a' w') : wpOp P ops Q i K a w := by
  have hi : i < ops.size := (Array.getElem?_eq_some_iff.1 n.op).1
  have hg := hg0.mono I.ext.le
  obtain ⟨hw, he, hk⟩ := d.pass.step i o n.op
  have hget : ∀ t ∈ namesOf ops o, (puts (st 0).e (writes ops v L)).get t = (st i).e.get t := fun t ht => n.get d.pass d.tmps ht
  have hwant : Region.wanted o (yielded ops a.tmps) = b i := wantedA_rel I.env (by
    rw [wanted_congr (e' := (st i).e) fun t ht => hget t (List.mem_append_right _ ht)]; exact hw)
  have hev := evAt_rel (o := o) (e := (st i).e) hg I.env fun t ht => hget t (mem_names_op ht)
  have hcg : ∀ x ∈ o.op.operands, (st i).e.ev ng x = evAt ng (st i).e o x := fun x hx => evAt_eq _ x hx
  have htails := d.pass.tails i (ops.size - i) (by omega)
  rw [show i + (ops.size - i) = ops.size by omega] at htails
  have htails1 := d.pass.tails (i + 1) (ops.size - (i + 1)) (by omega)
  rw [show i + 1 + (ops.size - (i + 1)) = ops.size by omega] at htails1
  have hmade : isAllocOp P o = false ∨ isHeavyOp P o = true ∨ b i = false → ∀ x ∈ (st ops.size).made, x.1 ≠ i := by
    intro hna x hx e
    obtain ⟨_, _, _, _, o', f, ho', hb', hh', ha', _⟩ := (d.pass.made d.made0 ops.size (Nat.le_refl _)).1 x hx
    rw [e, n.op] at ho'; injection ho' with ho'; subst ho'
    rw [e] at hb'
    rcases hna with h | h | h
    · rw [h] at ha'; cases ha'
    · rw [h] at hh'; cases hh'
    · rw [h] at hb'; cases hb'
  unfold wpOp
  rw [n.op]
  dsimp only
  rw [hwant]
  rcases hk with ⟨hh, ek, _, em, _, _, hk⟩ | ⟨hh, _, _, _, hk⟩
  · -- a heavy one
    have hki : hs[(st i).k]? = some i := by
      have := (d.pass.heavyK ops.toList 0 (fun j o h => by simpa using h)).2.1 i o (by simpa using n.op) hh
      rw [Nat.zero_add, d.k0, Nat.sub_zero] at this
      rw [d.hsEq]; exact this
    have hkk := n.rank I.ranked d.ord hki
    have hS : heapAt st ops.size k = (st i).H := by rw [← hkk]; exact d.pass.heapAt_eq d.snaps d.k0 (by omega)
    have hS' : heapAt st ops.size (k + 1) = (st (i + 1)).H := by rw [← hkk, ← ek]; exact d.pass.heapAt_eq d.snaps d.k0 (by omega)
    have hT : laid (Region.before ops) hs (st i) = layIf (fun a => firstDep (Region.before ops) a 0 hs == some k) (st i).made (heapAt st ops.size k) := by
      unfold laid; rw [hkk, hS]
    have hki' : hs[k]? = some i := by rw [← hkk]; exact hki
    have hc : ∀ x ∈ (st i).made, (firstDep (Region.before ops) x.1 0 hs == some k) = true → L x.1 = true ∧ waitsAt (Region.before ops) hs k x.1 = true := by
      intro x hx hcx
      have hf : firstDep (Region.before ops) x.1 0 hs = some k := by simpa using hcx
      obtain ⟨_, h, h1, h2⟩ := firstDep_some hf
      rw [Nat.sub_zero, hki'] at h1; injection h1 with h1; subst h1
      exact ⟨n.prior h2, waits_of_first hf⟩
    obtain ⟨hlay, _⟩ := I.lay (c := fun a => firstDep (Region.before ops) a 0 hs == some k) d htails.2.1 hc
    have hm := hmade (.inr (.inl hh))
    rcases hk with ⟨hb, hop⟩ | ⟨hb, hv, hH⟩
    · rw [hb]; simp only [if_true]
      rw [hT, heavyOp_congr o hcg, ← hS'] at hop
      refine heavyOp_rel hcall hlay.rel hg hev hop K Q hout fun μ' w' c hext hvr => ?_
      exact hK _ _ _ _ (I.past h0 d n hki' hm htails.2.1 hext hvr)
    · rw [hb]; simp only [Bool.false_eq_true, if_false]
      refine hK _ _ _ _ (I.past h0 d n hki' hm htails.2.1 (μ' := μ) (w' := w) (c := undef) ?_ (by rw [hv]; exact VRel.undef _))
      rw [hS', hH, hT]; exact Ext.refl hlay.rel
  · rcases hk with ⟨hb, hv, _⟩ | ⟨hb, ha, ⟨f, obj, hop, hv, e2⟩, _, _⟩ | ⟨hb, ha, hr, _, _, e4⟩ | ⟨hb, ha, _, hop, _⟩
    · rw [hb]; simp only [Bool.false_eq_true, if_false]
      exact hK _ _ _ _ (I.still d n hh (hmade (.inr (.inr hb))) (by rw [hv]; exact VRel.undef _))
    · rw [hb]; simp only [if_true]
      rw [allocOp_congr o hcg] at hop
      obtain ⟨O, r, c, w', hrun, hheap, hos, hout', hrel⟩ := allocOp_rel (P := P) (μ := μ) (w := w) hev hop
      have hx0 : (i, (st i).nid, obj) ∈ (st ops.size).made := by
        obtain ⟨l, hl⟩ := htails1.2.1
        rw [hl, e2]; exact List.mem_append_right _ (by simp)
      obtain ⟨μ', hI⟩ := I.make d n hh hx0 hheap hos hout' (fun μ' le hn => by
        obtain ⟨g1, g2⟩ := hrel μ' (st i).nid le hn
        exact ⟨by rw [hv]; exact g1, g2⟩)
      left
      unfold Oper.wp
      rw [hrun]; exact hK _ _ _ _ hI
    · rw [hb]; simp only [if_true]
      have hmem : (i, (st i).e, o, v i) ∈ (st ops.size).reads := by
        obtain ⟨l, hl⟩ := htails1.2.2.1
        rw [hl, e4]; exact List.mem_append_right _ (by simp)
      have hsk : (st ops.size).snaps.reverse[k]? = some (heapAt st ops.size k) := by
        obtain ⟨l, hl, hlen⟩ := d.pass.head d.snaps d.k0 ops.size (Nat.le_refl _)
        have htot := (d.pass.heavyK ops.toList 0 (fun j o h => by simpa using h)).2.2.1
        have hle := I.ranked.le
        have : k < (st ops.size).snaps.reverse.length := by
          rw [hl]; simp only [List.length_reverse, List.length_cons, hlen]
          rw [d.hsEq] at hle
          simp only [Array.length_toList, Nat.zero_add, d.k0] at htot
          omega
        unfold heapAt
        rw [List.getElem?_eq_getElem this]; rfl
      have hrd := stable_spec d.stab i _ o _ hmem k _ (n.lo I.ranked) (n.hi I.ranked) hsk
      rw [readOp_congr o hcg] at hrd
      obtain ⟨hlay, _⟩ := I.lay (c := fun a => ((Region.before ops).getD i 0).testBit a && waitsAt (Region.before ops) hs k a) (M := (st ops.size).made) d ⟨[], rfl⟩ (fun x hx hcx => by
        simp only [Bool.and_eq_true] at hcx
        exact ⟨n.prior hcx.1, hcx.2⟩)
      obtain ⟨c, hc, hrun⟩ := readOp_rel hlay.rel hev hrd
      left
      unfold Oper.wp
      rw [hrun]
      exact hK _ _ _ _ (I.still d n hh (hmade (.inl ha)) hc)
    · rw [hb]; simp only [if_true]
      rw [pureOp_congr o hcg] at hop
      obtain ⟨c, hc, hrun⟩ := pureOp_rel (P := P) hev hop
      left
      unfold Oper.wp
      rw [hrun w]
      exact hK _ _ _ _ (I.still d n hh (hmade (.inl ha)) hc)

end
end
end Go.Abs

/- Regions drawn in any order: the whole; the evaluator is sound. -/
namespace Go.Abs
noncomputable section

section
variable {P : Program} {ng : Nat} {call : CallA} {ops : Array Oper} {hs : List Nat} {st : Nat → DrawState} {b : Nat → Bool} {v : Nat → AV} {H : AH} {kk : Nat}
variable {μ0 : Inj} {w0 : World} {a0 : Act}

def listedF (listed : Array Bool) : Nat → Bool := fun j => listed.getD j false

theorem mem_ready {listed : Array Bool} (hsz : listed.size = ops.size) {i : Nat} : i ∈ Region.ready .any ops listed ↔ ∃ o, ops[i]? = some o ∧ listedF listed i = false ∧ ∀ e ∈ o.after.toList, Region.binds .any e = true → listedF listed e.on = true := by
  unfold Region.ready listedF
  rw [List.mem_filter, List.mem_range]
  constructor
  · rintro ⟨hi, h⟩
    rw [Bool.and_eq_true] at h
    obtain ⟨h1, h2⟩ := h
    have ho := Array.getElem?_eq_getElem (xs := ops) hi
    rw [ho] at h2
    refine ⟨_, ho, ?_, fun e he hb => ?_⟩
    · have hl := Array.getElem?_eq_getElem (xs := listed) (i := i) (by omega)
      rw [Array.getD_eq_getD_getElem?, hl] at h1 ⊢
      simpa using h1
    · simp only [Option.map_some, Option.getD_some] at h2
      rw [← Array.all_toList, List.all_eq_true] at h2
      have := h2 e he
      rw [hb] at this; simpa using this
  · rintro ⟨o, ho, h1, h2⟩
    have hi := (Array.getElem?_eq_some_iff.1 ho).1
    refine ⟨hi, ?_⟩
    rw [Bool.and_eq_true, ho]
    refine ⟨?_, ?_⟩
    · have hl := Array.getElem?_eq_getElem (xs := listed) (i := i) (by omega)
      rw [Array.getD_eq_getD_getElem?, hl] at h1 ⊢
      simpa using h1
    · simp only [Option.map_some, Option.getD_some]
      rw [← Array.all_toList, List.all_eq_true]
      intro e he
      cases hb : Region.binds .any e with
      | false => rfl
      | true => simp [h2 e he hb]

theorem all_listed {listed : Array Bool} (hsz : listed.size = ops.size) (hed : edgesOk ops = true) (h : Region.ready .any ops listed = []) : ∀ j, j < ops.size → listedF listed j = true := by
  intro j
  induction j using Nat.strongRecOn with
  | _ j ih =>
    intro hj
    cases hl : listedF listed j with
    | true => rfl
    | false =>
      have ho := Array.getElem?_eq_getElem (xs := ops) hj
      have : j ∈ Region.ready .any ops listed := by
        rw [mem_ready hsz]
        refine ⟨_, ho, hl, fun e he hb => ?_⟩
        have hlt : e.on < j := by
          unfold edgesOk at hed
          rw [List.all_eq_true] at hed
          have h1 := hed (ops[j], j) (by rw [List.mem_iff_getElem?]; exact ⟨j, by simp [hj]⟩)
          dsimp only at h1
          rw [List.all_eq_true] at h1
          have := h1 e he
          rw [hb] at this
          simpa [Nat.blt_eq] using this
        exact ih e.on hlt (by omega)
      rw [h] at this; simp at this

theorem listedF_set {listed : Array Bool} {i : Nat} (hi : i < listed.size) : listedF (listed.setIfInBounds i true) = with1 (listedF listed) i := by
  funext j
  unfold listedF with1
  dsimp only
  rw [Array.getD_eq_getD_getElem?, Array.getD_eq_getD_getElem?, Array.getElem?_setIfInBounds]
  by_cases e : i = j
  · subst e; simp [hi]
  · have hf : (j == i) = false := beq_eq_false_iff_ne.2 (fun h => e h.symm)
    rw [if_neg e, hf, Bool.or_false]

theorem draw_sim {Q : Exit → Act → World → Prop} (hout : True) (h0 : HRel μ0 H w0) (hg0 : GRel ng μ0) (hcall : CallOk P ng call) (d : Draw P ng call ops hs st b v H kk)
    (hQ : ∀ μ w a, Ext μ0 H w0 μ (layIf (fun a => waitsAt (Region.before ops) hs hs.length a) (st ops.size).made (st ops.size).H) w → ERel μ (st ops.size).e a.tmps → a.defers = a0.defers → Q .normal a w) :
    ∀ (fuel : Nat) (listed : Array Bool) (k : Nat) (μ : Inj) (w : World) (a : Act), listed.size = ops.size → Inv ops hs st v kk μ0 H w0 a0 (listedF listed) k μ w a →
      ((List.range ops.size).filter fun j => !listedF listed j).length ≤ fuel → wpAny P .any ops Q fuel listed a w := by
  have fin : ∀ (listed : Array Bool) (k : Nat) (μ : Inj) (w : World) (a : Act), Inv ops hs st v kk μ0 H w0 a0 (listedF listed) k μ w a → (∀ j, j < ops.size → listedF listed j = true) → Q .normal a w := by
    intro listed k μ w a I hall
    have htot := d.pass.heavyK ops.toList 0 (fun j o h => by simpa using h)
    have hk : k = hs.length := by
      rcases Nat.lt_or_ge k hs.length with hl | hl
      · have hk := List.getElem?_eq_getElem hl
        have hlt : hs[k] < ops.size := by
          have := (htot.1 k hs[k] (by rw [← d.hsEq]; exact hk)).2.1
          simpa using this
        have := (I.ranked.heavy k _ hk).1 (hall _ hlt)
        omega
      · have := I.ranked.le; omega
    subst hk
    have hS : heapAt st ops.size hs.length = (st ops.size).H := by
      have := htot.2.2.1
      rw [← d.hsEq, d.k0] at this
      simp only [Array.length_toList, Nat.zero_add] at this
      rw [← this]; exact d.pass.heapAt_eq d.snaps d.k0 (Nat.le_refl _)
    obtain ⟨hlay, _⟩ := I.lay (c := fun a => waitsAt (Region.before ops) hs hs.length a) (M := (st ops.size).made) d ⟨[], rfl⟩ (fun x hx hcx => ⟨hall _ ((d.pass.made d.made0 ops.size (Nat.le_refl _)).1 x hx).1, hcx⟩)
    rw [hS] at hlay
    have he : writes ops v (listedF listed) = (List.range ops.size).map fun i => (dstOf ops i, v i) := by
      unfold writes
      rw [List.filter_eq_self.2 fun j hj => hall j (by simpa using hj)]
    refine hQ μ w a hlay ?_ I.defers
    have := I.env
    rw [he, ← d.pass.env ops.size (Nat.le_refl _)] at this
    exact this
  intro fuel
  induction fuel with
  | zero =>
    intro listed k μ w a hsz I hf
    have hall : ∀ j, j < ops.size → listedF listed j = true := by
      intro j hj
      cases hl : listedF listed j with
      | true => rfl
      | false =>
        have : j ∈ (List.range ops.size).filter fun j => !listedF listed j := by simp [hj, hl]
        rw [List.eq_nil_of_length_eq_zero (Nat.le_zero.1 hf)] at this; simp at this
    refine ⟨?_, fin listed k μ w a I hall⟩
    apply List.eq_nil_iff_forall_not_mem.2
    intro i hi
    obtain ⟨o, ho, h1, _⟩ := (mem_ready hsz).1 hi
    rw [hall i (Array.getElem?_eq_some_iff.1 ho).1] at h1; cases h1
  | succ fuel ih =>
    intro listed k μ w a hsz I hf
    refine ⟨fun hr => fin listed k μ w a I (all_listed hsz d.edges hr), fun i hi => ?_⟩
    obtain ⟨o, ho, h1, h2⟩ := (mem_ready hsz).1 hi
    have hlt := (Array.getElem?_eq_some_iff.1 ho).1
    have n : Next1 ops (listedF listed) i o := ⟨ho, h1, I.down, h2, I.sub⟩
    refine I.step h0 hg0 hcall d n hout fun k' μ' w' a' I' => ?_
    refine ih _ k' μ' w' a' (by simpa using hsz) (by rw [listedF_set (by omega)]; exact I') ?_
    rw [listedF_set (by omega)]
    have hlen : ((List.range ops.size).filter fun j => !with1 (listedF listed) i j).length < ((List.range ops.size).filter fun j => !listedF listed j).length := by
      have e : ((List.range ops.size).filter fun j => !with1 (listedF listed) i j) = (((List.range ops.size).filter fun j => !listedF listed j)).filter fun j => !(j == i) := by
        rw [List.filter_filter]
        apply List.filter_congr
        intro j _
        unfold with1
        rw [Bool.not_or, Bool.and_comm]
      rw [e]
      apply List.length_filter_lt_length_iff_exists.2
      exact ⟨i, by simp [hlt, h1], by simp⟩
    omega

theorem raise_next (h0 : HRel μ0 H w0) (kk : Nat) : Ext μ0 H w0 μ0 ⟨H.m, H.next + kk⟩ w0 :=
  ⟨μ0.le_refl, ⟨h0.obj, h0.inj, fun b hb => h0.fresh b (Nat.le_trans (Nat.le_add_right _ _) hb), h0.freshS⟩, Nat.le_refl _, Nat.le_add_right _ _, fun _ _ h => h, fun b β δ r h1 h2 => by rw [h1] at h2; (cases h2), fun _ _ _ => rfl, rfl, rfl, fun b s x h1 h2 => by rw [h1] at h2; (cases h2)⟩

theorem drawOk (hm : P.follows .mixedOrders = true) (hcall : CallOk P ng call) : DrawOk P ng call := by
  intro id ops e H e' H' h μ w a Q hr hg he hout hQ
  unfold regionDraw at h
  dsimp only at h
  split at h
  · rename_i hcond
    simp only [Bool.and_eq_true] at hcond
    obtain ⟨⟨htmps, hord⟩, hedges⟩ := hcond
    split at h
    · rename_i s hs
      split at h
      · rename_i hstab
        injection h with h; injection h with h1 h2; subst h1 h2
        obtain ⟨st, b, v, g1, g2, g3⟩ := runDraw_states _ _ _ _ hs
        rw [Nat.zero_add, Array.length_toList] at g2
        have hpass : Pass P ng call ops (Region.before ops) (heavies P 0 ops.toList) st b v := ⟨fun j o hj => by
          have := g3 j o (by simpa using hj)
          rw [Nat.zero_add] at this; exact this⟩
        have hid := hpass.nid ops.size (Nat.le_refl _)
        have d : Draw P ng call ops (heavies P 0 ops.toList) st b v H ((ops.toList.filter (isAllocOp P)).length) := by
          refine ⟨hpass, rfl, htmps, hord, hedges, by rw [g1], by rw [g1], by rw [g1], by rw [g1], ?_, by rw [g2]; exact hstab⟩
          rw [g1] at hid
          rw [show ops.toList.take ops.size = ops.toList by rw [← Array.length_toList, List.take_length]] at hid
          exact hid
        let wd : World := { w with drawn := w.drawn + 1 }
        have hrd : HRel μ H wd := hr.same rfl
        have hS : heapAt st ops.size 0 = ⟨H.m, H.next + (ops.toList.filter (isAllocOp P)).length⟩ := by
          have := d.pass.heapAt_eq d.snaps d.k0 (j := 0) (Nat.zero_le _)
          rw [d.k0, g1] at this; exact this
        refine wp_region_any hm ?_
        refine draw_sim (a0 := a) hout hrd hg hcall d (fun μ' w' a' hext he' hd => ?_) ops.size (Array.replicate ops.size false) 0 μ wd a (by simp) ?_ ?_
        · rw [g2] at hext he'
          exact hQ μ' w' a' ((Ext.same hr (w' := wd) rfl rfl rfl).trans hr hext) he' hd
        · have hL : ∀ j, listedF (Array.replicate ops.size false) j = false := by
            intro j
            unfold listedF
            rw [Array.getD_eq_getD_getElem?, Array.getElem?_replicate]
            split <;> rfl
          have hno : ∀ j, ¬ listedF (Array.replicate ops.size false) j = true := fun j h => by rw [hL] at h; cases h
          refine ⟨fun j o hj => (hno _ hj).elim, fun j hj => (hno _ hj).elim, ⟨Nat.zero_le _, fun q h _ => ⟨fun hl => (hno _ hl).elim, fun hl => by omega⟩⟩, ?_, rfl, by rw [hS]; exact raise_next hrd _, by rw [hS]; exact Nat.le_refl _,
            fun x _ hl => (hno _ hl).elim, fun x _ y _ _ hl => (hno _ hl).elim, fun x hx _ => hr.fresh _ (d.idOf hx).1⟩
          have hw : writes ops v (listedF (Array.replicate ops.size false)) = [] := by
            unfold writes
            rw [List.filter_eq_nil_iff.2 fun j _ => hno j]; rfl
          rw [hw, g1]; exact he
        · exact Nat.le_trans (List.length_filter_le _ _) (by simp)
      · cases h
    · cases h
  · cases h

/-- THE EVALUATOR IS SOUND: what it tells of a call holds of the call in every world that is in relation. -/
theorem callA_sound (hm : P.follows .mixedOrders = true) {orc : FuncId → Option (List AV → AH → Option (AV × AH))} (ho : OrcOk P ng orc) (lf n : Nat) : CallOk P ng (callA P ng orc lf n) :=
  callA_rel ho (fun _ hcall => drawOk hm hcall) lf n

end
end
end Go.Abs
