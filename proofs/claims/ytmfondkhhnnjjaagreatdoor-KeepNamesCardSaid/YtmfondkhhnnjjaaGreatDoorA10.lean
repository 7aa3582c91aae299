/- Parts of rows, comparing, building. -/
import Derived.Test.YtmfondkhhnnjjaaGreatDoorA7

namespace Go.Abs

section
variable {P : Program} {μ : Inj}

theorem run_und {t : TypeId} {d : TypeDesc} (h : P.underlying t = some d) (w : World) : (underlying t).run P w = .ok d w := by
  simp only [Go.underlying, Sem.run_bind, run_program, Result.andThen_ok, h]; rfl
theorem run_info {t : TypeId} {i : TypeInfo} (h : P.info? t = some i) (w : World) : (typeInfo t).run P w = .ok i w := by
  simp only [Go.typeInfo, Sem.run_bind, run_program, Result.andThen_ok, h]; rfl
theorem run_size {t : TypeId} {n : Nat} (h : sizeA P t = some n) (w : World) : (sizeOf t).run P w = .ok n w := by
  unfold sizeA at h
  split at h
  · rename_i i hi
    injection h with h; subst h
    simp only [Go.sizeOf, Sem.run_bind, run_info hi, Result.andThen_ok]; rfl
  · cases h
theorem run_zero {t : TypeId} {z : AV} (h : zeroA P t = some z) : ∃ c, VRel μ z c ∧ ∀ w, (zeroValue t).run P w = .ok c w := by
  unfold zeroA at h
  split at h
  · rename_i i hi
    split at h
    · rename_i v hv
      exact ⟨v, ofValue_rel μ h, fun w => by simp only [Go.zeroValue, Sem.run_bind, run_info hi, Result.andThen_ok, hv]; rfl⟩
    · cases h
  · cases h
def isAggD : TypeDesc → Bool
  | .struct _ | .array _ _ => true
  | _ => false
theorem run_agg {t : TypeId} {d : TypeDesc} (h : P.underlying t = some d) (w : World) : (Go.isAgg t).run P w = .ok (isAggD d) w := by
  simp only [Go.isAgg, Sem.run_bind, run_und h, Result.andThen_ok]
  cases d <;> rfl

/-- A row of one-cell values. -/
def Row (μ : Inj) (l : List AV) (cs : List Value) : Prop := LRel μ (expand l) cs ∧ ∀ v ∈ expand l, v.one = true

theorem Row.agg {l : List AV} {cs : List Value} (h : Row μ l cs) : VRel μ (.agg l) (.agg cs.toArray) := .agg h.1 h.2
theorem Row.of_agg {l : List AV} {c : Value} (h : VRel μ (.agg l) c) : ∃ cs : List Value, c = .agg cs.toArray ∧ Row μ l cs := by
  cases h with
  | agg h h1 => exact ⟨_, rfl, h, h1⟩

theorem Row.cut {l : List AV} {cs : List Value} (h : Row μ l cs) (off n : Nat) : Row μ (takeC n (dropC off l)) ((cs.drop off).take n) := by
  refine ⟨?_, fun v hv => h.2 v ?_⟩
  · rw [expand_takeC, expand_dropC]; exact (h.1.drop off).take n
  · rw [expand_takeC, expand_dropC] at hv
    exact List.mem_of_mem_drop (List.mem_of_mem_take hv)

theorem Row.len {l : List AV} {cs : List Value} (h : Row μ l cs) : cs.length = clen l := by rw [clen_eq, h.1.length]

theorem part_rel {t : TypeId} {l : List AV} {cs : List Value} {off : Nat} {v : AV} (hr : Row μ l cs) (h : partA P t l off = some v) :
    ∃ c, VRel μ v c ∧ (∀ w, (part t cs.toArray off).run P w = .ok c w) := by
  have aggCase : ∀ (i : TypeInfo), P.info? t = some i → clen (takeC i.size (dropC off l)) = i.size → (∀ w, (Go.isAgg t).run P w = .ok true w) →
      ∃ c, VRel μ (.agg (takeC i.size (dropC off l))) c ∧ (∀ w, (part t cs.toArray off).run P w = .ok c w) := by
    intro i hi hlen hagg
    have hc := hr.cut off i.size
    refine ⟨_, hc.agg, fun w => ?_⟩
    have hsz : sizeA P t = some i.size := by simp [sizeA, hi]
    simp only [part, Sem.run_bind, hagg, Result.andThen_ok, if_true, run_size hsz]
    have : cs.toArray.extract off (off + i.size) = ((cs.drop off).take i.size).toArray := by simp [List.extract_toArray, List.extract_eq_take_drop]
    rw [this]; rfl
  unfold partA at h
  split at h
  · rename_i fs hu
    split at h
    · rename_i i hi
      dsimp only at h
      split at h
      · rename_i hlen
        injection h with h; subst h
        exact aggCase i hi hlen fun w => run_agg hu w
      · cases h
    · cases h
  · rename_i n e hu
    split at h
    · rename_i i hi
      dsimp only at h
      split at h
      · rename_i hlen
        injection h with h; subst h
        exact aggCase i hi hlen fun w => run_agg hu w
      · cases h
    · cases h
  · rename_i d hns hna hu
    rw [nthC_eq] at h
    obtain ⟨c, hc, hv⟩ := hr.1.get _ _ h
    refine ⟨c, hv, fun w => ?_⟩
    have hf : isAggD d = false := by
      cases d <;> first | rfl | exact (hns _ rfl).elim | exact (hna _ _ rfl).elim
    simp only [part, Sem.run_bind, run_agg hu, Result.andThen_ok, hf, Bool.false_eq_true, if_false]
    simp [hc]
  · cases h

/-! ## Comparing -/

/-- How the model's loop over an array's elements goes. -/
def eqElems (d : Nat) (e : TypeId) (xs ys : Array Value) (size : Nat) : List Nat → Sem Bool
  | [] => pure true
  | i :: r => do
    let a ← part e xs (i * size)
    let b ← part e ys (i * size)
    let x ← Op.equalIn d e a b
    if (!x) = true then pure false else eqElems d e xs ys size r

theorem run_equal_array (d : Nat) (t e : TypeId) (n size : Nat) (xs ys : Array Value) (ht : P.underlying t = some (.array n e)) (hs : sizeA P e = some size) (w : World) :
    (Op.equalIn (d + 1) t (.agg xs) (.agg ys)).run P w = (eqElems d e xs ys size (List.range n)).run P w := by
  simp only [Op.equalIn, Sem.run_bind, run_und ht, Result.andThen_ok, run_size hs]
  rw [Std.Legacy.Range.forIn_eq_forIn_range']
  have hr : List.range' ([0:n] : Std.Legacy.Range).start ([0:n] : Std.Legacy.Range).size ([0:n] : Std.Legacy.Range).step = List.range n := by
    simp [Std.Legacy.Range.size, List.range_eq_range']
  rw [hr]
  generalize List.range n = l
  clear ht
  induction l generalizing w with
  | nil => simp [eqElems]
  | cons i r ih =>
    simp only [List.forIn_cons, eqElems, Sem.run_bind]
    generalize (part e xs (i * size)).run P w = r1
    cases r1 with
    | ok a w1 =>
      simp only [Result.andThen_ok]
      generalize (part e ys (i * size)).run P w1 = r2
      cases r2 with
      | ok b w2 =>
        simp only [Result.andThen_ok]
        generalize (Op.equalIn d e a b).run P w2 = r3
        cases r3 with
        | ok x w3 =>
          cases x
          · simp only [Result.andThen_ok, Bool.not_false, if_true, Sem.run_pure]
          · simp only [Result.andThen_ok, Bool.not_true, Bool.false_eq_true, if_false, Sem.run_pure]
            exact ih w3
        | halt x w3 => simp [Result.andThen]
      | halt x w2 => simp [Result.andThen]
    | halt x w1 => simp [Result.andThen]


/-- What the evaluator tells of a comparison of so much depth is what the model does. -/
def EqOk (P : Program) (μ : Inj) (d : Nat) : Prop :=
  ∀ t x y b cx cy, equalA P d t x y = some b → VRel μ x cx → VRel μ y cy → ∀ w, (Op.equalIn d t cx cy).run P w = .ok b w

theorem eqFieldsA_rel {d : Nat} (ih : EqOk P μ d) {xs ys : List AV} {cx cy : List Value} (hx : Row μ xs cx) (hy : Row μ ys cy) :
    ∀ {fs : List Field} {b : Bool}, eqFieldsA P (equalA P d) xs ys fs = some b → ∀ w, (Op.eqFields d cx.toArray cy.toArray fs).run P w = .ok b w
  | [], b, h, w => by simp only [eqFieldsA] at h; injection h with h; subst h; rfl
  | f :: fs, b, h, w => by
    simp only [eqFieldsA] at h
    simp only [Op.eqFields]
    split at h
    · rename_i hn
      simp only [hn, ne_eq, not_true_eq_false, if_false]
      exact eqFieldsA_rel ih hx hy h w
    · rename_i hn
      simp only [ne_eq, hn, not_false_eq_true, if_true, Sem.run_bind]
      split at h
      · rename_i a a' ha ha'
        obtain ⟨c, hc, hrun⟩ := part_rel hx ha
        obtain ⟨c', hc', hrun'⟩ := part_rel hy ha'
        simp only [hrun, hrun', Result.andThen_ok]
        split at h
        · rename_i he
          rw [ih _ _ _ _ _ _ he hc hc' w]
          simp only [Result.andThen_ok, Bool.not_true, Bool.false_eq_true, if_false]
          exact eqFieldsA_rel ih hx hy h w
        · rename_i he
          injection h with h; subst h
          rw [ih _ _ _ _ _ _ he hc hc' w]; rfl
        · cases h
      · cases h

theorem eqElemsA_rel {d : Nat} (ih : EqOk P μ d) {xs ys : List AV} {cx cy : List Value} (hx : Row μ xs cx) (hy : Row μ ys cy) {e : TypeId} {size : Nat} :
    ∀ {n i : Nat} {b : Bool}, eqElemsA P (equalA P d) xs ys e size n i = some b → ∀ w, (eqElems d e cx.toArray cy.toArray size (List.range' i n)).run P w = .ok b w
  | 0, i, b, h, w => by simp only [eqElemsA] at h; injection h with h; subst h; rfl
  | n + 1, i, b, h, w => by
    simp only [eqElemsA] at h
    simp only [List.range'_succ, eqElems, Sem.run_bind]
    split at h
    · rename_i a a' ha ha'
      obtain ⟨c, hc, hrun⟩ := part_rel hx ha
      obtain ⟨c', hc', hrun'⟩ := part_rel hy ha'
      simp only [hrun, hrun', Result.andThen_ok]
      split at h
      · rename_i he
        rw [ih _ _ _ _ _ _ he hc hc' w]
        simp only [Result.andThen_ok, Bool.not_true, Bool.false_eq_true, if_false]
        exact eqElemsA_rel ih hx hy h w
      · rename_i he
        injection h with h; subst h
        rw [ih _ _ _ _ _ _ he hc hc' w]; rfl
      · cases h
    · cases h

theorem fieldsOf_eq {t : TypeId} {fs : Array Field} (h : P.underlying t = some (.struct fs)) : P.fieldsOf t = fs := by
  simp [Program.fieldsOf, h]

set_option maxHeartbeats 4000000 in
theorem equalA_rel : ∀ d, EqOk P μ d
  | 0 => fun t x y b cx cy h => by simp [equalA] at h
  | d + 1 => by
    have ih := equalA_rel d
    intro t x y b cx cy h hx hy w
    rw [equalA.eq_def] at h
    dsimp only at h
    split at h
    all_goals (try (rename_i hu))
    · split at h
      · cases hx; cases hy; injection h with h; subst h
        simp only [Op.equalIn, Sem.run_bind, run_und hu, Result.andThen_ok, Sem.run_pure, Option.isNone_none, Option.isNone_some]
      · cases h
    · split at h
      · split at h
        · rename_i k n k' m hk
          subst hk
          cases hx with
          | int _ _ hn =>
            cases hy with
            | int _ _ hm =>
              injection h with h; subst h
              simp only [Op.equalIn, Sem.run_bind, run_und hu, Result.andThen_ok, if_true, Sem.run_pure]
              congr 1
              rw [Bool.eq_iff_iff, Nat.beq_eq, beq_iff_eq]
              exact ⟨toInt_inj _ _ _ hn hm, fun e => by rw [e]⟩
        · cases h
      · cases h
    · split at h
      · cases hx with
        | str _ _ s hs =>
          cases hy with
          | str _ _ u hu' =>
            injection h with h; subst h
            simp only [Op.equalIn, Sem.run_bind, run_und hu, Result.andThen_ok, Sem.run_pure, beq_toListBytes, str_eq hs hu']
      · cases h
    · split at h
      · cases hx; cases hy; injection h with h; subst h; simp only [Op.equalIn, Sem.run_bind, run_und hu, Result.andThen_ok, Sem.run_pure, Option.isNone_none, Option.isNone_some]
      · cases hx; cases hy; injection h with h; subst h; simp only [Op.equalIn, Sem.run_bind, run_und hu, Result.andThen_ok, Sem.run_pure, Option.isNone_none, Option.isNone_some]
      · cases hx; cases hy; injection h with h; subst h; simp only [Op.equalIn, Sem.run_bind, run_und hu, Result.andThen_ok, Sem.run_pure, Option.isNone_none, Option.isNone_some]
      · cases h
    · split at h
      · cases hx; cases hy; injection h with h; subst h; simp only [Op.equalIn, Sem.run_bind, run_und hu, Result.andThen_ok, Sem.run_pure, Option.isNone_none, Option.isNone_some]
      · cases hx; cases hy; injection h with h; subst h; simp only [Op.equalIn, Sem.run_bind, run_und hu, Result.andThen_ok, Sem.run_pure, Option.isNone_none, Option.isNone_some]
      · cases hx; cases hy; injection h with h; subst h; simp only [Op.equalIn, Sem.run_bind, run_und hu, Result.andThen_ok, Sem.run_pure, Option.isNone_none, Option.isNone_some]
      · cases hx; cases hy; injection h with h; subst h; simp only [Op.equalIn, Sem.run_bind, run_und hu, Result.andThen_ok, Sem.run_pure, Option.isNone_none, Option.isNone_some]
      · cases hx; cases hy; injection h with h; subst h; simp only [Op.equalIn, Sem.run_bind, run_und hu, Result.andThen_ok, Sem.run_pure, Option.isNone_none, Option.isNone_some]
      · cases h
    · split at h
      · cases hx; cases hy; injection h with h; subst h; simp only [Op.equalIn, Sem.run_bind, run_und hu, Result.andThen_ok, Sem.run_pure, Option.isNone_none, Option.isNone_some]
      · cases hx; cases hy; injection h with h; subst h; simp only [Op.equalIn, Sem.run_bind, run_und hu, Result.andThen_ok, Sem.run_pure, Option.isNone_none, Option.isNone_some]
      · cases hx; cases hy; injection h with h; subst h; simp only [Op.equalIn, Sem.run_bind, run_und hu, Result.andThen_ok, Sem.run_pure, Option.isNone_none, Option.isNone_some]
      · cases h
    · split at h
      · cases hx; cases hy; injection h with h; subst h; simp only [Op.equalIn, Sem.run_bind, run_und hu, Result.andThen_ok, Sem.run_pure, Option.isNone_none, Option.isNone_some]
      · cases hx; cases hy; injection h with h; subst h; simp only [Op.equalIn, Sem.run_bind, run_und hu, Result.andThen_ok, Sem.run_pure, Option.isNone_none, Option.isNone_some]
      · cases hx; cases hy; injection h with h; subst h; simp only [Op.equalIn, Sem.run_bind, run_und hu, Result.andThen_ok, Sem.run_pure, Option.isNone_none, Option.isNone_some]
      · cases h
    · split at h
      · cases hx; cases hy; injection h with h; subst h; simp only [Op.equalIn, Sem.run_bind, run_und hu, Result.andThen_ok, Sem.run_pure, Option.isNone_none, Option.isNone_some]
      · cases hx; cases hy; injection h with h; subst h; simp only [Op.equalIn, Sem.run_bind, run_und hu, Result.andThen_ok, Sem.run_pure, Option.isNone_none, Option.isNone_some]
      · cases hx; cases hy; injection h with h; subst h; simp only [Op.equalIn, Sem.run_bind, run_und hu, Result.andThen_ok, Sem.run_pure, Option.isNone_none, Option.isNone_some]
      · split at h
        · rename_i tx vx ty vy htt
          subst htt
          cases hx with
          | ifc _ hx =>
            cases hy with
            | ifc _ hy =>
              split at h
              · rename_i i hi
                split at h
                · rename_i hcmp
                  simp only [Op.equalIn, Sem.run_bind, run_und hu, Result.andThen_ok, ne_eq, not_true_eq_false, if_false, run_info hi, hcmp, Bool.not_true, Bool.false_eq_true]
                  exact ih _ _ _ _ _ _ h hx hy w
                · cases h
              · cases h
        · rename_i tx vx ty vy htt
          cases hx with
          | ifc _ hx =>
            cases hy with
            | ifc _ hy =>
              injection h with h; subst h
              simp only [Op.equalIn, Sem.run_bind, run_und hu, Result.andThen_ok, ne_eq, htt, not_false_eq_true, if_true, Sem.run_pure]
      · cases h
    · split at h
      · split at h
        · cases h
        · rename_i fs xs ys hst
          obtain ⟨cs, rfl, hrx⟩ := Row.of_agg hx
          obtain ⟨ds, rfl, hry⟩ := Row.of_agg hy
          rw [run_equalIn_struct w d t _ _ (by rw [fieldsOf_eq hu]; exact hu) (by simpa using hst), fieldsOf_eq hu]
          exact eqFieldsA_rel ih hrx hry h w
      · cases h
    · split at h
      · split at h
        · rename_i i hi
          obtain ⟨cs, rfl, hrx⟩ := Row.of_agg hx
          obtain ⟨ds, rfl, hry⟩ := Row.of_agg hy
          rw [run_equal_array d t _ _ i.size _ _ hu (by simp [sizeA, hi]) w, List.range_eq_range']
          exact eqElemsA_rel ih hrx hry h w
        · cases h
      · cases h
    · cases h

end
end Go.Abs

/- Comparing values by '==', building, and taking apart. -/
namespace Go.Abs

section
variable {P : Program} {μ : Inj}

/-! ## '==' -/

theorem guard_plain {op : BinOp} {t : TypeId} {x y : Operand} {a b : AV} {ca cb : Value} (ha : VRel μ a ca) (hb : VRel μ b cb)
    (h1 : ∀ (_ : a = .nili) (_ : b = .nili), isConst x = true ∨ isConst y = true)
    (h2 : ∀ l m, a = .agg l → b = .agg m → P.eqGuardType P.depth t = false) (w : World) : (eqGuard op t x y ca cb).run P w = .ok () w := by
  have conv : ∀ z : Operand, isConst z = true → (match z with | .const _ => true | _ => false) = true := by
    intro z hz; cases z <;> simp_all [isConst]
  cases ha <;> cases hb
  case nili.nili =>
    rcases h1 rfl rfl with h | h
    · have := conv x h
      cases x <;> simp_all [isConst]
      cases op <;> simp [eqGuard]
    · have := conv y h
      cases y <;> simp_all [isConst]
      cases op <;> simp [eqGuard]
  case agg.agg => exact run_eqGuard_agg w op t x y _ _ (h2 _ _ rfl rfl)
  all_goals (cases op <;> rfl)

theorem oneRun_some {a : AV} {n x : Nat} (h : oneRun a = some (n, x)) : a = .agg [.run n x] := by
  unfold oneRun at h
  split at h
  · injection h with h; injection h with h1 h2; rw [h1, h2]
  · cases h

theorem eqElems_ints {d : Nat} {e : TypeId} {k : IntKind} (hu : P.underlying e = some (.int k)) (hs : sizeA P e = some 1) (w : World) :
    ∀ (l : List Nat) (xs ys : List Nat), (∀ i ∈ l, i < xs.length ∧ i < ys.length) →
      (eqElems (d + 1) e (xs.map fun (b : Nat) => Value.int .u8 (b : Int)).toArray (ys.map fun (b : Nat) => Value.int .u8 (b : Int)).toArray 1 l).run P w = .ok (l.all fun i => xs.getD i 0 == ys.getD i 0) w
  | [], _, _, _ => rfl
  | i :: r, xs, ys, h => by
    obtain ⟨hx, hy⟩ := h i (List.mem_cons_self ..)
    have hp : ∀ (zs : List Nat), i < zs.length → (part e (zs.map fun (b : Nat) => Value.int .u8 (b : Int)).toArray (i * 1)).run P w = .ok (.int .u8 ((zs.getD i 0 : Nat) : Int)) w := by
      intro zs hz
      simp only [part, Sem.run_bind, run_agg hu, Result.andThen_ok, isAggD, Bool.false_eq_true, if_false, Nat.mul_one]
      simp [hz, List.getD]
    simp only [eqElems, Sem.run_bind, hp xs hx, hp ys hy, Result.andThen_ok]
    have he : (Op.equalIn (d + 1) e (.int .u8 ((xs.getD i 0 : Nat) : Int)) (.int .u8 ((ys.getD i 0 : Nat) : Int))).run P w = .ok (xs.getD i 0 == ys.getD i 0) w := by
      simp only [Op.equalIn, Sem.run_bind, run_und hu, Result.andThen_ok, if_true, Sem.run_pure]
      congr 1
      rw [Bool.eq_iff_iff]; simp only [beq_iff_eq]; omega
    rw [he]
    simp only [Result.andThen_ok, List.all_cons]
    cases hb : (xs.getD i 0 == ys.getD i 0) with
    | false => simp
    | true =>
      simp only [Bool.not_true, Bool.false_eq_true, if_false, Bool.true_and]
      exact eqElems_ints hu hs w r xs ys fun j hj => h j (List.mem_cons_of_mem _ hj)

theorem LRel.run_inv {n x : Nat} {cs : List Value} (h : LRel μ (runCells n x) cs) : cs = (bytesL n x).map fun (b : Nat) => Value.int .u8 (b : Int) := by
  have g := LRel.run (μ := μ) n x
  have hl := h.length
  have hl2 := g.length
  apply List.ext_getElem (by omega)
  intro i h1 h2
  have e : (runCells n x)[i]? = some ((runCells n x)[i]'(by omega)) := List.getElem?_eq_getElem (by omega)
  obtain ⟨c, hc, hv⟩ := h.get i _ e
  obtain ⟨c', hc', hv'⟩ := g.get i _ e
  rw [List.getElem?_eq_getElem h1] at hc
  rw [List.getElem?_eq_getElem h2] at hc'
  injection hc with hc; injection hc' with hc'
  rw [hc, hc']
  have hi : (runCells n x)[i]'(by omega) = .int .u8 ((bytesL n x)[i]'(by simp at hl2 hl h1 ⊢; omega)) := by simp [runCells]
  rw [hi] at hv hv'
  cases hv; cases hv'; rfl

theorem all_beq {xs ys : List Nat} {n : Nat} (hx : xs.length = n) (hy : ys.length = n) : ((List.range n).all fun i => xs.getD i 0 == ys.getD i 0) = (xs == ys) := by
  rw [Bool.eq_iff_iff]
  simp only [List.all_eq_true, List.mem_range, beq_iff_eq]
  constructor
  · intro h
    apply List.ext_getElem (by omega)
    intro i h1 h2
    have := h i (by omega)
    simpa [List.getD, h1, h2] using this
  · intro h i _; rw [h]

theorem eqlA_rel {t : TypeId} {x y : Operand} {a b : AV} {ca cb : Value} {r : Bool} (ha : VRel μ a ca) (hb : VRel μ b cb) (h : eqlA P t x y a b = some r) (op : BinOp) (w : World) :
    (eqGuard op t x y ca cb).run P w = .ok () w ∧ (Op.equal t ca cb).run P w = .ok r w := by
  have plain : ∀ {a b : AV} {ca cb : Value}, VRel μ a ca → VRel μ b cb → equalA P 10000 t a b = some r → (Op.equal t ca cb).run P w = .ok r w :=
    fun ha hb h => equalA_rel 10000 _ _ _ _ _ _ h ha hb w
  unfold eqlA at h
  split at h
  · split at h
    · rename_i hc
      simp only [Bool.or_eq_true] at hc
      exact ⟨guard_plain ha hb (fun _ _ => hc) (fun l m e => by cases e) w, plain ha hb h⟩
    · cases h
  · split at h
    · cases h
    · rename_i hg
      have hg : P.eqGuardType P.depth t = false := by simpa using hg
      refine ⟨guard_plain ha hb (fun e => by cases e) (fun _ _ _ _ => hg) w, ?_⟩
      split at h
      · rename_i l m n p k q h1 h2
        split at h
        · rename_i len e hu
          split at h
          · rename_i kk hk hs
            split at h
            · rename_i hnm
              obtain ⟨rfl, rfl⟩ := hnm
              injection h with h; subst h
              rw [oneRun_some h1] at ha
              rw [oneRun_some h2] at hb
              obtain ⟨cs, rfl, hra⟩ := Row.of_agg ha
              obtain ⟨ds, rfl, hrb⟩ := Row.of_agg hb
              have e1 : expand [AV.run k p] = runCells k p := by simp [expand]
              have e2 : expand [AV.run k q] = runCells k q := by simp [expand]
              have hca := LRel.run_inv (e1 ▸ hra.1)
              have hcb := LRel.run_inv (e2 ▸ hrb.1)
              subst hca hcb
              show (Op.equalIn 10000 t _ _).run P w = _
              rw [run_equal_array 9999 t e k 1 _ _ hu hs w]
              rw [eqElems_ints (d := 9998) hk hs w (List.range k) (bytesL k p) (bytesL k q) (fun i hi => by simpa using hi), all_beq (by simp) (by simp)]
              congr 1
              rw [Bool.eq_iff_iff, beq_iff_eq, Nat.beq_eq, mod8_eq, mod8_eq]
              exact ⟨bytesL_inj k p q, fun e => by rw [← bytesL_mod k p, e, bytesL_mod]⟩
            · cases h
          · cases h
        · cases h
      · exact plain ha hb h
  · rename_i hn1 hn2
    exact ⟨guard_plain ha hb (fun e1 e2 => (hn1 e1 e2).elim) (fun l m e1 e2 => (hn2 l m e1 e2).elim) w, plain ha hb h⟩

theorem guard_other {op : BinOp} (h1 : op ≠ .eql) (h2 : op ≠ .neq) (t : TypeId) (x y : Operand) (a b : Value) (w : World) : (eqGuard op t x y a b).run P w = .ok () w := by
  cases op <;> first | rfl | contradiction

theorem guard_int {op : BinOp} (t : TypeId) (x y : Operand) (k k' : IntKind) (n m : Int) (w : World) : (eqGuard op t x y (.int k n) (.int k' m)).run P w = .ok () w := by
  cases op <;> rfl
theorem guard_str {op : BinOp} (t : TypeId) (x y : Operand) (s u : ByteArray) (w : World) : (eqGuard op t x y (.string s) (.string u)).run P w = .ok () w := by
  cases op <;> rfl

theorem binA_rel {op : BinOp} {t : TypeId} {x y : Operand} {a b v : AV} {ca cb : Value} (ha : VRel μ a ca) (hb : VRel μ b cb) (h : binA P op t x y a b = some v) :
    ∃ c, VRel μ v c ∧ ∀ w, (do eqGuard op t x y ca cb; Go.binOp op t ca cb : Sem Value).run P w = .ok c w := by
  unfold binA at h
  split at h
  · cases ha with
    | int _ _ hn =>
      cases hb with
      | int _ _ hm =>
        rename_i k n k' m
        have done : (∃ c, VRel μ v c ∧ ∀ w, (Go.binOp op t (.int k (toInt k n)) (.int k' (toInt k' m))).run P w = .ok c w) →
            ∃ c, VRel μ v c ∧ ∀ w, (do eqGuard op t x y (.int k (toInt k n)) (.int k' (toInt k' m)); Go.binOp op t (.int k (toInt k n)) (.int k' (toInt k' m)) : Sem Value).run P w = .ok c w := by
          rintro ⟨c, hc, hr⟩
          exact ⟨c, hc, fun w => by simp only [Sem.run_bind, guard_int, Result.andThen_ok, hr]⟩
        apply done
        split at h
        · exact shift_rel hn (.inl rfl) h
        · exact shift_rel hn (.inr rfl) h
        · split at h
          · rename_i e; subst e
            exact arith_rel hn hm h
          · cases h
  · cases ha with
    | str n x s hs =>
      cases hb with
      | str m y u hu =>
        obtain ⟨c, hc, hr⟩ := strOp_rel (P := P) (t := t) hs hu h
        exact ⟨c, hc, fun w => by simp only [Sem.run_bind, guard_str, Result.andThen_ok, hr]⟩
  · cases h
  · cases h
  · rename_i hst1 hst2 hnot1 hnot2
    split at h
    · split at h
      · rename_i r hr
        injection h with h; subst h
        refine ⟨_, .bool r, fun w => ?_⟩
        obtain ⟨g1, g2⟩ := eqlA_rel ha hb hr .eql w
        simp only [Sem.run_bind, g1, Result.andThen_ok]
        have hb2 : (Go.binOp .eql t ca cb).run P w = ((Op.equal t ca cb).run P w).andThen fun b w' => .ok (.bool b) w' := by
          cases ha <;> cases hb <;> first
            | (exact (hnot1 _ _ _ _ rfl rfl).elim)
            | (exact (hnot2 _ _ _ _ rfl rfl).elim)
            | (exact (hst1 _ _ rfl).elim)
            | (exact (hst2 _ _ rfl).elim)
            | (simp only [Go.binOp, Sem.run_bind]; rfl)
        rw [hb2, g2]; rfl
      · cases h
    · split at h
      · rename_i r hr
        injection h with h; subst h
        refine ⟨_, .bool (!r), fun w => ?_⟩
        obtain ⟨g1, g2⟩ := eqlA_rel ha hb hr .neq w
        simp only [Sem.run_bind, g1, Result.andThen_ok]
        have hb2 : (Go.binOp .neq t ca cb).run P w = ((Op.equal t ca cb).run P w).andThen fun b w' => .ok (.bool (!b)) w' := by
          cases ha <;> cases hb <;> first
            | (exact (hnot1 _ _ _ _ rfl rfl).elim)
            | (exact (hnot2 _ _ _ _ rfl rfl).elim)
            | (exact (hst1 _ _ rfl).elim)
            | (exact (hst2 _ _ rfl).elim)
            | (simp only [Go.binOp, Sem.run_bind]; rfl)
        rw [hb2, g2]; rfl
      · cases h
    · cases h

end
end Go.Abs

/- Building and taking apart; all operations that ask nothing of memory. -/
namespace Go.Abs

section
variable {P : Program} {μ : Inj}

/-! ## Parts laid into a row -/

theorem cellsOfA_rel {v : AV} {c : Value} {l : List AV} (hv : VRel μ v c) (h : cellsOfA v = some l) : Row μ l c.cells.toList := by
  unfold cellsOfA at h
  split at h
  · injection h with h; subst h
    obtain ⟨cs, rfl, hr⟩ := Row.of_agg hv
    exact hr
  · cases h
  · cases h
  · rename_i h1 h2 h3
    injection h with h; subst h
    have ho : v.one = true := by cases v <;> first | rfl | exact (h1 _ rfl).elim | exact (h2 _ rfl).elim | exact (h3 _ _ rfl).elim
    have he : expand [v] = [v] := by cases v <;> first | rfl | exact (h3 _ _ rfl).elim
    have hc : c.cells = #[c] := by cases hv <;> first | rfl | (simp [AV.one] at ho)
    rw [hc]
    exact ⟨by rw [he]; exact .cons hv .nil, by rw [he]; intro x hx; simp at hx; rw [hx]; exact ho⟩

theorem foldl_set (off : Nat) : ∀ (vs : List Value) (i : Nat) (cs : Array Value), off + i + vs.length ≤ cs.size →
    ((vs.zipIdx i).foldl (fun cs (p : Value × Nat) => cs.setIfInBounds (off + p.2) p.1) cs).toList = cs.toList.take (off + i) ++ vs ++ cs.toList.drop (off + i + vs.length)
  | [], i, cs, _ => by simp
  | v :: r, i, cs, h => by
    simp only [List.length_cons] at h
    simp only [List.zipIdx_cons, List.foldl_cons]
    rw [foldl_set off r (i + 1) _ (by simp; omega)]
    simp only [Array.toList_setIfInBounds]
    have hk : off + i < cs.toList.length := by simp; omega
    have e1 : (cs.toList.set (off + i) v).take (off + (i + 1)) = cs.toList.take (off + i) ++ [v] := by
      rw [show off + (i + 1) = (off + i) + 1 from rfl, List.take_succ_eq_append_getElem (by simpa using hk), List.take_set_of_le (Nat.le_refl _), List.getElem_set_self]
    rw [e1, List.drop_set_of_lt (by omega), List.length_cons, show off + (i + 1) + r.length = off + i + (r.length + 1) by omega]
    simp

/-- Parts of the model, each one of the evaluator's. -/
inductive PRel (μ : Inj) : List (Nat × AV) → List (Nat × Value) → Prop where
  | nil : PRel μ [] []
  | cons {i : Nat} {v : AV} {c : Value} {l : List (Nat × AV)} {cs : List (Nat × Value)} (h : VRel μ v c) (t : PRel μ l cs) : PRel μ ((i, v) :: l) ((i, c) :: cs)

theorem Row.put {off m : Nat} {new l : List AV} {ns cs : List Value} (hn : Row μ new ns) (hl : Row μ l cs) :
    Row μ (putC off m new l) (cs.take off ++ ns ++ cs.drop (off + m)) := by
  refine ⟨?_, fun v hv => ?_⟩
  · rw [expand_putC, List.append_assoc]
    exact (hl.1.take off).append (hn.1.append (hl.1.drop (off + m)))
  · rw [expand_putC] at hv
    simp only [List.mem_append] at hv
    rcases hv with hv | hv | hv
    · exact hl.2 v (List.mem_of_mem_take hv)
    · exact hn.2 v hv
    · exact hl.2 v (List.mem_of_mem_drop hv)

theorem clen_putC {off m : Nat} {new l : List AV} (hm : clen new = m) (h : off + m ≤ clen l) : clen (putC off m new l) = clen l := by
  rw [clen_eq, expand_putC]; rw [clen_eq] at hm h; simp only [List.length_append, List.length_take, List.length_drop, hm, clen_eq]; omega

theorem expand_run1 {n : Nat} (h : n < 256) : expand [.run 1 n] = [.int .u8 n] := by
  simp only [expand, List.append_nil]
  have h2 := runCells_get 1 n 0 (by omega)
  have h1 := runCells_length 1 n
  match hr : runCells 1 n, h1, h2 with
  | [x], _, h2 =>
    simp only [List.getElem?_cons_zero, Option.some.injEq] at h2
    rw [h2, shr8_eq]
    have : n / 256 ^ (1 - 1 - 0) % 256 = n := by simp; omega
    rw [this]

theorem cellsB_rel {μ : Inj} {v : AV} {c : Value} {l m : List AV} (hv : VRel μ v c) (h : cellsB l v = some m) : Row μ m c.cells.toList := by
  unfold cellsB at h
  split at h
  · rename_i n
    have hr := cellsOfA_rel hv (show cellsOfA (.int .u8 n) = some [.int .u8 n] from rfl)
    split at h
    · rename_i hc
      simp only [Bool.and_eq_true, Nat.blt_eq] at hc
      injection h with h; subst h
      have he := expand_run1 hc.2
      exact ⟨by rw [he]; exact hr.1, by rw [he]; exact hr.2⟩
    · injection h with h; subst h; exact hr
  · exact cellsOfA_rel hv h


theorem fillA_rel {place : Nat → Option (Nat × Nat)} : ∀ {parts : List (Nat × AV)} {cparts : List (Nat × Value)} {z r : List AV} {cs : List Value}, PRel μ parts cparts → Row μ z cs → fillA place z parts = some r →
    ∃ rs : List Value, Instr.fill place cs.toArray cparts = some rs.toArray ∧ Row μ r rs ∧ clen r = clen z
  | _, _, z, r, cs, .nil, hz, h => by simp only [fillA] at h; injection h with h; subst h; exact ⟨cs, rfl, hz, rfl⟩
  | _, _, z, r, cs, .cons (i := i) (v := v) (c := c) hv t, hz, h => by
    simp only [fillA] at h
    simp only [Instr.fill]
    cases hp : place i with
    | none => rw [hp] at h; cases h
    | some os =>
      obtain ⟨off, size⟩ := os
      rw [hp] at h
      dsimp only at h ⊢
      cases hc : cellsB z v with
      | none => rw [hc] at h; cases h
      | some vs =>
        rw [hc] at h
        dsimp only at h
        split at h
        · rename_i hcond
          have hrv := cellsB_rel hv hc
          have hlen : c.cells.size = size := by
            have := hrv.len; rw [hcond.1] at this; simpa using this
          have hzl := hz.len
          have hput := Row.put (off := off) (m := size) hrv hz
          rw [if_neg]
          · have hf := foldl_set off c.cells.toList 0 cs.toArray (by simp; omega)
            have e : (Array.foldl (fun cs (p : Value × Nat) => cs.setIfInBounds (off + p.2) p.1) cs.toArray c.cells.zipIdx) = (cs.take off ++ c.cells.toList ++ cs.drop (off + size)).toArray := by
              rw [← Array.foldl_toList]
              apply Array.toList_inj.1
              rw [Array.toList_zipIdx, hf]
              simp [hlen]
            have hfold : (c.cells.zipIdx.foldl (fun cs (x : Value × Nat) => match x with | (c, j) => cs.setIfInBounds (off + j) c) cs.toArray) = (cs.take off ++ c.cells.toList ++ cs.drop (off + size)).toArray := e
            rw [hfold]
            obtain ⟨rs, h1, h2, h3⟩ := fillA_rel t hput h
            exact ⟨rs, h1, h2, by rw [h3, clen_putC hcond.1 hcond.2]⟩
          · simp [hlen]; omega
        · cases h

theorem evParts_rel {ev : Operand → Option AV} {ρ : Operand → Value} (hev : ∀ x v, ev x = some v → VRel μ v (ρ x)) :
    ∀ {l : List (Nat × Operand)} {r : List (Nat × AV)}, evParts ev l = some r → PRel μ r (l.map fun (i, x) => (i, ρ x))
  | [], r, h => by simp only [evParts] at h; injection h with h; subst h; exact .nil
  | (i, x) :: l, r, h => by
    simp only [evParts] at h
    split at h
    · rename_i v m hv hm
      injection h with h; subst h
      exact .cons (hev _ _ hv) (evParts_rel hev hm)
    · cases h

theorem evList_rel {ev : Operand → Option AV} {ρ : Operand → Value} (hev : ∀ x v, ev x = some v → VRel μ v (ρ x)) :
    ∀ {l : List Operand} {r : List AV}, evList ev l = some r → LRel μ r (l.map ρ)
  | [], r, h => by simp only [evList] at h; injection h with h; subst h; exact .nil
  | x :: l, r, h => by
    simp only [evList] at h
    split at h
    · rename_i v m hv hm
      injection h with h; subst h
      exact .cons (hev _ _ hv) (evList_rel hev hm)
    · cases h

theorem run_mapM_list {α β : Type} (g : α → Sem β) (w : World) : ∀ (l : List α) (r : List β), l.length = r.length → (∀ (i : Nat) a b, l[i]? = some a → r[i]? = some b → (g a).run P w = .ok b w) →
    (l.mapM g).run P w = .ok r w
  | [], [], _, _ => rfl
  | [], _ :: _, h, _ => by simp at h
  | _ :: _, [], h, _ => by simp at h
  | a :: l, b :: r, h, hg => by
    rw [List.mapM_cons]
    simp only [Sem.run_bind]
    rw [hg 0 a b rfl rfl]
    simp only [Result.andThen_ok]
    rw [run_mapM_list g w l r (by simpa using h) fun i a b ha hb => hg (i + 1) a b (by simpa using ha) (by simpa using hb)]
    rfl

theorem fieldPlaces_rel : ∀ {fs : List Field} {l : List (Nat × Nat)}, fieldPlaces P fs = some l → fs.length = l.length ∧ ∀ (i : Nat) f p, fs[i]? = some f → l[i]? = some p → p.1 = f.offset ∧ sizeA P f.type = some p.2
  | [], l, h => by simp only [fieldPlaces] at h; injection h with h; subst h; simp
  | f :: fs, l, h => by
    simp only [fieldPlaces] at h
    split at h
    · rename_i s m hs hm
      injection h with h; subst h
      obtain ⟨h1, h2⟩ := fieldPlaces_rel hm
      refine ⟨by simp [h1], fun i f' p hf hp => ?_⟩
      cases i with
      | zero => simp at hf hp; subst hf hp; exact ⟨rfl, hs⟩
      | succ i => exact h2 i f' p (by simpa using hf) (by simpa using hp)
    · cases h

theorem zero_row {t : TypeId} {z : List AV} (h : zeroA P t = some (.agg z)) : ∃ cs : List Value, Row μ z cs ∧ ∀ w, (zeroValue t).run P w = .ok (.agg cs.toArray) w := by
  obtain ⟨c, hc, hr⟩ := run_zero (μ := μ) h
  obtain ⟨cs, rfl, hrow⟩ := Row.of_agg hc
  exact ⟨cs, hrow, hr⟩

theorem buildA_rel {t : TypeId} {parts : List (Nat × AV)} {cparts : Array (Nat × Value)} {v : AV} (hp : PRel μ parts cparts.toList) (h : buildA P t parts = some v) :
    ∃ c, VRel μ v c ∧ ∀ w, (Instr.build t cparts).run P w = .ok c w := by
  unfold buildA at h
  split at h
  · rename_i z hz
    obtain ⟨cs, hrow, hzr⟩ := zero_row (μ := μ) hz
    split at h
    · rename_i fs hu
      split at h
      · rename_i l hl
        obtain ⟨hl1, hl2⟩ := fieldPlaces_rel hl
        split at h
        · rename_i r hr
          injection h with h; subst h
          obtain ⟨rs, hf, hrow', _⟩ := fillA_rel hp hrow hr
          refine ⟨_, hrow'.agg, fun w => ?_⟩
          have hm : (fs.mapM fun f => do pure (f.offset, ← sizeOf f.type) : Sem (Array (Nat × Nat))).run P w = .ok l.toArray w := by
            rw [Array.mapM_eq_mapM_toList]
            simp only [Sem.run_map]
            rw [run_mapM_list _ w fs.toList l (by simpa using hl1) fun i f p hf hp => ?_]
            · rfl
            · obtain ⟨e1, e2⟩ := hl2 i f p hf hp
              simp only [Sem.run_bind, run_size e2, Result.andThen_ok, Sem.run_pure, ← e1]
          simp only [Instr.build, Sem.run_bind, hzr, Result.andThen_ok, run_und hu, hm]
          have : (fun x : Nat => (l.toArray)[x]?) = fun i : Nat => l[i]? := by funext i; simp
          simp only [Value.cells]
          rw [this, hf]; rfl
        · cases h
      · cases h
    · rename_i n e hu
      split at h
      · rename_i s hs
        split at h
        · rename_i r hr
          injection h with h; subst h
          obtain ⟨rs, hf, hrow', _⟩ := fillA_rel hp hrow hr
          refine ⟨_, hrow'.agg, fun w => ?_⟩
          simp only [Instr.build, Sem.run_bind, hzr, Result.andThen_ok, run_und hu, run_size hs, Value.cells, hf]; rfl
        · cases h
      · cases h
    · cases h
  · cases h

end
end Go.Abs
