/- Regions drawn in any order: what stands ahead of what; temporaries. -/
import Derived.Test.YtmfondkhhnnjjaaGreatDoorA23

namespace Go.Abs
noncomputable section

/-! ## What stands ahead -/

def edgesOf (acc : Array Nat) (o : Oper) : Nat := o.after.foldl (fun s e => if Region.binds .any e then s ||| 2 ^ e.on ||| acc.getD e.on 0 else s) 0

theorem edges_bit (acc : Array Nat) (i : Nat) : ∀ (es : List Edge) (s : Nat), (es.foldl (fun s e => if Region.binds .any e then s ||| 2 ^ e.on ||| acc.getD e.on 0 else s) s).testBit i = true →
    s.testBit i = true ∨ ∃ e ∈ es, Region.binds .any e = true ∧ (e.on = i ∨ (acc.getD e.on 0).testBit i = true)
  | [], s, h => .inl h
  | e :: es, s, h => by
    rw [List.foldl_cons] at h
    rcases edges_bit acc i es _ h with h1 | ⟨e', he', h1⟩
    · split at h1
      · rename_i hb
        rw [Nat.testBit_or, Nat.testBit_or, Nat.testBit_two_pow] at h1
        simp only [Bool.or_eq_true, decide_eq_true_eq] at h1
        rcases h1 with (h1 | h1) | h1
        · exact .inl h1
        · exact .inr ⟨e, by simp, hb, .inl h1⟩
        · exact .inr ⟨e, by simp, hb, .inr h1⟩
      · exact .inl h1
    · exact .inr ⟨e', by simp [he'], h1⟩

def befores (l : List Oper) (acc : Array Nat) : Array Nat := l.foldl (fun acc o => acc.push (edgesOf acc o)) acc

theorem befores_size : ∀ (l : List Oper) (acc : Array Nat), (befores l acc).size = acc.size + l.length
  | [], acc => by simp [befores]
  | o :: l, acc => by
    show (befores l _).size = _
    rw [befores_size l]; simp; omega

theorem befores_old : ∀ (l : List Oper) (acc : Array Nat) (j : Nat), j < acc.size → (befores l acc).getD j 0 = acc.getD j 0
  | [], acc, j, _ => rfl
  | o :: l, acc, j, h => by
    show (befores l _).getD j 0 = _
    rw [befores_old l _ j (by simp; omega)]
    simp only [Array.getD_eq_getD_getElem?, Array.getElem?_push]
    rw [if_neg (by omega)]

theorem befores_bit : ∀ (l : List Oper) (acc : Array Nat) (j i : Nat) (o : Oper), l[j]? = some o → ((befores l acc).getD (acc.size + j) 0).testBit i = true →
    ∃ e ∈ o.after.toList, Region.binds .any e = true ∧ (e.on = i ∨ (e.on < acc.size + j ∧ ((befores l acc).getD e.on 0).testBit i = true))
  | [], _, _, _, _, h, _ => by simp at h
  | o :: l, acc, 0, i, o', h, hb => by
    simp only [List.getElem?_cons_zero, Option.some.injEq] at h; subst h
    have hb' : ((befores l (acc.push (edgesOf acc o))).getD acc.size 0).testBit i = true := hb
    rw [befores_old l _ _ (by simp)] at hb'
    have hg : (acc.push (edgesOf acc o)).getD acc.size 0 = edgesOf acc o := by simp [Array.getD_eq_getD_getElem?]
    rw [hg] at hb'
    unfold edgesOf at hb'
    rw [← Array.foldl_toList] at hb'
    rcases edges_bit acc i _ 0 hb' with h1 | ⟨e, he, hbi, h1⟩
    · simp at h1
    · refine ⟨e, he, hbi, h1.imp id fun h2 => ?_⟩
      have hlt : e.on < acc.size := by
        rcases Nat.lt_or_ge e.on acc.size with hl | hl
        · exact hl
        · rw [Array.getD_eq_getD_getElem?, Array.getElem?_eq_none hl] at h2; simp at h2
      refine ⟨by omega, ?_⟩
      show ((befores l (acc.push (edgesOf acc o))).getD e.on 0).testBit i = true
      rw [befores_old l _ _ (by simp; omega)]
      have : (acc.push (edgesOf acc o)).getD e.on 0 = acc.getD e.on 0 := by
        simp only [Array.getD_eq_getD_getElem?, Array.getElem?_push]; rw [if_neg (by omega)]
      rw [this]; exact h2
  | o :: l, acc, j + 1, i, o', h, hb => by
    have hs : (acc.push (edgesOf acc o)).size + j = acc.size + (j + 1) := by simp; omega
    have := befores_bit l (acc.push (edgesOf acc o)) j i o' (by simpa using h) (by rw [hs]; exact hb)
    rw [hs] at this
    exact this

theorem before_eq (ops : Array Oper) : Region.before ops = befores ops.toList #[] := by
  unfold Region.before befores
  rw [← Array.foldl_toList]; rfl

/-- What is listed has what it stands behind listed. -/
def Down (ops : Array Oper) (L : Nat → Bool) : Prop := ∀ j o, L j = true → ops[j]? = some o → ∀ e ∈ o.after.toList, Region.binds .any e = true → L e.on = true

theorem before_listed {ops : Array Oper} {L : Nat → Bool} (hd : Down ops L) : ∀ (j i : Nat) (o : Oper), ops[j]? = some o → (∀ e ∈ o.after.toList, Region.binds .any e = true → L e.on = true) → ((Region.before ops).getD j 0).testBit i = true → L i = true := by
  intro j
  induction j using Nat.strongRecOn with
  | _ j ih =>
    intro i o ho hr hb
    rw [before_eq] at hb
    have := befores_bit ops.toList #[] j i o (by simpa using ho) (by simpa using hb)
    obtain ⟨e, he, hbi, h1⟩ := this
    have hl := hr e he hbi
    rcases h1 with h1 | ⟨hlt, h1⟩
    · rw [← h1]; exact hl
    · simp only [Array.size_empty, Nat.zero_add] at hlt
      have hsz : e.on < ops.size := by
        have : j < ops.size := (Array.getElem?_eq_some_iff.1 ho).1
        omega
      exact ih e.on hlt i _ (Array.getElem?_eq_getElem hsz) (fun e' he' hb' => hd e.on _ hl (Array.getElem?_eq_getElem hsz) e' he' hb') (by rw [before_eq]; exact h1)

/-! ## Temporaries, written in any order -/

def puts (e : Env) : List (Option Tmp × AV) → Env
  | [] => e
  | x :: l => puts (e.put x.1 x.2) l

theorem puts_append (l m : List (Option Tmp × AV)) : ∀ e, puts e (l ++ m) = puts (puts e l) m := by
  induction l with
  | nil => intro e; rfl
  | cons x l ih => intro e; exact ih _

theorem put_n (e : Env) (d : Option Tmp) (v : AV) : (e.put d v).n = e.n := by
  cases d with
  | none => rfl
  | some d => simp only [Env.put, Env.set]; split <;> rfl

theorem puts_n : ∀ (l : List (Option Tmp × AV)) (e : Env), (puts e l).n = e.n
  | [], _ => rfl
  | x :: l, e => by rw [puts, puts_n l, put_n]

theorem put_get_ne (e : Env) {d : Option Tmp} {t : Nat} (v : AV) (h : d ≠ some t) : (e.put d v).get t = e.get t := by
  cases d with
  | none => rfl
  | some d =>
    have hne : ¬ t = d := fun e => h (by rw [e])
    simp only [Env.put, Env.set]
    split
    · rfl
    · simp only [Env.get, DMap.get_put]
      rw [if_neg (fun e => hne e.1)]

/-- Two that have the same in a temporary have the same there behind the same write. -/
theorem put_get_congr {e e' : Env} (hn : e.n = e'.n) {t : Nat} (h : e.get t = e'.get t) (d : Option Tmp) (v : AV) : (e.put d v).get t = (e'.put d v).get t := by
  cases d with
  | none => exact h
  | some d =>
    simp only [Env.put, Env.set, hn]
    split
    · exact h
    · simp only [Env.get, hn] at h ⊢
      cases hb : Nat.ble e'.n t || Nat.ble (4 ^ 4) t with
      | true => rfl
      | false =>
        rw [hb] at h
        have h : e.m.get undefA t = e'.m.get undefA t := by injection h
        simp only [DMap.get_put, h]

theorem puts_filter (t : Nat) : ∀ (l : List (Option Tmp × AV)) (e e' : Env), e.n = e'.n → e.get t = e'.get t → (puts e l).get t = (puts e' (l.filter fun x => x.1 == some t)).get t
  | [], _, _, _, h => h
  | x :: l, e, e', hn, h => by
    by_cases hx : x.1 = some t
    · rw [List.filter_cons_of_pos (by simp [hx])]
      exact puts_filter t l _ _ (by rw [put_n, put_n, hn]) (put_get_congr hn h _ _)
    · rw [List.filter_cons_of_neg (by simpa using hx)]
      exact puts_filter t l _ _ (by rw [put_n, hn]) (by rw [put_get_ne _ _ hx]; exact h)

theorem puts_get {t : Nat} {l l' : List (Option Tmp × AV)} (e : Env) (h : (l.filter fun x => x.1 == some t) = l'.filter fun x => x.1 == some t) : (puts e l).get t = (puts e l').get t := by
  rw [puts_filter t l e e rfl rfl, puts_filter t l' e e rfl rfl, h]

theorem ERel.congr {μ : Inj} {e e' : Env} {tmps : Array Value} (h : ERel μ e tmps) (hn : e'.n = e.n) (hg : ∀ t, e'.get t = e.get t) : ERel μ e' tmps :=
  ⟨by rw [hn]; exact h.1, fun t v hv => h.2 t v (by rw [← hg t]; exact hv)⟩

end
end Go.Abs

/- The evaluator looks at an operation's own operands only. -/
namespace Go.Abs
noncomputable section

section
variable {P : Program} {H : AH} {ev ev' : Operand → Option AV}

theorem evList_congr : ∀ (l : List Operand), (∀ x ∈ l, ev x = ev' x) → evList ev l = evList ev' l
  | [], _ => rfl
  | x :: l, h => by simp only [evList]; rw [h x (by simp), evList_congr l fun y hy => h y (by simp [hy])]

theorem evParts_congr : ∀ (l : List (Nat × Operand)), (∀ x ∈ l.map (·.2), ev x = ev' x) → evParts ev l = evParts ev' l
  | [], _ => rfl
  | (i, x) :: l, h => by simp only [evParts]; rw [h x (by simp), evParts_congr l fun y hy => h y (by simp only [List.map_cons, List.mem_cons]; exact .inr hy)]

theorem evOpt_congr (x : Option Operand) (h : ∀ y ∈ x.toList, ev y = ev' y) : evOpt ev x = evOpt ev' x := by
  cases x with
  | none => rfl
  | some y => simp only [evOpt]; rw [h y (by simp)]

theorem call_congr {c : Call} (h : ∀ x ∈ c.operands, ev x = ev' x) :
    evList ev c.args.toList = evList ev' c.args.toList ∧ (∀ f, c.callee = .value f → ev f = ev' f) ∧ ∀ r n, c.callee = .invoke r n → ev r = ev' r := by
  refine ⟨evList_congr _ fun x hx => h x (by simp [Call.operands, Array.mem_toList_iff.1 hx]), fun f hf => h f (by simp [Call.operands, hf]), fun r n hr => h r (by simp [Call.operands, hr])⟩

theorem pureOp_congr (o : Oper) (h : ∀ x ∈ o.op.operands, ev x = ev' x) : pureOp P ev o = pureOp P ev' o := by
  obtain ⟨dst, op, type, pos, after, guard⟩ := o
  cases op <;> simp only [Op.operands] at h <;> simp only [pureOp]
  case build t ps => rw [evParts_congr ps.toList fun x hx => h x (by simpa using hx)]
  case makeFunc fn fs cs =>
    cases fn <;> simp only []
    rw [evList_congr fs.toList fun x hx => h x (by simp [Array.mem_toList_iff.1 hx]), evList_congr cs.toList fun x hx => h x (by simp [Array.mem_toList_iff.1 hx])]
  case slice t x lo hi mx =>
    rw [h x (by simp), evOpt_congr lo fun y hy => h y (by simp at hy; simp [hy]), evOpt_congr hi fun y hy => h y (by simp at hy; simp [hy]), evOpt_congr mx fun y hy => h y (by simp at hy; simp [hy])]
  case call c =>
    obtain ⟨h1, h2, h3⟩ := call_congr h
    obtain ⟨callee, args, ats⟩ := c
    cases callee with
    | builtin b =>
      dsimp only at h1 ⊢
      rw [h1]
    | value f => rfl
    | invoke r n => rfl
  all_goals simp_all

theorem readOp_congr (o : Oper) (h : ∀ x ∈ o.op.operands, ev x = ev' x) : readOp P ev o H = readOp P ev' o H := by
  obtain ⟨dst, op, type, pos, after, guard⟩ := o
  cases op <;> simp only [Op.operands] at h <;> simp only [readOp]
  case call c =>
    obtain ⟨h1, h2, h3⟩ := call_congr h
    obtain ⟨callee, args, ats⟩ := c
    cases callee with
    | builtin b =>
      dsimp only at h1
      cases b with
      | len => dsimp only; rw [h1]
      | _ => rfl
    | value f => rfl
    | invoke r n => rfl
  all_goals simp_all

theorem allocOp_congr (o : Oper) (h : ∀ x ∈ o.op.operands, ev x = ev' x) : allocOp P ev o = allocOp P ev' o := by
  obtain ⟨dst, op, type, pos, after, guard⟩ := o
  cases op <;> simp only [Op.operands] at h <;> simp only [allocOp]
  case buildSlice t n ps => rw [evParts_congr ps.toList fun x hx => h x (by simpa using hx)]
  case makeMap t r =>
    cases r with
    | none => rfl
    | some x => simp only []; rw [h x (by simp)]
  all_goals simp_all

theorem heavyOp_congr {call : CallA} (o : Oper) (h : ∀ x ∈ o.op.operands, ev x = ev' x) : heavyOp P call ev o H = heavyOp P call ev' o H := by
  obtain ⟨dst, op, type, pos, after, guard⟩ := o
  cases op <;> simp only [Op.operands] at h <;> simp only [heavyOp]
  case call c =>
    obtain ⟨h1, h2, h3⟩ := call_congr h
    obtain ⟨callee, args, ats⟩ := c
    cases callee with
    | value f => simp only []; rw [h1, h2 f rfl]
    | invoke r n => simp only []; rw [h1, h3 r n rfl]
    | builtin b => simp only []; rw [h1]
  all_goals simp_all

end
end
end Go.Abs

/- Regions drawn in any order: what the evaluator's own pass tells. -/
namespace Go.Abs
noncomputable section

section
variable {P : Program} {ng : Nat} {call : CallA} {ops : Array Oper} {before : Array Nat} {hs : List Nat}

/-- The heap on which the next heavy operation works. -/
def laid (before : Array Nat) (hs : List Nat) (s : DrawState) : AH := layIf (fun a => firstDep before a 0 hs == some s.k) s.made s.H

/-- What one step of the pass tells. -/
def StepF (P : Program) (ng : Nat) (call : CallA) (ops : Array Oper) (before : Array Nat) (hs : List Nat) (i : Nat) (o : Oper) (s s' : DrawState) (b : Bool) (v : AV) : Prop :=
  wantedA ops s.e o = some b ∧ s'.e = s.e.put o.dst v ∧
  ((isHeavyOp P o = true ∧ s'.k = s.k + 1 ∧ s'.snaps = s'.H :: s.snaps ∧ s'.made = s.made ∧ s'.nid = s.nid ∧ s'.reads = s.reads ∧
      ((b = true ∧ heavyOp P call (s.e.ev ng) o (laid before hs s) = some (v, s'.H)) ∨ (b = false ∧ v = undefA ∧ s'.H = laid before hs s))) ∨
   (isHeavyOp P o = false ∧ s'.k = s.k ∧ s'.H = s.H ∧ s'.snaps = s.snaps ∧
      ((b = false ∧ v = undefA ∧ s'.made = s.made ∧ s'.nid = s.nid ∧ s'.reads = s.reads) ∨
       (b = true ∧ isAllocOp P o = true ∧ (∃ f obj, allocOp P (s.e.ev ng) o = some (f, obj) ∧ v = f s.nid ∧ s'.made = (i, s.nid, obj) :: s.made) ∧ s'.nid = s.nid + 1 ∧ s'.reads = s.reads) ∨
       (b = true ∧ isAllocOp P o = false ∧ isReadOp P o = true ∧ s'.made = s.made ∧ s'.nid = s.nid ∧ s'.reads = (i, s.e, o, v) :: s.reads) ∨
       (b = true ∧ isAllocOp P o = false ∧ isReadOp P o = false ∧ pureOp P (s.e.ev ng) o = some v ∧ s'.made = s.made ∧ s'.nid = s.nid ∧ s'.reads = s.reads))))

theorem drawStep_spec {i : Nat} {o : Oper} {s s' : DrawState} (h : drawStep P ng call ops before hs i o s = some s') : ∃ b v, StepF P ng call ops before hs i o s s' b v := by
  unfold drawStep at h
  split at h
  · cases h
  · rename_i hw
    split at h
    · rename_i hh
      injection h with h; subst h
      exact ⟨false, undefA, hw, rfl, .inl ⟨hh, rfl, rfl, rfl, rfl, rfl, .inr ⟨rfl, rfl, rfl⟩⟩⟩
    · rename_i hh
      injection h with h; subst h
      exact ⟨false, undefA, hw, rfl, .inr ⟨hh, rfl, rfl, rfl, .inl ⟨rfl, rfl, rfl, rfl, rfl⟩⟩⟩
  · rename_i hw
    split at h
    · rename_i hh
      split at h
      · rename_i v H' hop
        injection h with h; subst h
        exact ⟨true, v, hw, rfl, .inl ⟨hh, rfl, rfl, rfl, rfl, rfl, .inl ⟨rfl, hop⟩⟩⟩
      · cases h
    · rename_i hh
      split at h
      · rename_i ha
        split at h
        · rename_i f obj hop
          injection h with h; subst h
          exact ⟨true, f s.nid, hw, rfl, .inr ⟨hh, rfl, rfl, rfl, .inr (.inl ⟨rfl, ha, ⟨f, obj, hop, rfl, rfl⟩, rfl, rfl⟩)⟩⟩
        · cases h
      · rename_i ha
        split at h
        · rename_i hr
          split at h
          · rename_i v hop
            injection h with h; subst h
            exact ⟨true, v, hw, rfl, .inr ⟨hh, rfl, rfl, rfl, .inr (.inr (.inl ⟨rfl, ha, hr, rfl, rfl, rfl⟩))⟩⟩
          · cases h
        · rename_i hr
          split at h
          · rename_i v hop
            injection h with h; subst h
            exact ⟨true, v, hw, rfl, .inr ⟨hh, rfl, rfl, rfl, .inr (.inr (.inr ⟨rfl, ha, hr, hop, rfl, rfl, rfl⟩))⟩⟩
          · cases h

theorem runDraw_states : ∀ (l : List Oper) (i : Nat) (s s' : DrawState), runDraw P ng call ops before hs i l s = some s' →
    ∃ (st : Nat → DrawState) (b : Nat → Bool) (v : Nat → AV), st i = s ∧ st (i + l.length) = s' ∧ ∀ j o, l[j]? = some o → StepF P ng call ops before hs (i + j) o (st (i + j)) (st (i + j + 1)) (b (i + j)) (v (i + j))
  | [], i, s, s', h => by
    simp only [runDraw] at h; injection h with h; subst h
    exact ⟨fun _ => s, fun _ => false, fun _ => undefA, rfl, rfl, fun j o hj => by simp at hj⟩
  | o :: l, i, s, s', h => by
    simp only [runDraw] at h
    split at h
    · rename_i s1 hs1
      obtain ⟨b0, v0, hstep⟩ := drawStep_spec hs1
      obtain ⟨st, b, v, h1, h2, h3⟩ := runDraw_states l (i + 1) s1 s' h
      refine ⟨fun j => if j = i then s else st j, fun j => if j = i then b0 else b j, fun j => if j = i then v0 else v j, by simp, ?_, fun j o' hj => ?_⟩
      · simp only [List.length_cons]
        rw [if_neg (by omega), show i + (l.length + 1) = i + 1 + l.length by omega]; exact h2
      · cases j with
        | zero =>
          simp only [List.getElem?_cons_zero, Option.some.injEq] at hj; subst hj
          simp only [Nat.add_zero, if_true]
          rw [if_neg (by omega), h1]; exact hstep
        | succ j =>
          have := h3 j o' (by simpa using hj)
          dsimp only
          rw [show i + (j + 1) = i + 1 + j by omega, if_neg (show ¬ i + 1 + j = i by omega), if_neg (show ¬ i + 1 + j + 1 = i by omega), if_neg (show ¬ i + 1 + j = i by omega), if_neg (show ¬ i + 1 + j = i by omega)]
          exact this
    · cases h

/-- A pass over a region, its states, whether each operation is carried out, what it yields. -/
structure Pass (P : Program) (ng : Nat) (call : CallA) (ops : Array Oper) (before : Array Nat) (hs : List Nat) (st : Nat → DrawState) (b : Nat → Bool) (v : Nat → AV) : Prop where
  step : ∀ j o, ops[j]? = some o → StepF P ng call ops before hs j o (st j) (st (j + 1)) (b j) (v j)

variable {st : Nat → DrawState} {b : Nat → Bool} {v : Nat → AV}

def dstOf (ops : Array Oper) (i : Nat) : Option Tmp := (ops[i]?).bind (·.dst)

theorem Pass.env (p : Pass P ng call ops before hs st b v) : ∀ j, j ≤ ops.size → (st j).e = puts (st 0).e ((List.range j).map fun i => (dstOf ops i, v i))
  | 0, _ => rfl
  | j + 1, h => by
    have ho := Array.getElem?_eq_getElem (xs := ops) (i := j) (by omega)
    obtain ⟨_, he, _⟩ := p.step j _ ho
    rw [he, Pass.env p j (by omega), List.range_succ, List.map_append, puts_append]
    simp [puts, dstOf, ho]

theorem Pass.heavyK (p : Pass P ng call ops before hs st b v) : ∀ (l : List Oper) (i : Nat), (∀ j o, l[j]? = some o → ops[i + j]? = some o) →
    (∀ q h, (heavies P i l)[q]? = some h → i ≤ h ∧ h < i + l.length ∧ (st h).k = (st i).k + q ∧ ∃ o, ops[h]? = some o ∧ isHeavyOp P o = true) ∧
    (∀ j o, l[j]? = some o → isHeavyOp P o = true → (heavies P i l)[(st (i + j)).k - (st i).k]? = some (i + j)) ∧
    (st (i + l.length)).k = (st i).k + (heavies P i l).length ∧ ∀ j, j ≤ l.length → (st i).k ≤ (st (i + j)).k ∧ (st (i + j)).k ≤ (st (i + l.length)).k
  | [], i, _ => ⟨fun q h hq => by simp [heavies] at hq, fun j o hj => by simp at hj, by simp [heavies], fun j hj => by simp at hj; subst hj; simp⟩
  | o :: l, i, hl => by
    have ho : ops[i]? = some o := hl 0 o rfl
    obtain ⟨h1, h2, h3, h4⟩ := Pass.heavyK p l (i + 1) fun j o' hj => by rw [show i + 1 + j = i + (j + 1) by omega]; exact hl (j + 1) o' (by simpa using hj)
    have hlen : i + (o :: l).length = i + 1 + l.length := by simp; omega
    obtain ⟨_, _, hk⟩ := p.step i o ho
    have hmono : ∀ d, (st (i + 1)).k = (st i).k + d → ∀ j, j ≤ (o :: l).length → (st i).k ≤ (st (i + j)).k ∧ (st (i + j)).k ≤ (st (i + (o :: l).length)).k := by
      intro d hd j hj
      rw [hlen]
      cases j with
      | zero => have := (h4 0 (by omega)); simp only [Nat.add_zero] at this ⊢; omega
      | succ j =>
        have := h4 j (by simp at hj; omega)
        rw [show i + (j + 1) = i + 1 + j by omega]; omega
    rcases hk with ⟨hh, hk, _⟩ | ⟨hh, hk, _⟩
    · have e : heavies P i (o :: l) = i :: heavies P (i + 1) l := by simp [heavies, hh]
      rw [e]
      refine ⟨fun q h hq => ?_, fun j o' hj hho => ?_, by rw [hlen, h3, hk]; simp; omega, hmono 1 hk⟩
      · cases q with
        | zero =>
          simp only [List.getElem?_cons_zero, Option.some.injEq] at hq; subst hq
          exact ⟨by omega, by simp, rfl, o, ho, hh⟩
        | succ q =>
          obtain ⟨g1, g2, g3, g4⟩ := h1 q h (by simpa using hq)
          exact ⟨by omega, by simp; omega, by rw [g3, hk]; omega, g4⟩
      · cases j with
        | zero => simp
        | succ j =>
          have := h2 j o' (by simpa using hj) hho
          have hm := (h4 j (by have := (List.getElem?_eq_some_iff.1 hj).1; simp at this; omega)).1
          rw [show i + (j + 1) = i + 1 + j by omega]
          rw [show (st (i + 1 + j)).k - (st i).k = ((st (i + 1 + j)).k - (st (i + 1)).k) + 1 by omega, List.getElem?_cons_succ]
          exact this
    · have e : heavies P i (o :: l) = heavies P (i + 1) l := by simp [heavies, hh]
      rw [e]
      refine ⟨fun q h hq => ?_, fun j o' hj hho => ?_, by rw [hlen, h3, hk], hmono 0 hk⟩
      · obtain ⟨g1, g2, g3, g4⟩ := h1 q h hq
        exact ⟨by omega, by simp; omega, by rw [g3, hk], g4⟩
      · cases j with
        | zero =>
          simp only [List.getElem?_cons_zero, Option.some.injEq] at hj; subst hj
          rw [hh] at hho; cases hho
        | succ j =>
          have := h2 j o' (by simpa using hj) hho
          rw [show i + (j + 1) = i + 1 + j by omega, ← hk]; exact this

end
end
end Go.Abs
