/- A call that touches nothing of what lay there before: told once, at an empty heap. -/
import Derived.Test.YtmfondkhhnnjjaaGreatDoorA32
import Derived.Test.YtmfondkhhnnjjaaGreatDoorF6

namespace Go.Abs

def noInj : Inj := ⟨fun _ => none, fun _ _ => none⟩
noncomputable def noHeap : AH := ⟨.empty, 0⟩

theorem noHeap_get (b : Nat) : noHeap.get b = none := Map.get_empty b
theorem noHeap_rel (w : World) : HRel noInj noHeap w where
  obj := fun b o h => by rw [noHeap_get] at h; cases h
  inj := fun b b' β δ r δ' r' h => by rw [noHeap_get] at h; cases h
  fresh := fun b _ => ⟨rfl, fun _ => rfl⟩
  freshS := fun b es clock h => by rw [noHeap_get] at h; cases h

theorem noHeap_at {w w' : World} {μ' : Inj} {H' : AH} (h : Ext noInj noHeap w μ' H' w') {β : Nat} (hβ : β < w.heap.size) : w'.heap[β]? = w.heap[β]? :=
  h.frame β hβ fun ⟨b, δ, r, hb, _⟩ => by rw [noHeap_get] at hb; cases hb

theorem noHeap_kept {w w' : World} {μ' : Inj} {H' : AH} (h : Ext noInj noHeap w μ' H' w') : w.keptBut w' (fun _ => False) := by
  refine ⟨h.os, h.out, fun i hi => ?_⟩
  have e := noHeap_at h hi
  rw [e]
  cases ho : w.heap[i]? with
  | none => rfl
  | some o => cases o <;> first | exact ⟨rfl, rfl, rfl, fun _ _ => rfl⟩ | exact .inr ⟨rfl, rfl⟩ | rfl

/-- What such a call leaves, seen from any heap. -/
theorem noHeap_ext {μ μ' : Inj} {H H' : AH} {w w' : World} (hr : HRel μ H w) (h : Ext noInj noHeap w μ' H' w') : Ext μ H w μ H w' where
  le := μ.le_refl
  rel := ⟨fun b o hb => by
      obtain ⟨β, δ, r, hμ, ho⟩ := hr.obj b o hb
      exact ⟨β, δ, r, hμ, ho.keep μ.le_refl (noHeap_at h ho.lt)⟩, hr.inj, hr.fresh, hr.freshS⟩
  size := h.size
  next := Nat.le_refl _
  live := fun _ _ hs => hs
  img := fun b β δ r h1 h2 => by rw [h1] at h2; cases h2
  frame := fun β hβ _ => noHeap_at h hβ
  os := h.os
  out := h.out
  stamp := fun b s x h1 h2 => by rw [h1] at h2; cases h2

theorem bool_of_rel {μ : Inj} {b : Bool} {v : Value} (h : VRel μ (.bool b) v) : v = .bool b := by cases h; rfl
theorem bool_any {μ μ' : Inj} {b : Bool} {v : Value} (h : VRel μ (.bool b) v) : VRel μ' (.bool b) v := by cases h; exact .bool b
theorem int_any {μ μ' : Inj} {k : IntKind} {n : Nat} {v : Value} (h : VRel μ (.int k n) v) : VRel μ' (.int k n) v := by cases h with | int _ _ h => exact .int k n h

variable {P : Program}

/-- A call of one number that the evaluator answers by a bool at an empty heap: it answers so at every heap, and leaves it. -/
theorem pure_call (hm : P.follows .mixedOrders = true) {orc : FuncId → Option Orc} (ho : OrcOk P 0 orc) {lf n : Nat} {f : FuncId} {k : IntKind} {i : Nat} {b : Bool} {H0 : AH} (h : callA P 0 orc lf n f [.int k i] noHeap = some (.bool b, H0))
    {μ : Inj} {H : AH} {w : World} {cargs : List Value} (hr : HRel μ H w) (hl : LRel μ [.int k i] cargs) : FnOk P μ H w f cargs.toArray (.bool b) H := by
  have hl' : LRel noInj [.int k i] cargs := by
    cases hl with
    | cons h1 t => cases t; exact .cons (int_any h1) .nil
  rcases callA_sound hm ho lf n f _ noHeap _ H0 h noInj w cargs (noHeap_rel w) (by intro g hg; omega) hl' with ⟨fn, c, hf, hn, hb, hc⟩ | ⟨μ', w', r, hrun, he, hv⟩
  · refine .inl ⟨fn, c, hf, hn, hb, hc.mono fun e w' he => ?_⟩
    cases e with
    | returned r => obtain ⟨μ', h1, h2⟩ := he; exact ⟨μ, noHeap_ext hr h1, bool_any h2⟩
    | panicked ch => exact he.elim
    | outgrown => exact he.elim
  · exact .inr ⟨μ, w', r, hrun, noHeap_ext hr he, bool_any hv⟩

/-- A call of no arguments that the evaluator answers at an empty heap. -/
theorem calls_of_callA (hm : P.follows .mixedOrders = true) {orc : FuncId → Option Orc} (ho : OrcOk P 0 orc) {lf n : Nat} {f : FuncId} {fn : Func} {c : Code} (hf : P.funcs[f]? = some fn)
    (hn : (fn.name == "runtime.NumGoroutine") = false) (hb : fn.body = some c) {b : Bool} {H' : AH}
    (h : callA P 0 orc lf n f [] noHeap = some (.bool b, H')) (w : World) : Calls P f #[] w fun e w' => e = .returned (.bool b) ∧ w.keptBut w' (fun _ => False) := by
  have hs := callA_sound hm ho lf n f [] noHeap (.bool b) H' h noInj w [] (noHeap_rel w) (by intro g hg; omega) .nil
  rcases hs with ⟨_, _, _, _, _, hc⟩ | ⟨_, _, _, hx, _⟩
  · refine hc.mono fun e w' he => ?_
    cases e with
    | returned r =>
      obtain ⟨μ', hext, hv⟩ := he
      exact ⟨by rw [bool_of_rel hv], noHeap_kept hext⟩
    | panicked ch => exact he.elim
    | outgrown => exact he.elim
  · rw [run_callFunc hf hn hb] at hx; cases hx

/-! ## Answers that the kernel reckons -/

noncomputable def isTrue (r : Res) : Bool := Option.rec (motive := fun _ => Bool) false (fun p => Prod.rec (motive := fun _ => Bool) (fun v _ => B3.rec (motive := fun _ => Bool) false false true (avBool v)) p) r
theorem isTrue_some {r : Res} (h : isTrue r = true) : ∃ H, r = some (.bool true, H) := by
  cases r with
  | none => cases h
  | some p =>
    obtain ⟨v, H⟩ := p
    cases v <;> try cases h
    rename_i b
    cases b
    · cases h
    · exact ⟨H, rfl⟩
def done (v : AV) (H : AH) : Res := some (v, H)

/-- What the evaluator made for the kernel tells is what the evaluator tells. -/
theorem callA_of_callN {ng lf n : Nat} {orc : FuncId → Option Orc} {f : FuncId} {args : List AV} {H : AH} (h : isTrue (callN P ng lf (fnOf P ng orc lf (drawOf P ng)) n f args H done) = true) :
    ∃ H', callA P ng orc lf n f args H = some (.bool true, H') := by
  obtain ⟨H', hH⟩ := isTrue_some h
  rw [callN_eq P ng orc lf (drawOf P ng) (drawOf_good P ng) n f args H done] at hH
  cases hc : callA P ng orc lf n f args H with
  | none => rw [hc] at hH; cases hH
  | some p =>
    obtain ⟨v, H2⟩ := p
    rw [hc] at hH
    cases hH
    exact ⟨H', rfl⟩

end Go.Abs

/- What a call leaves, written down: the blocks that are still of use; an answer told of a written heap holds wherever that heap lies within. -/
namespace Go.Abs

/-- An object as it is written down. -/
inductive LObj where
  | lst (n : Nat) (l : List AV)
  | rows (sz cnt : Nat) (z : List AV) (rs : List (Nat × List AV))
  | mp (es : List (AV × AV × Nat)) (clock : Nat)

noncomputable section
def treeL : List (Nat × List AV) → Map (List AV)
  | [] => .empty
  | (i, r) :: l => (treeL l).put i (some r)
def LObj.obj : LObj → AObj
  | .lst n l => .blk (.lst n l)
  | .rows sz cnt z rs => .blk (.rows sz cnt z (treeL rs))
  | .mp es c => .mp es c
def heapL : List (Nat × LObj) → Map AObj
  | [] => .empty
  | (b, o) :: l => (heapL l).put b (some o.obj)
def heapOf (l : List (Nat × LObj)) (nx : Nat) : AH := ⟨heapL l, nx⟩

theorem treeL_get {i : Nat} {r : List AV} : ∀ {rs : List (Nat × List AV)}, (treeL rs).get i = some r → (i, r) ∈ rs
  | [], h => by rw [treeL, Map.get_empty] at h; cases h
  | (j, s) :: rs, h => by
    rw [treeL, Map.get_put] at h
    split at h
    · rename_i hc; cases h; rw [hc.1]; exact List.mem_cons_self ..
    · exact List.mem_cons_of_mem _ (treeL_get h)

theorem heapOf_get {b nx : Nat} {o : AObj} : ∀ {l : List (Nat × LObj)}, (heapOf l nx).get b = some o → ∃ lo, (b, lo) ∈ l ∧ o = lo.obj
  | [], h => by unfold heapOf heapL AH.get at h; rw [Map.get_empty] at h; cases h
  | (c, lo) :: l, h => by
    unfold heapOf heapL AH.get at h
    rw [Map.get_put] at h
    split at h
    · rename_i hc; cases h; exact ⟨lo, by rw [hc.1]; exact List.mem_cons_self .., rfl⟩
    · obtain ⟨lo', h1, h2⟩ := heapOf_get (nx := nx) (l := l) h
      exact ⟨lo', List.mem_cons_of_mem _ h1, h2⟩

/-- Whatever stands for an object stands for another one, too. -/
def OLe (o o' : AObj) : Prop := (∀ (μ : Inj) b β δ r w, ORel μ b o' β δ r w → ORel μ b o β δ r w) ∧ ∀ es c, o = .mp es c → o' = .mp es c

/-- A heap lies within another one. -/
structure Cov (H1 H : AH) : Prop where
  next : H1.next = H.next
  obj : ∀ b o, H1.get b = some o → ∃ o', H.get b = some o' ∧ OLe o o'

theorem Cov.rel {H1 H : AH} (c : Cov H1 H) {μ : Inj} {w : World} (h : HRel μ H w) : HRel μ H1 w where
  obj := fun b o hb => by
    obtain ⟨o', h1, h2⟩ := c.obj b o hb
    obtain ⟨β, δ, r, hμ, ho⟩ := h.obj b o' h1
    exact ⟨β, δ, r, hμ, h2.1 _ _ _ _ _ _ ho⟩
  inj := fun b b' β δ r δ' r' hs hs' h1 h2 => by
    obtain ⟨o, ho⟩ := Option.isSome_iff_exists.1 hs
    obtain ⟨o', ho'⟩ := Option.isSome_iff_exists.1 hs'
    obtain ⟨p, hp, _⟩ := c.obj b o ho
    obtain ⟨p', hp', _⟩ := c.obj b' o' ho'
    exact h.inj b b' β δ r δ' r' (by rw [hp]; rfl) (by rw [hp']; rfl) h1 h2
  fresh := fun b hb => h.fresh b (by rw [← c.next]; exact hb)
  freshS := fun b es clock hb s hs => by
    obtain ⟨o', h1, h2⟩ := c.obj b _ hb
    rw [h2.2 es clock rfl] at h1
    exact h.freshS b es clock h1 s hs

theorem Cov.some {H1 H : AH} (c : Cov H1 H) {b : Nat} (h : (H1.get b).isSome = true) : (H.get b).isSome = true := by
  obtain ⟨o, ho⟩ := Option.isSome_iff_exists.1 h
  obtain ⟨p, hp, _⟩ := c.obj b o ho
  rw [hp]; rfl

theorem Cov.img {H1 H : AH} (c : Cov H1 H) {μ : Inj} {β : Nat} (h : Img μ H1 β) : Img μ H β := by
  obtain ⟨b, δ, r, hb, hμ⟩ := h
  exact ⟨b, δ, r, c.some hb, hμ⟩

/-- What is left behind a call is written down in part; what lay there ahead of it was told in part. -/
theorem Ext.cov {μ μ' : Inj} {Hc H Hf H1 : AH} {w w' : World} (e : Ext μ Hc w μ' Hf w') (c : Cov Hc H) (d : Cov H1 Hf) : Ext μ H w μ' H1 w' where
  le := e.le
  rel := d.rel e.rel
  size := e.size
  next := by rw [← c.next, d.next]; exact e.next
  live := fun b hb hs => c.some (e.live b (by rw [c.next]; exact hb) (d.some hs))
  img := fun b β δ r h1 h2 => by
    obtain ⟨h3, h4⟩ := e.img b β δ r h1 h2
    exact ⟨by rw [← c.next]; exact h3, h4.imp id c.img⟩
  frame := fun β hβ hi => e.frame β hβ fun h => hi (c.img h)
  os := e.os
  out := e.out
  stamp := fun b s x h1 h2 => (e.stamp b s x h1 h2).imp (by rw [c.next]; exact id) c.some

/-! ## The compare -/

def sameE : List (AV × AV × Nat) → List (AV × AV × Nat) → Bool
  | [], [] => true
  | (k, v, s) :: r, (k', v', s') :: r' => sameA k k' && sameA v v' && Nat.beq s s' && sameE r r'
  | _, _ => false
theorem sameE_eq : ∀ {a b : List (AV × AV × Nat)}, sameE a b = true → a = b
  | [], [], _ => rfl
  | (k, v, s) :: r, (k', v', s') :: r', h => by
    simp only [sameE, Bool.and_eq_true] at h
    rw [sameA_eq _ _ h.1.1.1, sameA_eq _ _ h.1.1.2, Nat.eq_of_beq_eq_true h.1.2, sameE_eq h.2]
  | [], _ :: _, h => by cases h
  | _ :: _, [], h => by cases h

def sameRows (z : List AV) (t : Map (List AV)) (z' : List AV) (t' : Map (List AV)) : Nat → Bool
  | 0 => true
  | n + 1 => sameL (rowAt z t n) (rowAt z' t' n) && sameRows z t z' t' n
theorem sameRows_at {z z' : List AV} {t t' : Map (List AV)} : ∀ {n : Nat}, sameRows z t z' t' n = true → ∀ i, i < n → rowAt z t i = rowAt z' t' i
  | 0, _, i, hi => by omega
  | n + 1, h, i, hi => by
    simp only [sameRows, Bool.and_eq_true] at h
    by_cases e : i = n
    · subst e; exact sameL_eq _ _ h.1
    · exact sameRows_at h.2 i (by omega)

def sameO (lo : LObj) (o : AObj) : Bool :=
  match lo, o with
  | .lst n l, .blk (.lst m k) => Nat.beq n m && sameL l k
  | .rows sz cnt z rs, .blk (.rows sz' cnt' z' t') => Nat.beq sz sz' && Nat.beq cnt cnt' && Nat.beq (clen z) sz && rs.all (fun x => Nat.beq (clen x.2) sz) && sameRows z (treeL rs) z' t' cnt
  | .mp es c, .mp es' c' => sameE es es' && Nat.beq c c'
  | _, _ => false

theorem sameO_le {lo : LObj} {o : AObj} (h : sameO lo o = true) : OLe lo.obj o := by
  unfold sameO at h
  split at h
  · simp only [Bool.and_eq_true] at h
    rw [LObj.obj, Nat.eq_of_beq_eq_true h.1, sameL_eq _ _ h.2]
    exact ⟨fun _ _ _ _ _ _ x => x, fun es c e => by cases e⟩
  · rename_i sz cnt z rs sz' cnt' z' t'
    simp only [Bool.and_eq_true, List.all_eq_true] at h
    obtain ⟨⟨⟨⟨h1, h2⟩, h3⟩, h4⟩, h5⟩ := h
    obtain rfl := Nat.eq_of_beq_eq_true h1
    obtain rfl := Nat.eq_of_beq_eq_true h2
    refine ⟨fun μ b β δ r w ho => ?_, fun es c e => by cases e⟩
    obtain ⟨hok, hsz, hsh, hf, hc⟩ := ho
    refine ⟨⟨hok.1, hok.2.1, Nat.eq_of_beq_eq_true h3, fun i r hr => Nat.eq_of_beq_eq_true (h4 _ (treeL_get hr))⟩, hsz, hsh, hf, fun i v hv => hc i v ?_⟩
    simp only [Blk.cell] at hv ⊢
    split at hv
    · rename_i hi
      rw [if_pos hi, ← sameRows_at h5 _ hi]; exact hv
    · cases hv
  · simp only [Bool.and_eq_true] at h
    rw [LObj.obj, sameE_eq h.1, Nat.eq_of_beq_eq_true h.2]
    exact ⟨fun _ _ _ _ _ _ x => x, fun es c e => e⟩
  · cases h

def covers (l : List (Nat × LObj)) (H : AH) : Bool := l.all fun x => match H.get x.1 with | some o => sameO x.2 o | none => false
theorem covers_cov {l : List (Nat × LObj)} {nx : Nat} {H : AH} (h : covers l H = true) (hn : nx = H.next) : Cov (heapOf l nx) H where
  next := hn
  obj := fun b o hb => by
    obtain ⟨lo, hm, rfl⟩ := heapOf_get hb
    have := List.all_eq_true.1 h _ hm
    simp only at this
    split at this
    · rename_i o' ho'; exact ⟨o', ho', sameO_le this⟩
    · cases this

/-- What a call came to is what is written down. -/
def ckOk (v1 : AV) (l1 : List (Nat × LObj)) (n1 : Nat) (r : Res) : Bool := match r with | some (v, Hf) => sameA v v1 && Nat.beq n1 Hf.next && covers l1 Hf | none => false

/-- The oracle of such a call. -/
def ckO (A : List AV) (lc : List (Nat × LObj)) (nc : Nat) (v1 : AV) (l1 : List (Nat × LObj)) (n1 : Nat) (args : List AV) (H : AH) : Option (AV × AH) :=
  if sameL args A && Nat.beq nc H.next && covers lc H then some (v1, heapOf l1 n1) else none

variable {P : Program}
theorem ckO_ok (hm : P.follows .mixedOrders = true) {ng : Nat} {orc : FuncId → Option Orc} (ho : OrcOk P ng orc) {lf n : Nat} {f : FuncId} {A : List AV} {lc l1 : List (Nat × LObj)} {nc n1 : Nat} {v1 : AV}
    (hk : ckOk v1 l1 n1 (callN P ng lf (fnOf P ng orc lf (drawOf P ng)) n f A (heapOf lc nc) done) = true) {args : List AV} {H : AH} {v : AV} {H' : AH} (h : ckO A lc nc v1 l1 n1 args H = some (v, H'))
    {μ : Inj} {w : World} {cargs : List Value} (hr : HRel μ H w) (hg : GRel ng μ) (hl : LRel μ args cargs) : FnOk P μ H w f cargs.toArray v H' := by
  unfold ckO at h
  split at h
  · rename_i hc
    simp only [Bool.and_eq_true] at hc
    cases h
    obtain rfl := sameL_eq _ _ hc.1.1
    have cov := covers_cov hc.2 (Nat.eq_of_beq_eq_true hc.1.2)
    unfold ckOk at hk
    split at hk
    · rename_i v Hf hN
      simp only [Bool.and_eq_true] at hk
      obtain ⟨⟨h1, h2⟩, h3⟩ := hk
      obtain rfl := sameA_eq _ _ h1
      rw [callN_eq P ng orc lf (drawOf P ng) (drawOf_good P ng) n f args (heapOf lc nc) done] at hN
      cases hA : callA P ng orc lf n f args (heapOf lc nc) with
      | none => rw [hA] at hN; cases hN
      | some p =>
        obtain ⟨v2, H2⟩ := p
        rw [hA] at hN
        cases hN
        have cov1 := covers_cov h3 (Nat.eq_of_beq_eq_true h2)
        rcases callA_sound hm ho lf n f args _ v Hf hA μ w cargs (cov.rel hr) hg hl with ⟨fn, c, hf, hn, hb, hcalls⟩ | ⟨μ', w', r, hrun, he, hv⟩
        · refine .inl ⟨fn, c, hf, hn, hb, hcalls.mono fun e w' he => ?_⟩
          cases e with
          | returned r => obtain ⟨μ', h1, h2⟩ := he; exact ⟨μ', h1.cov cov cov1, h2⟩
          | panicked ch => exact he.elim
          | outgrown => exact he.elim
        · exact .inr ⟨μ', w', r, hrun, he.cov cov cov1, hv⟩
    · cases hk
  · cases h

end
end Go.Abs

/- A call whose arguments and answer have no pointer: told once, at an empty heap, it holds at every heap. -/
namespace Go.Abs

mutual
/-- Has a value no pointer in it? -/
def closedA : AV → Bool
  | .bool _ | .int .. | .str .. | .run .. | .nilp | .nils | .nilm | .nilf | .nili => true
  | .fn _ a b => closedL a && closedL b
  | .ifc _ v => closedA v
  | .agg l | .tup l => closedL l
  | _ => false
def closedL : List AV → Bool
  | [] => true
  | v :: l => closedA v && closedL l
end

theorem closed_mem : ∀ {l : List AV}, closedL l = true → ∀ v ∈ l, closedA v = true
  | [], _, v, h => by cases h
  | u :: l, h, v, hm => by
    simp only [closedL, Bool.and_eq_true] at h
    rcases List.mem_cons.1 hm with rfl | hm
    · exact h.1
    · exact closed_mem h.2 v hm
theorem closed_of_mem : ∀ {l : List AV}, (∀ v ∈ l, closedA v = true) → closedL l = true
  | [], _ => rfl
  | u :: l, h => by
    simp only [closedL, Bool.and_eq_true]
    exact ⟨h u (List.mem_cons_self ..), closed_of_mem fun v hv => h v (List.mem_cons_of_mem _ hv)⟩
theorem closed_expand : ∀ {l : List AV}, closedL l = true → closedL (expand l) = true
  | [], _ => rfl
  | u :: l, h => by
    simp only [closedL, Bool.and_eq_true] at h
    have ih := closed_expand h.2
    rw [expand_cons]
    refine closed_of_mem fun v hv => ?_
    rcases List.mem_append.1 hv with hv | hv
    · cases u
      case run n x =>
        simp only [expand, List.append_nil, runCells, List.mem_map] at hv
        obtain ⟨y, _, rfl⟩ := hv
        rfl
      all_goals (simp only [expand, List.mem_singleton] at hv; subst hv; exact h.1)
    · exact closed_mem ih v hv

mutual
theorem closed_any {μ μ' : Inj} {v : AV} {c : Value} (h : VRel μ v c) (hc : closedA v = true) : VRel μ' v c := by
  cases h with
  | bool b => exact .bool b
  | int k n h => exact .int k n h
  | str n x s h => exact .str n x s h
  | ptr h => cases hc
  | nilp => exact .nilp
  | slc h hn hcc he hr => cases hc
  | slc0 h hr => cases hc
  | nils => exact .nils
  | map h => cases hc
  | nilm => exact .nilm
  | stamp h => cases hc
  | fn f h1 h2 =>
    simp only [closedA, Bool.and_eq_true] at hc
    exact .fn f (closedL_any h1 hc.1) (closedL_any h2 hc.2)
  | nilf => exact .nilf
  | ifc t h => exact .ifc t (closed_any h hc)
  | nili => exact .nili
  | agg h h1 => exact .agg (closedL_any h (closed_expand hc)) h1
  | tup h => exact .tup (closedL_any h hc)
theorem closedL_any {μ μ' : Inj} {l : List AV} {cs : List Value} (h : LRel μ l cs) (hc : closedL l = true) : LRel μ' l cs := by
  cases h with
  | nil => exact .nil
  | cons h t =>
    simp only [closedL, Bool.and_eq_true] at hc
    exact .cons (closed_any h hc.1) (closedL_any t hc.2)
end

noncomputable section
/-- The oracle of such a call. -/
def pureO (A : List AV) (v : AV) (args : List AV) (H : AH) : Option (AV × AH) := if sameL args A then some (v, H) else none
def pureOk (v1 : AV) (r : Res) : Bool := match r with | some (v, _) => sameA v v1 && closedA v1 | none => false

variable {P : Program}
theorem pureO_ok (hm : P.follows .mixedOrders = true) {orc : FuncId → Option Orc} (ho : OrcOk P 0 orc) {lf n : Nat} {f : FuncId} {A : List AV} {v1 : AV} (hA : closedL A = true)
    (hk : pureOk v1 (callN P 0 lf (fnOf P 0 orc lf (drawOf P 0)) n f A noHeap done) = true) {args : List AV} {H : AH} {v : AV} {H' : AH} (h : pureO A v1 args H = some (v, H'))
    {μ : Inj} {w : World} {cargs : List Value} (hr : HRel μ H w) (hl : LRel μ args cargs) : FnOk P μ H w f cargs.toArray v H' := by
  unfold pureO at h
  split at h
  · rename_i hs
    cases h
    obtain rfl := sameL_eq _ _ hs
    unfold pureOk at hk
    split at hk
    · rename_i u Hf hN
      simp only [Bool.and_eq_true] at hk
      obtain ⟨h1, h2⟩ := hk
      obtain rfl := sameA_eq _ _ h1
      rw [callN_eq P 0 orc lf (drawOf P 0) (drawOf_good P 0) n f args noHeap done] at hN
      cases hcall : callA P 0 orc lf n f args noHeap with
      | none => rw [hcall] at hN; cases hN
      | some p =>
        obtain ⟨v2, H2⟩ := p
        rw [hcall] at hN
        cases hN
        rcases callA_sound hm ho lf n f args noHeap u Hf hcall noInj w cargs (noHeap_rel w) (by intro g hg; omega) (closedL_any hl hA) with ⟨fn, c, hf, hn, hb, hc⟩ | ⟨μ', w', r, hrun, he, hv⟩
        · refine .inl ⟨fn, c, hf, hn, hb, hc.mono fun e w' he => ?_⟩
          cases e with
          | returned r => obtain ⟨μ', h1, h3⟩ := he; exact ⟨μ, noHeap_ext hr h1, closed_any h3 h2⟩
          | panicked ch => exact he.elim
          | outgrown => exact he.elim
        · exact .inr ⟨μ, w', r, hrun, noHeap_ext hr he, closed_any hv h2⟩
    · cases hk
  · cases h

/-- One oracle, else another one. -/
def orO (a b : Orc) (args : List AV) (H : AH) : Option (AV × AH) := match a args H with | some r => some r | none => b args H

end
end Go.Abs
