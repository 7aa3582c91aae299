/- The evaluator made for the kernel, sixth part: drawn regions. -/
import Derived.Test.YtmfondkhhnnjjaaGreatDoorF5

namespace Go.Abs
noncomputable section

abbrev DK := EV → AH → Made → Nat → List AH → Reads → Res
abbrev DRun := Ctx → DK → EV → AH → Made → Nat → List AH → Reads → Res
structure DCmd where
  f : DRun

def noKx : Kx := fun _ _ _ => none
def layD (before : Array Nat) (hs : List Nat) (k : Nat) (made : Made) (H : AH) : AH := layIf (fun a => firstDep before a 0 hs == some k) made H
def layR (before : Array Nat) (hs : List Nat) (i k : Nat) (made : Made) (H : AH) : AH := layIf (fun a => (before.getD i 0).testBit a && waitsAt before hs k a) made H
/-- Nothing made: nothing is laid. -/
def layF (lay : Made → AH → AH) (made : Made) (H : AH) : AH := List.rec (motive := fun _ => AH) H (fun _ _ _ => lay made H) made

def dHeavyK (kk : DK) (made : Made) (nid : Nat) (snaps : List AH) (reads : Reads) (e : EV) (H : AH) : Res := kk e H made nid (H :: snaps) reads
def dHeavy (r : Run) (lay : Made → AH → AH) (x : Ctx) (kk : DK) (e : EV) (H : AH) (made : Made) (nid : Nat) (snaps : List AH) (reads : Reads) : Res :=
  r ⟨ctxC x, dHeavyK kk made nid snaps reads, noKx⟩ e (layF lay made H)
def dAlloc (i : Nat) (f : EV → Option ((Nat → AV) × AObj)) (w : Wr) (_ : Ctx) (kk : DK) (e : EV) (H : AH) (made : Made) (nid : Nat) (snaps : List AH) (reads : Reads) : Res :=
  Option.rec (motive := fun _ => Res) none (fun p => Prod.rec (motive := fun _ => Res) (fun g o => kk (w (g nid) e) H ((i, nid, o) :: made) (Nat.succ nid) snaps reads) p) (f e)
def dRead (n i : Nat) (o : Oper) (f : EV → AH → Option AV) (w : Wr) (lay : Made → AH → AH) (_ : Ctx) (kk : DK) (e : EV) (H : AH) (made : Made) (nid : Nat) (snaps : List AH) (reads : Reads) : Res :=
  Option.rec (motive := fun _ => Res) none (fun v => kk (w v e) H made nid snaps ((i, envOf n e, o, v) :: reads)) (f e (layF lay made H))
def dPure (f : Rd) (w : Wr) (_ : Ctx) (kk : DK) (e : EV) (H : AH) (made : Made) (nid : Nat) (snaps : List AH) (reads : Reads) : Res :=
  Option.rec (motive := fun _ => Res) none (fun v => kk (w v e) H made nid snaps reads) (f e)
def dFail (_ : Ctx) (_ : DK) (_ : EV) (_ : AH) (_ : Made) (_ : Nat) (_ : List AH) (_ : Reads) : Res := none
def dNil (_ : Ctx) (kk : DK) (e : EV) (H : AH) (made : Made) (nid : Nat) (snaps : List AH) (reads : Reads) : Res := kk e H made nid snaps reads
def dSeq (a b : DRun) (x : Ctx) (kk : DK) (e : EV) (H : AH) (made : Made) (nid : Nat) (snaps : List AH) (reads : Reads) : Res := a x (b x kk) e H made nid snaps reads
/-- What is not wanted: a heavy one is a moment all the same. -/
def dSkip (hv : Bool) (w : Wr) (lay : Made → AH → AH) (kk : DK) (e : EV) (H : AH) (made : Made) (nid : Nat) (snaps : List AH) (reads : Reads) : Res :=
  Bool.rec (motive := fun _ => Res) (kk (w undefA e) H made nid snaps reads) (kk (w undefA e) (layF lay made H) made nid (layF lay made H :: snaps) reads) hv
def dGuard (r : Rd) (want hv : Bool) (w : Wr) (lay : Made → AH → AH) (o : DRun) (x : Ctx) (kk : DK) (e : EV) (H : AH) (made : Made) (nid : Nat) (snaps : List AH) (reads : Reads) : Res :=
  GQ.rec (motive := fun _ => Res) none (fun t => Bool.rec (motive := fun _ => Res) (dSkip hv w lay kk e H made nid snaps reads) (o x kk e H made nid snaps reads) (eqB t want)) (dSkip hv w lay kk e H made nid snaps reads) (ovGQ (r e))

def dCore (P : Program) (ng n : Nat) (before : Array Nat) (hs : List Nat) (i k : Nat) (o : Oper) : DCmd :=
  match isHeavyOp P o with
  | true => match coreOf P ng n o skipC with | ⟨r⟩ => ⟨dHeavy r (layD before hs k)⟩
  | false =>
    match wrOf n o.dst with
    | ⟨w⟩ =>
      match isAllocOp P o with
      | true => match allocOf P ng n o with | ⟨f⟩ => ⟨dAlloc i f w⟩
      | false =>
        match isReadOp P o with
        | true => match readOf P ng n o with | ⟨f⟩ => ⟨dRead n i o f w (layR before hs i k)⟩
        | false => match pureOf P ng n o with | ⟨f⟩ => ⟨dPure f w⟩

def dOper (P : Program) (ng n : Nat) (ops : Array Oper) (before : Array Nat) (hs : List Nat) (i k : Nat) (o : Oper) : DCmd :=
  match o.guard with
  | none => dCore P ng n before hs i k o
  | some (j, want) =>
    match ops[j]? with
    | none => ⟨dFail⟩
    | some g =>
      match g.dst with
      | none => ⟨dFail⟩
      | some d => match rdOf ng n (.tmp d), wrOf n o.dst, dCore P ng n before hs i k o with | ⟨r⟩, ⟨w⟩, ⟨x⟩ => ⟨dGuard r want (isHeavyOp P o) w (layD before hs k) x⟩

def dSeqOf (P : Program) (ng n : Nat) (ops : Array Oper) (before : Array Nat) (hs : List Nat) : List Oper → Nat → Nat → DCmd
  | [], _, _ => ⟨dNil⟩
  | o :: r, i, k => match dOper P ng n ops before hs i k o, dSeqOf P ng n ops before hs r (i + 1) (match isHeavyOp P o with | true => k + 1 | false => k) with | ⟨a⟩, ⟨b⟩ => ⟨dSeq a b⟩

theorem layF_eq (lay : Made → AH → AH) (h : ∀ H, lay [] H = H) (made : Made) (H : AH) : layF lay made H = lay made H := by
  cases made with
  | nil => exact (h H).symm
  | cons => rfl

/-- What a step of a drawn region goes over to. -/
def toK (kk : DK) : Option DrawState → Res
  | some s => kk s.e.m.t s.H s.made s.nid s.snaps s.reads
  | none => none

theorem dOper_eq (P : Program) (ng n : Nat) (ops : Array Oper) (before : Array Nat) (hs : List Nat) (i k : Nat) (o : Oper) (x : Ctx) (call : CallA) (hc : CC (ctxC x) call) (kk : DK) (e : EV) (H : AH) (made : Made) (nid : Nat) (snaps : List AH) (reads : Reads) :
    (dOper P ng n ops before hs i k o).f x kk e H made nid snaps reads = toK kk (drawStep P ng call ops before hs i o ⟨envOf n e, H, made, nid, k, snaps, reads⟩) := by
  have l1 : ∀ H, layF (layD before hs k) made H = layIf (fun a => firstDep before a 0 hs == some k) made H := fun H => layF_eq _ (fun _ => rfl) made H
  have l2 : ∀ H, layF (layR before hs i k) made H = layIf (fun a => (before.getD i 0).testBit a && waitsAt before hs k a) made H := fun H => layF_eq _ (fun _ => rfl) made H
  -- the step itself, where it is wanted
  have core : (dCore P ng n before hs i k o).f x kk e H made nid snaps reads = toK kk (
      match isHeavyOp P o with
      | true =>
        match heavyOp P call ((envOf n e).ev ng) o (layIf (fun a => firstDep before a 0 hs == some k) made H) with
        | some (v, H') => some { e := (envOf n e).put o.dst v, H := H', made := made, nid := nid, k := k + 1, snaps := H' :: snaps, reads := reads }
        | none => none
      | false =>
        match isAllocOp P o with
        | true =>
          match allocOp P ((envOf n e).ev ng) o with
          | some (f, obj) => some { e := (envOf n e).put o.dst (f nid), H := H, made := (i, nid, obj) :: made, nid := nid + 1, k := k, snaps := snaps, reads := reads }
          | none => none
        | false =>
          match isReadOp P o with
          | true => match readOp P ((envOf n e).ev ng) o (layIf (fun a => (before.getD i 0).testBit a && waitsAt before hs k a) made H) with
            | some v => some { e := (envOf n e).put o.dst v, H := H, made := made, nid := nid, k := k, snaps := snaps, reads := (i, envOf n e, o, v) :: reads }
            | none => none
          | false => match pureOp P ((envOf n e).ev ng) o with
            | some v => some { e := (envOf n e).put o.dst v, H := H, made := made, nid := nid, k := k, snaps := snaps, reads := reads }
            | none => none) := by
    unfold dCore
    cases hh : isHeavyOp P o with
    | true =>
      simp only
      simp only [dHeavy, l1]
      rw [coreOf_eq P ng n o skipC ⟨ctxC x, dHeavyK kk made nid snaps reads, noKx⟩ call hc]
      simp only [stepR, anyOp, hh, skipC, dHeavyK]
      cases heavyOp P call ((envOf n e).ev ng) o (layIf (fun a => firstDep before a 0 hs == some k) made H) with
      | none => rfl
      | some p => simp only [toK, wrOf_eq]
    | false =>
      simp only
      cases hA : isAllocOp P o with
      | true =>
        simp only [dAlloc, allocOf_eq P ng n o]
        cases allocOp P ((envOf n e).ev ng) o with
        | none => rfl
        | some p => simp only [toK, wrOf_eq]
      | false =>
        simp only
        cases hR : isReadOp P o with
        | true =>
          simp only [dRead, readOf_eq P ng n o, l2]
          cases readOp P ((envOf n e).ev ng) o (layIf (fun a => (before.getD i 0).testBit a && waitsAt before hs k a) made H) with
          | none => rfl
          | some p => simp only [toK, wrOf_eq]
        | false =>
          simp only [dPure, pureOf_eq P ng n o]
          cases pureOp P ((envOf n e).ev ng) o with
          | none => rfl
          | some p => simp only [toK, wrOf_eq]
  have skip : dSkip (isHeavyOp P o) (wrOf n o.dst).f (layD before hs k) kk e H made nid snaps reads = toK kk (
      match isHeavyOp P o with
      | true => some { e := (envOf n e).put o.dst undefA, H := layIf (fun a => firstDep before a 0 hs == some k) made H, made := made, nid := nid, k := k + 1, snaps := layIf (fun a => firstDep before a 0 hs == some k) made H :: snaps, reads := reads }
      | false => some { e := (envOf n e).put o.dst undefA, H := H, made := made, nid := nid, k := k, snaps := snaps, reads := reads }) := by
    unfold dSkip
    rw [l1]
    cases isHeavyOp P o <;> simp only [toK, wrOf_eq]
  unfold dOper drawStep wantedA
  cases hg : o.guard with
  | none => exact core
  | some p =>
    obtain ⟨j, want⟩ := p
    simp only
    cases hj : ops[j]? with
    | none => rfl
    | some g =>
      simp only
      cases hd : g.dst with
      | none => rfl
      | some d =>
        simp only [dGuard, ovGQ_eq, rdOf_eq ng n, Env.ev]
        cases (envOf n e).get d with
        | none => rfl
        | some v =>
          cases v <;> try rfl
          · rename_i b
            simp only [eqB_eq]
            cases b == want with
            | true => exact core
            | false => exact skip
          · exact skip

theorem drawStep_k (P : Program) (ng : Nat) (call : CallA) (ops : Array Oper) (before : Array Nat) (hs : List Nat) (i : Nat) (o : Oper) (s s' : DrawState) (h : drawStep P ng call ops before hs i o s = some s') :
    s'.k = match isHeavyOp P o with | true => s.k + 1 | false => s.k := by
  unfold drawStep at h
  cases hh : isHeavyOp P o <;> simp only [hh] at h ⊢
  · split at h
    · cases h
    · cases h; rfl
    · split at h
      · split at h <;> cases h; rfl
      · split at h
        · split at h <;> cases h; rfl
        · split at h <;> cases h; rfl
  · split at h
    · cases h
    · cases h; rfl
    · split at h <;> cases h; rfl

theorem dSeqOf_eq (P : Program) (ng n : Nat) (ops : Array Oper) (before : Array Nat) (hs : List Nat) (x : Ctx) (call : CallA) (hc : CC (ctxC x) call) (kk : DK) : ∀ (l : List Oper) (i k : Nat) (e : EV) (H : AH) (made : Made) (nid : Nat) (snaps : List AH) (reads : Reads),
    (dSeqOf P ng n ops before hs l i k).f x kk e H made nid snaps reads = toK kk (runDraw P ng call ops before hs i l ⟨envOf n e, H, made, nid, k, snaps, reads⟩)
  | [], _, _, _, _, _, _, _, _ => rfl
  | o :: r, i, k, e, H, made, nid, snaps, reads => by
    have ih := dSeqOf_eq P ng n ops before hs x call hc kk r
    rw [show (dSeqOf P ng n ops before hs (o :: r) i k).f = dSeq (dOper P ng n ops before hs i k o).f (dSeqOf P ng n ops before hs r (i + 1) (match isHeavyOp P o with | true => k + 1 | false => k)).f from rfl]
    rw [dSeq, dOper_eq P ng n ops before hs i k o x call hc, runDraw]
    cases hs' : drawStep P ng call ops before hs i o ⟨envOf n e, H, made, nid, k, snaps, reads⟩ with
    | none => rfl
    | some s =>
      have h1 := drawStep_n P ng call ops before hs i o _ _ hs'
      have h2 := drawStep_k P ng call ops before hs i o _ _ hs'
      obtain ⟨⟨n', ⟨t⟩⟩, H', made', nid', k', snaps', reads'⟩ := s
      simp only at h1 h2
      subst h1
      simp only [toK]
      rw [ih, ← h2]
      rfl

/-- A read yields the same in each of some heaps. -/
def sameAllF (f : EV → AH → Option AV) (before : Array Nat) (hs : List Nat) (made : Made) (i : Nat) (e : EV) (v : AV) : Nat → List AH → Bool
  | _, [] => true
  | k, H :: r => (match f e (layF (layR before hs i k) made H) with | some u => sameA v u | none => false) && sameAllF f before hs made i e v (k + 1) r

theorem sameAllF_eq (P : Program) (ng n : Nat) (before : Array Nat) (hs : List Nat) (made : Made) (i : Nat) (e : EV) (o : Oper) (v : AV) : ∀ (l : List AH) (k : Nat),
    sameAllF (readOf P ng n o).f before hs made i e v k l = sameAll P ng before hs made i (envOf n e) o v k l
  | [], _ => rfl
  | H :: r, k => by
    simp only [sameAllF, sameAll, sameAllF_eq P ng n before hs made i e o v r (k + 1), readOf_eq P ng n o, layF_eq (layR before hs i k) (fun _ => rfl)]
    rfl

/-- Is a read's place fixed among the operations that do more than read? -/
def fixedAt (before : Array Nat) (hs : List Nat) (i : Nat) : Bool := Nat.beq (behind before i hs) (match firstDep before i 0 hs with | some q => q | none => hs.length)

def stableF (P : Program) (ng n : Nat) (before : Array Nat) (hs : List Nat) (snaps : List AH) (made : Made) : Reads → Bool
  | [] => true
  | (i, e, o, v) :: r =>
    sameAllF (readOf P ng n o).f before hs made i e.m.t v (behind before i hs) ((snaps.drop (behind before i hs)).take ((match firstDep before i 0 hs with | some q => q | none => hs.length) + 1 - behind before i hs)) && stableF P ng n before hs snaps made r

theorem stableF_eq (P : Program) (ng n : Nat) (before : Array Nat) (hs : List Nat) (snaps : List AH) (made : Made) : ∀ (reads : Reads), (∀ r ∈ reads, r.2.1.n = n) → stableF P ng n before hs snaps made reads = stable P ng before hs snaps made reads
  | [], _ => rfl
  | (i, e, o, v) :: r, h => by
    have he : e.n = n := h _ (List.mem_cons_self ..)
    simp only [stableF, stable, stableF_eq P ng n before hs snaps made r (fun x hx => h x (List.mem_cons_of_mem _ hx))]
    rw [sameAllF_eq P ng n]
    obtain ⟨n', ⟨t⟩⟩ := e
    simp only at he; subst he; rfl

theorem drawStep_reads (P : Program) (ng : Nat) (call : CallA) (ops : Array Oper) (before : Array Nat) (hs : List Nat) (i : Nat) (o : Oper) (s s' : DrawState) (h : drawStep P ng call ops before hs i o s = some s') (n : Nat) (hn : s.e.n = n) (hr : ∀ r ∈ s.reads, r.2.1.n = n) : ∀ r ∈ s'.reads, r.2.1.n = n := by
  unfold drawStep at h
  split at h
  · cases h
  · split at h <;> cases h <;> exact hr
  · split at h
    · split at h <;> cases h; exact hr
    · split at h
      · split at h <;> cases h; exact hr
      · split at h
        · split at h <;> cases h
          intro r hm
          rcases List.mem_cons.1 hm with rfl | hm
          · exact hn
          · exact hr r hm
        · split at h <;> cases h; exact hr

theorem runDraw_reads (P : Program) (ng : Nat) (call : CallA) (ops : Array Oper) (before : Array Nat) (hs : List Nat) (n : Nat) : ∀ (l : List Oper) (i : Nat) (s s' : DrawState), runDraw P ng call ops before hs i l s = some s' → s.e.n = n → (∀ r ∈ s.reads, r.2.1.n = n) → ∀ r ∈ s'.reads, r.2.1.n = n
  | [], _, s, s', h, _, hr => by cases h; exact hr
  | o :: r, i, s, s', h, hn, hr => by
    rw [runDraw] at h
    split at h
    · rename_i s1 h1
      exact runDraw_reads P ng call ops before hs n r _ _ _ h ((drawStep_n P ng call ops before hs i o s s1 h1).trans hn) (drawStep_reads P ng call ops before hs i o s s1 h1 n hn hr)
    · cases h

def drawEnd (P : Program) (ng n : Nat) (before : Array Nat) (hs : List Nat) (kn : EV → AH → Res) (e : EV) (H : AH) (made : Made) (_ : Nat) (snaps : List AH) (reads : Reads) : Res :=
  Bool.rec (motive := fun _ => Res) none (kn e (layF (layIf (fun a => waitsAt before hs hs.length a)) made H)) (stableF P ng n before hs snaps.reverse made reads)
def drawStart (k : Nat) (d : DRun) (x : Ctx) (kk : DK) (e : EV) (m : Map AObj) (nx : Nat) : Res := d x kk e ⟨m, Nat.add nx k⟩ [] nx [⟨m, Nat.add nx k⟩] []
def drawF (P : Program) (ng n : Nat) (before : Array Nat) (hs : List Nat) (k : Nat) (d : DRun) (b : Run) (x : Ctx) (e : EV) (H : AH) : Res :=
  AH.rec (motive := fun _ => Res) (fun m nx => drawStart k d x (drawEnd P ng n before hs (b x)) e m nx) H

def drawOf (P : Program) (ng n : Nat) (ops : Array Oper) (b : Run) : Cmd :=
  let before := Region.before ops
  let hs := heavies P 0 ops.toList
  bif tmpsOk ops before && ordered before hs && edgesOk ops then
    match dSeqOf P ng n ops before hs ops.toList 0 0 with
    | ⟨d⟩ => ⟨drawF P ng n before hs (ops.toList.filter (isAllocOp P)).length d b⟩
  else ⟨failC⟩

theorem drawOf_good (P : Program) (ng n : Nat) : DrawGood P ng n (drawOf P ng n) := by
  intro ops b x call hc e H
  simp only [drawOf, regionDraw]
  cases hok : tmpsOk ops (Region.before ops) && ordered (Region.before ops) (heavies P 0 ops.toList) && edgesOk ops with
  | false => rfl
  | true =>
    simp only [cond_true, if_true]
    obtain ⟨m, nx⟩ := H
    show drawStart _ _ x (drawEnd P ng n (Region.before ops) (heavies P 0 ops.toList) (b x)) e m nx = _
    unfold drawStart
    refine (dSeqOf_eq P ng n ops (Region.before ops) (heavies P 0 ops.toList) x call hc _ _ _ _ _ _ _ _ _ _).trans ?_
    show toK _ (runDraw P ng call ops (Region.before ops) (heavies P 0 ops.toList) 0 ops.toList { e := envOf n e, H := { m := m, next := nx + _ }, made := [], nid := nx, k := 0, snaps := [{ m := m, next := nx + _ }], reads := [] }) = _
    cases hrun : runDraw P ng call ops (Region.before ops) (heavies P 0 ops.toList) 0 ops.toList { e := envOf n e, H := { m := m, next := nx + (List.filter (isAllocOp P) ops.toList).length }, made := [], nid := nx, k := 0, snaps := [{ m := m, next := nx + (List.filter (isAllocOp P) ops.toList).length }], reads := [] } with
    | none => rfl
    | some s =>
      have hr := runDraw_reads P ng call ops _ _ n _ _ _ _ hrun rfl (fun r hm => by cases hm)
      simp only [toK, drawEnd, stableF_eq P ng n _ _ _ _ s.reads hr]
      cases hst : stable P ng (Region.before ops) (heavies P 0 ops.toList) s.snaps.reverse s.made s.reads with
      | false => rfl
      | true =>
        simp only [if_true]
        rw [layF_eq _ (fun _ => rfl)]

end
end Go.Abs
