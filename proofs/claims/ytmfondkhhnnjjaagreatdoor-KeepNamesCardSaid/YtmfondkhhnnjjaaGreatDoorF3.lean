/- The evaluator made for the kernel, third part: reads, blocks made, writes, calls; a region in its order. -/
import Derived.Test.YtmfondkhhnnjjaaGreatDoorF1

namespace Go.Abs
noncomputable section

/-! ## A cell of a row -/

inductive RunQ where | no | yes (n x : Nat)
def avRun : AV → RunQ :=
  AV.rec (motive_1 := fun _ => RunQ) (motive_2 := fun _ => Unit) (fun _ => .no) (fun _ _ => .no) (fun _ _ => .no) (fun n x => .yes n x) (fun _ _ => .no) .no (fun _ _ _ _ _ _ => .no) (fun _ _ => .no) .no (fun _ => .no) .no
    (fun _ _ _ _ _ => .no) .no (fun _ _ _ => .no) .no (fun _ _ => .no) (fun _ _ => .no) (fun _ _ => .no) () (fun _ _ _ _ => ())

def nthK (ih : Nat → Option AV) (k : Nat) (n x : Nat) : Option AV := Bool.rec (motive := fun _ => Option AV) (ih (Nat.sub k n)) (sI .u8 (Nat.mod (Nat.shiftRight x (Nat.mul 8 (Nat.sub (Nat.sub n 1) k))) 256)) (Nat.ble (Nat.succ k) n)
def nthS (v : AV) (_ : List AV) (ih : Nat → Option AV) (k : Nat) : Option AV := RunQ.rec (motive := fun _ => Option AV) (Nat.rec (motive := fun _ => Option AV) (some v) (fun k' _ => ih k') k) (nthK ih k) (avRun v)
def nthF : List AV → Nat → Option AV := List.rec (fun _ => none) nthS

theorem nthF_eq (l : List AV) : ∀ k, nthF l k = nthC k l := by
  induction l with
  | nil => intro k; cases k <;> rfl
  | cons v r ih =>
    intro k
    cases v
    case run n x =>
      show Bool.rec (motive := fun _ => Option AV) (nthF r (Nat.sub k n)) (sI .u8 _) (Nat.ble (Nat.succ k) n) = _
      simp only [nthC]
      by_cases h : k < n
      · rw [if_pos h, Nat.ble_eq_true_of_le h]; exact sI_eq _ _
      · rw [if_neg h]
        cases e : Nat.ble (Nat.succ k) n with
        | true => exact absurd (Nat.le_of_ble_eq_true e) h
        | false => exact ih _
    all_goals (cases k with | zero => rfl | succ k => exact ih k)

/-- Is a value one cell that is no packed row? (Stamps, too, go the slow way.) -/
def avPlain : AV → Bool :=
  AV.rec (motive_1 := fun _ => Bool) (motive_2 := fun _ => Unit) (fun _ => true) (fun _ _ => true) (fun _ _ => true) (fun _ _ => false) (fun _ _ => true) true (fun _ _ _ _ _ _ => true) (fun _ _ => true) true (fun _ => true) true (fun _ _ _ _ _ => true) true (fun _ _ _ => true) true
    (fun _ _ => false) (fun _ _ => false) (fun _ _ => false) () (fun _ _ _ _ => ())
def hdPlain : List AV → Bool := List.rec true (fun v _ _ => avPlain v)
def setK (u v : AV) (r : List AV) (ih : Nat → Option (List AV)) (k : Nat) : Option (List AV) :=
  Nat.rec (motive := fun _ => Option (List AV)) (Bool.rec (motive := fun _ => Option (List AV)) none (some (u :: r)) (hdPlain r)) (fun k' _ => Option.rec (motive := fun _ => Option (List AV)) none (fun l => some (v :: l)) (ih k')) k
def setS (u v : AV) (r : List AV) (ih : Nat → Option (List AV)) (k : Nat) : Option (List AV) := Bool.rec (motive := fun _ => Option (List AV)) none (setK u v r ih k) (avPlain v)
/-- A row with another cell; none where packed bytes stand ahead of it, or right behind. -/
def setF (u : AV) : List AV → Nat → Option (List AV) := List.rec (fun _ => none) (setS u)

theorem plain_run (v : AV) (h : avPlain v = true) : (∀ n x, v ≠ .run n x) ∧ cellsOfA v = some [v] ∧ v.one = true := by
  cases v <;> first
    | exact ⟨fun _ _ e => (by cases e), rfl, rfl⟩
    | cases h
theorem catC_cons_plain (v : AV) (r l : List AV) (h : avPlain v = true) : catC (v :: r) l = v :: catC r l := by
  show consC v (catC r l) = _
  cases v <;> first | rfl | cases h

theorem putC_cons_plain (v u : AV) (r : List AV) (k : Nat) (h : avPlain v = true) : putC (k + 1) 1 [u] (v :: r) = v :: putC k 1 [u] r := by
  have h1 : takeC (k + 1) (v :: r) = v :: takeC k r := by cases v <;> first | rfl | cases h
  have h2 : dropC (k + 1 + 1) (v :: r) = dropC (k + 1) r := by cases v <;> first | rfl | cases h
  unfold putC
  rw [h1, h2, catC_cons_plain v _ _ h]

theorem putC_zero_plain (v u : AV) (r : List AV) (h : avPlain v = true) (hr : hdPlain r = true) (hu : avPlain u = true) : putC 0 1 [u] (v :: r) = u :: r := by
  have h1 : takeC 0 (v :: r) = [] := by cases v <;> first | rfl | cases h
  have h0 : dropC 0 r = r := by
    cases r with
    | nil => rfl
    | cons w r => cases w <;> first | rfl | cases hr
  have h2 : dropC (0 + 1) (v :: r) = dropC 0 r := by cases v <;> first | rfl | cases h
  unfold putC
  rw [h1, h2, h0]
  show catC [u] r = _
  rw [catC_cons_plain u _ _ hu]; rfl

theorem setF_eq (u : AV) (hu : avPlain u = true) (l : List AV) : ∀ (k : Nat) (l' : List AV), setF u l k = some l' → putC k 1 [u] l = l' := by
  induction l with
  | nil => intro k l' h; cases h
  | cons v r ih =>
    intro k l' h
    have h : setS u v r (setF u r) k = some l' := h
    unfold setS at h
    cases hv : avPlain v with
    | false => rw [hv] at h; cases h
    | true =>
      rw [hv] at h
      have h : setK u v r (setF u r) k = some l' := h
      cases k with
      | zero =>
        have h : Bool.rec (motive := fun _ => Option (List AV)) none (some (u :: r)) (hdPlain r) = some l' := h
        cases hr : hdPlain r with
        | false => rw [hr] at h; cases h
        | true => rw [hr] at h; cases h; exact putC_zero_plain v u r hv hr hu
      | succ k =>
        have h : Option.rec (motive := fun _ => Option (List AV)) none (fun l => some (v :: l)) (setF u r k) = some l' := h
        cases hs : setF u r k with
        | none => rw [hs] at h; cases h
        | some m => rw [hs] at h; cases h; rw [putC_cons_plain v u r k hv, ih k m hs]

theorem setF_plain (u : AV) (l : List AV) (k : Nat) (l' : List AV) (h : setF u l k = some l') : packHd l = false := by
  cases l with
  | nil => rfl
  | cons v r =>
    have h : setS u v r (setF u r) k = some l' := h
    unfold setS at h
    cases v <;> first | rfl | cases h

/-! ## Reads -/

def treeOf {α : Type} : Map α → Tree (Option α) 4 := Map.rec (fun t => t)
def ahMap : AH → Map AObj := AH.rec (fun m _ => m)
/-- An object of the heap. -/
def hget (H : AH) (b : Nat) : Option AObj := Lens.rec (motive := fun _ => Option AObj) (fun g _ => g (treeOf (ahMap H))) (lens9 b : Lens _ (Option AObj))
theorem hget_eq (H : AH) (b : Nat) : hget H b = H.get b := rfl

def aoBlk : AObj → (Blk → Option AV) → Option AV := AObj.rec (fun b f => f b) (fun _ _ _ => none)
def ooBlk : Option AObj → (Blk → Option AV) → Option AV := Option.rec (fun _ => none) aoBlk
theorem ooBlk_eq (o : Option AObj) (f : Blk → Option AV) : ooBlk o f = match o with | some (.blk k) => f k | _ => none := by
  cases o with
  | none => rfl
  | some a => cases a <;> rfl
def rd1F : Blk → Nat → Option AV := Blk.rec (fun _ l o => nthF l o) (fun sz cnt z t o => Blk.rd1 (.rows sz cnt z t) o)
theorem rd1F_eq (k : Blk) (o : Nat) : rd1F k o = k.rd1 o := by
  cases k with
  | lst n l => exact nthF_eq l o
  | rows => rfl
def noRd : Rd := fun _ => none
def ld1C (o : Nat) (k : Blk) : Option AV := rd1F k o
def ld1B (H : AH) (b o : Nat) : Option AV := ooBlk (hget H b) (ld1C o)
def ld1F (x : Rd) (e : EV) (H : AH) : Option AV := ovPtr (x e) (ld1B H) noRd e

structure WRd2 where
  f : EV → AH → Option AV
def slowR (P : Program) (ng n : Nat) (o : Oper) (e : EV) (H : AH) : Option AV := readOp P ((envOf n e).ev ng) o H

def isOne (P : Program) (t : TypeId) : Bool :=
  match P.underlying t with
  | some (.struct _) => false
  | some (.array _ _) => false
  | some _ => true
  | none => false

def readOf (P : Program) (ng n : Nat) (o : Oper) : WRd2 :=
  match o.op with
  | .load t x => bif isOne P t then (match rdOf ng n x with | ⟨x⟩ => ⟨ld1F x⟩) else ⟨slowR P ng n o⟩
  | _ => ⟨slowR P ng n o⟩

theorem slowR_eq (P : Program) (ng n : Nat) (o : Oper) (e : EV) (H : AH) : slowR P ng n o e H = readOp P ((envOf n e).ev ng) o H := by
  rfl

theorem readOf_eq (P : Program) (ng n : Nat) (o : Oper) (e : EV) (H : AH) : (readOf P ng n o).f e H = readOp P ((envOf n e).ev ng) o H := by
  have hs := slowR_eq P ng n o e H
  unfold readOf
  split
  · rename_i t x h
    cases h1 : isOne P t with
    | false => exact hs
    | true =>
      have hx := rdOf_eq ng n x e
      simp only [cond_true]
      simp only [ld1F, ovPtr_eq, hx, readOp, h]
      cases (envOf n e).ev ng x with
      | none => rfl
      | some v =>
        cases v <;> try rfl
        rename_i b off
        simp only [ld1B, ooBlk_eq, hget_eq, loadA]
        cases H.get b with
        | none => rfl
        | some a =>
          cases a with
          | mp => rfl
          | blk k =>
            simp only [ld1C, rd1F_eq]
            unfold isOne at h1
            cases hd : P.underlying t with
            | none => rw [hd] at h1; cases h1
            | some d => rw [hd] at h1; cases d <;> first | rfl | cases h1
  · exact hs

/-! ## Blocks made -/

structure WAl where
  f : EV → Option ((Nat → AV) × AObj)
def slowA (P : Program) (ng n : Nat) (o : Oper) (e : EV) : Option ((Nat → AV) × AObj) := allocOp P ((envOf n e).ev ng) o
def ptr0 (b : Nat) : AV := .ptr b 0
def allocZ (l : List AV) (n : Nat) (_ : EV) : Option ((Nat → AV) × AObj) := some (ptr0, .blk (.lst n l))
def allocOf (P : Program) (ng n : Nat) (o : Oper) : WAl :=
  match o.op with
  | .alloc t => match zeroA P t with
    | some z => match cellsOfA z with | some l => ⟨allocZ l (clen l)⟩ | none => ⟨slowA P ng n o⟩
    | none => ⟨slowA P ng n o⟩
  | _ => ⟨slowA P ng n o⟩
theorem slowA_eq (P : Program) (ng n : Nat) (o : Oper) (e : EV) : slowA P ng n o e = allocOp P ((envOf n e).ev ng) o := by
  rfl
theorem allocOf_eq (P : Program) (ng n : Nat) (o : Oper) (e : EV) : (allocOf P ng n o).f e = allocOp P ((envOf n e).ev ng) o := by
  have hs := slowA_eq P ng n o e
  unfold allocOf
  split
  · rename_i t h
    split
    · rename_i z hz
      split
      · rename_i l hl
        simp only [allocZ, allocOp, h, hz, hl]; rfl
      · exact hs
    · exact hs
  · exact hs

/-! ## Writes -/

/-- What calls do, as the evaluator proper asks it. -/
def toA (c : CallC) : CallA := fun f a H => c f a H (fun v H' => some (v, H'))
/-- Calls in their two forms. -/
def CC (c : CallC) (call : CallA) : Prop := ∀ f a H k, c f a H k = match call f a H with | some (v, H') => k v H' | none => none
theorem CC.toA {c : CallC} {call : CallA} (h : CC c call) : toA c = call := by
  funext f a H
  rw [Go.Abs.toA, h]
  cases call f a H <;> rfl

structure WHv where
  f : CallC → EV → AH → Res
def slowH (P : Program) (ng n : Nat) (o : Oper) (c : CallC) (e : EV) (H : AH) : Res := heavyOp P (toA c) ((envOf n e).ev ng) o H

def aoBlkR : AObj → (Blk → Res) → Res := AObj.rec (fun b f => f b) (fun _ _ _ => none)
def ooBlkR : Option AObj → (Blk → Res) → Res := Option.rec (fun _ => none) aoBlkR
theorem ooBlkR_eq (o : Option AObj) (f : Blk → Res) : ooBlkR o f = match o with | some (.blk k) => f k | _ => none := by
  cases o with
  | none => rfl
  | some a => cases a <;> rfl
def avPtrR : AV → (Nat → Nat → Res) → Res :=
  AV.rec (motive_1 := fun _ => (Nat → Nat → Res) → Res) (motive_2 := fun _ => Unit) (fun _ _ => none) (fun _ _ _ => none) (fun _ _ _ => none) (fun _ _ _ => none) (fun b o f => f b o) (fun _ => none)
    (fun _ _ _ _ _ _ _ => none) (fun _ _ _ => none) (fun _ => none) (fun _ _ => none) (fun _ => none) (fun _ _ _ _ _ _ => none) (fun _ => none) (fun _ _ _ _ => none) (fun _ => none) (fun _ _ _ => none) (fun _ _ _ => none) (fun _ _ _ => none)
    () (fun _ _ _ _ => ())
def ovPtrR : Option AV → (Nat → Nat → Res) → Res := Option.rec (fun _ => none) avPtrR
theorem ovPtrR_eq (o : Option AV) (f : Nat → Nat → Res) : ovPtrR o f = match o with | some (.ptr b i) => f b i | _ => none := by
  cases o with
  | none => rfl
  | some v => cases v <;> rfl

/-- An object laid down. -/
def hset (H : AH) (b : Nat) (o : AObj) : AH := Lens.rec (motive := fun _ => AH) (fun _ u => AH.rec (motive := fun _ => AH) (fun m nx => Map.rec (motive := fun _ => AH) (fun t => ⟨⟨u (fun _ => some o) t⟩, nx⟩) m) H) (lens9 b : Lens _ (Option AObj))
theorem hset_eq (H : AH) (b : Nat) (o : AObj) : hset H b o = H.set b o := rfl

def st1D (slow : Res) (H : AH) (b : Nat) (v : AV) (o n : Nat) (l : List AV) : Res :=
  Bool.rec (motive := fun _ => Res) slow (Option.rec (motive := fun _ => Res) slow (fun l' => some (undefA, hset H b (.blk (.lst n l')))) (setF v l o)) (Bool.rec (motive := fun _ => Bool) false (Nat.ble (Nat.succ o) n) (avPlain v))
def st1C (slow : Res) (H : AH) (b o : Nat) (v : AV) (k : Blk) : Res := Blk.rec (motive := fun _ => Res) (fun n l => st1D slow H b v o n l) (fun _ _ _ _ => slow) k
def st1B (slow : Res) (H : AH) (ov : Option AV) (b o : Nat) : Res := Option.rec (motive := fun _ => Res) none (fun v => ooBlkR (hget H b) (st1C slow H b o v)) ov
/-- A cell written; the slow way where it is not so plain. -/
def st1F (x v : Rd) (s : CallC → EV → AH → Res) (c : CallC) (e : EV) (H : AH) : Res := ovPtrR (x e) (st1B (s c e H) H (v e))

def storeOf (P : Program) (ng n : Nat) (o : Oper) (t : TypeId) (x v : Operand) : WHv :=
  match sizeA P t with
  | some s => bif Nat.beq s 1 then (match rdOf ng n x, rdOf ng n v with | ⟨x⟩, ⟨v⟩ => ⟨st1F x v (slowH P ng n o)⟩) else ⟨slowH P ng n o⟩
  | none => ⟨slowH P ng n o⟩

def heavyOf (P : Program) (ng n : Nat) (o : Oper) : WHv :=
  match o.op with
  | .store t x v => storeOf P ng n o t x v
  | _ => ⟨slowH P ng n o⟩

theorem slowH_eq (P : Program) (ng n : Nat) (o : Oper) (c : CallC) (call : CallA) (h : CC c call) (e : EV) (H : AH) : slowH P ng n o c e H = heavyOp P call ((envOf n e).ev ng) o H := by
  rw [slowH, h.toA]

theorem clen_plain (u : AV) (h : avPlain u = true) : clen [u] = 1 := by cases u <;> first | rfl | cases h

theorem heavyOf_eq (P : Program) (ng n : Nat) (o : Oper) (c : CallC) (call : CallA) (h : CC c call) (e : EV) (H : AH) : (heavyOf P ng n o).f c e H = heavyOp P call ((envOf n e).ev ng) o H := by
  have hs := slowH_eq P ng n o c call h e H
  unfold heavyOf
  split
  · rename_i t x v ho
    unfold storeOf
    split
    · rename_i s hz
      cases h1 : Nat.beq s 1 with
      | false => exact hs
      | true =>
        have e1 : s = 1 := Nat.eq_of_beq_eq_true h1
        subst e1
        have hx := rdOf_eq ng n x e
        have hv := rdOf_eq ng n v e
        simp only [cond_true]
        simp only [st1F, ovPtrR_eq, hx, hv, hs]
        simp only [heavyOp, ho]
        cases (envOf n e).ev ng x with
        | none => rfl
        | some a =>
          cases (envOf n e).ev ng v with
          | none => cases a <;> rfl
          | some u =>
            cases a <;> try rfl
            rename_i b off
            simp only [st1B, ooBlkR_eq, hget_eq, storeA]
            cases hg : H.get b with
            | none => rfl
            | some ob =>
              cases ob with
              | mp => rfl
              | blk k =>
                cases k with
                | rows sz cnt z t => simp only [st1C, hz]
                | lst m l =>
                  simp only [st1C, st1D, hz]
                  cases hp : avPlain u with
                  | false => rfl
                  | true =>
                    cases hb : Nat.ble (Nat.succ off) m with
                    | false => rfl
                    | true =>
                      cases hf : setF u l off with
                      | none => rfl
                      | some l' =>
                        have hc : cellsX H b u = some [u] := by
                          unfold cellsX
                          rw [hg]
                          simp only [cellsB, setF_plain u l off l' hf]
                          split
                          · rfl
                          · exact (plain_run u hp).2.1
                        have hl : off + 1 ≤ m := Nat.le_of_ble_eq_true hb
                        simp only [hc, clen_plain u hp, if_true, Blk.wr, if_pos hl, setF_eq u hp l off l' hf, hset_eq]
    · exact hs
  · exact hs

end
end Go.Abs

/- The evaluator made for the kernel, fourth part: calls, regions, code, functions. -/
namespace Go.Abs
noncomputable section

/-! ## Calls -/

structure WAs where
  f : EV → Option (List AV)
def evNil (_ : EV) : Option (List AV) := some []
def evCons (f : Rd) (g : EV → Option (List AV)) (e : EV) : Option (List AV) :=
  Option.rec (motive := fun _ => Option (List AV)) none (fun v => Option.rec (motive := fun _ => Option (List AV)) none (fun l => some (v :: l)) (g e)) (f e)
def argsOf (ng n : Nat) : List Operand → WAs
  | [] => ⟨evNil⟩
  | x :: r => match rdOf ng n x, argsOf ng n r with | ⟨f⟩, ⟨g⟩ => ⟨evCons f g⟩
theorem argsOf_eq (ng n : Nat) (e : EV) : ∀ l, (argsOf ng n l).f e = evList ((envOf n e).ev ng) l
  | [] => rfl
  | x :: r => by
    have hx := rdOf_eq ng n x e
    have hr := argsOf_eq ng n e r
    simp only [argsOf, evCons, evList, hx, hr]
    cases (envOf n e).ev ng x with
    | none => rfl
    | some v => cases evList ((envOf n e).ev ng) r <;> rfl

def appF : List AV → List AV → List AV := List.rec (fun m => m) (fun v _ ih m => v :: ih m)
theorem appF_eq (l m : List AV) : appF l m = l ++ m := by
  induction l with
  | nil => rfl
  | cons v r ih => show v :: appF r m = _; rw [ih]; rfl

def avFnR : AV → (FuncId → List AV → List AV → Res) → Res :=
  AV.rec (motive_1 := fun _ => (FuncId → List AV → List AV → Res) → Res) (motive_2 := fun _ => Unit) (fun _ _ => none) (fun _ _ _ => none) (fun _ _ _ => none) (fun _ _ _ => none) (fun _ _ _ => none) (fun _ => none)
    (fun _ _ _ _ _ _ _ => none) (fun _ _ _ => none) (fun _ => none) (fun _ _ => none) (fun _ => none) (fun g fs cs _ _ f => f g fs cs) (fun _ => none) (fun _ _ _ _ => none) (fun _ => none) (fun _ _ _ => none) (fun _ _ _ => none) (fun _ _ _ => none)
    () (fun _ _ _ _ => ())
def ovFnR : Option AV → (FuncId → List AV → List AV → Res) → Res := Option.rec (fun _ => none) avFnR
theorem ovFnR_eq (o : Option AV) (f : FuncId → List AV → List AV → Res) : ovFnR o f = match o with | some (.fn g a b) => f g a b | _ => none := by
  cases o with
  | none => rfl
  | some v => cases v <;> rfl

def callVD (ol : Option (List AV)) (c : CallC) (k : AV → AH → Res) (H : AH) (g : FuncId) (fs cs : List AV) : Res :=
  Option.rec (motive := fun _ => Res) none (fun l => c g (appF fs (appF l cs)) H k) ol
def callVS (r : Rd) (as : EV → Option (List AV)) (w : Wr) (b : Run) (x : Ctx) (e : EV) (H : AH) : Res := ovFnR (r e) (callVD (as e) (ctxC x) (heavyT w b x e) H)
def callGT (g : FuncId) (w : Wr) (b : Run) (x : Ctx) (e : EV) (H : AH) (l : List AV) : Res := ctxC x g l H (heavyT w b x e)
def callGS (g : FuncId) (as : EV → Option (List AV)) (w : Wr) (b : Run) (x : Ctx) (e : EV) (H : AH) : Res := Option.rec (motive := fun _ => Res) none (callGT g w b x e H) (as e)
def callIS (P : Program) (r : Rd) (name : String) (as : EV → Option (List AV)) (w : Wr) (b : Run) (x : Ctx) (e : EV) (H : AH) : Res :=
  match r e, as e with
  | some (.ifc t v), some l => match methodA P H t v name with | some (f, rv) => ctxC x f (rv :: l) H (heavyT w b x e) | none => none
  | _, _ => none

/-! ## An operation in its place -/

/-- What an operation does, as the evaluator proper has it. -/
def stepR (P : Program) (ng n : Nat) (call : CallA) (o : Oper) (k : EV → AH → Res) (e : EV) (H : AH) : Res :=
  match anyOp P call ((envOf n e).ev ng) o H with | some (v, H') => k ((wrOf n o.dst).f v e) H' | none => none

/-- A call, carried out. -/
def callOf (P : Program) (ng n : Nat) (o : Oper) (w : Wr) (k : Call) (b : Run) : Cmd :=
  match argsOf ng n k.args.toList with
  | ⟨as⟩ =>
    match k.callee with
    | .value x =>
      match x with
      | .func g => ⟨callGS g as w b⟩
      | x => match rdOf ng n x with | ⟨x⟩ => ⟨callVS x as w b⟩
    | .invoke r name => match rdOf ng n r with | ⟨r⟩ => ⟨callIS P r name as w b⟩
    | .builtin _ => match heavyOf P ng n o with | ⟨f⟩ => ⟨heavyS f w b⟩

/-- A temporary moved into another one. -/
def moveOf (P : Program) (ng n : Nat) (o : Oper) (w : Wr) (t : Tmp) (b : Run) : Cmd :=
  bif tmpIn n t then (match gtOf t with | ⟨g⟩ => ⟨moveS g w b⟩) else match pureOf P ng n o with | ⟨f⟩ => ⟨pureS f w b⟩

def coreOf (P : Program) (ng n : Nat) (o : Oper) (b : Run) : Cmd :=
  match wrOf n o.dst with
  | ⟨w⟩ =>
    match isHeavyOp P o with
    | true =>
      match o.op with
      | .call k => callOf P ng n o w k b
      | _ => match heavyOf P ng n o with | ⟨f⟩ => ⟨heavyS f w b⟩
    | false =>
      match isAllocOp P o with
      | true => match allocOf P ng n o with | ⟨f⟩ => ⟨allocS f w b⟩
      | false =>
        match isReadOp P o with
        | true => match readOf P ng n o with | ⟨f⟩ => ⟨readS f w b⟩
        | false =>
          match o.op with
          | .move (.tmp t) => moveOf P ng n o w t b
          | .assign (.tmp t) => moveOf P ng n o w t b
          | _ => match pureOf P ng n o with | ⟨f⟩ => ⟨pureS f w b⟩

theorem allocH_eq (g : Nat → AV) (o : AObj) (w : Wr) (b : Run) (x : Ctx) (e : EV) (m : Map AObj) (nx : Nat) : allocH g o w b x e m nx = b x (w (g nx) e) ⟨m.put nx (some o), nx + 1⟩ := by
  cases nx <;> rfl

theorem heavyS_eq (P : Program) (ng n : Nat) (o : Oper) (b : Run) (x : Ctx) (call : CallA) (h : CC (ctxC x) call) (e : EV) (H : AH) (w : Wr) (hh : isHeavyOp P o = true) (hw : (wrOf n o.dst).f = w) :
    heavyS (heavyOf P ng n o).f w b x e H = stepR P ng n call o (b x) e H := by
  simp only [heavyS, stepR, anyOp, hh, heavyOf_eq P ng n o (ctxC x) call h, hw]
  cases heavyOp P call ((envOf n e).ev ng) o H <;> rfl

theorem pureS_eq (P : Program) (ng n : Nat) (o : Oper) (b : Run) (x : Ctx) (call : CallA) (e : EV) (H : AH) (w : Wr) (hh : isHeavyOp P o = false) (hA : isAllocOp P o = false) (hR : isReadOp P o = false) (hw : (wrOf n o.dst).f = w) :
    pureS (pureOf P ng n o).f w b x e H = stepR P ng n call o (b x) e H := by
  simp only [pureS, stepR, anyOp, hh, hA, hR, pureOf_eq P ng n o, hw]
  cases pureOp P ((envOf n e).ev ng) o <;> rfl

theorem moveOf_eq (P : Program) (ng n : Nat) (o : Oper) (b : Run) (x : Ctx) (call : CallA) (e : EV) (H : AH) (w : Wr) (hh : isHeavyOp P o = false) (hA : isAllocOp P o = false) (hR : isReadOp P o = false) (hw : (wrOf n o.dst).f = w) (t : Tmp)
    (ho : o.op = .move (.tmp t) ∨ o.op = .assign (.tmp t)) : (moveOf P ng n o w t b).f x e H = stepR P ng n call o (b x) e H := by
  unfold moveOf
  cases hi : tmpIn n t with
  | false => exact pureS_eq P ng n o b x call e H w hh hA hR hw
  | true =>
    have hg := get_in n t e hi
    have hp : pureOp P ((envOf n e).ev ng) o = some ((gtOf t).f e) := by
      rcases ho with ho | ho <;> simp only [pureOp, ho, Env.ev, hg]
    simp only [stepR, anyOp, hh, hA, hR, hp, hw]
    rfl

theorem coreOf_eq (P : Program) (ng n : Nat) (o : Oper) (b : Run) (x : Ctx) (call : CallA) (h : CC (ctxC x) call) (e : EV) (H : AH) : (coreOf P ng n o b).f x e H = stepR P ng n call o (b x) e H := by
  unfold coreOf
  split
  rename_i ww w hw
  have hw : (wrOf n o.dst).f = w := by rw [hw]
  cases hh : isHeavyOp P o with
  | true =>
    simp only
    split
    · rename_i k hk
      unfold callOf
      have ha := argsOf_eq ng n e k.args.toList
      split
      rename_i wa as hwa
      rw [hwa] at ha
      simp only at ha
      obtain ⟨callee, args, argTypes⟩ := k
      simp only at ha ⊢
      cases callee with
      | builtin bi => exact heavyS_eq P ng n o b x call h e H w hh hw
      | value y =>
        have hx := rdOf_eq ng n y e
        have gen : callVS (rdOf ng n y).f as w b x e H = stepR P ng n call o (b x) e H := by
          simp only [callVS, ovFnR_eq, hx, stepR, anyOp, hh, heavyOp, hk, ← ha, hw]
          cases (envOf n e).ev ng y with
          | none => rfl
          | some v =>
            cases v <;> try rfl
            rename_i g fs cs
            simp only [callVD]
            cases as e with
            | none => rfl
            | some l =>
              simp only [appF_eq, ← List.append_assoc, h g]
              cases call g (fs ++ l ++ cs) H <;> rfl
        cases y with
        | func g =>
          simp only [callGS, stepR, anyOp, hh, heavyOp, hk, ← ha, hw, Env.ev]
          cases as e with
          | none => rfl
          | some l =>
            show callGT g w b x e H l = _
            simp only [callGT, List.nil_append, List.append_nil, h g]
            cases call g l H <;> rfl
        | tmp t => exact gen
        | const v => exact gen
        | global g => exact gen
      | invoke r name =>
        have hx := rdOf_eq ng n r e
        simp only [callIS, hx, stepR, anyOp, hh, heavyOp, hk, ← ha, hw]
        cases (envOf n e).ev ng r with
        | none => rfl
        | some v =>
          cases v <;> try rfl
          rename_i t v
          cases as e with
          | none => rfl
          | some l =>
            simp only
            cases methodA P H t v name with
            | none => rfl
            | some p =>
              obtain ⟨f, rv⟩ := p
              simp only [h f]
              cases call f (rv :: l) H <;> rfl
    · exact heavyS_eq P ng n o b x call h e H w hh hw
  | false =>
    simp only
    cases hA : isAllocOp P o with
    | true =>
      simp only [allocS, stepR, anyOp, hh, hA, allocOf_eq P ng n o, hw]
      cases allocOp P ((envOf n e).ev ng) o with
      | none => rfl
      | some p =>
        obtain ⟨g, ob⟩ := p
        obtain ⟨m, nx⟩ := H
        show allocH g ob w b x e m nx = _
        rw [allocH_eq]; rfl
    | false =>
      simp only
      cases hR : isReadOp P o with
      | true =>
        simp only [readS, stepR, anyOp, hh, hA, hR, readOf_eq P ng n o, hw]
        cases readOp P ((envOf n e).ev ng) o H <;> rfl
      | false =>
        simp only
        split
        · rename_i t ho; exact moveOf_eq P ng n o b x call e H w hh hA hR hw t (.inl ho)
        · rename_i t ho; exact moveOf_eq P ng n o b x call e H w hh hA hR hw t (.inr ho)
        · exact pureS_eq P ng n o b x call e H w hh hA hR hw

def operOf (P : Program) (ng n : Nat) (ops : Array Oper) (o : Oper) (b : Run) : Cmd :=
  match o.guard with
  | none => coreOf P ng n o b
  | some (j, want) =>
    match ops[j]? with
    | none => ⟨failC⟩
    | some g =>
      match g.dst with
      | none => ⟨failC⟩
      | some d => match rdOf ng n (.tmp d), wrOf n o.dst, coreOf P ng n o b with | ⟨r⟩, ⟨w⟩, ⟨x⟩ => ⟨guardS r want w x b⟩

def operR (P : Program) (ng n : Nat) (call : CallA) (ops : Array Oper) (o : Oper) (k : EV → AH → Res) (e : EV) (H : AH) : Res :=
  match wantedA ops (envOf n e) o with
  | some true => stepR P ng n call o k e H
  | some false => k ((wrOf n o.dst).f undefA e) H
  | none => none

theorem operOf_eq (P : Program) (ng n : Nat) (ops : Array Oper) (o : Oper) (b : Run) (x : Ctx) (call : CallA) (h : CC (ctxC x) call) (e : EV) (H : AH) :
    (operOf P ng n ops o b).f x e H = operR P ng n call ops o (b x) e H := by
  unfold operOf operR wantedA
  cases hg : o.guard with
  | none => exact coreOf_eq P ng n o b x call h e H
  | some p =>
    obtain ⟨j, want⟩ := p
    simp only
    cases hj : ops[j]? with
    | none => rfl
    | some g =>
      simp only
      cases hd : g.dst with
      | none => rfl
      | some d =>
        simp only [guardS, ovGQ_eq, rdOf_eq ng n, Env.ev]
        cases (envOf n e).get d with
        | none => rfl
        | some v =>
          cases v <;> try rfl
          rename_i t
          simp only [guardT, eqB_eq, coreOf_eq P ng n o b x call h]
          cases t == want <;> rfl

def seqOf (P : Program) (ng n : Nat) (ops : Array Oper) : List Oper → Run → Cmd
  | [], b => ⟨b⟩
  | o :: r, b => match seqOf P ng n ops r b with | ⟨b'⟩ => operOf P ng n ops o b'

theorem seqOf_eq (P : Program) (ng n : Nat) (ops : Array Oper) (b : Run) (x : Ctx) (call : CallA) (h : CC (ctxC x) call) : ∀ (l : List Oper) (e : EV) (H : AH),
    (seqOf P ng n ops l b).f x e H = match runSeq P ng call ops l (envOf n e) H with | some (e', H') => b x e'.m.t H' | none => none
  | [], e, H => rfl
  | o :: r, e, H => by
    have ih := seqOf_eq P ng n ops b x call h r
    rw [show (seqOf P ng n ops (o :: r) b) = operOf P ng n ops o (seqOf P ng n ops r b).f from rfl]
    rw [operOf_eq P ng n ops o _ x call h, operR]
    rw [runSeq]
    cases wantedA ops (envOf n e) o with
    | none => rfl
    | some b =>
      cases b with
      | false => simp only [ih, wrOf_eq]
      | true =>
        simp only [stepR]
        cases anyOp P call ((envOf n e).ev ng) o H with
        | none => rfl
        | some p => simp only [ih, wrOf_eq]

end
end Go.Abs
