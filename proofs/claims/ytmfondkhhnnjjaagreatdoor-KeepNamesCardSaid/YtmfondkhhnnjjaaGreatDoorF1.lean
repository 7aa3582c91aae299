/- The evaluator made for the kernel, first part: the closed functions that operations become, and their laws. -/
import Derived.Test.YtmfondkhhnnjjaaGreatDoorA6

namespace Go.Abs
noncomputable section

abbrev EV := Tree AV 2
abbrev Res := Option (AV × AH)
abbrev CallC := FuncId → List AV → AH → (AV → AH → Res) → Res
abbrev Kn := EV → AH → Res
abbrev Kx := AX → EV → AH → Res
abbrev Rd := EV → Option AV
abbrev Wr := AV → EV → EV
/-- What is going on around a piece of code: calls; what follows; what follows where it is left otherwise. -/
structure Ctx where
  c : CallC
  kn : Kn
  kx : Kx
abbrev Run := Ctx → EV → AH → Res

structure WRd where
  f : Rd
structure WWr where
  f : Wr
structure Cmd where
  f : Run

/-! ## What a value is, told by closed functions -/

inductive B3 where | no | ff | tt
def B3.get : B3 → Option Bool := B3.rec none (some false) (some true)

def avBool : AV → B3 :=
  AV.rec (motive_1 := fun _ => B3) (motive_2 := fun _ => Unit) (fun b => Bool.rec .ff .tt b) (fun _ _ => .no) (fun _ _ => .no) (fun _ _ => .no) (fun _ _ => .no) .no (fun _ _ _ _ _ _ => .no) (fun _ _ => .no) .no (fun _ => .no) .no
    (fun _ _ _ _ _ => .no) .no (fun _ _ _ => .no) .no (fun _ _ => .no) (fun _ _ => .no) (fun _ _ => .no) () (fun _ _ _ _ => ())
def ovBool : Option AV → B3 := Option.rec .no avBool

/-- f at a number; else the slow way. -/
def avInt : AV → (IntKind → Nat → Option AV) → Rd → EV → Option AV :=
  AV.rec (motive_1 := fun _ => (IntKind → Nat → Option AV) → Rd → EV → Option AV) (motive_2 := fun _ => Unit) (fun _ _ s e => s e) (fun k n f _ _ => f k n) (fun _ _ _ s e => s e) (fun _ _ _ s e => s e) (fun _ _ _ s e => s e) (fun _ s e => s e)
    (fun _ _ _ _ _ _ _ s e => s e) (fun _ _ _ s e => s e) (fun _ s e => s e) (fun _ _ s e => s e) (fun _ s e => s e) (fun _ _ _ _ _ _ s e => s e) (fun _ s e => s e) (fun _ _ _ _ s e => s e) (fun _ s e => s e) (fun _ _ _ s e => s e) (fun _ _ _ s e => s e) (fun _ _ _ s e => s e)
    () (fun _ _ _ _ => ())
def ovInt : Option AV → (IntKind → Nat → Option AV) → Rd → EV → Option AV := Option.rec (fun _ s e => s e) avInt

def avPtr : AV → (Nat → Nat → Option AV) → Rd → EV → Option AV :=
  AV.rec (motive_1 := fun _ => (Nat → Nat → Option AV) → Rd → EV → Option AV) (motive_2 := fun _ => Unit) (fun _ _ s e => s e) (fun _ _ _ s e => s e) (fun _ _ _ s e => s e) (fun _ _ _ s e => s e) (fun b o f _ _ => f b o) (fun _ s e => s e)
    (fun _ _ _ _ _ _ _ s e => s e) (fun _ _ _ s e => s e) (fun _ s e => s e) (fun _ _ s e => s e) (fun _ s e => s e) (fun _ _ _ _ _ _ s e => s e) (fun _ s e => s e) (fun _ _ _ _ s e => s e) (fun _ s e => s e) (fun _ _ _ s e => s e) (fun _ _ _ s e => s e) (fun _ _ _ s e => s e)
    () (fun _ _ _ _ => ())
def ovPtr : Option AV → (Nat → Nat → Option AV) → Rd → EV → Option AV := Option.rec (fun _ s e => s e) avPtr

def avSlc : AV → (Nat → Nat → Nat → Option AV) → Rd → EV → Option AV :=
  AV.rec (motive_1 := fun _ => (Nat → Nat → Nat → Option AV) → Rd → EV → Option AV) (motive_2 := fun _ => Unit) (fun _ _ s e => s e) (fun _ _ _ s e => s e) (fun _ _ _ s e => s e) (fun _ _ _ s e => s e) (fun _ _ _ s e => s e) (fun _ s e => s e)
    (fun b o n _ _ _ f _ _ => f b o n) (fun _ _ _ s e => s e) (fun _ s e => s e) (fun _ _ s e => s e) (fun _ s e => s e) (fun _ _ _ _ _ _ s e => s e) (fun _ s e => s e) (fun _ _ _ _ s e => s e) (fun _ s e => s e) (fun _ _ _ s e => s e) (fun _ _ _ s e => s e) (fun _ _ _ s e => s e)
    () (fun _ _ _ _ => ())
def ovSlc : Option AV → (Nat → Nat → Nat → Option AV) → Rd → EV → Option AV := Option.rec (fun _ s e => s e) avSlc

theorem ovBool_get (o : Option AV) : ovBool o = match o with | some (.bool true) => .tt | some (.bool false) => .ff | _ => .no := by
  cases o with
  | none => rfl
  | some v => cases v <;> first | rfl | (rename_i b; cases b <;> rfl)
theorem ovInt_eq (o : Option AV) (f : IntKind → Nat → Option AV) (s : Rd) (e : EV) : ovInt o f s e = match o with | some (.int k n) => f k n | _ => s e := by
  cases o with
  | none => rfl
  | some v => cases v <;> rfl
theorem ovPtr_eq (o : Option AV) (f : Nat → Nat → Option AV) (s : Rd) (e : EV) : ovPtr o f s e = match o with | some (.ptr b i) => f b i | _ => s e := by
  cases o with
  | none => rfl
  | some v => cases v <;> rfl
theorem ovSlc_eq (o : Option AV) (f : Nat → Nat → Nat → Option AV) (s : Rd) (e : EV) : ovSlc o f s e = match o with | some (.slc b i n _ _ _) => f b i n | _ => s e := by
  cases o with
  | none => rfl
  | some v => cases v <;> rfl

inductive TupQ where | no | yes (l : List AV)
def avTup : AV → TupQ :=
  AV.rec (motive_1 := fun _ => TupQ) (motive_2 := fun _ => Unit) (fun _ => .no) (fun _ _ => .no) (fun _ _ => .no) (fun _ _ => .no) (fun _ _ => .no) .no (fun _ _ _ _ _ _ => .no) (fun _ _ => .no) .no (fun _ => .no) .no
    (fun _ _ _ _ _ => .no) .no (fun _ _ _ => .no) .no (fun _ _ => .no) (fun l _ => .yes l) (fun _ _ => .no) () (fun _ _ _ _ => ())
def ovTup : Option AV → TupQ := Option.rec .no avTup
theorem ovTup_eq (o : Option AV) : ovTup o = match o with | some (.tup l) => .yes l | _ => .no := by
  cases o with
  | none => rfl
  | some v => cases v <;> rfl
def nthL : List AV → Nat → Option AV := List.rec (fun _ => none) (fun v _ ih k => Nat.rec (motive := fun _ => Option AV) (some v) (fun k' _ => ih k') k)
theorem nthL_eq (l : List AV) : ∀ k, nthL l k = l[k]? := by
  induction l with
  | nil => intro k; rfl
  | cons v r ih =>
    intro k
    cases k with
    | zero => rfl
    | succ k => show nthL r k = _; rw [ih]; rfl
def extF (i : Nat) (x s : EV → Option AV) (e : EV) : Option AV := TupQ.rec (motive := fun _ => Option AV) (s e) (fun l => nthL l i) (ovTup (x e))

/-- What a guard sees. -/
inductive GQ where | no | bo (b : Bool) | tu
def avGQ : AV → GQ :=
  AV.rec (motive_1 := fun _ => GQ) (motive_2 := fun _ => Unit) (fun b => .bo b) (fun _ _ => .no) (fun _ _ => .no) (fun _ _ => .no) (fun _ _ => .no) .no (fun _ _ _ _ _ _ => .no) (fun _ _ => .no) .no (fun _ => .no) .no
    (fun _ _ _ _ _ => .no) .no (fun _ _ _ => .no) .no (fun _ _ => .no) (fun _ _ => .tu) (fun _ _ => .no) () (fun _ _ _ _ => ())
def ovGQ : Option AV → GQ := Option.rec .no avGQ
theorem ovGQ_eq (o : Option AV) : ovGQ o = match o with | some (.bool b) => .bo b | some (.tup _) => .tu | _ => .no := by
  cases o with
  | none => rfl
  | some v => cases v <;> rfl
def eqB (a b : Bool) : Bool := Bool.rec (motive := fun _ => Bool) (Bool.rec (motive := fun _ => Bool) true false b) b a
theorem eqB_eq (a b : Bool) : eqB a b = (a == b) := by cases a <;> cases b <;> rfl

/-- A number, reckoned to its end. -/
def sI (k : IntKind) (x : Nat) : Option AV := Nat.rec (motive := fun _ => Option AV) (some (.int k 0)) (fun p _ => some (.int k (Nat.succ p))) x
theorem sI_eq (k : IntKind) (x : Nat) : sI k x = some (.int k x) := by cases x <;> rfl

def pw : IntKind → Nat := IntKind.rec 256 65536 4294967296 18446744073709551616 256 65536 4294967296 18446744073709551616
theorem pw_eq (k : IntKind) : pw k = 2 ^ k.bits := by cases k <;> rfl
def kix : IntKind → Nat := IntKind.rec 0 1 2 3 4 5 6 7
def ikEq (k k' : IntKind) : Bool := Nat.beq (kix k) (kix k')
theorem ikEq_eq (k k' : IntKind) : ikEq k k' = decide (k = k') := by cases k <;> cases k' <;> rfl
/-- Is a number not below nought? -/
def notNeg : IntKind → Nat → Bool :=
  IntKind.rec (fun n => Nat.blt n 128) (fun n => Nat.blt n 32768) (fun n => Nat.blt n 2147483648) (fun n => Nat.blt n 9223372036854775808) (fun _ => true) (fun _ => true) (fun _ => true) (fun _ => true)
theorem blt_not (n m : Nat) : Nat.blt n m = !Nat.ble m n := by
  cases h : Nat.ble m n with
  | true => have := Nat.le_of_ble_eq_true h; rw [Bool.eq_iff_iff]; simp [Nat.blt_eq]; omega
  | false =>
    have : ¬ m ≤ n := fun g => by rw [Nat.ble_eq_true_of_le g] at h; cases h
    rw [Bool.eq_iff_iff]; simp [Nat.blt_eq]; omega
theorem notNeg_eq (k : IntKind) (n : Nat) : notNeg k n = !isNeg k n := by
  cases k <;> simp [notNeg, isNeg, IntKind.signed, IntKind.bits, blt_not]
/-- A number's rank in its kind's order. -/
def keyF : IntKind → Nat → Nat :=
  IntKind.rec (fun n => (n + 128) % 256) (fun n => (n + 32768) % 65536) (fun n => (n + 2147483648) % 4294967296) (fun n => (n + 9223372036854775808) % 18446744073709551616) (fun n => n) (fun n => n) (fun n => n) (fun n => n)
theorem keyF_eq (k : IntKind) (n : Nat) : keyF k n = key k n := by
  cases k <;> simp [keyF, key, IntKind.signed, IntKind.bits]

def sB (b : Bool) : Option AV := Bool.rec (motive := fun _ => Option AV) (some (.bool false)) (some (.bool true)) b
theorem sB_eq (b : Bool) : sB b = some (.bool b) := by cases b <;> rfl

def gAdd (k : IntKind) (n m : Nat) : Option AV := sI k (Nat.mod (Nat.add n m) (pw k))
def gSub (k : IntKind) (n m : Nat) : Option AV := sI k (Nat.mod (Nat.add n (Nat.sub (pw k) m)) (pw k))
def gMul (k : IntKind) (n m : Nat) : Option AV := sI k (Nat.mod (Nat.mul n m) (pw k))
def gAnd (k : IntKind) (n m : Nat) : Option AV := sI k (Nat.land n m)
def gOr (k : IntKind) (n m : Nat) : Option AV := sI k (Nat.lor n m)
def gXor (k : IntKind) (n m : Nat) : Option AV := sI k (Nat.xor n m)
def gEql (_ : IntKind) (n m : Nat) : Option AV := sB (Nat.beq n m)
def gNeq (_ : IntKind) (n m : Nat) : Option AV := sB (Bool.rec true false (Nat.beq n m))
def gLss (k : IntKind) (n m : Nat) : Option AV := sB (Nat.ble (Nat.succ (keyF k n)) (keyF k m))
def gLeq (k : IntKind) (n m : Nat) : Option AV := sB (Nat.ble (keyF k n) (keyF k m))
def gGtr (k : IntKind) (n m : Nat) : Option AV := sB (Nat.ble (Nat.succ (keyF k m)) (keyF k n))
def gGeq (k : IntKind) (n m : Nat) : Option AV := sB (Nat.ble (keyF k m) (keyF k n))

structure WG where
  g : IntKind → Nat → Nat → Option AV
def gOf : BinOp → Option WG
  | .add => some ⟨gAdd⟩ | .sub => some ⟨gSub⟩ | .mul => some ⟨gMul⟩ | .and => some ⟨gAnd⟩ | .or => some ⟨gOr⟩ | .xor => some ⟨gXor⟩
  | .eql => some ⟨gEql⟩ | .neq => some ⟨gNeq⟩ | .lss => some ⟨gLss⟩ | .leq => some ⟨gLeq⟩ | .gtr => some ⟨gGtr⟩ | .geq => some ⟨gGeq⟩
  | _ => none

theorem gOf_arith (op : BinOp) (g : WG) (h : gOf op = some g) (k : IntKind) (n m : Nat) : g.g k n m = arith op k n m := by
  cases op <;> simp only [gOf, Option.some.injEq, reduceCtorEq] at h <;> subst h <;>
    simp only [gAdd, gSub, gMul, gAnd, gOr, gXor, gEql, gNeq, gLss, gLeq, gGtr, gGeq, sI_eq, sB_eq, pw_eq, keyF_eq, arith] <;> first
      | rfl
      | (cases Nat.beq n m <;> rfl)
theorem gOf_notShift (op : BinOp) (g : WG) (h : gOf op = some g) : op ≠ .shl ∧ op ≠ .shr := by
  cases op <;> simp [gOf] at h ⊢

def bE (g : IntKind → Nat → Nat → Option AV) (k : IntKind) (n : Nat) (k' : IntKind) (m : Nat) : Option AV := Bool.rec (motive := fun _ => Option AV) none (g k n m) (ikEq k k')
def bC (g : IntKind → Nat → Nat → Option AV) (y s : Rd) (e : EV) (k : IntKind) (n : Nat) : Option AV := ovInt (y e) (bE g k n) s e
/-- Two numbers of one kind. -/
def binF (g : IntKind → Nat → Nat → Option AV) (x y s : Rd) (e : EV) : Option AV := ovInt (x e) (bC g y s e) s e

def shlE (k : IntKind) (n : Nat) (k' : IntKind) (m : Nat) : Option AV := Bool.rec (motive := fun _ => Option AV) none (sI k (Nat.mod (Nat.shiftLeft n (Nat.min m k.bits)) (pw k))) (notNeg k' m)
def shrN (k : IntKind) (n m : Nat) : Option AV := Bool.rec (motive := fun _ => Option AV) (some (.int k (ofInt k ((toInt k n).fdiv (2 ^ min m k.bits))))) (sI k (Nat.shiftRight n (Nat.min m k.bits))) (notNeg k n)
def shrE (k : IntKind) (n : Nat) (k' : IntKind) (m : Nat) : Option AV := Bool.rec (motive := fun _ => Option AV) none (shrN k n m) (notNeg k' m)
def shC (g : IntKind → Nat → IntKind → Nat → Option AV) (y s : Rd) (e : EV) (k : IntKind) (n : Nat) : Option AV := ovInt (y e) (g k n) s e
def shF (g : IntKind → Nat → IntKind → Nat → Option AV) (x y s : Rd) (e : EV) : Option AV := ovInt (x e) (shC g y s e) s e

def notF (x s : Rd) (e : EV) : Option AV := B3.rec (motive := fun _ => Option AV) (s e) (some (.bool true)) (some (.bool false)) (ovBool (x e))
def pickF (c a b : Rd) (e : EV) : Option AV := B3.rec (motive := fun _ => Option AV) none (b e) (a e) (ovBool (c e))
/-- A pointer stands; else the slow way. -/
def nilF (x s : Rd) (e : EV) : Option AV := ovPtr (x e) (fun b o => some (.ptr b o)) s e
def faddrE (off b o : Nat) : Option AV := some (.ptr b (Nat.add o off))
def faddrF (off : Nat) (x s : Rd) (e : EV) : Option AV := ovPtr (x e) (faddrE off) s e

def ixD (n sz b o : Nat) (j : Nat) : Option AV := Bool.rec (motive := fun _ => Option AV) none (some (.ptr b (Nat.add o (Nat.mul j sz)))) (Nat.ble (Nat.succ j) n)
def ixE (n sz b o : Nat) (k : IntKind) (j : Nat) : Option AV := Bool.rec (motive := fun _ => Option AV) none (ixD n sz b o j) (notNeg k j)
def ixAC (n sz : Nat) (i s : Rd) (e : EV) (b o : Nat) : Option AV := ovInt (i e) (ixE n sz b o) s e
def ixAF (n sz : Nat) (x i s : Rd) (e : EV) : Option AV := ovPtr (x e) (ixAC n sz i s e) s e
def ixSC (sz : Nat) (i s : Rd) (e : EV) (b o n : Nat) : Option AV := ovInt (i e) (ixE n sz b o) s e
def ixSF (sz : Nat) (x i s : Rd) (e : EV) : Option AV := ovSlc (x e) (ixSC sz i s e) s e

def castE (d : IntKind) (k : IntKind) (n : Nat) : Option AV := Bool.rec (motive := fun _ => Option AV) (some (.int d (castA k n d))) (sI d (Nat.mod n (pw d))) (notNeg k n)
def castF (d : IntKind) (x s : Rd) (e : EV) : Option AV := ovInt (x e) (castE d) s e

def lenE (_ _ n : Nat) : Option AV := Bool.rec (motive := fun _ => Option AV) none (some (.int .i64 n)) (Nat.ble (Nat.succ n) 4611686018427387904)
def lenF (x s : Rd) (e : EV) : Option AV := ovSlc (x e) lenE s e

/-! ## Commands: each with the command that follows -/

def moveS (g : EV → AV) (w : Wr) (b : Run) (x : Ctx) (e : EV) (H : AH) : Res := b x (w (g e) e) H
def pureT (w : Wr) (b : Run) (x : Ctx) (e : EV) (H : AH) (v : AV) : Res := b x (w v e) H
def pureS (f : Rd) (w : Wr) (b : Run) (x : Ctx) (e : EV) (H : AH) : Res := Option.rec (motive := fun _ => Res) none (pureT w b x e H) (f e)
def readS (f : EV → AH → Option AV) (w : Wr) (b : Run) (x : Ctx) (e : EV) (H : AH) : Res := Option.rec (motive := fun _ => Res) none (pureT w b x e H) (f e H)
def heavyT (w : Wr) (b : Run) (x : Ctx) (e : EV) (v : AV) (H : AH) : Res := b x (w v e) H
def ctxC : Ctx → CallC := Ctx.rec (fun c _ _ => c)
def heavyS (f : CallC → EV → AH → Res) (w : Wr) (b : Run) (x : Ctx) (e : EV) (H : AH) : Res := Option.rec (motive := fun _ => Res) none (fun p => Prod.rec (motive := fun _ => Res) (heavyT w b x e) p) (f (ctxC x) e H)
/-- The next block's number reckoned to its end. -/
def allocH (g : Nat → AV) (o : AObj) (w : Wr) (b : Run) (x : Ctx) (e : EV) (m : Map AObj) (nx : Nat) : Res :=
  Nat.rec (motive := fun _ => Res) (b x (w (g 0) e) ⟨m.put 0 (some o), 1⟩) (fun p _ => b x (w (g (Nat.succ p)) e) ⟨m.put (Nat.succ p) (some o), Nat.succ (Nat.succ p)⟩) nx
def allocS (f : EV → Option ((Nat → AV) × AObj)) (w : Wr) (b : Run) (x : Ctx) (e : EV) (H : AH) : Res :=
  Option.rec (motive := fun _ => Res) none (fun p => Prod.rec (motive := fun _ => Res) (fun g o => AH.rec (motive := fun _ => Res) (allocH g o w b x e) H) p) (f e)

def skipC (x : Ctx) (e : EV) (H : AH) : Res := Ctx.rec (motive := fun _ => Res) (fun _ kn _ => kn e H) x
def failC (_ : Ctx) (_ : EV) (_ : AH) : Res := none
def dSkipS (w : Wr) (b : Run) (x : Ctx) (e : EV) (H : AH) : Res := b x (w undefA e) H
def guardT (want : Bool) (w : Wr) (o b : Run) (x : Ctx) (e : EV) (H : AH) (t : Bool) : Res := Bool.rec (motive := fun _ => Res) (b x (w undefA e) H) (o x e H) (eqB t want)
def guardS (r : Rd) (want : Bool) (w : Wr) (o b : Run) (x : Ctx) (e : EV) (H : AH) : Res :=
  GQ.rec (motive := fun _ => Res) none (guardT want w o b x e H) (b x (w undefA e) H) (ovGQ (r e))

def condS (r : Rd) (a b : Run) (x : Ctx) (e : EV) (H : AH) : Res := B3.rec (motive := fun _ => Res) none (b x e H) (a x e H) (ovBool (r e))
def exitC (id : Nat) (x : Ctx) (e : EV) (H : AH) : Res := Ctx.rec (motive := fun _ => Res) (fun _ _ kx => kx (.exit id) e H) x
def gotoC (l : Nat) (x : Ctx) (e : EV) (H : AH) : Res := Ctx.rec (motive := fun _ => Res) (fun _ _ kx => kx (.goto l) e H) x
def retC (x : Ctx) (e : EV) (H : AH) : Res := Ctx.rec (motive := fun _ => Res) (fun _ _ kx => kx .ret e H) x
def blockX (id : Nat) (kn : Kn) (kx : Kx) (x : AX) (e : EV) (H : AH) : Res :=
  AX.rec (motive := fun _ => Res) (kn e H) (fun id' => Bool.rec (motive := fun _ => Res) (kx (.exit id') e H) (kn e H) (Nat.beq id' id)) (fun l => kx (.goto l) e H) (kx .ret e H) x
def blockT (id : Nat) (a b : Run) (e : EV) (H : AH) (c : CallC) (kn : Kn) (kx : Kx) : Res := a ⟨c, b ⟨c, kn, kx⟩, blockX id (b ⟨c, kn, kx⟩) kx⟩ e H
def blockS (id : Nat) (a b : Run) (x : Ctx) (e : EV) (H : AH) : Res := Ctx.rec (motive := fun _ => Res) (blockT id a b e H) x
def loopR (a : Run) (c : CallC) (kx : Kx) (n : Nat) : EV → AH → Res := Nat.rec (motive := fun _ => EV → AH → Res) (fun _ _ => none) (fun _ ih => a ⟨c, ih, kx⟩) n
def loopT (lf : Nat) (a : Run) (e : EV) (H : AH) (c : CallC) (_ : Kn) (kx : Kx) : Res := loopR a c kx lf e H
def loopC (lf : Nat) (a : Run) (x : Ctx) (e : EV) (H : AH) : Res := Ctx.rec (motive := fun _ => Res) (loopT lf a e H) x

end
end Go.Abs

/- The evaluator made for the kernel, second part: what operations become. -/
namespace Go.Abs
noncomputable section

/-- A frame's temporaries, as the evaluator proper has them. -/
abbrev envOf (n : Nat) (e : EV) : Env := ⟨n, ⟨e⟩⟩

structure WGt where
  f : EV → AV
/-- A temporary's place. -/
def gtOf (t : Nat) : WGt := match (lensD undefA t : Lens EV AV) with | ⟨g, _⟩ => ⟨g⟩
def tmpIn (n t : Nat) : Bool := !(Nat.ble n t || Nat.ble (4 ^ 4) t)

def rdOf (ng n : Nat) : Operand → WRd
  | .tmp t => bif tmpIn n t then (match gtOf t with | ⟨g⟩ => ⟨fun e => some (g e)⟩) else ⟨fun _ => none⟩
  | .const v => match ofValue v with | some a => ⟨fun _ => some a⟩ | none => ⟨fun _ => none⟩
  | .global g => bif Nat.blt g ng then ⟨fun _ => some (.ptr g 0)⟩ else ⟨fun _ => none⟩
  | .func f => ⟨fun _ => some (.fn f [] [])⟩

theorem get_in (n t : Nat) (e : EV) (h : tmpIn n t = true) : (envOf n e).get t = some ((gtOf t).f e) := by
  unfold Env.get
  unfold tmpIn at h
  cases hb : Nat.ble n t || Nat.ble (4 ^ 4) t with
  | true => rw [hb] at h; cases h
  | false => simp only [hb]; rfl
theorem get_out (n t : Nat) (e : EV) (h : tmpIn n t = false) : (envOf n e).get t = none := by
  unfold Env.get
  unfold tmpIn at h
  cases hb : Nat.ble n t || Nat.ble (4 ^ 4) t with
  | false => rw [hb] at h; cases h
  | true => simp only [hb]

theorem rdOf_eq (ng n : Nat) (x : Operand) (e : EV) : (rdOf ng n x).f e = (envOf n e).ev ng x := by
  cases x with
  | tmp t =>
    simp only [rdOf, Env.ev]
    cases h : tmpIn n t with
    | true => rw [get_in n t e h]; rfl
    | false => rw [get_out n t e h]; rfl
  | const v => simp only [rdOf, Env.ev]; cases ofValue v <;> rfl
  | global g =>
    simp only [rdOf, Env.ev]
    cases h : Nat.blt g ng with
    | true => rw [if_pos (by simpa [Nat.blt_eq] using h)]; rfl
    | false => rw [if_neg (fun g => by rw [← Nat.blt_eq] at g; rw [g] at h; cases h)]; rfl
  | func f => rfl

def wrOf (n : Nat) : Option Tmp → WWr
  | none => ⟨fun _ e => e⟩
  | some t => bif Nat.ble n t then ⟨fun _ e => e⟩ else match (lensD undefA t : Lens EV AV) with | ⟨_, u⟩ => ⟨fun v e => u (fun _ => v) e⟩

theorem wrOf_eq (n : Nat) (d : Option Tmp) (v : AV) (e : EV) : (envOf n e).put d v = envOf n ((wrOf n d).f v e) := by
  cases d with
  | none => rfl
  | some t =>
    simp only [Env.put, Env.set, wrOf]
    cases Nat.ble n t <;> rfl

/-! ## Operations that ask nothing of memory -/

def slowP (P : Program) (ng n : Nat) (o : Oper) : Rd := fun e => pureOp P ((envOf n e).ev ng) o

def binOf (P : Program) (ng n : Nat) (o : Oper) (op : BinOp) (x y : Operand) : WRd :=
  match rdOf ng n x, rdOf ng n y with
  | ⟨x⟩, ⟨y⟩ =>
    match op with
    | .shl => ⟨shF shlE x y (slowP P ng n o)⟩
    | .shr => ⟨shF shrE x y (slowP P ng n o)⟩
    | op => match gOf op with
      | some ⟨g⟩ => ⟨binF g x y (slowP P ng n o)⟩
      | none => ⟨slowP P ng n o⟩

def faddrOf (P : Program) (ng n : Nat) (o : Oper) (s : TypeId) (x : Operand) (f : Nat) : WRd :=
  match P.underlying s with
  | some (.struct fs) =>
    match fs[f]? with
    | some fd => match sizeA P fd.type with
      | some (_ + 1) => match rdOf ng n x with | ⟨x⟩ => ⟨faddrF fd.offset x (slowP P ng n o)⟩
      | _ => ⟨slowP P ng n o⟩
    | none => ⟨slowP P ng n o⟩
  | _ => ⟨slowP P ng n o⟩

def ixOf (P : Program) (ng n : Nat) (o : Oper) (t : TypeId) (x i : Operand) : WRd :=
  match P.underlying t with
  | some (.array m e) => match sizeA P e with
    | some s => match rdOf ng n x, rdOf ng n i with | ⟨x⟩, ⟨i⟩ => ⟨ixAF m s x i (slowP P ng n o)⟩
    | none => ⟨slowP P ng n o⟩
  | some (.slice e) => match sizeA P e with
    | some s => match rdOf ng n x, rdOf ng n i with | ⟨x⟩, ⟨i⟩ => ⟨ixSF s x i (slowP P ng n o)⟩
    | none => ⟨slowP P ng n o⟩
  | _ => ⟨slowP P ng n o⟩

def castOf (P : Program) (ng n : Nat) (o : Oper) (s d : TypeId) (x : Operand) : WRd :=
  match P.underlying s, P.underlying d with
  | some _, some (.int k) => match rdOf ng n x with | ⟨x⟩ => ⟨castF k x (slowP P ng n o)⟩
  | _, _ => ⟨slowP P ng n o⟩

def lenOf (P : Program) (ng n : Nat) (o : Oper) (args : Array Operand) (ts : Array TypeId) : WRd :=
  match args.toList, ts[0]? with
  | [x], some t => match P.underlying t with
    | some (.slice _) => match rdOf ng n x with | ⟨x⟩ => ⟨lenF x (slowP P ng n o)⟩
    | _ => ⟨slowP P ng n o⟩
  | _, _ => ⟨slowP P ng n o⟩

def pureOf (P : Program) (ng n : Nat) (o : Oper) : WRd :=
  match o.op with
  | .move x => rdOf ng n x
  | .assign x => rdOf ng n x
  | .pick c a b => match rdOf ng n c, rdOf ng n a, rdOf ng n b with | ⟨c⟩, ⟨a⟩, ⟨b⟩ => ⟨pickF c a b⟩
  | .nilCheck x => match rdOf ng n x with | ⟨x⟩ => ⟨nilF x (slowP P ng n o)⟩
  | .binOp op _ x y _ => binOf P ng n o op x y
  | .unOp op _ x => match op with
    | .not => match rdOf ng n x with | ⟨x⟩ => ⟨notF x (slowP P ng n o)⟩
    | _ => ⟨slowP P ng n o⟩
  | .convert s d x => castOf P ng n o s d x
  | .fieldAddr s x f => faddrOf P ng n o s x f
  | .indexAddr t x i => ixOf P ng n o t x i
  | .extract x i => match rdOf ng n x with | ⟨x⟩ => ⟨extF i x (slowP P ng n o)⟩
  | .call c => match c.callee with
    | .builtin b => match b with | .len => lenOf P ng n o c.args c.argTypes | _ => ⟨slowP P ng n o⟩
    | _ => ⟨slowP P ng n o⟩
  | _ => ⟨slowP P ng n o⟩

theorem slowP_eq (P : Program) (ng n : Nat) (o : Oper) (e : EV) : slowP P ng n o e = pureOp P ((envOf n e).ev ng) o := rfl

theorem binOf_eq (P : Program) (ng n : Nat) (o : Oper) (op : BinOp) (t : TypeId) (x y : Operand) (t' : TypeId) (h : o.op = .binOp op t x y t') (e : EV) :
    (binOf P ng n o op x y).f e = pureOp P ((envOf n e).ev ng) o := by
  have hs := slowP_eq P ng n o e
  have hx := rdOf_eq ng n x e
  have hy := rdOf_eq ng n y e
  unfold binOf
  split
  · rename_i fx fy ex ey
    rw [ex] at hx; rw [ey] at hy
    simp only at hx hy
    split
    · simp only [shF, shC, ovInt_eq, hs, hx, hy]
      simp only [pureOp, h]
      cases hx' : (envOf n e).ev ng x with
      | none => simp
      | some a =>
        cases a with
        | int k m =>
          simp only
          cases hy' : (envOf n e).ev ng y with
          | none => simp
          | some b =>
            cases b with
            | int k' m' =>
              simp only [shlE, binA, shiftA, notNeg_eq, sI_eq, pw_eq]
              cases isNeg k' m' <;> simp [Nat.shiftLeft_eq] <;> rfl
            | _ => simp
        | _ => simp
    · simp only [shF, shC, ovInt_eq, hs, hx, hy]
      simp only [pureOp, h]
      cases hx' : (envOf n e).ev ng x with
      | none => simp
      | some a =>
        cases a with
        | int k m =>
          simp only
          cases hy' : (envOf n e).ev ng y with
          | none => simp
          | some b =>
            cases b with
            | int k' m' =>
              simp only [shrE, shrN, binA, shiftA, notNeg_eq, sI_eq]
              cases isNeg k' m' <;> simp <;> cases isNeg k m <;> simp <;> rfl
            | _ => simp
        | _ => simp
    · rename_i op' n1 n2
      cases hg : gOf op with
      | none => simp only; exact hs
      | some g =>
        obtain ⟨g⟩ := g
        have ha := gOf_arith op ⟨g⟩ hg
        simp only at ha
        simp only [binF, bC, ovInt_eq, hs, hx, hy]
        simp only [pureOp, h]
        cases hx' : (envOf n e).ev ng x with
        | none => simp
        | some a =>
          cases a with
          | int k m =>
            simp only
            cases hy' : (envOf n e).ev ng y with
            | none => simp
            | some b =>
              cases b with
              | int k' m' =>
                have : binA P op t x y (.int k m) (.int k' m') = if k = k' then arith op k m m' else none := by
                  cases op <;> first | rfl | exact absurd rfl n1 | exact absurd rfl n2
                simp only [bE, this, ikEq_eq, ha]
                by_cases hk : k = k' <;> simp [hk]
              | _ => simp
          | _ => simp

theorem pureOf_eq (P : Program) (ng n : Nat) (o : Oper) (e : EV) : (pureOf P ng n o).f e = pureOp P ((envOf n e).ev ng) o := by
  have hs := slowP_eq P ng n o e
  unfold pureOf
  split
  · rename_i x h; rw [rdOf_eq ng n]; simp only [pureOp, h]
  · rename_i x h; rw [rdOf_eq ng n]; simp only [pureOp, h]
  · rename_i c a b h
    have hc := rdOf_eq ng n c e
    have ha := rdOf_eq ng n a e
    have hb := rdOf_eq ng n b e
    split
    rename_i fc fa fb ec ea eb
    rw [ec] at hc; rw [ea] at ha; rw [eb] at hb
    simp only at hc ha hb
    simp only [pickF, pureOp, h, hc, ha, hb, ovBool_get]
    cases (envOf n e).ev ng c with
    | none => rfl
    | some v => cases v <;> first | rfl | (rename_i b; cases b <;> rfl)
  · rename_i x h
    have hx := rdOf_eq ng n x e
    split
    rename_i fx ex
    rw [ex] at hx; simp only at hx
    simp only [nilF, ovPtr_eq, hx, hs]
    simp only [pureOp, h]
    cases (envOf n e).ev ng x with
    | none => rfl
    | some v => cases v <;> rfl
  · rename_i op t x y t' h
    exact binOf_eq P ng n o op t x y t' h e
  · rename_i op t x h
    split
    · have hx := rdOf_eq ng n x e
      split
      rename_i fx ex
      rw [ex] at hx; simp only at hx
      simp only [notF, ovBool_get, hx, hs]
      simp only [pureOp, h, unA]
      cases (envOf n e).ev ng x with
      | none => rfl
      | some v => cases v <;> first | rfl | (rename_i b; cases b <;> rfl)
    · exact hs
  · rename_i s d x h
    unfold castOf
    split
    · rename_i us k hu hd
      have hx := rdOf_eq ng n x e
      split
      rename_i fx ex
      rw [ex] at hx; simp only at hx
      simp only [castF, ovInt_eq, hx, hs]
      simp only [pureOp, h]
      cases (envOf n e).ev ng x with
      | none => rfl
      | some v =>
        cases v <;> try rfl
        rename_i k' m
        simp only [castE, convA, hu, hd, notNeg_eq, sI_eq, pw_eq, castA]
        cases isNeg k' m <;> simp <;> rfl
    · exact hs
  · rename_i s x f h
    unfold faddrOf
    split
    · rename_i fs hu
      split
      · rename_i fd hf
        split
        · rename_i m hm
          have hx := rdOf_eq ng n x e
          split
          rename_i fx ex
          rw [ex] at hx; simp only at hx
          simp only [faddrF, ovPtr_eq, hx, hs]
          simp only [pureOp, h]
          cases (envOf n e).ev ng x with
          | none => rfl
          | some v =>
            cases v <;> try rfl
            simp only [faddrE, fieldAddrA, hu, hf, hm]; rfl
        · exact hs
      · exact hs
    · exact hs
  · rename_i t x i h
    unfold ixOf
    have hx := rdOf_eq ng n x e
    have hi := rdOf_eq ng n i e
    split
    · rename_i m el hu
      split
      · rename_i s hz
        split
        rename_i fx fi ex ei
        rw [ex] at hx; rw [ei] at hi; simp only at hx hi
        simp only [ixAF, ixAC, ovPtr_eq, ovInt_eq, hx, hi, hs]
        simp only [pureOp, h]
        cases (envOf n e).ev ng x with
        | none => rfl
        | some v =>
          cases (envOf n e).ev ng i with
          | none => cases v <;> rfl
          | some w =>
            cases v <;> try rfl
            cases w <;> try rfl
            rename_i b o' k j
            simp only [ixE, ixD, indexAddrA, hu, natOf, notNeg_eq]
            cases isNeg k j <;> simp
            by_cases hl : j < m
            · rw [Nat.ble_eq_true_of_le hl, if_pos hl, hz]
            · rw [if_neg hl]
              cases hb : Nat.ble (j + 1) m with
              | true => exact absurd (Nat.le_of_ble_eq_true hb) (by omega)
              | false => rfl
      · exact hs
    · rename_i el hu
      split
      · rename_i s hz
        split
        rename_i fx fi ex ei
        rw [ex] at hx; rw [ei] at hi; simp only at hx hi
        simp only [ixSF, ixSC, ovSlc_eq, ovInt_eq, hx, hi, hs]
        simp only [pureOp, h]
        cases (envOf n e).ev ng x with
        | none => rfl
        | some v =>
          cases (envOf n e).ev ng i with
          | none => cases v <;> rfl
          | some w =>
            cases v <;> try rfl
            cases w <;> try rfl
            rename_i b o' m c s' ex' k j
            simp only [ixE, ixD, indexAddrA, hu, natOf, notNeg_eq]
            cases isNeg k j <;> simp
            by_cases hl : j < m
            · rw [Nat.ble_eq_true_of_le hl, if_pos hl, hz]
            · rw [if_neg hl]
              cases hb : Nat.ble (j + 1) m with
              | true => exact absurd (Nat.le_of_ble_eq_true hb) (by omega)
              | false => rfl
      · exact hs
    · exact hs
  · rename_i x i h
    have hx := rdOf_eq ng n x e
    split
    rename_i fx ex
    rw [ex] at hx; simp only at hx
    simp only [extF, ovTup_eq, hx, hs]
    simp only [pureOp, h]
    cases (envOf n e).ev ng x with
    | none => rfl
    | some v => cases v <;> first | rfl | exact nthL_eq _ _
  · rename_i c h
    split
    · rename_i b hc
      split
      · unfold lenOf
        split
        · rename_i x t ha ht
          split
          · rename_i el hu
            have hx := rdOf_eq ng n x e
            split
            rename_i fx ex
            rw [ex] at hx; simp only at hx
            simp only [lenF, ovSlc_eq, hx, hs]
            obtain ⟨callee, args, argTypes⟩ := c
            simp only at hc ha ht
            subst hc
            simp only [pureOp, h, ha, evList, ht]
            cases (envOf n e).ev ng x with
            | none => rfl
            | some v =>
              cases v <;> try rfl
              rename_i b o' m c s' ex'
              simp only [lenE, lenA, hu, intA]
              have e62 : (2 : Nat) ^ 62 = 4611686018427387904 := by decide
              rw [e62]
              show (Bool.rec none (some (AV.int .i64 m)) (Nat.blt m 4611686018427387904) : Option AV) = if Nat.blt m 4611686018427387904 = true then some (AV.int .i64 m) else none
              cases Nat.blt m 4611686018427387904 <;> rfl
          · exact hs
        · exact hs
      · exact hs
    · exact hs
  · exact hs

end
end Go.Abs
