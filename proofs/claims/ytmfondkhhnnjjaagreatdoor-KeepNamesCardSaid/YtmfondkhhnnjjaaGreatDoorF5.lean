/- The evaluator made for the kernel, fifth part: code, functions, calls. -/
import Derived.Test.YtmfondkhhnnjjaaGreatDoorF3

namespace Go.Abs
noncomputable section

/-! ## The number of temporaries stays -/

theorem put_n (e : Env) (d : Option Tmp) (v : AV) : (e.put d v).n = e.n := by
  cases d with
  | none => rfl
  | some t => simp only [Env.put, Env.set]; cases Nat.ble e.n t <;> rfl

theorem runSeq_n (P : Program) (ng : Nat) (call : CallA) (ops : Array Oper) : ∀ (l : List Oper) (e : Env) (H : AH) (e' : Env) (H' : AH), runSeq P ng call ops l e H = some (e', H') → e'.n = e.n
  | [], e, H, e', H', h => by cases h; rfl
  | o :: r, e, H, e', H', h => by
    rw [runSeq] at h
    split at h
    · split at h
      · rw [runSeq_n P ng call ops r _ _ _ _ h, put_n]
      · cases h
    · rw [runSeq_n P ng call ops r _ _ _ _ h, put_n]
    · cases h

theorem drawStep_n (P : Program) (ng : Nat) (call : CallA) (ops : Array Oper) (before : Array Nat) (hs : List Nat) (i : Nat) (o : Oper) (s s' : DrawState) (h : drawStep P ng call ops before hs i o s = some s') : s'.e.n = s.e.n := by
  unfold drawStep at h
  split at h
  · cases h
  · split at h <;> cases h <;> exact put_n _ _ _
  · split at h
    · split at h <;> cases h; exact put_n _ _ _
    · split at h
      · split at h <;> cases h; exact put_n _ _ _
      · split at h
        · split at h <;> cases h; exact put_n _ _ _
        · split at h <;> cases h; exact put_n _ _ _

theorem runDraw_n (P : Program) (ng : Nat) (call : CallA) (ops : Array Oper) (before : Array Nat) (hs : List Nat) : ∀ (l : List Oper) (i : Nat) (s s' : DrawState), runDraw P ng call ops before hs i l s = some s' → s'.e.n = s.e.n
  | [], i, s, s', h => by cases h; rfl
  | o :: r, i, s, s', h => by
    rw [runDraw] at h
    split at h
    · rename_i s1 h1
      rw [runDraw_n P ng call ops before hs r _ _ _ h, drawStep_n P ng call ops before hs i o s s1 h1]
    · cases h

theorem regionDraw_n (P : Program) (ng : Nat) (call : CallA) (ops : Array Oper) (e : Env) (H : AH) (e' : Env) (H' : AH) (h : regionDraw P ng call ops e H = some (e', H')) : e'.n = e.n := by
  simp only [regionDraw] at h
  split at h
  · split at h
    · rename_i s hs
      split at h <;> cases h
      exact runDraw_n P ng call ops _ _ _ _ _ _ hs
    · cases h
  · cases h

theorem loopA_n (f : Env → AH → Option (AX × Env × AH)) (hf : ∀ e H x e' H', f e H = some (x, e', H') → e'.n = e.n) : ∀ (n : Nat) (e : Env) (H : AH) x e' H', loopA f n e H = some (x, e', H') → e'.n = e.n
  | 0, _, _, _, _, _, h => by cases h
  | n + 1, e, H, x, e', H', h => by
    rw [loopA] at h
    split at h
    · rename_i e1 H1 h1
      rw [loopA_n f hf n _ _ _ _ _ h, hf _ _ _ _ _ h1]
    · exact hf _ _ _ _ _ h

theorem scopeA_n (run : Code → Env → AH → Option (AX × Env × AH)) (hr : ∀ c e H x e' H', run c e H = some (x, e', H') → e'.n = e.n) (c : Code) (n0 : Nat) : ∀ (n : Nat) (r : Option (AX × Env × AH)),
    (∀ x e' H', r = some (x, e', H') → e'.n = n0) → ∀ x e' H', scopeA run c n r = some (x, e', H') → e'.n = n0
  | 0, _, _, _, _, _, h => by cases h
  | n + 1, r, hn, x, e', H', h => by
    unfold scopeA at h
    split at h
    · rename_i hk; cases hk
    · rename_i k l e1 H1 hk
      cases hk
      split at h
      · rename_i rest _
        refine scopeA_n run hr c n0 n _ ?_ x e' H' h
        intro x2 e2 H2 h2
        rw [hr _ _ _ _ _ _ h2, hn _ _ _ rfl]
      · cases h
    · exact hn _ _ _ h

theorem codeA_n (P : Program) (ng : Nat) (call : CallA) (lf : Nat) : ∀ (d : Nat) (c : Code) (e : Env) (H : AH) x e' H', codeA P ng call lf d c e H = some (x, e', H') → e'.n = e.n
  | 0, _, _, _, _, _, _, h => by cases h
  | d + 1, c, e, H, x, e', H', h => by
    have ih := codeA_n P ng call lf d
    cases c <;> simp only [codeA] at h
    case skip => cases h; rfl
    case label => cases h; rfl
    case exit => cases h; rfl
    case goto => cases h; rfl
    case ret => cases h; rfl
    case rangeFunc => cases h
    case refuse => cases h
    case region id ops draw =>
      cases draw with
      | false =>
        simp only at h
        split at h
        · rename_i hr; cases h; exact runSeq_n _ _ _ _ _ _ _ _ _ hr
        · cases h
      | true =>
        simp only at h
        split at h
        · rename_i hr; cases h; exact regionDraw_n _ _ _ _ _ _ _ _ hr
        · cases h
    case seq a b =>
      split at h
      · rename_i e1 H1 h1
        rw [ih _ _ _ _ _ _ h, ih _ _ _ _ _ _ h1]
      · exact ih _ _ _ _ _ _ h
    case cond c a b =>
      split at h
      · exact ih _ _ _ _ _ _ h
      · exact ih _ _ _ _ _ _ h
      · cases h
    case block id c =>
      split at h
      · rename_i e1 H1 h1
        cases h; exact ih _ _ _ _ _ _ h1
      · exact ih _ _ _ _ _ _ h
    case loop c => exact loopA_n _ (fun e H x e' H' h => ih c e H x e' H' h) lf e H x e' H' h
    case scope c => exact scopeA_n _ ih c e.n lf _ (fun x e' H' h => ih _ _ _ _ _ _ h) x e' H' h

/-! ## Code -/

/-- What follows, by how a piece of code ends. -/
def K (kn : Kn) (kx : Kx) : Option (AX × Env × AH) → Res
  | none => none
  | some (.normal, e, H) => kn e.m.t H
  | some (.exit id, e, H) => kx (.exit id) e.m.t H
  | some (.goto l, e, H) => kx (.goto l) e.m.t H
  | some (.ret, e, H) => kx .ret e.m.t H

/-- A piece of code, and the command that follows. -/
def codeOf (P : Program) (ng n lf : Nat) (draw : Array Oper → Run → Cmd) : Code → Run → Option (Cmd × Nat)
  | .skip, b => some (⟨b⟩, 1)
  | .label _, b => some (⟨b⟩, 1)
  | .region _ ops false, b => some (seqOf P ng n ops ops.toList b, 1)
  | .region _ ops true, b => some (draw ops b, 1)
  | .seq c d, b => match codeOf P ng n lf draw d b with
    | some (⟨b'⟩, j) => match codeOf P ng n lf draw c b' with
      | some (⟨a⟩, i) => some (⟨a⟩, max i j + 1)
      | none => none
    | none => none
  | .cond x c d, b => match codeOf P ng n lf draw c b, codeOf P ng n lf draw d b, rdOf ng n x with
    | some (⟨c⟩, i), some (⟨d⟩, j), ⟨x⟩ => some (⟨condS x c d⟩, max i j + 1)
    | _, _, _ => none
  | .block id c, b => match codeOf P ng n lf draw c skipC with
    | some (⟨a⟩, i) => some (⟨blockS id a b⟩, i + 1)
    | none => none
  | .loop c, _ => match codeOf P ng n lf draw c skipC with
    | some (⟨a⟩, i) => some (⟨loopC lf a⟩, i + 1)
    | none => none
  | .exit id, _ => some (⟨exitC id⟩, 1)
  | .goto l, _ => some (⟨gotoC l⟩, 1)
  | .ret, _ => some (⟨retC⟩, 1)
  | _, _ => none

/-- A drawn region's command does what it should. -/
def DrawGood (P : Program) (ng n : Nat) (draw : Array Oper → Run → Cmd) : Prop :=
  ∀ ops b x call, CC (ctxC x) call → ∀ e H, (draw ops b).f x e H = match regionDraw P ng call ops (envOf n e) H with | some (e', H') => b x e'.m.t H' | none => none

def kxOf : Ctx → Kx := Ctx.rec (fun _ _ kx => kx)

theorem loop_eq (a : Run) (c : CallC) (f : Env → AH → Option (AX × Env × AH)) (n : Nat) (hn : ∀ e H x e' H', f e H = some (x, e', H') → e'.n = e.n)
    (kx : Kx) (h : ∀ kn e H, a ⟨c, kn, kx⟩ e H = K kn kx (f (envOf n e) H)) (kn : Kn) : ∀ (m : Nat) (e : EV) (H : AH),
    loopR a c kx m e H = K kn kx (loopA f m (envOf n e) H)
  | 0, _, _ => rfl
  | m + 1, e, H => by
    show a ⟨c, loopR a c kx m, kx⟩ e H = _
    rw [h, loopA]
    cases hf : f (envOf n e) H with
    | none => rfl
    | some p =>
      obtain ⟨x, e', H'⟩ := p
      have h1 := hn _ _ _ _ _ hf
      cases x with
      | normal =>
        simp only [K]
        have ih := loop_eq a c f n hn kx h kn m e'.m.t H'
        rw [ih]
        obtain ⟨n', ⟨t⟩⟩ := e'
        simp only at h1; subst h1; rfl
      | exit id => rfl
      | goto l => rfl
      | ret => rfl

theorem codeOf_eq (P : Program) (ng n lf : Nat) (draw : Array Oper → Run → Cmd) (hdraw : DrawGood P ng n draw) (call : CallA) : ∀ (co : Code) (b : Run) (a : Cmd) (dep : Nat), codeOf P ng n lf draw co b = some (a, dep) →
    ∀ d, dep ≤ d → ∀ (x : Ctx), CC (ctxC x) call → ∀ e H, a.f x e H = K (b x) (kxOf x) (codeA P ng call lf d co (envOf n e) H) := by
  intro co
  induction co with
  | skip => intro b a dep h d hd x hc e H; cases h; obtain ⟨d, rfl⟩ : ∃ d', d = d' + 1 := ⟨d - 1, by omega⟩; rfl
  | label => intro b a dep h d hd x hc e H; cases h; obtain ⟨d, rfl⟩ : ∃ d', d = d' + 1 := ⟨d - 1, by omega⟩; rfl
  | exit => intro b a dep h d hd x hc e H; cases h; obtain ⟨d, rfl⟩ : ∃ d', d = d' + 1 := ⟨d - 1, by omega⟩; cases x; rfl
  | goto => intro b a dep h d hd x hc e H; cases h; obtain ⟨d, rfl⟩ : ∃ d', d = d' + 1 := ⟨d - 1, by omega⟩; cases x; rfl
  | ret => intro b a dep h d hd x hc e H; cases h; obtain ⟨d, rfl⟩ : ∃ d', d = d' + 1 := ⟨d - 1, by omega⟩; cases x; rfl
  | rangeFunc => intro b a dep h; cases h
  | refuse => intro b a dep h; cases h
  | scope => intro b a dep h; cases h
  | region id ops draw' =>
    intro b a dep h d hd x hc e H
    cases draw' with
    | false =>
      cases h
      obtain ⟨d, rfl⟩ : ∃ d', d = d' + 1 := ⟨d - 1, by omega⟩
      rw [seqOf_eq P ng n ops b x call hc ops.toList e H]
      simp only [codeA]
      cases runSeq P ng call ops ops.toList (envOf n e) H <;> rfl
    | true =>
      cases h
      obtain ⟨d, rfl⟩ : ∃ d', d = d' + 1 := ⟨d - 1, by omega⟩
      rw [hdraw ops b x call hc e H]
      simp only [codeA]
      cases regionDraw P ng call ops (envOf n e) H <;> rfl
  | seq y z ihy ihz =>
    intro b a dep h d hd x hc e H
    simp only [codeOf] at h
    split at h
    · rename_i fz j h1
      split at h
      · rename_i fy i h2
        cases h
        obtain ⟨d, rfl⟩ : ∃ d', d = d' + 1 := ⟨d - 1, by omega⟩
        have hz := ihz _ _ _ h1 d (by omega) x hc
        have hy := ihy _ _ _ h2 d (by omega) x hc
        simp only at hy hz
        simp only [codeA]
        rw [hy]
        cases hr : codeA P ng call lf d y (envOf n e) H with
        | none => rfl
        | some p =>
          obtain ⟨o, e', H'⟩ := p
          have h3 := codeA_n P ng call lf d y _ _ _ _ _ hr
          cases o with
          | normal =>
            simp only [K]
            rw [hz]
            obtain ⟨n', ⟨t⟩⟩ := e'
            simp only at h3; subst h3; rfl
          | exit => rfl
          | goto => rfl
          | ret => rfl
      · cases h
    · cases h
  | cond y p q ihp ihq =>
    intro b a dep h d hd x hc e H
    simp only [codeOf] at h
    split at h
    · rename_i fp i fq j fx h1 h2 h3
      cases h
      obtain ⟨d, rfl⟩ : ∃ d', d = d' + 1 := ⟨d - 1, by omega⟩
      have hp := ihp _ _ _ h1 d (by omega) x hc
      have hq := ihq _ _ _ h2 d (by omega) x hc
      simp only at hp hq
      have hx := rdOf_eq ng n y e
      rw [h3] at hx
      simp only at hx
      simp only [condS, codeA, ovBool_get, hx]
      cases (envOf n e).ev ng y with
      | none => rfl
      | some v =>
        cases v <;> try rfl
        rename_i t
        cases t with
        | true => exact hp e H
        | false => exact hq e H
    · cases h
  | block id y ihy =>
    intro b a dep h d hd x hc e H
    simp only [codeOf] at h
    split at h
    · rename_i fy i h1
      cases h
      obtain ⟨d, rfl⟩ : ∃ d', d = d' + 1 := ⟨d - 1, by omega⟩
      obtain ⟨c, kn, kx⟩ := x
      have hy := ihy _ _ _ h1 d (by omega) ⟨c, b ⟨c, kn, kx⟩, blockX id (b ⟨c, kn, kx⟩) kx⟩ hc e H
      simp only at hy
      show fy ⟨c, b ⟨c, kn, kx⟩, blockX id (b ⟨c, kn, kx⟩) kx⟩ e H = _
      rw [hy]
      simp only [codeA]
      cases codeA P ng call lf d y (envOf n e) H with
      | none => rfl
      | some p =>
        obtain ⟨o, e', H'⟩ := p
        cases o with
        | normal => rfl
        | exit id' =>
          show blockX id (b ⟨c, kn, kx⟩) kx (.exit id') e'.m.t H' = _
          simp only [blockX]
          by_cases hi : id' = id
          · subst hi; simp only [Nat.beq_refl, if_true]; rfl
          · rw [if_neg hi]
            cases hb : Nat.beq id' id with
            | true => exact absurd (Nat.eq_of_beq_eq_true hb) hi
            | false => rfl
        | goto => rfl
        | ret => rfl
    · cases h
  | loop y ihy =>
    intro b a dep h d hd x hc e H
    simp only [codeOf] at h
    split at h
    · rename_i fy i h1
      cases h
      obtain ⟨d, rfl⟩ : ∃ d', d = d' + 1 := ⟨d - 1, by omega⟩
      obtain ⟨c, kn, kx⟩ := x
      have hy := fun kn' => ihy _ _ _ h1 d (by omega) ⟨c, kn', kx⟩ hc
      simp only at hy
      show loopR fy c kx lf e H = _
      simp only [codeA]
      exact loop_eq fy c _ n (fun e H x e' H' h => codeA_n P ng call lf d y e H x e' H' h) kx (fun kn' e H => hy kn' e H) (b ⟨c, kn, kx⟩) lf e H
    · cases h

/-! ## Functions -/

structure WRs where
  f : EV → AH → Option AV
/-- Results, one behind the other. -/
structure WRl where
  f : EV → AH → Option (List AV)
def resOf (P : Program) (n : Nat) (r : ResultVar) : WRs :=
  match r with
  | .tmp t => bif tmpIn n t then (match gtOf t with | ⟨g⟩ => ⟨fun e _ => some (g e)⟩) else ⟨fun _ _ => none⟩
  | .cell a t => ⟨fun e H => resultA P (envOf n e) H (.cell a t)⟩
theorem resOf_eq (P : Program) (n : Nat) (r : ResultVar) (e : EV) (H : AH) : (resOf P n r).f e H = resultA P (envOf n e) H r := by
  cases r with
  | cell a t => rfl
  | tmp t =>
    simp only [resOf, resultA]
    cases h : tmpIn n t with
    | true => rw [get_in n t e h]; rfl
    | false => rw [get_out n t e h]; rfl
def rlNil (_ : EV) (_ : AH) : Option (List AV) := some []
def rlCons (f : EV → AH → Option AV) (g : EV → AH → Option (List AV)) (e : EV) (H : AH) : Option (List AV) :=
  Option.rec (motive := fun _ => Option (List AV)) none (fun v => Option.rec (motive := fun _ => Option (List AV)) none (fun l => some (v :: l)) (g e H)) (f e H)
def reslOf (P : Program) (n : Nat) : List ResultVar → WRl
  | [] => ⟨rlNil⟩
  | r :: l => match resOf P n r, reslOf P n l with | ⟨f⟩, ⟨g⟩ => ⟨rlCons f g⟩
theorem reslOf_eq (P : Program) (n : Nat) (e : EV) (H : AH) : ∀ l, (reslOf P n l).f e H = resultsA P (envOf n e) H l
  | [] => rfl
  | r :: l => by
    have h1 := resOf_eq P n r e H
    have h2 := reslOf_eq P n e H l
    simp only [reslOf, rlCons, resultsA, h1, h2]
    cases resultA P (envOf n e) H r with
    | none => rfl
    | some v => cases resultsA P (envOf n e) H l <;> rfl
def tupF (f : EV → AH → Option (List AV)) (e : EV) (H : AH) : Option AV := Option.rec (motive := fun _ => Option AV) none (fun l => some (.tup l)) (f e H)
def ressOf (P : Program) (n : Nat) (l : List ResultVar) : WRs :=
  match l with
  | [r] => resOf P n r
  | l => match reslOf P n l with | ⟨f⟩ => ⟨tupF f⟩
theorem ressOf_eq (P : Program) (n : Nat) (e : EV) (H : AH) (l : List ResultVar) :
    (ressOf P n l).f e H = match resultsA P (envOf n e) H l with | some [v] => some v | some l => some (.tup l) | none => none := by
  have hlen : ∀ (l : List ResultVar) (vs : List AV), resultsA P (envOf n e) H l = some vs → vs.length = l.length := by
    intro l
    induction l with
    | nil => intro vs h; cases h; rfl
    | cons r l ih =>
      intro vs h
      simp only [resultsA] at h
      split at h
      · rename_i h1 h2; cases h; simp [ih _ h2]
      · cases h
  have gen : l.length ≠ 1 → tupF (reslOf P n l).f e H = match resultsA P (envOf n e) H l with | some [v] => some v | some l => some (.tup l) | none => none := by
    intro hl
    simp only [tupF, reslOf_eq P n]
    cases hr : resultsA P (envOf n e) H l with
    | none => rfl
    | some vs =>
      have := hlen l vs hr
      match vs, this with
      | [], _ => rfl
      | [v], h => exact absurd h.symm hl
      | v :: w :: r, _ => rfl
  match l, gen with
  | [], gen => exact gen (by simp)
  | [r], _ =>
    show (resOf P n r).f e H = _
    rw [resOf_eq P n]
    simp only [resultsA]
    cases resultA P (envOf n e) H r <;> rfl
  | r :: r' :: l, gen => exact gen (by simp)

inductive FnC where
  | bad
  | code (n : Nat) (r : Run) (res : EV → AH → Option AV)
abbrev Orc := List AV → AH → Option (AV × AH)
structure FnT where
  o : Option Orc
  c : FnC

def fcOf (P : Program) (ng : Nat) (lf : Nat) (draw : Nat → Array Oper → Run → Cmd) (f : FuncId) : FnC :=
  match P.funcs[f]? with
  | none => .bad
  | some fn =>
    match fn.body with
    | none => .bad
    | some c =>
      bif fn.name == "runtime.NumGoroutine" then .bad else
      match codeOf P ng fn.ntmps lf (draw fn.ntmps) c skipC, ressOf P fn.ntmps fn.results.toList with
      | some (⟨r⟩, dep), ⟨res⟩ => bif Nat.ble dep lf then .code fn.ntmps r res else .bad
      | none, _ => .bad

def fnOf (P : Program) (ng : Nat) (orc : FuncId → Option Orc) (lf : Nat) (draw : Nat → Array Oper → Run → Cmd) (f : FuncId) : FnT :=
  match orc f, fcOf P ng lf draw f with
  | o, .bad => ⟨o, .bad⟩
  | o, .code n r res => ⟨o, .code n r res⟩

def lenL : List AV → Nat := List.rec 0 (fun _ _ ih => Nat.succ ih)
theorem lenL_eq (l : List AV) : lenL l = l.length := by
  induction l with
  | nil => rfl
  | cons v r ih => show Nat.succ (lenL r) = _; rw [ih]; rfl
def argsF : List AV → Nat → EV → EV := List.rec (fun _ m => m) (fun v _ ih i m => ih (Nat.succ i) (Lens.rec (motive := fun _ => EV) (fun _ u => u (fun _ => v) m) (lensD undefA i : Lens EV AV)))
theorem argsF_eq (l : List AV) : ∀ i (m : DMap AV), argsF l i m.t = (argsGo l i m).t := by
  induction l with
  | nil => intro i m; rfl
  | cons v r ih => intro i m; exact ih (i + 1) (m.put undefA i v)

def finN (res : EV → AH → Option AV) (k : AV → AH → Res) (e : EV) (H : AH) : Res := Option.rec (motive := fun _ => Res) none (fun v => k v H) (res e H)
def finX (res : EV → AH → Option AV) (k : AV → AH → Res) (x : AX) (e : EV) (H : AH) : Res :=
  AX.rec (motive := fun _ => Res) (finN res k e H) (fun _ => none) (fun _ => none) (finN res k e H) x
def emptyE : EV := full undefA 2
def codeCall (n : Nat) (r : Run) (res : EV → AH → Option AV) (ih : CallC) (args : List AV) (H : AH) (k : AV → AH → Res) : Res :=
  Bool.rec (motive := fun _ => Res) none (r ⟨ih, finN res k, finX res k⟩ (argsF args 0 emptyE) H) (Nat.ble (lenL args) n)
def orcCall (g : List AV → AH → Option (AV × AH)) (args : List AV) (H : AH) (k : AV → AH → Res) : Res :=
  Option.rec (motive := fun _ => Res) none (fun p => Prod.rec (motive := fun _ => Res) (fun v H' => k v H') p) (g args H)
def baseCall (P : Program) (ng lf : Nat) (ih : CallC) (f : FuncId) (args : List AV) (H : AH) (k : AV → AH → Res) (c : FnC) : Res :=
  FnC.rec (motive := fun _ => Res) (orcCall (bodyA P ng (toA ih) lf f) args H k) (fun n r res => codeCall n r res ih args H k) c
def tryCall (args : List AV) (H : AH) (k : AV → AH → Res) (b : Res) (g : Orc) : Res :=
  Option.rec (motive := fun _ => Res) b (fun p => Prod.rec (motive := fun _ => Res) (fun v H' => k v H') p) (g args H)
def callT (P : Program) (ng lf : Nat) (ih : CallC) (f : FuncId) (args : List AV) (H : AH) (k : AV → AH → Res) (o : Option Orc) (c : FnC) : Res :=
  Option.rec (motive := fun _ => Res) (baseCall P ng lf ih f args H k c) (tryCall args H k (baseCall P ng lf ih f args H k c)) o
def callS (P : Program) (ng lf : Nat) (tab : FuncId → FnT) (ih : CallC) (f : FuncId) (args : List AV) (H : AH) (k : AV → AH → Res) : Res :=
  FnT.rec (motive := fun _ => Res) (callT P ng lf ih f args H k) (tab f)
def callN (P : Program) (ng lf : Nat) (tab : FuncId → FnT) (n : Nat) : CallC := Nat.rec (motive := fun _ => CallC) (fun _ _ _ _ => none) (fun _ ih => callS P ng lf tab ih) n

theorem orcCall_eq (g : List AV → AH → Option (AV × AH)) (args : List AV) (H : AH) (k : AV → AH → Res) : orcCall g args H k = match g args H with | some (v, H') => k v H' | none => none := by
  unfold orcCall; cases g args H <;> rfl

theorem codeCall_eq (P : Program) (ng lf : Nat) (draw : Array Oper → Run → Cmd) (fn : Func) (hdraw : DrawGood P ng fn.ntmps draw) (ih : CallC) (call : CallA) (hc : CC ih call) (f : FuncId) (hf : P.funcs[f]? = some fn) (c : Code) (hb : fn.body = some c)
    (hname : (fn.name == "runtime.NumGoroutine") = false) (r : Run) (dep : Nat) (hr : codeOf P ng fn.ntmps lf draw c skipC = some (⟨r⟩, dep)) (hd : dep ≤ lf) (args : List AV) (H : AH) (k : AV → AH → Res) :
    codeCall fn.ntmps r (ressOf P fn.ntmps fn.results.toList).f ih args H k = match bodyA P ng call lf f args H with | some (v, H') => k v H' | none => none := by
  unfold codeCall bodyA
  rw [hf]; simp only [hb, hname, Bool.or_false, lenL_eq]
  cases hl : Nat.ble args.length fn.ntmps with
  | false => rfl
  | true =>
    simp only [Bool.not_true, Bool.false_eq_true, if_false]
    have h1 : r ⟨ih, finN (ressOf P fn.ntmps fn.results.toList).f k, finX (ressOf P fn.ntmps fn.results.toList).f k⟩ (argsF args 0 emptyE) H = K (finN (ressOf P fn.ntmps fn.results.toList).f k) (finX (ressOf P fn.ntmps fn.results.toList).f k) (codeA P ng call lf lf c (envOf fn.ntmps (argsF args 0 emptyE)) H) :=
      codeOf_eq P ng fn.ntmps lf draw hdraw call c skipC ⟨r⟩ dep hr lf hd ⟨ih, finN (ressOf P fn.ntmps fn.results.toList).f k, finX (ressOf P fn.ntmps fn.results.toList).f k⟩ hc (argsF args 0 emptyE) H
    rw [h1]
    have h2 : envOf fn.ntmps (argsF args 0 emptyE) = argsEnv fn.ntmps args := by
      show (⟨fn.ntmps, ⟨argsF args 0 (DMap.empty undefA : DMap AV).t⟩⟩ : Env) = _
      rw [argsF_eq]; rfl
    rw [h2]
    have fin : ∀ (e : Env) (H' : AH), e.n = fn.ntmps → finN (ressOf P fn.ntmps fn.results.toList).f k e.m.t H' = match (match resultsA P e H' fn.results.toList with | some [v] => some (v, H') | some l => some (.tup l, H') | none => none) with | some (v, H') => k v H' | none => none := by
      intro e H' he
      have e1 : e = envOf fn.ntmps e.m.t := by obtain ⟨n', ⟨t⟩⟩ := e; simp only at he; subst he; rfl
      simp only [finN, ressOf_eq P fn.ntmps]
      rw [← e1]
      split
      · rfl
      · rfl
      · rfl
    cases hcode : codeA P ng call lf lf c (argsEnv fn.ntmps args) H with
    | none => rfl
    | some p =>
      obtain ⟨x, e, H'⟩ := p
      have he := codeA_n P ng call lf lf c _ _ _ _ _ hcode
      cases x with
      | normal => exact fin e H' he
      | exit => rfl
      | goto => rfl
      | ret => exact fin e H' he

theorem fnOf_eq (P : Program) (ng : Nat) (orc : FuncId → Option Orc) (lf : Nat) (draw : Nat → Array Oper → Run → Cmd) (f : FuncId) : fnOf P ng orc lf draw f = ⟨orc f, fcOf P ng lf draw f⟩ := by
  unfold fnOf
  split <;> (rename_i h; rw [h])

theorem baseCall_eq (P : Program) (ng : Nat) (lf : Nat) (draw : Nat → Array Oper → Run → Cmd) (hdraw : ∀ n, DrawGood P ng n (draw n)) (ih : CallC) (call : CallA) (hc : CC ih call) (f : FuncId) (args : List AV) (H : AH) (k : AV → AH → Res) :
    baseCall P ng lf ih f args H k (fcOf P ng lf draw f) = match bodyA P ng call lf f args H with | some (v, H') => k v H' | none => none := by
  have slow : orcCall (bodyA P ng (toA ih) lf f) args H k = match bodyA P ng call lf f args H with | some (v, H') => k v H' | none => none := by
    rw [orcCall_eq, hc.toA]
  unfold baseCall fcOf
  cases hf : P.funcs[f]? with
  | none => exact slow
  | some fn =>
    simp only
    cases hb : fn.body with
    | none => exact slow
    | some c =>
      simp only
      cases hname : (fn.name == "runtime.NumGoroutine") with
      | true => exact slow
      | false =>
        simp only [cond_false]
        cases hr : codeOf P ng fn.ntmps lf (draw fn.ntmps) c skipC with
        | none => exact slow
        | some p =>
          obtain ⟨⟨r⟩, dep⟩ := p
          simp only
          cases hd : Nat.ble dep lf with
          | false => exact slow
          | true => exact codeCall_eq P ng lf (draw fn.ntmps) fn (hdraw fn.ntmps) ih call hc f hf c hb hname r dep hr (Nat.le_of_ble_eq_true hd) args H k

theorem callN_eq (P : Program) (ng : Nat) (orc : FuncId → Option Orc) (lf : Nat) (draw : Nat → Array Oper → Run → Cmd) (hdraw : ∀ n, DrawGood P ng n (draw n)) : ∀ n, CC (callN P ng lf (fnOf P ng orc lf draw) n) (callA P ng orc lf n)
  | 0 => fun _ _ _ _ => rfl
  | n + 1 => by
    have ih := callN_eq P ng orc lf draw hdraw n
    intro f args H k
    show callS P ng lf (fnOf P ng orc lf draw) (callN P ng lf (fnOf P ng orc lf draw) n) f args H k = _
    unfold callS
    rw [fnOf_eq]
    show callT P ng lf _ f args H k (orc f) (fcOf P ng lf draw f) = _
    unfold callT
    have hb := baseCall_eq P ng lf draw hdraw _ _ ih f args H k
    simp only [callA]
    cases ho : orc f with
    | none => exact hb
    | some g =>
      show tryCall args H k _ g = _
      unfold tryCall
      rw [hb]
      show _ = match (match g args H with | some r => some r | none => bodyA P ng (callA P ng orc lf n) lf f args H) with | some (v, H') => k v H' | none => none
      cases g args H <;> rfl

end
end Go.Abs
