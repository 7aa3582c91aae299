/- Regions in the listed order; code. -/
import Derived.Test.YtmfondkhhnnjjaaGreatDoorA21
import Derived.Scope
import Derived.Orders

namespace Go.Abs

section
variable {P : Program} {μ : Inj} {H : AH} {w : World} {ng : Nat}

theorem anyOp_rel {call : CallA} (hcall : CallOk P ng call) (h : HRel μ H w) (hg : GRel ng μ) {ev : Operand → Option AV} {a : Act} (hev : ∀ x v, ev x = some v → VRel μ v (a.eval x)) {o : Oper} {v : AV} {H' : AH} (hh : anyOp P call ev o H = some (v, H')) :
    OpOk P μ H w o a v H' := by
  unfold anyOp at hh
  split at hh
  · exact heavyOp_rel hcall h hg hev hh
  · split at hh
    · split at hh
      · rename_i f obj ha
        injection hh with hh; injection hh with h1 h2; subst h1 h2
        obtain ⟨μ', w', c, hrun, hext, hv⟩ := (allocOp_rel (μ := μ) (w := w) hev ha).ext h
        exact OpOk.value hrun hext hv
      · cases hh
    · split at hh
      · split at hh
        · rename_i u hu
          injection hh with hh; injection hh with h1 h2; subst h1 h2
          obtain ⟨c, hc, hrun⟩ := readOp_rel h hev hu
          exact OpOk.value hrun (Ext.refl h) hc
        · cases hh
      · split at hh
        · rename_i u hu
          injection hh with hh; injection hh with h1 h2; subst h1 h2
          obtain ⟨c, hc, hrun⟩ := pureOp_rel (P := P) hev hu
          exact OpOk.value (hrun w) (Ext.refl h) hc
        · cases hh

theorem wantedA_rel {ops : Array Oper} {e : Env} {tmps : Array Value} (he : ERel μ e tmps) {o : Oper} {b : Bool} (h : wantedA ops e o = some b) : Region.wanted o (yielded ops tmps) = b := by
  unfold wantedA at h
  unfold Region.wanted
  split at h
  · rename_i hgd; injection h with h; subst h; simp [hgd]
  · rename_i j want hgd
    rw [hgd]
    dsimp only
    split at h
    · rename_i g hj
      split at h
      · rename_i d hd
        split at h
        · rename_i t ht
          injection h with h; subst h
          obtain ⟨c, hc, hv⟩ := he.2 _ _ ht
          cases hv
          unfold yielded
          simp [hj, hd, hc]
        · rename_i l ht
          injection h with h; subst h
          obtain ⟨c, hc, hv⟩ := he.2 _ _ ht
          cases hv
          unfold yielded
          simp [hj, hd, hc]
        · cases h
      · cases h
    · cases h

theorem defers_put (a : Act) (d : Option Tmp) (v : Value) : (a.put d v).defers = a.defers := by cases d <;> rfl

theorem runSeq_rel {call : CallA} (hcall : CallOk P ng call) {ops : Array Oper} {Q : Exit → Act → World → Prop} (hout : True) :
    ∀ (l : List Oper) (is : List Nat), (∀ (j : Nat) o i, l[j]? = some o → is[j]? = some i → ops[i]? = some o) → l.length = is.length →
      ∀ {e e' : Env} {H H' : AH}, runSeq P ng call ops l e H = some (e', H') → ∀ {μ : Inj} {w : World} {a : Act}, HRel μ H w → GRel ng μ → ERel μ e a.tmps →
      (∀ μ' w' a', Ext μ H w μ' H' w' → ERel μ' e' a'.tmps → a'.defers = a.defers → Q .normal a' w') → wpOps P ops Q is a w
  | [], [], _, _, e, e', H, H', h, μ, w, a, hr, hg, he, hQ => by
    simp only [runSeq] at h; injection h with h; injection h with h1 h2; subst h1 h2
    exact hQ μ w a (Ext.refl hr) he rfl
  | [], _ :: _, _, hl, _, _, _, _, _, _, _, _, _, _, _, _ => by simp at hl
  | _ :: _, [], _, hl, _, _, _, _, _, _, _, _, _, _, _, _ => by simp at hl
  | o :: l, i :: is, hi, hl, e, e', H, H', h, μ, w, a, hr, hg, he, hQ => by
    have hoi : ops[i]? = some o := hi 0 o i rfl rfl
    have hrest : ∀ (j : Nat) o' i', l[j]? = some o' → is[j]? = some i' → ops[i']? = some o' := fun j o' i' h1 h2 => hi (j + 1) o' i' (by simpa using h1) (by simpa using h2)
    simp only [wpOps, hoi]
    simp only [runSeq] at h
    split at h
    · rename_i hw
      rw [wantedA_rel he hw]
      simp only [if_true]
      split at h
      · rename_i v H1 hop
        have hev := fun x v (hv : e.ev ng x = some v) => ev_rel (x := x) hg he hv
        refine anyOp_rel hcall hr hg hev hop _ _ hout fun μ' w' c hext hv => ?_
        refine runSeq_rel hcall hout l is hrest (by simpa using hl) h hext.rel (hg.mono hext.le) ((he.mono hext.le).put o.dst hv) fun μ'' w'' a' hext' he' hd => ?_
        exact hQ μ'' w'' a' (hext.trans hr hext') he' (hd.trans (defers_put _ _ _))
      · cases h
    · rename_i hw
      rw [wantedA_rel he hw]
      simp only [Bool.false_eq_true, if_false]
      refine runSeq_rel hcall hout l is hrest (by simpa using hl) h hr hg (he.put o.dst (VRel.undef _)) fun μ'' w'' a' hext' he' hd => ?_
      exact hQ μ'' w'' a' hext' he' (hd.trans (defers_put _ _ _))
    · cases h

/-! ## Code -/

def AX.out : AX → Exit
  | .normal => .normal
  | .exit id => .exit id
  | .goto l => .goto l
  | .ret => .ret

/-- What code comes to, where a leaving, temporaries and a heap are told. -/
def CodeOk (P : Program) (ng : Nat) (c : Code) (e : Env) (H : AH) (x : AX) (e' : Env) (H' : AH) : Prop :=
  ∀ (μ : Inj) (w : World) (a : Act) (Q : Exit → Act → World → Prop), HRel μ H w → GRel ng μ → ERel μ e a.tmps → True →
    (∀ μ' w' a', Ext μ H w μ' H' w' → ERel μ' e' a'.tmps → a'.defers = a.defers → Q x.out a' w') → c.wp P Q a w

def DrawOk (P : Program) (ng : Nat) (call : CallA) : Prop :=
  ∀ id ops e H e' H', regionDraw P ng call ops e H = some (e', H') → CodeOk P ng (.region id ops true) e H .normal e' H'

theorem seqOk {call : CallA} (hcall : CallOk P ng call) {id : Nat} {ops : Array Oper} {e e' : Env} {H H' : AH} (h : runSeq P ng call ops ops.toList e H = some (e', H')) : CodeOk P ng (.region id ops false) e H .normal e' H' := by
  intro μ w a Q hr hg he hout hQ
  refine wp_region (runSeq_rel hcall hout ops.toList (List.range ops.size) (fun j o i h1 h2 => ?_) (by simp) h hr hg he hQ)
  have h3 := List.getElem?_eq_some_iff.1 h2
  obtain ⟨h3, h4⟩ := h3
  simp at h4; subst h4
  simpa using h1


theorem wp_loop_n {c : Code} {Q : Exit → Act → World → Prop} (I : Nat → Act → World → Prop)
    (round : ∀ n a w, I n a w → c.wp P (Exit.then (fun a' w' => ∃ m, m < n ∧ I m a' w') Q) a w) {n : Nat} {a : Act} {w : World} (h : I n a w) : (Code.loop c).wp P Q a w := by
  intro b k cs
  have key : ∀ n a w, I n a w → ∃ e a' w', Q e a' w' ∧ Arrives P (lone (b.at a (.code c :: .inLoop c :: k)) cs w) b k cs e a' w' := by
    intro n
    induction n using Nat.strongRecOn with
    | _ n ih =>
      intro a w hI
      obtain ⟨e, a₁, w₁, hq, harr⟩ := round n a w hI b (.inLoop c :: k) cs
      cases e with
      | normal =>
        obtain ⟨m, hm, hI₁⟩ := hq
        obtain ⟨e₂, a₂, w₂, hq₂, harr₂⟩ := ih m hm a₁ w₁ hI₁
        exact ⟨e₂, a₂, w₂, hq₂, .of_steps (Steps.trans harr (.one step_inLoop)) harr₂⟩
      | exit id => exact ⟨_, a₁, w₁, hq, .pass (x := .inLoop c) rfl (fun _ _ => .inl (by simp)) harr⟩
      | goto l => exact ⟨_, a₁, w₁, hq, .pass (x := .inLoop c) rfl (fun _ _ => .inl (by simp)) harr⟩
      | ret => exact ⟨_, a₁, w₁, hq, .pass (x := .inLoop c) rfl (fun _ _ => .inl (by simp)) harr⟩
      | panic ch => exact ⟨_, a₁, w₁, hq, .pass (x := .inLoop c) rfl (fun _ _ => .inl (by simp)) harr⟩
      | outgrown => exact ⟨_, a₁, w₁, hq, .pass (x := .inLoop c) rfl (fun _ _ => .inl (by simp)) harr⟩
  obtain ⟨e, a', w', hq, harr⟩ := key n a w h
  exact ⟨e, a', w', hq, .of_steps (.one step_loop) harr⟩

/-- As Q; by a jump to a label of the scope: as told. -/
def Exit.toLabel (J : Nat → Act → World → Prop) (Q : Exit → Act → World → Prop) : Exit → Act → World → Prop
  | .goto l, a, w => J l a w
  | e, a, w => Q e a w


theorem wp_scope_n {c : Code} {Q : Exit → Act → World → Prop} (I : Nat → Code → Act → World → Prop) {a : Act} {w : World}
    (first : c.wp P (Exit.toLabel (fun l a' w' => ∃ rest m, findLabel c l = some rest ∧ I m rest a' w') Q) a w)
    (pass : ∀ n rest a w, I n rest a w → rest.wp P (Exit.toLabel (fun l a' w' => ∃ rest' m, m < n ∧ findLabel c l = some rest' ∧ I m rest' a' w') Q) a w) : (Code.scope c).wp P Q a w := by
  intro b k cs
  have key : ∀ n rest a w, I n rest a w → ∃ e a' w', Q e a' w' ∧ Arrives P (lone (b.at a (.code rest :: .inScope c :: k)) cs w) b k cs e a' w' := by
    intro n
    induction n using Nat.strongRecOn with
    | _ n ih =>
      intro rest a w hI
      obtain ⟨e, a₁, w₁, hq, harr⟩ := pass n rest a w hI b (.inScope c :: k) cs
      cases e with
      | normal => exact ⟨.normal, a₁, w₁, hq, Steps.trans harr (.one step_inScope)⟩
      | exit id => exact ⟨.exit id, a₁, w₁, hq, fun k' hk => harr k' (by simp [exitTo, hk])⟩
      | goto l =>
        obtain ⟨rest', m, hm, hf, hI'⟩ := hq
        obtain ⟨e₂, a₂, w₂, hq₂, harr₂⟩ := ih m hm rest' a₁ w₁ hI'
        exact ⟨e₂, a₂, w₂, hq₂, .of_steps (harr _ (by simp [gotoIn, hf])) harr₂⟩
      | ret => exact ⟨_, a₁, w₁, hq, harr⟩
      | panic ch => exact ⟨_, a₁, w₁, hq, harr⟩
      | outgrown => exact ⟨_, a₁, w₁, hq, harr⟩
  obtain ⟨e, a₁, w₁, hq, harr⟩ := first b (.inScope c :: k) cs
  cases e with
  | normal => exact ⟨.normal, a₁, w₁, hq, .head step_scope (Steps.trans harr (.one step_inScope))⟩
  | exit id => exact ⟨.exit id, a₁, w₁, hq, fun k' hk => .head step_scope (harr k' (by simp [exitTo, hk]))⟩
  | goto l =>
    obtain ⟨rest, m, hf, hI⟩ := hq
    obtain ⟨e₂, a₂, w₂, hq₂, harr₂⟩ := key m rest a₁ w₁ hI
    exact ⟨e₂, a₂, w₂, hq₂, .of_steps (.head step_scope (harr _ (by simp [gotoIn, hf]))) harr₂⟩
  | ret => exact ⟨_, a₁, w₁, hq, .of_steps (.one step_scope) harr⟩
  | panic ch => exact ⟨_, a₁, w₁, hq, .of_steps (.one step_scope) harr⟩
  | outgrown => exact ⟨_, a₁, w₁, hq, .of_steps (b := b) (k := k) (cs := cs) (e := .outgrown) (.one step_scope) harr⟩

theorem scopeA_spec {run : Code → Env → AH → Option (AX × Env × AH)} {c : Code} {n : Nat} {r : Option (AX × Env × AH)} {x : AX} {e' : Env} {H' : AH} (h : scopeA run c n r = some (x, e', H')) :
    (∃ m l e1 H1 rest, n = m + 1 ∧ r = some (.goto l, e1, H1) ∧ findLabel c l = some rest ∧ scopeA run c m (run rest e1 H1) = some (x, e', H')) ∨ (r = some (x, e', H') ∧ ∀ l, x ≠ .goto l) := by
  unfold scopeA at h
  split at h
  · cases h
  · rename_i m l e1 H1
    split at h
    · rename_i rest hf
      exact .inl ⟨m, l, e1, H1, rest, rfl, rfl, hf, h⟩
    · cases h
  · rename_i m r' hne
    refine .inr ⟨h, fun l e => ?_⟩
    subst e
    exact hne _ _ _ h

theorem AX.toLabel {x : AX} (hx : ∀ l, x ≠ .goto l) {J : Nat → Act → World → Prop} {Q : Exit → Act → World → Prop} {a : Act} {w : World} (h : Q x.out a w) : Exit.toLabel J Q x.out a w := by
  cases x with
  | normal => exact h
  | exit id => exact h
  | goto l => exact (hx l rfl).elim
  | ret => exact h

theorem codeA_rel {call : CallA} (hcall : CallOk P ng call) (hdraw : DrawOk P ng call) {lf : Nat} : ∀ (d : Nat) (c : Code) {e e' : Env} {H H' : AH} {x : AX}, codeA P ng call lf d c e H = some (x, e', H') → CodeOk P ng c e H x e' H' := by
  intro d
  induction d with
  | zero => intro c e e' H H' x h; simp only [codeA] at h; cases h
  | succ d ih =>
    intro c e e' H H' x h
    cases c with
    | skip =>
      simp only [codeA] at h; injection h with h; injection h with h1 h2; injection h2 with h2 h3; subst h1 h2 h3
      exact fun μ w a Q hr hg he hout hQ => wp_skip (hQ μ w a (Ext.refl hr) he rfl)
    | label _ =>
      simp only [codeA] at h; injection h with h; injection h with h1 h2; injection h2 with h2 h3; subst h1 h2 h3
      exact fun μ w a Q hr hg he hout hQ => wp_label (hQ μ w a (Ext.refl hr) he rfl)
    | exit _ =>
      simp only [codeA] at h; injection h with h; injection h with h1 h2; injection h2 with h2 h3; subst h1 h2 h3
      exact fun μ w a Q hr hg he hout hQ => wp_exit (hQ μ w a (Ext.refl hr) he rfl)
    | goto _ =>
      simp only [codeA] at h; injection h with h; injection h with h1 h2; injection h2 with h2 h3; subst h1 h2 h3
      exact fun μ w a Q hr hg he hout hQ => wp_goto (hQ μ w a (Ext.refl hr) he rfl)
    | ret =>
      simp only [codeA] at h; injection h with h; injection h with h1 h2; injection h2 with h2 h3; subst h1 h2 h3
      exact fun μ w a Q hr hg he hout hQ => wp_ret (hQ μ w a (Ext.refl hr) he rfl)
    | region id ops dr =>
      cases dr with
      | false =>
        simp only [codeA] at h
        split at h
        · rename_i e1 H1 hs
          injection h with h; injection h with h1 h2; injection h2 with h2 h3; subst h1 h2 h3
          exact seqOk hcall hs
        · cases h
      | true =>
        simp only [codeA] at h
        split at h
        · rename_i e1 H1 hs
          injection h with h; injection h with h1 h2; injection h2 with h2 h3; subst h1 h2 h3
          exact hdraw id ops e H _ _ hs
        · cases h
    | seq c c' =>
      simp only [codeA] at h
      split at h
      · rename_i e1 H1 hc
        intro μ w a Q hr hg he hout hQ
        refine wp_seq (ih c hc μ w a _ hr hg he hout fun μ' w' a' hext he' hd => ?_)
        exact ih c' h μ' w' a' Q hext.rel (hg.mono hext.le) he' hout fun μ'' w'' a'' hext' he'' hd' => hQ μ'' w'' a'' (hext.trans hr hext') he'' (hd'.trans hd)
      · rename_i hne
        intro μ w a Q hr hg he hout hQ
        refine wp_seq (ih c h μ w a _ hr hg he hout fun μ' w' a' hext he' hd => ?_)
        cases x with
        | normal => exact (hne _ _ h).elim
        | exit id => exact hQ μ' w' a' hext he' hd
        | goto l => exact hQ μ' w' a' hext he' hd
        | ret => exact hQ μ' w' a' hext he' hd
    | cond c p q =>
      simp only [codeA] at h
      split at h
      · rename_i hc
        intro μ w a Q hr hg he hout hQ
        have hv := ev_rel hg he hc
        generalize hz : a.eval c = z at hv
        cases hv
        exact wp_cond_true hz (ih p h μ w a Q hr hg he hout hQ)
      · rename_i hc
        intro μ w a Q hr hg he hout hQ
        have hv := ev_rel hg he hc
        generalize hz : a.eval c = z at hv
        cases hv
        exact wp_cond_false hz (ih q h μ w a Q hr hg he hout hQ)
      · cases h
    | block id c =>
      simp only [codeA] at h
      split at h
      · rename_i id' e1 H1 hc
        injection h with h; injection h with h1 h2; injection h2 with h2 h3; subst h1 h2 h3
        intro μ w a Q hr hg he hout hQ
        refine wp_block (ih c hc μ w a _ hr hg he hout fun μ' w' a' hext he' hd => ?_)
        have := hQ μ' w' a' hext he' hd
        by_cases hid : id' = id
        · simp only [if_pos hid, AX.out] at this
          simp only [AX.out, Exit.inBlock, if_pos hid]; exact this
        · simp only [if_neg hid, AX.out] at this
          simp only [AX.out, Exit.inBlock, if_neg hid]; exact this
      · rename_i hne
        intro μ w a Q hr hg he hout hQ
        refine wp_block (ih c h μ w a _ hr hg he hout fun μ' w' a' hext he' hd => ?_)
        cases x with
        | normal => exact hQ μ' w' a' hext he' hd
        | exit id => exact (hne _ _ _ h).elim
        | goto l => exact hQ μ' w' a' hext he' hd
        | ret => exact hQ μ' w' a' hext he' hd
    | loop c =>
      simp only [codeA] at h
      intro μ w a Q hr hg he hout hQ
      refine wp_loop_n (fun n a1 w1 => ∃ e1 H1 μ1, loopA (codeA P ng call lf d c) n e1 H1 = some (x, e', H') ∧ Ext μ H w μ1 H1 w1 ∧ ERel μ1 e1 a1.tmps ∧ a1.defers = a.defers) ?_ ⟨e, H, μ, h, Ext.refl hr, he, rfl⟩
      rintro n a1 w1 ⟨e1, H1, μ1, hl, hext, he1, hd1⟩
      cases n with
      | zero => simp only [loopA] at hl; cases hl
      | succ n =>
        simp only [loopA] at hl
        split at hl
        · rename_i e2 H2 hc
          refine ih c hc μ1 w1 a1 _ hext.rel (hg.mono hext.le) he1 hout fun μ2 w2 a2 hext2 he2 hd2 => ?_
          exact ⟨n, Nat.lt_succ_self n, e2, H2, μ2, hl, hext.trans hr hext2, he2, hd2.trans hd1⟩
        · rename_i hne
          refine ih c hl μ1 w1 a1 _ hext.rel (hg.mono hext.le) he1 hout fun μ2 w2 a2 hext2 he2 hd2 => ?_
          cases x with
          | normal => exact (hne _ _ hl).elim
          | exit id => exact hQ μ2 w2 a2 (hext.trans hr hext2) he2 (hd2.trans hd1)
          | goto l => exact hQ μ2 w2 a2 (hext.trans hr hext2) he2 (hd2.trans hd1)
          | ret => exact hQ μ2 w2 a2 (hext.trans hr hext2) he2 (hd2.trans hd1)
    | scope c =>
      simp only [codeA] at h
      intro μ w a Q hr hg he hout hQ
      refine wp_scope_n (fun n rest a1 w1 => ∃ e1 H1 μ1, scopeA (codeA P ng call lf d) c n (codeA P ng call lf d rest e1 H1) = some (x, e', H') ∧ Ext μ H w μ1 H1 w1 ∧ ERel μ1 e1 a1.tmps ∧ a1.defers = a.defers) ?_ ?_
      · rcases scopeA_spec h with ⟨m, l, e1, H1, rest, _, hc, hf, hs⟩ | ⟨hc, hx⟩
        · exact ih c hc μ w a _ hr hg he hout fun μ' w' a' hext he' hd => ⟨rest, m, hf, e1, H1, μ', hs, hext, he', hd⟩
        · exact ih c hc μ w a _ hr hg he hout fun μ' w' a' hext he' hd => AX.toLabel hx (hQ μ' w' a' hext he' hd)
      · rintro n rest a1 w1 ⟨e1, H1, μ1, hl, hext, he1, hd1⟩
        rcases scopeA_spec hl with ⟨m, l, e2, H2, rest', hn, hc, hf, hs⟩ | ⟨hc, hx⟩
        · exact ih rest hc μ1 w1 a1 _ hext.rel (hg.mono hext.le) he1 hout fun μ2 w2 a2 hext2 he2 hd2 => ⟨rest', m, by omega, hf, e2, H2, μ2, hs, hext.trans hr hext2, he2, hd2.trans hd1⟩
        · exact ih rest hc μ1 w1 a1 _ hext.rel (hg.mono hext.le) he1 hout fun μ2 w2 a2 hext2 he2 hd2 => AX.toLabel hx (hQ μ2 w2 a2 (hext.trans hr hext2) he2 (hd2.trans hd1))
    | rangeFunc f ps as bd => simp [codeA] at h
    | refuse s => simp [codeA] at h

end
end Go.Abs

/- Functions. -/
namespace Go.Abs

section
variable {P : Program} {μ : Inj} {H : AH} {w : World} {ng : Nat}

theorem argsGo_get : ∀ (args : List AV) (i : Nat) (m : DMap AV) (t : Nat), (∃ j, t = i + j ∧ args[j]? = some ((argsGo args i m).get undefA t)) ∨ (argsGo args i m).get undefA t = m.get undefA t
  | [], _, _, _ => .inr rfl
  | a :: r, i, m, t => by
    rcases argsGo_get r (i + 1) (m.put undefA i a) t with ⟨j, h1, h2⟩ | h1
    · exact .inl ⟨j + 1, by omega, by simpa [argsGo] using h2⟩
    · rw [DMap.get_put] at h1
      split at h1
      · rename_i hc
        exact .inl ⟨0, by omega, by rw [argsGo, h1]; rfl⟩
      · exact .inr h1

theorem argsEnv_rel {args : List AV} {cargs : List Value} {n : Nat} (hl : LRel μ args cargs) (hn : args.length ≤ n) : ERel μ (argsEnv n args) (cargs.toArray ++ Array.replicate (n - cargs.toArray.size) undef) := by
  have hlen := hl.length
  refine ⟨by simp [argsEnv]; omega, fun t v hv => ?_⟩
  unfold Env.get at hv
  cases hb : Nat.ble (argsEnv n args).n t || Nat.ble (4 ^ 4) t with
  | true => rw [hb] at hv; cases hv
  | false =>
    rw [hb] at hv
    have hv : (argsGo args 0 (.empty undefA)).get undefA t = v := by injection hv
    have hlt : t < n := by
      rcases Nat.lt_or_ge t n with h | h
      · exact h
      · have : Nat.ble (argsEnv n args).n t = true := Nat.ble_eq_true_of_le h
        rw [this] at hb; cases hb
    have fromArgs : ∀ c, cargs[t]? = some c → VRel μ v c → ∃ c, (cargs.toArray ++ Array.replicate (n - cargs.toArray.size) undef)[t]? = some c ∧ VRel μ v c := by
      intro c hc hvr
      have hlt' := (List.getElem?_eq_some_iff.1 hc).1
      refine ⟨c, ?_, hvr⟩
      rw [Array.getElem?_append_left (by simp; omega)]
      simpa using hc
    rcases argsGo_get args 0 (.empty undefA) t with ⟨j, h1, h2⟩ | h1
    · have h1 : t = j := by omega
      subst h1
      rw [hv] at h2
      obtain ⟨c, hc, hvr⟩ := hl.get t v h2
      exact fromArgs c hc hvr
    · rcases Nat.lt_or_ge t args.length with hl' | hl'
      · -- a temporary of an argument
        have hget : ∀ (args : List AV) (i : Nat) (m : DMap AV) (j : Nat) (a : AV), args[j]? = some a → i + j < 4 ^ 4 → (argsGo args i m).get undefA (i + j) = a := by
          intro args
          induction args with
          | nil => intro i m j a h; simp at h
          | cons b r ih =>
            intro i m j a h hs
            cases j with
            | zero =>
              simp at h; subst h
              have keep : ∀ (r : List AV) (k : Nat) (m : DMap AV) (t : Nat), t < k → (argsGo r k m).get undefA t = m.get undefA t := by
                intro r
                induction r with
                | nil => intro k m t _; rfl
                | cons c r ih => intro k m t hk; rw [argsGo, ih (k + 1) _ t (by omega), DMap.get_put, if_neg (fun q => by omega)]
              show (argsGo r (i + 1) (m.put undefA i b)).get undefA i = b
              rw [keep r (i + 1) _ i (by omega), DMap.get_put, if_pos ⟨rfl, by omega⟩]
            | succ j =>
              have := ih (i + 1) (m.put undefA i b) j a (by simpa using h) (by omega)
              rw [argsGo, show i + (j + 1) = i + 1 + j from by omega]; exact this
        have hsm : t < 4 ^ 4 := by
          rcases Nat.lt_or_ge t (4 ^ 4) with hl | hl
          · exact hl
          · rw [Nat.ble_eq_true_of_le hl, Bool.or_true] at hb; cases hb
        have h3 := hget args 0 (.empty undefA) t args[t] (List.getElem?_eq_getElem hl') (by omega)
        rw [Nat.zero_add, hv] at h3
        obtain ⟨c, hc, hvr⟩ := hl.get t v (by rw [h3]; exact List.getElem?_eq_getElem hl')
        exact fromArgs c hc hvr
      · rw [hv, DMap.get_empty] at h1
        subst h1
        refine ⟨undef, ?_, VRel.undef μ⟩
        rw [Array.getElem?_append_right (by simp; omega)]
        have : t - cargs.length < n - cargs.length := by omega
        simp [this]

def resG (tmps : Array Value) : ResultVar → Sem Value
  | .tmp t => pure (tmps.getD t undef)
  | .cell a t => do loadVar t (← asAddr (tmps.getD a undef))

theorem results_eq (fn : Func) (tmps : Array Value) : results fn tmps = (do
    let vs ← fn.results.mapM (resG tmps)
    pure (if h : vs.size = 1 then vs[0] else .tuple vs)) := by
  unfold results
  congr 2

theorem resultA_rel (h : HRel μ H w) {e : Env} {tmps : Array Value} (he : ERel μ e tmps) {r : ResultVar} {v : AV} (hr : resultA P e H r = some v) :
    ∃ c, VRel μ v c ∧ (resG tmps r).run P w = .ok c w := by
  cases r with
  | tmp t =>
    obtain ⟨c, hc, hv⟩ := he.2 _ _ hr
    refine ⟨c, hv, ?_⟩
    simp only [resG, Array.getD_eq_getD_getElem?, hc, Sem.run_pure]; rfl
  | cell a t =>
    unfold resultA at hr
    dsimp only at hr
    split at hr
    · rename_i b o ha
      obtain ⟨c, hc, hv⟩ := he.2 _ _ ha
      cases hv with
      | ptr hμ =>
        obtain ⟨c', hc', hrun⟩ := loadA_rel (P := P) h hμ hr
        refine ⟨c', hc', ?_⟩
        simp only [resG, Array.getD_eq_getD_getElem?, hc, Option.getD_some, asAddr, Sem.run_bind, Sem.run_pure, Result.andThen_ok, hrun]
    · cases hr

theorem resultsA_rel (h : HRel μ H w) {e : Env} {tmps : Array Value} (he : ERel μ e tmps) : ∀ {rs : List ResultVar} {vs : List AV}, resultsA P e H rs = some vs →
    ∃ cs : List Value, LRel μ vs cs ∧ (rs.mapM (resG tmps)).run P w = .ok cs w
  | [], vs, hr => by
    simp only [resultsA] at hr; injection hr with hr; subst hr
    exact ⟨[], .nil, rfl⟩
  | r :: rs, vs, hr => by
    simp only [resultsA] at hr
    split at hr
    · rename_i v vs' hv hvs
      injection hr with hr; subst hr
      obtain ⟨c, hc, hrun⟩ := resultA_rel (P := P) h he hv
      obtain ⟨cs, hcs, hruns⟩ := resultsA_rel h he hvs
      refine ⟨c :: cs, .cons hc hcs, ?_⟩
      rw [List.mapM_cons]
      simp only [Sem.run_bind, hrun, Result.andThen_ok, hruns, Sem.run_pure]
    · cases hr

theorem results_rel (h : HRel μ H w) {e : Env} {tmps : Array Value} (he : ERel μ e tmps) {fn : Func} {vs : List AV} (hr : resultsA P e H fn.results.toList = some vs) :
    ∃ cs : List Value, LRel μ vs cs ∧ (results fn tmps).run P w = .ok (match cs with | [c] => c | _ => .tuple cs.toArray) w := by
  obtain ⟨cs, hcs, hrun⟩ := resultsA_rel (P := P) h he hr
  refine ⟨cs, hcs, ?_⟩
  rw [results_eq, Array.mapM_eq_mapM_toList]
  simp only [map_eq_pure_bind, Sem.run_bind]
  rw [hrun]
  simp only [Result.andThen_ok, Sem.run_pure]
  congr 1
  rcases cs with _ | ⟨c, _ | ⟨d, cs⟩⟩ <;> simp

theorem bodyA_rel {call : CallA} (hcall : CallOk P ng call) (hdraw : DrawOk P ng call) {lf : Nat} {f : FuncId} {args : List AV} {H : AH} {v : AV} {H' : AH} (h : bodyA P ng call lf f args H = some (v, H'))
    {μ : Inj} {w : World} {cargs : List Value} (hr : HRel μ H w) (hg : GRel ng μ) (hl : LRel μ args cargs) : FnOk P μ H w f cargs.toArray v H' := by
  unfold bodyA at h
  split at h
  · cases h
  · rename_i fn hf
    split at h
    · cases h
    · rename_i c hb
      split at h
      · cases h
      · rename_i hcond
        simp only [Bool.or_eq_true, Bool.not_eq_true', not_or, Bool.not_eq_false, Bool.not_eq_true] at hcond
        obtain ⟨hlen, hname⟩ := hcond
        have hlen := Nat.le_of_ble_eq_true hlen
        refine .inl ⟨fn, c, hf, hname, hb, calls_of_wp hf hb ?_⟩
        have hout : True := trivial
        have fin : ∀ {x : AX} {e : Env} {H1 : AH}, (match resultsA P e H1 fn.results.toList with | some [v] => some (v, H1) | some l => some (.tup l, H1) | none => none) = some (v, H') →
            ∀ μ' w' (a' : Act), Ext μ H w μ' H1 w' → ERel μ' e a'.tmps → a'.defers = [] → a'.defers = [] ∧ ∃ r, (results fn a'.tmps).run P w' = .ok r w' ∧ ∃ μ'', Ext μ H w μ'' H' w' ∧ VRel μ'' v r := by
          intro x e H1 hres μ' w' a' hext he hd
          refine ⟨hd, ?_⟩
          split at hres
          · rename_i u hu
            injection hres with hres; injection hres with h1 h2; subst h1 h2
            obtain ⟨cs, hcs, hrun⟩ := results_rel (P := P) hext.rel he hu
            cases hcs with
            | cons hv t => cases t; exact ⟨_, hrun, μ', hext, hv⟩
          · rename_i l hne hu
            injection hres with hres; injection hres with h1 h2; subst h1 h2
            obtain ⟨cs, hcs, hrun⟩ := results_rel (P := P) hext.rel he hu
            refine ⟨_, hrun, μ', hext, ?_⟩
            rcases cs with _ | ⟨c, _ | ⟨d, cs⟩⟩
            · exact .tup hcs
            · cases hcs with
              | cons hv t => cases t; exact (hne _ rfl).elim
            · exact .tup hcs
          · cases hres
        have harg := argsEnv_rel (n := fn.ntmps) hl hlen
        split at h
        · cases h
        · cases h
        · cases h
        · rename_i x e H1 hne hne2 hc
          refine codeA_rel hcall hdraw _ c hc μ w _ _ hr hg harg hout fun μ' w' a' hext he hd => ?_
          have := fin (x := x) h μ' w' a' hext he hd
          cases x with
          | normal => exact this
          | exit id => exact (hne _ rfl).elim
          | goto l => exact (hne2 _ rfl).elim
          | ret => exact this

def OrcOk (P : Program) (ng : Nat) (orc : FuncId → Option (List AV → AH → Option (AV × AH))) : Prop :=
  ∀ f g, orc f = some g → ∀ args H v H', g args H = some (v, H') → ∀ μ w cargs, HRel μ H w → GRel ng μ → LRel μ args cargs → FnOk P μ H w f cargs.toArray v H'

theorem callA_rel {orc : FuncId → Option (List AV → AH → Option (AV × AH))} (ho : OrcOk P ng orc) (hdraw : ∀ call, CallOk P ng call → DrawOk P ng call) (lf : Nat) : ∀ n, CallOk P ng (callA P ng orc lf n)
  | 0 => fun f args H v H' h => by simp only [callA] at h; cases h
  | n + 1 => fun f args H v H' h μ w cargs hr hg hl => by
    simp only [callA] at h
    have ih := callA_rel ho hdraw lf n
    split at h
    · rename_i r hr'
      injection h with h; subst h
      split at hr'
      · rename_i g hg'
        exact ho f g hg' args H v H' hr' μ w cargs hr hg hl
      · cases hr'
    · exact bodyA_rel ih (hdraw _ ih) h hr hg hl

end
end Go.Abs

/- Regions drawn in any order: blocks that wait. -/
namespace Go.Abs

section
variable {P : Program} {μ : Inj} {H S : AH} {w w0 : World} {ng : Nat} {μ0 : Inj}

/-- A block that was made and is in no heap yet. -/
def Pend (μ : Inj) (S : AH) (w : World) (x : Nat × Nat × AObj) : Prop :=
  ∃ β r, μ x.2.1 = some (β, 0, r) ∧ ORel μ x.2.1 x.2.2 β 0 r w ∧ (∀ s, μ.st x.2.1 s = none) ∧ ¬ Img μ S β

def Apart (μ : Inj) (x y : Nat × Nat × AObj) : Prop := ∀ β r β' r', μ x.2.1 = some (β, 0, r) → μ y.2.1 = some (β', 0, r') → β ≠ β'

theorem img_set {b β β' : Nat} {r : Nat} {obj : AObj} (hμ : μ b = some (β, 0, r)) (h : Img μ (S.set b obj) β') : Img μ S β' ∨ β' = β := by
  obtain ⟨b1, δ1, r1, hs, hm⟩ := h
  rw [AH.get_set] at hs
  split at hs
  · rename_i e
    rw [e.1, hμ] at hm; injection hm with hm; injection hm with hm _
    exact .inr hm.symm
  · exact .inl ⟨b1, δ1, r1, hs, hm⟩

theorem Ext.lay1 (h : Ext μ0 H w0 μ S w) {b : Nat} {obj : AObj} {β r : Nat} (hb : H.next ≤ b) (hμ : μ b = some (β, 0, r)) (ho : ORel μ b obj β 0 r w) (hst : ∀ s, μ.st b s = none) (hi : ¬ Img μ S β) :
    Ext μ0 H w0 μ (S.set b obj) w where
  le := h.le
  rel := by
    have hget : ∀ b' o', (S.set b obj).get b' = some o' → (b' = b ∧ o' = obj) ∨ (b' ≠ b ∧ S.get b' = some o') ∨ (b' = b ∧ S.get b' = some o') := by
      intro b' o' hg
      rw [AH.get_set] at hg
      split at hg
      · rename_i e; injection hg with hg; exact .inl ⟨e.1, hg.symm⟩
      · by_cases e : b' = b
        · exact .inr (.inr ⟨e, hg⟩)
        · exact .inr (.inl ⟨e, hg⟩)
    have hno : S.get b = none := by
      cases e : S.get b with
      | none => rfl
      | some o => exact (hi ⟨b, 0, r, by rw [e]; rfl, hμ⟩).elim
    refine ⟨fun b' o' hg => ?_, fun b1 b2 β' δ1 r1 δ2 r2 h1 h2 h3 h4 => ?_, h.rel.fresh, fun b' es clock hg s hs => ?_⟩
    · rcases hget b' o' hg with ⟨rfl, rfl⟩ | ⟨_, hg⟩ | ⟨_, hg⟩
      · exact ⟨β, 0, r, hμ, ho⟩
      · exact h.rel.obj b' o' hg
      · exact h.rel.obj b' o' hg
    · obtain ⟨o1, ho1⟩ := Option.isSome_iff_exists.1 h1
      obtain ⟨o2, ho2⟩ := Option.isSome_iff_exists.1 h2
      have one : ∀ b1 δ1 r1 b2 o2 δ2 r2, b1 = b → (S.set b obj).get b2 = some o2 → μ b1 = some (β', δ1, r1) → μ b2 = some (β', δ2, r2) → b1 = b2 := by
        intro b1 δ1 r1 b2 o2 δ2 r2 e1 hg2 h3 h4
        subst e1
        rw [hμ] at h3; injection h3 with h3; injection h3 with h3 _; subst h3
        rcases hget b2 o2 hg2 with ⟨rfl, _⟩ | ⟨_, hg⟩ | ⟨rfl, _⟩
        · rfl
        · exact (hi ⟨b2, δ2, r2, by rw [hg]; rfl, h4⟩).elim
        · rfl
      by_cases e1 : b1 = b
      · exact one b1 δ1 r1 b2 o2 δ2 r2 e1 ho2 h3 h4
      · by_cases e2 : b2 = b
        · exact (one b2 δ2 r2 b1 o1 δ1 r1 e2 ho1 h4 h3).symm
        · rcases hget b1 o1 ho1 with ⟨e, _⟩ | ⟨_, g1⟩ | ⟨e, _⟩
          · exact (e1 e).elim
          · rcases hget b2 o2 ho2 with ⟨e, _⟩ | ⟨_, g2⟩ | ⟨e, _⟩
            · exact (e2 e).elim
            · exact h.rel.inj b1 b2 β' δ1 r1 δ2 r2 (by rw [g1]; rfl) (by rw [g2]; rfl) h3 h4
            · exact (e2 e).elim
          · exact (e1 e).elim
    · rcases hget b' _ hg with ⟨rfl, _⟩ | ⟨_, hg⟩ | ⟨_, hg⟩
      · exact hst s
      · exact h.rel.freshS b' es clock hg s hs
      · exact h.rel.freshS b' es clock hg s hs
  size := h.size
  next := h.next
  live b' hb' hl := by
    rw [AH.get_set, if_neg (fun e => by omega)] at hl
    exact h.live b' hb' hl
  img := h.img
  frame := h.frame
  os := h.os
  out := h.out
  stamp := h.stamp

theorem Ext.lay {c : Nat → Bool} : ∀ (M : Made) {S : AH}, Ext μ0 H w0 μ S w → (∀ x ∈ M, c x.1 = true → Pend μ S w x ∧ H.next ≤ x.2.1) → M.Pairwise (fun x y => c x.1 = true → c y.1 = true → Apart μ x y) →
    Ext μ0 H w0 μ (layIf c M S) w ∧ ∀ β, Img μ (layIf c M S) β → Img μ S β ∨ ∃ x ∈ M, c x.1 = true ∧ ∃ r, μ x.2.1 = some (β, 0, r)
  | [], S, h, _, _ => ⟨h, fun _ hi => .inl hi⟩
  | (i, b, o) :: M, S, h, hp, hap => by
    simp only [layIf]
    rw [List.pairwise_cons] at hap
    by_cases hc : c i = true
    · rw [if_pos hc]
      obtain ⟨⟨β, r, hμ, ho, hst, hi⟩, hb⟩ := hp (i, b, o) (by simp) hc
      have h1 := h.lay1 hb hμ ho hst hi
      have hp' : ∀ x ∈ M, c x.1 = true → Pend μ (S.set b o) w x ∧ H.next ≤ x.2.1 := by
        intro x hx hcx
        obtain ⟨⟨β', r', hμ', ho', hst', hi'⟩, hb'⟩ := hp x (by simp [hx]) hcx
        refine ⟨⟨β', r', hμ', ho', hst', fun hi2 => ?_⟩, hb'⟩
        rcases img_set hμ hi2 with h2 | h2
        · exact hi' h2
        · exact hap.1 x hx hc hcx β r β' r' hμ hμ' h2.symm
      obtain ⟨h2, h3⟩ := Ext.lay M h1 hp' hap.2
      refine ⟨h2, fun β' hi' => ?_⟩
      rcases h3 β' hi' with h4 | ⟨x, hx, hcx, r', hm⟩
      · rcases img_set hμ h4 with h5 | rfl
        · exact .inl h5
        · exact .inr ⟨(i, b, o), by simp, hc, r, hμ⟩
      · exact .inr ⟨x, by simp [hx], hcx, r', hm⟩
    · rw [if_neg hc]
      obtain ⟨h2, h3⟩ := Ext.lay M h (fun x hx => hp x (by simp [hx])) hap.2
      refine ⟨h2, fun β' hi' => ?_⟩
      rcases h3 β' hi' with h4 | ⟨x, hx, hcx, r', hm⟩
      · exact .inl h4
      · exact .inr ⟨x, by simp [hx], hcx, r', hm⟩

/-- One more block that waits. -/
theorem Ext.pend (h : Ext μ0 H w0 μ S w) {b r : Nat} {O : Obj} {w' : World} (hb : H.next ≤ b) (hbn : b < S.next) (hμ : μ b = none) (hheap : w'.heap = w.heap.push O) (hos : w'.os = w.os) (hout : w'.output = w.output) :
    Ext μ0 H w0 (μ.upd b (w.heap.size, 0, r)) S w' := by
  have hle : μ.le (μ.upd b (w.heap.size, 0, r)) := Inj.le_upd hμ
  have hold : ∀ b', b' ≠ b → (μ.upd b (w.heap.size, 0, r)) b' = μ b' := fun b' hne => by simp [Inj.upd, hne]
  have hlive : ∀ b' o, S.get b' = some o → b' ≠ b := by
    intro b' o hg e
    subst e
    obtain ⟨β, δ, r', hm, _⟩ := h.rel.obj _ _ hg
    rw [hμ] at hm; cases hm
  have hheap' : ∀ β, β < w.heap.size → w'.heap[β]? = w.heap[β]? := fun β hβ => by rw [hheap, Array.getElem?_push, if_neg (by omega)]
  refine ⟨Inj.le_trans h.le hle, ⟨fun b' o hg => ?_, fun b1 b2 β δ1 r1 δ2 r2 h1 h2 h3 h4 => ?_, fun b' hb' => ?_, fun b' es clock hg s hs => h.rel.freshS b' es clock hg s hs⟩, ?_, h.next, h.live, fun b' β δ r' h1 h2 => ?_, fun β hβ hi => ?_, hos.trans h.os, hout.trans h.out, h.stamp⟩
  · obtain ⟨β, δ, r', hm, hr⟩ := h.rel.obj b' o hg
    exact ⟨β, δ, r', by rw [hold b' (hlive b' o hg)]; exact hm, hr.keep hle (hheap' β hr.lt)⟩
  · obtain ⟨o1, ho1⟩ := Option.isSome_iff_exists.1 h1
    obtain ⟨o2, ho2⟩ := Option.isSome_iff_exists.1 h2
    rw [hold _ (hlive _ _ ho1)] at h3; rw [hold _ (hlive _ _ ho2)] at h4
    exact h.rel.inj b1 b2 β δ1 r1 δ2 r2 h1 h2 h3 h4
  · rw [hold b' (by omega)]; exact h.rel.fresh b' hb'
  · have := h.size; rw [hheap]; simp; omega
  · by_cases e : b' = b
    · subst e
      rw [Inj.upd_same] at h2; injection h2 with h2; injection h2 with h2 _; subst h2
      exact ⟨hb, .inl h.size⟩
    · rw [hold b' e] at h2; exact h.img b' β δ r' h1 h2
  · rw [hheap' β (Nat.lt_of_lt_of_le hβ h.size)]; exact h.frame β hβ hi

end
end Go.Abs
