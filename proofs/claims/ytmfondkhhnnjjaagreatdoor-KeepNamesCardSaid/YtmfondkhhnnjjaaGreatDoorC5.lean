/- A call told once holds wherever its blocks lie. -/
import Derived.Test.YtmfondkhhnnjjaaGreatDoorC3

namespace Go.Abs
noncomputable section
section
variable {μ : Inj} {H : AH} {w : World} {bs nb : List Nat} {lc : List (Option LObj)} {μ' : Inj} {Hf : AH} {w' : World}

/-- The heap behind the call. -/
def behindM (bs nb : List Nat) (lc : List (Option LObj)) (l1 : List (Nat × LObj)) (H : AH) : AH :=
  ⟨layM (rhoOf bs lc.length H.next) l1 (killL (toldB bs lc) H.m), H.next + nb.length⟩

theorem behindM_get {l1 : List (Nat × LObj)} {b : Nat} {o : AObj} (h : (behindM bs nb lc l1 H).get b = some o) :
    (∃ c lo, (c, lo) ∈ l1 ∧ b = rhoOf bs lc.length H.next c ∧ o = (renO (rhoOf bs lc.length H.next) lo).obj) ∨ (H.get b = some o ∧ b ∉ toldB bs lc) := by
  rcases layM_get h with h | h
  · exact .inl h
  · exact .inr (killL_get h)

theorem Use.mu2_old (u : Use μ H w bs lc) (e : Ext (mu0 μ (rhoOf bs lc.length H.next)) (hcOf lc) w μ' Hf w') {i : Nat} (hi : i < lc.length) : μ' i = μ (rhoOf bs lc.length H.next i) := by
  cases h1 : μ (rhoOf bs lc.length H.next i) with
  | some x => exact e.le.1 i _ h1
  | none =>
    cases h2 : μ' i with
    | none => rfl
    | some x =>
      obtain ⟨β, δ, r⟩ := x
      have := (e.img i β δ r h1 h2).1
      exact absurd hi (by have : lc.length ≤ i := this; omega)
theorem Use.mu2_oldst (u : Use μ H w bs lc) (e : Ext (mu0 μ (rhoOf bs lc.length H.next)) (hcOf lc) w μ' Hf w') {i : Nat} (hi : i < lc.length) (hn : (hcOf lc).get i = none) (s : Nat) : μ'.st i s = μ.st (rhoOf bs lc.length H.next i) s := by
  cases h1 : μ.st (rhoOf bs lc.length H.next i) s with
  | some x => exact e.le.2 i s _ h1
  | none =>
    cases h2 : μ'.st i s with
    | none => rfl
    | some x =>
      rcases e.stamp i s x h1 h2 with h | h
      · exact absurd hi (by have : lc.length ≤ i := h; omega)
      · rw [hn] at h; cases h

theorem Use.mu2_idx (u : Use μ H w bs lc) (e : Ext (mu0 μ (rhoOf bs lc.length H.next)) (hcOf lc) w μ' Hf w') {b i : Nat} (h : idxO b bs = some i) : i < lc.length ∧ rhoOf bs lc.length H.next i = b ∧ μ' i = μ b := by
  have hb := idxO_some h
  have hi : i < lc.length := by have := (List.getElem?_eq_some_iff.1 hb).1; rw [u.len] at this; exact this
  have e1 := rho_old u.len hi H.next
  rw [hb] at e1; injection e1 with e1
  exact ⟨hi, e1.symm, by rw [u.mu2_old e hi, ← e1]⟩

theorem Use.mu2_low (u : Use μ H w bs lc) (e : Ext (mu0 μ (rhoOf bs lc.length H.next)) (hcOf lc) w μ' Hf w') {b : Nat} (hb : b < H.next) : mu2 μ μ' bs nb H.next b = μ b := by
  show (match idxO b bs with | some i => μ' i | none => if b < H.next then μ b else match nb[b - H.next]? with | some c => μ' c | none => none) = μ b
  cases h : idxO b bs with
  | some i => exact (u.mu2_idx e h).2.2
  | none => simp only [if_pos hb]
theorem Use.mu2_st (u : Use μ H w bs lc) (e : Ext (mu0 μ (rhoOf bs lc.length H.next)) (hcOf lc) w μ' Hf w') {b : Nat} (hb : b < H.next) (hn : b ∉ toldB bs lc) (s : Nat) : (mu2 μ μ' bs nb H.next).st b s = μ.st b s := by
  show (match idxO b bs with | some i => μ'.st i s | none => if b < H.next then μ.st b s else match nb[b - H.next]? with | some c => μ'.st c s | none => none) = μ.st b s
  cases h : idxO b bs with
  | some i =>
    obtain ⟨h1, h2, _⟩ := u.mu2_idx e h
    simp only
    rw [u.mu2_oldst e h1 ?_ s, h2]
    cases hg : (hcOf lc).get i with
    | none => rfl
    | some o =>
      obtain ⟨lo, h3, _⟩ := hc_get hg
      exact absurd (toldB_mem (idxO_some h) h3) hn
  | none => simp only [if_pos hb]
theorem Use.mu2_le (u : Use μ H w bs lc) (e : Ext (mu0 μ (rhoOf bs lc.length H.next)) (hcOf lc) w μ' Hf w') : μ.le (mu2 μ μ' bs nb H.next) := by
  refine ⟨fun b x hb => ?_, fun b s x hb => ?_⟩
  · have hlt : b < H.next := by
      rcases Nat.lt_or_ge b H.next with hl | hl
      · exact hl
      · rw [(u.rel.fresh b hl).1] at hb; cases hb
    rw [u.mu2_low e hlt]; exact hb
  · have hlt : b < H.next := by
      rcases Nat.lt_or_ge b H.next with hl | hl
      · exact hl
      · rw [(u.rel.fresh b hl).2 s] at hb; cases hb
    by_cases hm : b ∈ bs
    · obtain ⟨i, hi⟩ := idxO_mem hm
      obtain ⟨h1, h2, _⟩ := u.mu2_idx e hi
      have : (mu2 μ μ' bs nb H.next).st b s = μ'.st i s := by simp only [mu2, hi]
      rw [this]
      refine e.le.2 i s x ?_
      show μ.st (rhoOf bs lc.length H.next i) s = some x
      rw [h2]; exact hb
    · rw [u.mu2_st e hlt (fun h => hm (by obtain ⟨i, lo, h1, _⟩ := toldB_get h; exact List.mem_of_getElem? h1))]; exact hb

theorem Use.img0 (u : Use μ H w bs lc) {β : Nat} (h : Img (mu0 μ (rhoOf bs lc.length H.next)) (hcOf lc) β) : ∃ b, b ∈ toldB bs lc ∧ (H.get b).isSome = true ∧ ∃ δ r, μ b = some (β, δ, r) := by
  obtain ⟨i, δ, r, hs, hμ⟩ := h
  have hi := hc_lt hs
  obtain ⟨p, hp⟩ := Option.isSome_iff_exists.1 hs
  obtain ⟨lo, hlo, _⟩ := hc_get hp
  obtain ⟨o, ho, _⟩ := u.has i lo hlo
  exact ⟨_, toldB_mem (rho_old u.len hi H.next) hlo, by rw [ho]; rfl, δ, r, hμ⟩
/-- A block that is written down behind the call, and was there ahead of it, was told of. -/
theorem Use.kept (u : Use μ H w bs lc) (e : Ext (mu0 μ (rhoOf bs lc.length H.next)) (hcOf lc) w μ' Hf w') {c : Nat} (hc : c < lc.length) (hf : (Hf.get c).isSome = true) : (H.get (rhoOf bs lc.length H.next c)).isSome = true ∧ rhoOf bs lc.length H.next c ∈ toldB bs lc := by
  obtain ⟨p, hp⟩ := Option.isSome_iff_exists.1 (e.live c hc hf)
  obtain ⟨lo, hlo, _⟩ := hc_get hp
  obtain ⟨o, ho, _⟩ := u.has c lo hlo
  exact ⟨by rw [ho]; rfl, toldB_mem (rho_old u.len hc H.next) hlo⟩

theorem tau_inj (hn : nb.Nodup) (hge : ∀ x ∈ nb, lc.length ≤ x) {nf b c : Nat} (hb : tauOf nb lc.length nf b ≠ nf) (he : tauOf nb lc.length nf b = tauOf nb lc.length nf c) : b = c := by
  rcases Nat.lt_or_ge b lc.length with h1 | h1 <;> rcases Nat.lt_or_ge c lc.length with h2 | h2
  · rw [tau_old h1, tau_old h2] at he; exact he
  · rw [tau_old h1] at he hb; rw [tau_new h2] at he
    cases hx : nb[c - lc.length]? with
    | none => rw [hx] at he; exact absurd he hb
    | some x => rw [hx] at he; have := hge x (List.mem_of_getElem? hx); simp only at he; omega
  · rw [tau_old h2] at he; rw [tau_new h1] at he hb
    cases hx : nb[b - lc.length]? with
    | none => rw [hx] at hb; exact absurd rfl hb
    | some x => rw [hx] at he; have := hge x (List.mem_of_getElem? hx); simp only at he; omega
  · rw [tau_new h1] at he hb; rw [tau_new h2] at he
    cases hx : nb[b - lc.length]? with
    | none => rw [hx] at hb; exact absurd rfl hb
    | some x =>
      rw [hx] at he hb
      cases hy : nb[c - lc.length]? with
      | none => rw [hy] at he; exact absurd he hb
      | some y =>
        rw [hy] at he
        simp only at he
        subst he
        have e1 := idxO_get hn hx
        have e2 := idxO_get hn hy
        rw [e1] at e2; injection e2 with e2; omega

theorem Use.ext (u : Use μ H w bs lc) (e : Ext (mu0 μ (rhoOf bs lc.length H.next)) (hcOf lc) w μ' Hf w') (hn : nb.Nodup) (hge : ∀ x ∈ nb, lc.length ≤ x) {l1 : List (Nat × LObj)}
    (hl1 : ∀ b lo, (b, lo) ∈ l1 → ∃ o, Hf.get (tauOf nb lc.length Hf.next b) = some o ∧ OLe (renO (tauOf nb lc.length Hf.next) lo).obj o) :
    Ext μ H w (mu2 μ μ' bs nb H.next) (behindM bs nb lc l1 H) w' := by
  have hle := u.mu2_le (nb := nb) e
  have hrho := u.mu2_rho (nb := nb) e.rel
  -- a written block lives behind the call
  have new : ∀ c lo, (c, lo) ∈ l1 → ∃ o, Hf.get (tauOf nb lc.length Hf.next c) = some o ∧ tauOf nb lc.length Hf.next c ≠ Hf.next := by
    intro c lo hm
    obtain ⟨o, ho, _⟩ := hl1 c lo hm
    refine ⟨o, ho, fun he => ?_⟩
    rw [he] at ho
    obtain ⟨β, δ, r, hμ, _⟩ := e.rel.obj _ _ ho
    rw [(e.rel.fresh _ (Nat.le_refl _)).1] at hμ; cases hμ
  -- a block that is no other's stays in its place
  have old : ∀ b o, H.get b = some o → b ∉ toldB bs lc → ∃ β δ r, μ b = some (β, δ, r) ∧ β < w.heap.size ∧ ¬ Img (mu0 μ (rhoOf bs lc.length H.next)) (hcOf lc) β ∧ w'.heap[β]? = w.heap[β]? := by
    intro b o ho hb
    obtain ⟨_, β, δ, r, hμ, hlt⟩ := live_lt u.rel (by rw [ho]; rfl)
    have hni : ¬ Img (mu0 μ (rhoOf bs lc.length H.next)) (hcOf lc) β := fun hi => by
      obtain ⟨b', h1, h2, δ', r', h3⟩ := u.img0 hi
      have := u.rel.inj b b' β δ r δ' r' (by rw [ho]; rfl) h2 hμ h3
      exact hb (this ▸ h1)
    exact ⟨β, δ, r, hμ, hlt, hni, e.frame β hlt hni⟩
  have cross : ∀ c lo b o β δ r δ' r', (c, lo) ∈ l1 → H.get b = some o → b ∉ toldB bs lc → mu2 μ μ' bs nb H.next (rhoOf bs lc.length H.next c) = some (β, δ, r) → mu2 μ μ' bs nb H.next b = some (β, δ', r') → False := by
    intro c lo b o β δ r δ' r' hm ho hb h1 h2
    obtain ⟨β', δ1, r1, h3, hlt, hni, _⟩ := old b o ho hb
    have hbl := (live_lt u.rel (by rw [ho]; rfl : (H.get b).isSome = true)).1
    rw [u.mu2_low e hbl] at h2
    rw [h3] at h2; injection h2 with h2; injection h2 with h2 _; subst h2
    rw [(hrho c).1] at h1
    rcases Nat.lt_or_ge c lc.length with hc | hc
    · rw [tau_old hc, u.mu2_old e hc] at h1
      obtain ⟨p, hp, _⟩ := new c lo hm
      rw [tau_old hc] at hp
      obtain ⟨k1, k2⟩ := u.kept e hc (by rw [hp]; rfl)
      have := u.rel.inj _ _ _ δ r δ1 r1 k1 (by rw [ho]; rfl) h1 h3
      exact hb (this ▸ k2)
    · have h0 : mu0 μ (rhoOf bs lc.length H.next) (tauOf nb lc.length Hf.next c) = none := by
        have hx : lc.length ≤ tauOf nb lc.length Hf.next c := by
          rw [tau_new hc]
          cases hx : nb[c - lc.length]? with
          | some x => exact hge x (List.mem_of_getElem? hx)
          | none => exact e.next
        exact (u.rel0.fresh _ hx).1
      rcases (e.img _ _ _ _ h0 h1).2 with h4 | h4
      · omega
      · exact hni h4
  refine ⟨hle, ⟨fun b o hb => ?_, fun b b' β δ r δ' r' hs hs' h1 h2 => ?_, fun b hb => ?_, fun b es clock hb s hs => ?_⟩, e.size, Nat.le_add_right _ _, fun b hb hs => ?_, fun b β δ r h1 h2 => ?_, fun β hβ hi => ?_, e.os, e.out, fun b s x h1 h2 => ?_⟩
  · rcases behindM_get hb with ⟨c, lo, hm, rfl, rfl⟩ | ⟨ho, hnb⟩
    · obtain ⟨o', ho', hle'⟩ := hl1 c lo hm
      obtain ⟨β, δ, r, hμ, hr⟩ := e.rel.obj _ _ ho'
      refine ⟨β, δ, r, by rw [(hrho c).1]; exact hμ, ?_⟩
      exact orel_ren (τ := tauOf nb lc.length Hf.next) (fun b x h => by rw [(hrho b).1]; exact h) (fun b s x h => by rw [(hrho b).2]; exact h) (hle'.1 _ _ _ _ _ _ hr)
    · obtain ⟨β, δ, r, hμ, _, _, hh⟩ := old b o ho hnb
      obtain ⟨β', δ', r', hμ', hr⟩ := u.rel.obj b o ho
      rw [hμ] at hμ'; injection hμ' with e1; injection e1 with e1 e2; injection e2 with e2 e3; subst e1 e2 e3
      exact ⟨β, δ, r, hle.1 _ _ hμ, hr.keep hle hh⟩
  · obtain ⟨o, ho⟩ := Option.isSome_iff_exists.1 hs
    obtain ⟨o', ho'⟩ := Option.isSome_iff_exists.1 hs'
    rcases behindM_get ho with ⟨c, lo, hm, rfl, rfl⟩ | ⟨hg, hnb⟩ <;> rcases behindM_get ho' with ⟨c', lo', hm', rfl, rfl⟩ | ⟨hg', hnb'⟩
    · rw [(hrho c).1] at h1
      rw [(hrho c').1] at h2
      obtain ⟨p, hp, hne⟩ := new c lo hm
      obtain ⟨p', hp', _⟩ := new c' lo' hm'
      have := e.rel.inj _ _ β δ r δ' r' (by rw [hp]; rfl) (by rw [hp']; rfl) h1 h2
      rw [tau_inj hn hge hne this]
    · exact (cross c lo b' o' β δ r δ' r' hm hg' hnb' h1 h2).elim
    · exact (cross c' lo' b o β δ' r' δ r hm' hg hnb h2 h1).elim
    · have l1 := (live_lt u.rel (by rw [hg]; rfl : (H.get b).isSome = true)).1
      have l2 := (live_lt u.rel (by rw [hg']; rfl : (H.get b').isSome = true)).1
      rw [u.mu2_low e l1] at h1
      rw [u.mu2_low e l2] at h2
      exact u.rel.inj b b' β δ r δ' r' (by rw [hg]; rfl) (by rw [hg']; rfl) h1 h2
  · have hb : H.next + nb.length ≤ b := hb
    have hi : idxO b bs = none := by
      cases h : idxO b bs with
      | none => rfl
      | some i => have := u.lt _ (List.mem_of_getElem? (idxO_some h)); omega
    have hnone : nb[b - H.next]? = none := by rw [List.getElem?_eq_none_iff]; omega
    simp only [mu2, hi, if_neg (show ¬ b < H.next by omega), hnone]
    exact ⟨trivial, fun _ => trivial⟩
  · rcases behindM_get hb with ⟨c, lo, hm, rfl, heq⟩ | ⟨ho, hnb⟩
    · obtain ⟨o', ho', hle'⟩ := hl1 c lo hm
      cases lo with
      | lst => cases heq
      | rows => cases heq
      | mp es' c' =>
        cases heq
        rw [hle'.2 _ _ rfl] at ho'
        rw [(hrho c).2]
        exact e.rel.freshS _ _ _ ho' s hs
    · have hlt := (live_lt u.rel (by rw [ho]; rfl : (H.get b).isSome = true)).1
      rw [u.mu2_st e hlt hnb]
      exact u.rel.freshS b es clock ho s hs
  · obtain ⟨o, ho⟩ := Option.isSome_iff_exists.1 hs
    rcases behindM_get ho with ⟨c, lo, hm, rfl, _⟩ | ⟨hg, _⟩
    · rcases Nat.lt_or_ge c lc.length with hc | hc
      · obtain ⟨p, hp, _⟩ := new c lo hm
        rw [tau_old hc] at hp
        exact (u.kept e hc (by rw [hp]; rfl)).1
      · rw [rho_new hc] at hb; omega
    · rw [hg]; rfl
  · rcases Nat.lt_or_ge b H.next with hb | hb
    · rw [u.mu2_low e hb, h1] at h2; cases h2
    · refine ⟨hb, ?_⟩
      have hi : idxO b bs = none := by
        cases h : idxO b bs with
        | none => rfl
        | some i => have := u.lt _ (List.mem_of_getElem? (idxO_some h)); omega
      simp only [mu2, hi, if_neg (show ¬ b < H.next by omega)] at h2
      cases hx : nb[b - H.next]? with
      | none => rw [hx] at h2; cases h2
      | some c =>
        rw [hx] at h2
        have hc := hge c (List.mem_of_getElem? hx)
        rcases (e.img c β δ r (u.rel0.fresh c hc).1 h2).2 with h3 | h3
        · exact .inl h3
        · obtain ⟨b', _, h5, δ', r', h6⟩ := u.img0 h3
          exact .inr ⟨b', δ', r', h5, h6⟩
  · refine e.frame β hβ fun h => hi ?_
    obtain ⟨b', _, h5, δ', r', h6⟩ := u.img0 h
    exact ⟨b', δ', r', h5, h6⟩
  · rcases Nat.lt_or_ge b H.next with hb | hb
    · by_cases hm : b ∈ toldB bs lc
      · obtain ⟨_, _, _, h⟩ := u.live hm
        exact .inr h
      · rw [u.mu2_st e hb hm, h1] at h2; cases h2
    · exact .inl hb
end

variable {P : Program}
theorem ckRO_ok (hm : P.follows .mixedOrders = true) {orc : FuncId → Option Orc} (ho : OrcOk P 0 orc) {lf n : Nat} {f : FuncId} {bs nb : List Nat} {A : List AV} {lc : List (Option LObj)} {l1 : List (Nat × LObj)} {v1 : AV}
    (hk : ckROk lc.length v1 l1 nb (callN P 0 lf (fnOf P 0 orc lf (drawOf P 0)) n f A (hcOf lc) done) = true) {args : List AV} {H : AH} {v : AV} {H' : AH} (h : ckRO bs A lc v1 l1 nb args H = some (v, H'))
    {μ : Inj} {w : World} {cargs : List Value} (hr : HRel μ H w) (hl : LRel μ args cargs) : FnOk P μ H w f cargs.toArray v H' := by
  unfold ckRO at h
  split at h
  · rename_i hc
    simp only [Bool.and_eq_true] at hc
    obtain ⟨⟨⟨⟨c1, c2⟩, c2'⟩, c3⟩, c4⟩ := hc
    cases h
    obtain rfl := sameL_eq _ _ c3
    have u : Use μ H w bs lc := ⟨hr, Nat.eq_of_beq_eq_true c1, nodupB_nodup c2, lowB_mem c2', fun b lo hb => holdsR_mem c4 b lo (by simpa using numb_get (n := 0) hb)⟩
    unfold ckROk at hk
    split at hk
    · rename_i v Hf hN
      simp only [Bool.and_eq_true, List.all_eq_true] at hk
      obtain ⟨⟨⟨k1, k2⟩, k3⟩, k4⟩ := hk
      obtain rfl := sameA_eq _ _ k3
      rw [callN_eq P 0 orc lf (drawOf P 0) (drawOf_good P 0) n f A (hcOf lc) done] at hN
      cases hA : callA P 0 orc lf n f A (hcOf lc) with
      | none => rw [hA] at hN; cases hN
      | some p =>
        obtain ⟨v2, H2⟩ := p
        rw [hA] at hN
        cases hN
        have hl0 : LRel (mu0 μ (rhoOf bs lc.length H.next)) A cargs := by
          have := renL_rel (τ := rhoOf bs lc.length H.next) (ρ := fun b => b) (μ1 := μ) (μ2 := mu0 μ (rhoOf bs lc.length H.next)) (fun _ _ h => h) (fun _ _ _ h => h) hl
          rwa [renL_id] at this
        have fin : ∀ {μ' : Inj} {w' : World} {r : Value}, Ext (mu0 μ (rhoOf bs lc.length H.next)) (hcOf lc) w μ' Hf w' → VRel μ' (ren (tauOf nb lc.length Hf.next) v1) r →
            ∃ μ2, Ext μ H w μ2 ⟨layM (rhoOf bs lc.length H.next) l1 (killL (toldB bs lc) H.m), H.next + nb.length⟩ w' ∧ VRel μ2 (ren (rhoOf bs lc.length H.next) v1) r := by
          intro μ' w' r he hv
          refine ⟨mu2 μ μ' bs nb H.next, u.ext he (nodupB_nodup k1) (fun x hx => Nat.le_of_ble_eq_true (k2 x hx)) (fun b lo hb => holdsR_mem k4 b lo hb), ?_⟩
          exact ren_rel (fun b x h => by rw [(u.mu2_rho he.rel b).1]; exact h) (fun b s x h => by rw [(u.mu2_rho he.rel b).2]; exact h) v1 r hv
        rcases callA_sound hm ho lf n f A _ _ _ hA (mu0 μ (rhoOf bs lc.length H.next)) w cargs u.rel0 (by intro g hg; omega) hl0 with ⟨fn, c, hf, hn, hb, hcalls⟩ | ⟨μ', w', r, hrun, he, hv⟩
        · refine .inl ⟨fn, c, hf, hn, hb, hcalls.mono fun e w' he => ?_⟩
          cases e with
          | returned r => obtain ⟨μ', h1, h2⟩ := he; exact fin h1 h2
          | panicked ch => exact he.elim
          | outgrown => exact he.elim
        · obtain ⟨μ2, h1, h2⟩ := fin he hv
          exact .inr ⟨μ2, w', r, hrun, h1, h2⟩
    · cases hk
  · cases h

end
end Go.Abs
