/- maps.Copy at keys that are ints: the oracle is right. -/
import Derived.Test.YtmfondkhhnnjjaaGreatDoorO3
import Derived.Shelf.SlMaps.Copy

namespace Go.Abs
open Go Go.RowKit Go.Maps Go.Sort Go.Shelf Go.Proofs
open Go.WideElems (Fit rd rg rd_mk rg_of rd_key rd_val)
open Go.ChangeMaps Go.MapKept

/-- A map's element that is a row of k cells, whole. -/
def rowR (k : Nat) (v : Value) : Option (DataW Value × List MemPlace) :=
  match v with
  | .agg cs => if cs.size = k ∧ cs.toList.all (·.oneCell') = true then some (.held v, []) else none
  | _ => none
theorem rowR_inv {k : Nat} {v : Value} {y : DataW Value × List MemPlace} (h : rowR k v = some y) : ∃ cs : List Value, v = .agg cs.toArray ∧ cs.length = k ∧ (∀ c ∈ cs, c.oneCell' = true) ∧ y = (.held v, []) := by
  unfold rowR at h
  split at h
  · rename_i cs
    split at h
    · rename_i hc
      cases h
      exact ⟨cs.toList, rfl, by simpa using hc.1, List.all_eq_true.1 hc.2, rfl⟩
    · cases h
  · cases h

theorem rowsV_rel {size : Nat} {μ : Inj} : ∀ {es : List (AV × AV × Nat)}, rowsV size es = true → ∀ x ∈ es, ∀ v, VRel μ x.2.1 v → rowR size v = some (.held v, [])
  | [], _, x, hx => by cases hx
  | (k, v, s) :: es, h, x, hx => by
    simp only [rowsV, Bool.and_eq_true] at h
    rcases List.mem_cons.1 hx with rfl | hx
    · intro c hc
      have h1 := h.1
      cases v
      case agg l =>
        cases hc with
        | agg hl ho =>
          rename_i cs
          have hn : cs.length = size := by rw [← hl.length, ← clen_eq]; exact Nat.eq_of_beq_eq_true h1
          have hall : ∀ c ∈ cs, c.oneCell' = true := by
            intro c hcm
            obtain ⟨j, hj⟩ := List.mem_iff_getElem?.1 hcm
            have hlt := (List.getElem?_eq_some_iff.1 hj).1
            have e := List.getElem?_eq_getElem (l := expand l) (i := j) (by rw [hl.length]; exact hlt)
            obtain ⟨c', hc', hv⟩ := hl.get j _ e
            rw [hj] at hc'; injection hc' with hc'; subst hc'
            exact hv.one (ho _ (List.getElem_mem _))
          simp only [rowR]
          rw [if_pos ⟨by simpa using hn, List.all_eq_true.2 (by simpa using hall)⟩]
      all_goals (simp at h1)
    · exact rowsV_rel h.2 x hx

/-- Entries one by one, without their stamps. -/
inductive KV (μ : Inj) : List (AV × AV × Nat) → List MapEntry → Prop where
  | nil : KV μ [] []
  | cons {k v : AV} {s : Nat} {e : MapEntry} {es : List (AV × AV × Nat)} {ces : List MapEntry} (hk : VRel μ k e.key) (hv : VRel μ v e.val) (t : KV μ es ces) : KV μ ((k, v, s) :: es) (e :: ces)

section
variable {μ : Inj}
theorem MRel.kv {b : Nat} : ∀ {es : List (AV × AV × Nat)} {p : List MapEntry}, MRel μ b es p → KV μ es p
  | _, _, .nil => .nil
  | _, _, .cons hk hv _ t => .cons hk hv t.kv
theorem KV.append {es es' : List (AV × AV × Nat)} {p p' : List MapEntry} (h' : KV μ es' p') : KV μ es p → KV μ (es ++ es') (p ++ p')
  | .nil => h'
  | .cons hk hv t => .cons hk hv (KV.append h' t)
theorem KV.filter {f : AV × AV × Nat → Bool} {g : MapEntry → Bool} : ∀ {es : List (AV × AV × Nat)} {p : List MapEntry}, KV μ es p → (∀ x e, x ∈ es → e ∈ p → VRel μ x.1 e.key → f x = g e) → KV μ (es.filter f) (p.filter g)
  | _, _, .nil, _ => .nil
  | _, _, .cons (k := k) (v := v) (s := s) (e := e) (es := es) (ces := ces) hk hv t, h => by
    have ih := KV.filter t fun x e hx he => h x e (List.mem_cons_of_mem _ hx) (List.mem_cons_of_mem _ he)
    have e1 := h (k, v, s) e (List.mem_cons_self ..) (List.mem_cons_self ..) hk
    rw [List.filter_cons, List.filter_cons, ← e1]
    split
    · exact .cons hk hv ih
    · exact ih
theorem KV.recast : ∀ {es : List (AV × AV × Nat)} {p q : List MapEntry}, KV μ es p → q.map (fun e => (e.key, e.val)) = p.map (fun e => (e.key, e.val)) → KV μ es q
  | _, _, [], .nil, _ => .nil
  | _, _, _ :: _, .nil, h => by simp at h
  | _, _, [], .cons .., h => by simp at h
  | _, _, e' :: q, .cons hk hv t, h => by
    simp only [List.map_cons, List.cons.injEq, Prod.mk.injEq] at h
    exact .cons (by rw [h.1.1]; exact hk) (by rw [h.1.2]; exact hv) (t.recast h.2)
theorem KV.mono {μ' : Inj} (le : μ.le μ') : ∀ {es : List (AV × AV × Nat)} {p : List MapEntry}, KV μ es p → KV μ' es p
  | _, _, .nil => .nil
  | _, _, .cons hk hv t => .cons (hk.mono le) (hv.mono le) (t.mono le)
theorem KV.renum {b : Nat} : ∀ {es : List (AV × AV × Nat)} {q : List MapEntry} {c : Nat}, KV μ es q → (∀ j e, q[j]? = some e → μ.st b (c + j) = some e.born) → MRel μ b (renum c es) q
  | _, _, _, .nil, _ => .nil
  | _, _, c, .cons hk hv t, h => by
    refine .cons hk hv (by simpa using h 0 _ rfl) (t.renum fun j e he => ?_)
    have := h (j + 1) e (by simpa using he)
    rw [show c + 1 + j = c + (j + 1) by omega]; exact this
theorem KV.length : ∀ {es : List (AV × AV × Nat)} {p : List MapEntry}, KV μ es p → es.length = p.length
  | _, _, .nil => rfl
  | _, _, .cons _ _ t => by simp [t.length]
end

theorem perm_of_map {α β : Type} {f : α → β} {m : List β} {l : List α} (h : (l.map f).Perm m) : ∃ q : List α, q.Perm l ∧ q.map f = m := by
  generalize hl : l.map f = k at h
  induction h generalizing l with
  | nil => exact ⟨[], by simp only [List.map_eq_nil_iff] at hl; subst hl; exact .refl _, rfl⟩
  | cons x _ ih =>
    obtain ⟨a, r, rfl, rfl, h2⟩ := List.map_eq_cons_iff.1 hl
    obtain ⟨q, h3, h4⟩ := ih h2
    exact ⟨a :: q, h3.cons a, by simp [h4]⟩
  | swap x y l' =>
    obtain ⟨a, r, rfl, rfl, h2⟩ := List.map_eq_cons_iff.1 hl
    obtain ⟨b, r', rfl, rfl, h3⟩ := List.map_eq_cons_iff.1 h2
    exact ⟨b :: a :: r', .swap a b r', by simp [h3]⟩
  | trans _ _ ih1 ih2 =>
    obtain ⟨q, h3, h4⟩ := ih1 hl
    obtain ⟨q', h5, h6⟩ := ih2 h4
    exact ⟨q', h5.trans h3, h6⟩

theorem foldPut_perm {H : Type} : ∀ (s E : List (Lit × DataW H)), s.Pairwise (fun p q => p.1.sameKey q.1 = false ∧ q.1.sameKey p.1 = false) →
    ∃ E', s.foldl (fun D p => D.put p.1 p.2) (DataW.map E) = .map E' ∧ E'.Perm (E.filter (fun p => s.all (fun q => !p.1.sameKey q.1)) ++ s)
  | [], E, _ => ⟨E, rfl, by rw [List.append_nil]; exact .of_eq (List.filter_eq_self.2 (fun _ _ => rfl)).symm⟩
  | a :: s, E, h => by
    obtain ⟨h1, h2⟩ := List.pairwise_cons.1 h
    obtain ⟨E', e1, e2⟩ := foldPut_perm s (DataW.insert (a.1, a.2) (E.filter fun p => !p.1.sameKey a.1)) h2
    refine ⟨E', e1, e2.trans ?_⟩
    have p1 : (DataW.insert (a.1, a.2) (E.filter fun p => !p.1.sameKey a.1)).Perm ((a.1, a.2) :: E.filter fun p => !p.1.sameKey a.1) := WideShapes.insert_perm _ _
    refine ((p1.filter _).append_right s).trans ?_
    have ha : s.all (fun q => !a.1.sameKey q.1) = true := List.all_eq_true.2 fun q hq => by rw [(h1 q hq).1]; rfl
    rw [List.filter_cons_of_pos (by exact ha), List.filter_filter]
    refine (List.Perm.of_eq ?_).trans List.perm_middle.symm
    simp only [List.all_cons, List.cons_append]
    congr 2
    refine List.filter_congr fun p _ => Bool.and_comm _ _

theorem keyNums_mem : ∀ {es : List (AV × AV × Nat)} {l : List Nat}, keyNums es = some l → ∀ x ∈ es, ∃ n, x.1 = .int .i64 n
  | [], _, _, x, hx => by cases hx
  | (k, v, s) :: es, l, h, x, hx => by
    cases k
    case int q n =>
      cases q
      case i64 =>
        simp only [keyNums] at h
        split at h
        · rename_i l' hl'
          rcases List.mem_cons.1 hx with rfl | hx
          · exact ⟨n, rfl⟩
          · exact keyNums_mem hl' x hx
        · cases h
      all_goals (simp [keyNums] at h)
    all_goals (simp [keyNums] at h)

/-- One map turned, blocks made beside it. -/
theorem Ext.of_grown {μ μ' : Inj} {H : AH} {w w' : World} (h : HRel μ H w) {b : Nat} {o o' : AObj} (hb : H.get b = some o) {β δ r : Nat} (hμ : μ b = some (β, δ, r)) (hg : w.grownBy w' (some β))
    (hloc : μ'.loc = μ.loc) (hst : ∀ b' s n, μ.st b' s = some n → μ'.st b' s = some n) (hoth : ∀ b' s, b' ≠ b → μ'.st b' s = μ.st b' s)
    (hrel : ORel μ' b o' β δ r w') (hfr : ∀ es clock, o' = .mp es clock → ∀ s, clock ≤ s → μ'.st b s = none) : Ext μ H w μ' (H.set b o') w' := by
  have hb0 := AH.get_lt hb
  have hle : μ.le μ' := ⟨fun b' x hx => by rw [hloc]; exact hx, hst⟩
  have hother : ∀ β', β' < w.heap.size → β' ≠ β → w'.heap[β']? = w.heap[β']? := fun β' h1 h2 => hg.block β' h1 (by simpa using h2)
  have hback : ∀ b', ((H.set b o').get b').isSome = true → (H.get b').isSome = true := by
    intro b' hs
    rw [AH.get_set] at hs
    split at hs
    · rename_i e; rw [e.1]; simp [hb]
    · exact hs
  have hnx : b < H.next := by
    rcases Nat.lt_or_ge b H.next with hl | hl
    · exact hl
    · rw [(h.fresh b hl).1] at hμ; cases hμ
  refine ⟨hle, ⟨fun b' o'' hg' => ?_, fun b1 b2 β' δ1 r1 δ2 r2 h1 h2 h3 h4 => h.inj b1 b2 β' δ1 r1 δ2 r2 (hback _ h1) (hback _ h2) (by rw [← hloc]; exact h3) (by rw [← hloc]; exact h4), fun b' hb' => ⟨by rw [hloc]; exact (h.fresh b' hb').1, fun s => ?_⟩, fun b' es clock hg' s hs => ?_⟩, hg.size, Nat.le_refl _, fun b' _ hs => hback b' hs,
    fun b' β' δ' r' h1 h2 => by (rw [hloc] at h2; rw [h1] at h2; cases h2), fun β' hβ' hi => hother β' hβ' fun e => hi ⟨b, δ, r, by simp [hb], by rw [e]; exact hμ⟩, hg.os, hg.output, fun b' s x h1 h2 => ?_⟩
  · rw [AH.get_set] at hg'
    split at hg'
    · rename_i e; rw [e.1]; injection hg' with hg'; subst hg'
      exact ⟨β, δ, r, by rw [hloc]; exact hμ, hrel⟩
    · rename_i hne
      obtain ⟨β', δ', r', hμ', hr⟩ := h.obj b' o'' hg'
      refine ⟨β', δ', r', by rw [hloc]; exact hμ', hr.keep hle (hother β' hr.lt fun e => ?_)⟩
      subst e
      exact hne ⟨h.inj b' b β' δ' r' δ r (by simp [hg']) (by simp [hb]) hμ' hμ, hb0⟩
  · have hb2 : H.next ≤ b' := hb'
    rw [hoth b' s (by omega)]; exact (h.fresh b' hb').2 s
  · rw [AH.get_set] at hg'
    split at hg'
    · rename_i e; rw [e.1]; injection hg' with hg'; exact hfr es clock hg' s hs
    · rename_i hne
      by_cases e : b' = b
      · exact (hne ⟨e, hb0⟩).elim
      · rw [hoth b' s e]; exact h.freshS b' es clock hg' s hs
  · by_cases e : b' = b
    · subst e; exact .inr (by simp [hb])
    · rw [hoth b' s e, h1] at h2; cases h2

section
variable {P : Program} {kt : TypeId}
theorem copyO_ok {size : Nat} {f : FuncId} (hkey : P.underlying kt = some (.int .i64))
    (con : ∀ (bd bs nd ns : Nat) (Dd Ds : DataW Value) (w : World), w.ownsMap P kt (rowR size) bd nd Dd → w.ownsMap P kt (rowR size) bs ns Ds → bd ≠ bs → nd + Maps.size Ds ≤ maxLen →
      Calls P f #[.map (some bd), .map (some bs)] w fun e w' => e = .returned (.tuple #[]) ∧ w'.ownsMap P kt (rowR size) bd (nd + Maps.size Ds) (Lib.mergeD Dd Ds) ∧ w.grownBy w' (some bd))
    {fn : Func} {c : Code} (hF : P.funcs[f]? = some fn) (hnm : (fn.name == "runtime.NumGoroutine") = false) (hbd : fn.body = some c) {args : List AV} {H : AH} {v : AV} {H' : AH} (h : copyO size args H = some (v, H')) {μ : Inj} {w : World} {cargs : List Value} (hr : HRel μ H w) (hl : LRel μ args cargs) :
    FnOk P μ H w f cargs.toArray v H' := by
  unfold copyO at h
  split at h
  · rename_i d s
    split at h
    · cases h
    · rename_i hds
      have hds : d ≠ s := fun e => hds (by rw [e]; exact Nat.beq_refl s)
      split at h
      · rename_i ed clock hd
        split at h
        · rename_i es clock2 hs
          split at h
          · rename_i ld hld
            split at h
            · rename_i ls hls
              split at h
              · rename_i hup
                simp only [Bool.and_eq_true] at hup
                obtain ⟨⟨⟨u1, u2⟩, ⟨u3, u4⟩⟩, ⟨r1, r2⟩⟩ := hup
                have u2 := Nat.le_of_ble_eq_true u2
                have u4 := Nat.le_of_ble_eq_true u4
                injection h with h; injection h with h1 h2; subst h1 h2
                cases hl with
                | cons hvd t =>
                cases t with
                | cons hvs t =>
                cases t
                cases hvd with
                | map hμd =>
                cases hvs with
                | map hμs =>
                rename_i βd δd rd' βs δs rs
                obtain ⟨β', δ', r', hμ', hod⟩ := hr.obj d _ hd
                rw [hμd] at hμ'; injection hμ' with e; injection e with e1 e; injection e with e2 e3; subst e1 e2 e3
                obtain ⟨β', δ', r', hμ', hos⟩ := hr.obj s _ hs
                rw [hμs] at hμ'; injection hμ' with e; injection e with e1 e; injection e with e2 e3; subst e1 e2 e3
                have hβ : βd ≠ βs := fun e => hds (by subst e; exact hr.inj d s _ _ _ _ _ (by simp [hd]) (by simp [hs]) hμd hμs)
                have nd1 : ld.Nodup := (sortNums_perm ld).nodup_iff.1 ((upNums_nodup u1).imp fun {a b} hlt e => by subst e; exact Nat.lt_irrefl _ hlt)
                have nd2 : ls.Nodup := (sortNums_perm ls).nodup_iff.1 ((upNums_nodup u3).imp fun {a b} hlt e => by subst e; exact Nat.lt_irrefl _ hlt)
                obtain ⟨ced, cck, pd, a1, a2, a3, a4, a5, a6, a7⟩ := owns_of_rel hkey (rowR size) hod hld nd1 (by unfold maxLen; omega) (rowsV_rel r1)
                obtain ⟨ces, cck2, ps, b1, b2, b3, b4, b5, b6, b7⟩ := owns_of_rel hkey (rowR size) hos hls nd2 (by unfold maxLen; omega) (rowsV_rel r2)
                have K : Keyed P kt := int_keyed hkey
                have hsz : Maps.size (DataW.map ((ces.toList.map (rg P kt (rowR size))).foldr DataW.insert [])) ≤ 65536 := by
                  rw [size_eq, (WideShapes.sorted_perm _).length_eq, List.length_map, ← b2.length_eq]
                  have := congrArg List.length b5
                  simp only [List.length_map] at this
                  omega
                have con := con βd βs ld.length ls.length _ _ w a7 b7 hβ (by unfold maxLen; omega)
                refine .inl ⟨_, _, hF, hnm, hbd, con.mono ?_⟩
                rintro e w' ⟨rfl, ⟨ces', cck', q1, q2, q3, q4⟩, hg⟩
                -- what the map has behind the copy
                have vd : ∀ x ∈ pd, rowR size x.val = some (.held x.val, []) := fun x hx => by
                  obtain ⟨y, hy, hv⟩ := a3.val x hx
                  exact rowsV_rel r1 y hy _ hv
                have vs : ∀ x ∈ ps, rowR size x.val = some (.held x.val, []) := fun x hx => by
                  obtain ⟨y, hy, hv⟩ := b3.val x hx
                  exact rowsV_rel r2 y hy _ hv
                have ent : ∀ {x : MapEntry} {n : Nat}, rowR size x.val = some (.held x.val, []) → x.key = .int .i64 (toInt .i64 n) → n < 2 ^ 64 → rg P kt (rowR size) x = (.int .i64 (toInt .i64 n), .held x.val) := by
                  intro x n hx0 hx hn
                  obtain ⟨xk, xv, xb⟩ := x
                  simp only at hx hx0; subst hx
                  show rg P kt (rowR size) ⟨.int .i64 (toInt .i64 n), xv, xb⟩ = (.int .i64 (toInt .i64 n), .held xv)
                  exact rg_of (rd_mk (yv := (.held xv, [])) (keyOf_int_mk hkey (wf_i64 hn)) hx0)
                have kd : ∀ x ∈ pd, ∃ n, n < 2 ^ 64 ∧ n ∈ ld ∧ x.key = .int .i64 (toInt .i64 n) := fun x hx => by
                  have : x.key ∈ pd.map (·.key) := List.mem_map_of_mem hx
                  rw [a5] at this
                  obtain ⟨n, hn, e'⟩ := List.mem_map.1 this
                  exact ⟨n, a4 n hn, hn, e'.symm⟩
                have ks : ∀ x ∈ ps, ∃ n, n < 2 ^ 64 ∧ n ∈ ls ∧ x.key = .int .i64 (toInt .i64 n) := fun x hx => by
                  have : x.key ∈ ps.map (·.key) := List.mem_map_of_mem hx
                  rw [b5] at this
                  obtain ⟨n, hn, e'⟩ := List.mem_map.1 this
                  exact ⟨n, b4 n hn, hn, e'.symm⟩
                have ks' : ∀ n ∈ ls, ∃ x ∈ ps, x.key = .int .i64 (toInt .i64 n) := fun n hn => by
                  have : Value.int .i64 (toInt .i64 n) ∈ ps.map (·.key) := by rw [b5]; exact List.mem_map_of_mem hn
                  obtain ⟨x, hx, e'⟩ := List.mem_map.1 this
                  exact ⟨x, hx, e'⟩
                generalize hS : (ces.toList.map (rg P kt (rowR size))).foldr DataW.insert [] = S at q4 hsz
                have hSp : S.Perm (ps.map (rg P kt (rowR size))) := by rw [← hS]; exact (WideShapes.sorted_perm _).trans (b2.symm.map _)
                generalize hE : (ced.toList.map (rg P kt (rowR size))).foldr DataW.insert [] = E at q4
                have hEp : E.Perm (pd.map (rg P kt (rowR size))) := by rw [← hE]; exact (WideShapes.sorted_perm _).trans (a2.symm.map _)
                have hSpw : S.Pairwise (fun p q => p.1.sameKey q.1 = false ∧ q.1.sameKey p.1 = false) := by
                  refine (hSp.pairwise_iff (fun {a b} h => ⟨h.2, h.1⟩)).2 ?_
                  refine List.pairwise_map.2 ?_
                  have hpw : ps.Pairwise (fun x y => x.key ≠ y.key) := by
                    have : (ps.map (·.key)).Nodup := by rw [b5]; exact nodup_keys b4 nd2
                    exact List.pairwise_map.1 this
                  refine hpw.imp_of_mem fun {x y} hx hy hne => ?_
                  obtain ⟨n, n1, _, n2⟩ := ks x hx
                  obtain ⟨m, m1, _, m2⟩ := ks y hy
                  rw [ent (vs x hx) n2 n1, ent (vs y hy) m2 m1]
                  have : toInt .i64 n ≠ toInt .i64 m := fun e => hne (by rw [n2, m2, e])
                  exact ⟨sameKey_ne (by simpa using this), sameKey_ne (by simpa using this.symm)⟩
                obtain ⟨E', e1, e2⟩ := foldPut_perm S E hSpw
                have hq : (ces'.toList.map (rg P kt (rowR size))).Perm ((pd.filter (fun x => S.all (fun q => !(rg P kt (rowR size) x).1.sameKey q.1)) ++ ps).map (rg P kt (rowR size))) := by
                  have f1 : Lib.mergeD (DataW.map E) (DataW.map S) = .map E' := e1
                  rw [f1] at q4
                  injection q4 with q4
                  refine (WideShapes.sorted_perm _).symm.trans ?_
                  rw [← q4]
                  refine e2.trans ?_
                  rw [List.map_append]
                  refine (List.Perm.append (hEp.filter _) hSp).trans (.of_eq ?_)
                  rw [List.filter_map]
                  rfl
                obtain ⟨q, p1, p2⟩ := perm_of_map hq
                -- the keys and the values of them
                have hrdq : ∀ x ∈ q, rg P kt (rowR size) x = rg P kt (rowR size) x ∧ keyOf P kt x.key = some (rg P kt (rowR size) x).1 ∧ (rg P kt (rowR size) x).2 = .held x.val := fun x hx => by
                  obtain ⟨y, hy⟩ := q2.reads x (p1.mem_iff.1 hx)
                  rw [rg_of hy]
                  obtain ⟨z, hz, hz2⟩ := rd_val hy
                  obtain ⟨_, _, _, _, rfl⟩ := rowR_inv hz
                  exact ⟨rfl, rd_key hy, hz2⟩
                have hkv : q.map (fun e => (e.key, e.val)) = (pd.filter (fun x => S.all (fun q => !(rg P kt (rowR size) x).1.sameKey q.1)) ++ ps).map (fun e => (e.key, e.val)) := by
                  refine List.ext_getElem? fun i => ?_
                  have hi := congrArg (·[i]?) p2
                  simp only [List.getElem?_map] at hi ⊢
                  generalize hA : pd.filter (fun x => S.all (fun q => !(rg P kt (rowR size) x).1.sameKey q.1)) ++ ps = A at hi ⊢
                  have hAk : ∀ x ∈ A, ∃ n, n < 2 ^ 64 ∧ x.key = .int .i64 (toInt .i64 n) ∧ rowR size x.val = some (.held x.val, []) := fun x hx => by
                    rw [← hA] at hx
                    rcases List.mem_append.1 hx with hx | hx
                    · obtain ⟨n, n1, _, n2⟩ := kd x (List.mem_filter.1 hx).1; exact ⟨n, n1, n2, vd x (List.mem_filter.1 hx).1⟩
                    · obtain ⟨n, n1, _, n2⟩ := ks x hx; exact ⟨n, n1, n2, vs x hx⟩
                  cases hx : q[i]? with
                  | none =>
                    rw [hx] at hi
                    cases hy : A[i]? with
                    | none => rfl
                    | some y => rw [hy] at hi; cases hi
                  | some x =>
                    rw [hx] at hi
                    cases hy : A[i]? with
                    | none => rw [hy] at hi; cases hi
                    | some y =>
                      rw [hy] at hi
                      simp only [Option.map_some, Option.some.injEq] at hi
                      obtain ⟨_, hx1, hx2⟩ := hrdq x (List.mem_of_getElem? hx)
                      obtain ⟨n, n1, n2, n3⟩ := hAk y (List.mem_of_getElem? hy)
                      rw [hi, ent n3 n2 n1] at hx1 hx2
                      have hk1 : x.key = y.key := by rw [n2]; exact K.inj hx1 (keyOf_int_mk hkey (wf_i64 n1))
                      injection hx2 with hx2
                      simp [hk1, hx2]
                have hfil : KV μ (ed.filter (outOf ls)) (pd.filter (fun x => S.all (fun q => !(rg P kt (rowR size) x).1.sameKey q.1))) := by
                  refine a3.kv.filter fun x e hx he hxe => ?_
                  obtain ⟨n, n1, _, n2⟩ := kd e he
                  rw [n2] at hxe
                  have hx' := hx
                  obtain ⟨xk, xv, xs⟩ := x
                  obtain ⟨m0, hm0⟩ := keyNums_mem hld _ hx
                  simp only at hxe hm0
                  subst hm0
                  generalize hy : toInt .i64 n = y at hxe
                  cases hxe with
                  | int _ _ hm =>
                  have hmn : n = m0 := toInt_inj .i64 n m0 n1 hm hy
                  subst hmn
                  show ls.all (fun m => !(Nat.beq n m)) = _
                  rw [Bool.eq_iff_iff]
                  simp only [List.all_eq_true, Bool.not_eq_true']
                  constructor
                  · intro hall p hp
                    obtain ⟨x, hx, rfl⟩ := List.mem_map.1 (hSp.mem_iff.1 hp)
                    obtain ⟨m, m1, m2, m3⟩ := ks x hx
                    rw [ent (vd e he) n2 n1, ent (vs x hx) m3 m1]
                    refine sameKey_ne fun e' => ?_
                    injection e' with _ e'
                    have := toInt_inj .i64 n m n1 m1 e'
                    subst this
                    have := hall n m2
                    rw [Nat.beq_refl] at this; cases this
                  · intro hall m hm2
                    obtain ⟨x, hx, hxk⟩ := ks' m hm2
                    have := hall _ (hSp.mem_iff.2 (List.mem_map_of_mem hx))
                    rw [ent (vd e he) n2 n1, ent (vs x hx) hxk (b4 m hm2)] at this
                    cases hb : Nat.beq n m with
                    | false => rfl
                    | true =>
                      have := Nat.eq_of_beq_eq_true hb
                      subst this
                      simp [Lit.sameKey] at this
                have hKV : KV μ (ed.filter (outOf ls) ++ es) q := (KV.append b3.kv hfil).recast hkv
                -- the new stamps
                have hlen := hKV.length
                generalize ed.filter (outOf ls) ++ es = L2 at hKV hlen
                have hst0 : ∀ sx, clock ≤ sx → μ.st d sx = none := hr.freshS d ed clock hd
                let μ' : Inj := ⟨μ.loc, fun b sx => if b = d ∧ clock ≤ sx then (q[sx - clock]?).map (·.born) else μ.st b sx⟩
                have hle : μ.le μ' := ⟨fun _ _ h => h, fun b sx n hn => by
                  show (if b = d ∧ clock ≤ sx then (q[sx - clock]?).map (·.born) else μ.st b sx) = some n
                  split
                  · rename_i hc; rw [hc.1, hst0 sx hc.2] at hn; cases hn
                  · exact hn⟩
                refine ⟨μ', Ext.of_grown hr hd hμd hg rfl hle.2 (fun b' sx hb' => by show (if b' = d ∧ clock ≤ sx then _ else μ.st b' sx) = _; rw [if_neg (fun e => hb' e.1)]) ?_ (fun es' c' he sx hsx => ?_), .tup .nil⟩
                · obtain ⟨s1, s2, s3⟩ := q2.stamped
                  refine ⟨ces', cck', q1, ⟨q, p1, ?_⟩, s2, s1⟩
                  refine (hKV.mono hle).renum fun j x hx => ?_
                  show (if d = d ∧ clock ≤ clock + j then (q[clock + j - clock]?).map (·.born) else μ.st d (clock + j)) = some x.born
                  rw [if_pos ⟨rfl, by omega⟩, show clock + j - clock = j by omega, hx]; rfl
                · injection he with _ he
                  show (if d = d ∧ clock ≤ sx then (q[sx - clock]?).map (·.born) else μ.st d sx) = none
                  rw [if_pos ⟨rfl, by omega⟩, List.getElem?_eq_none (by omega)]; rfl
              · cases h
            · cases h
          · cases h
        · cases h
      · cases h
  · cases h
end

end Go.Abs
