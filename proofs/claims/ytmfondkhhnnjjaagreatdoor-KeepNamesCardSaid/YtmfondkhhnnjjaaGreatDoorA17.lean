/- Writing maps. -/
import Derived.Test.YtmfondkhhnnjjaaGreatDoorA15

namespace Go.Abs

mutual
theorem sameA_eq : ∀ (a b : AV), sameA a b = true → a = b
  | .bool a, b, h => by cases b <;> simp [sameA] at h; rw [h]
  | .int k n, b, h => by cases b <;> simp [sameA] at h; rw [h.1, h.2]
  | .str n x, b, h => by cases b <;> simp [sameA] at h; rw [h.1, h.2]
  | .run n x, b, h => by cases b <;> simp [sameA] at h; rw [h.1, h.2]
  | .ptr n x, b, h => by cases b <;> simp [sameA] at h; rw [h.1, h.2]
  | .nilp, b, h => by cases b <;> simp [sameA] at h; rfl
  | .slc b o n c s e, x, h => by cases x <;> simp [sameA] at h; obtain ⟨⟨⟨⟨⟨h1, h2⟩, h3⟩, h4⟩, h5⟩, h6⟩ := h; subst h1 h2 h3 h4 h5 h6; rfl
  | .slc0 n x, b, h => by cases b <;> simp [sameA] at h; rw [h.1, h.2]
  | .nils, b, h => by cases b <;> simp [sameA] at h; rfl
  | .map n, b, h => by cases b <;> simp [sameA] at h; rw [h]
  | .nilm, b, h => by cases b <;> simp [sameA] at h; rfl
  | .fn f x y, b, h => by
    cases b <;> simp [sameA] at h
    obtain ⟨⟨h1, h2⟩, h3⟩ := h
    rw [h1, sameL_eq _ _ h2, sameL_eq _ _ h3]
  | .nilf, b, h => by cases b <;> simp [sameA] at h; rfl
  | .ifc t v, b, h => by
    cases b <;> simp [sameA] at h
    rw [h.1, sameA_eq _ _ h.2]
  | .nili, b, h => by cases b <;> simp [sameA] at h; rfl
  | .agg l, b, h => by
    cases b <;> simp [sameA] at h
    rw [sameL_eq _ _ h]
  | .tup l, b, h => by
    cases b <;> simp [sameA] at h
    rw [sameL_eq _ _ h]
  | .stamp n x, b, h => by cases b <;> simp [sameA] at h; rw [h.1, h.2]
theorem sameL_eq : ∀ (a b : List AV), sameL a b = true → a = b
  | [], b, h => by cases b <;> simp [sameL] at h; rfl
  | x :: l, b, h => by
    cases b <;> simp [sameL] at h
    rw [sameA_eq _ _ h.1, sameL_eq _ _ h.2]
end

section
variable {P : Program} {μ : Inj} {H : AH} {w : World}

theorem run_stays (old new : Value) (w : World) : ∃ k w1, (Instr.keyThatStays old new).run P w = .ok k w1 ∧ (k = old ∨ k = new) ∧ w1.heap = w.heap ∧ w1.os = w.os ∧ w1.output = w.output := by
  unfold Instr.keyThatStays
  split
  · exact ⟨new, w, rfl, .inr rfl, rfl, rfl, rfl⟩
  · simp only [Sem.run_bind, run_choose]
    refine ⟨_, { w with drawn := w.drawn + 1 }, rfl, ?_, rfl, rfl, rfl⟩
    split
    · exact .inr rfl
    · exact .inl rfl

/-- A map's entries turned. -/
theorem Ext.of_map (h : HRel μ H w) {b : Nat} {es es' : List (AV × AV × Nat)} {clock clock' : Nat} (hb : H.get b = some (.mp es clock)) {β δ r : Nat} (hμ : μ b = some (β, δ, r)) {w' : World} {ces' : Array MapEntry} {cclock' : Nat} (μ' : Inj)
    (hloc : μ'.loc = μ.loc) (hst : ∀ b' s n, μ.st b' s = some n → μ'.st b' s = some n) (hoth : ∀ b' s, b' ≠ b → μ'.st b' s = μ.st b' s) (hfr : ∀ s, clock' ≤ s → μ'.st b s = none)
    (hheap : w'.heap = w.heap.setIfInBounds β (.map ces' cclock')) (hos : w'.os = w.os) (hout : w'.output = w.output)
    (hp : ∃ p, List.Perm p ces'.toList ∧ MRel μ' b es' p) (hn : (ces'.toList.map (·.born)).Nodup) (hc : ∀ e ∈ ces'.toList, e.born < cclock') :
    Ext μ H w μ' (H.set b (.mp es' clock')) w' := by
  have hb0 := AH.get_lt hb
  have hle : μ.le μ' := ⟨fun b' x hx => by rw [hloc]; exact hx, hst⟩
  obtain ⟨ces, cclock, hg, _⟩ := h.mp hb hμ
  have hβ := (Array.getElem?_eq_some_iff.1 hg).1
  have hother : ∀ β', β' ≠ β → w'.heap[β']? = w.heap[β']? := fun β' hne => by rw [hheap, Array.getElem?_setIfInBounds_ne (fun e => hne e.symm)]
  have hback : ∀ b', ((H.set b (.mp es' clock')).get b').isSome = true → (H.get b').isSome = true := by
    intro b' hs
    rw [AH.get_set] at hs
    split at hs
    · rename_i e; rw [e.1]; simp [hb]
    · exact hs
  have hbn : b < H.next := by
    rcases Nat.lt_or_ge b H.next with hl | hl
    · exact hl
    · rw [(h.fresh b hl).1] at hμ; cases hμ
  refine ⟨hle, ⟨fun b' o'' hg' => ?_, fun b1 b2 β' δ1 r1 δ2 r2 h1 h2 h3 h4 => ?_, fun b' hb' => ⟨?_, fun s => ?_⟩, fun b' es'' cl hg' s hs => ?_⟩, by rw [hheap]; simp, Nat.le_refl _, fun b' _ hs => hback b' hs, fun b' β' δ' r' h1 h2 => ?_,
    fun β' hβ' hi => hother β' fun e => hi ⟨b, δ, r, by simp [hb], by rw [e]; exact hμ⟩, hos, hout, fun b' s x h1 h2 => ?_⟩
  · rw [AH.get_set] at hg'
    split at hg'
    · rename_i e; rw [e.1]; injection hg' with hg'; subst hg'
      exact ⟨β, δ, r, by rw [hloc]; exact hμ, ces', cclock', by rw [hheap]; simp [hβ], hp, hn, hc⟩
    · rename_i hne
      obtain ⟨β', δ', r', hμ', hr⟩ := h.obj b' o'' hg'
      refine ⟨β', δ', r', by rw [hloc]; exact hμ', hr.keep hle (hother β' fun e => ?_)⟩
      subst e
      exact hne ⟨h.inj b' b β' δ' r' δ r (by simp [hg']) (by simp [hb]) hμ' hμ, hb0⟩
  · rw [hloc] at h3 h4
    exact h.inj b1 b2 β' δ1 r1 δ2 r2 (hback _ h1) (hback _ h2) h3 h4
  · rw [hloc]; exact (h.fresh b' hb').1
  · rw [hoth b' s (by simp only [AH.set] at hb'; omega)]; exact (h.fresh b' hb').2 s
  · rw [AH.get_set] at hg'
    split at hg'
    · rename_i e; injection hg' with hg'; injection hg' with e1 e2; subst e2
      rw [e.1]; exact hfr s hs
    · rename_i hne
      have : b' ≠ b := fun e => hne ⟨e, hb0⟩
      rw [hoth b' s this]; exact h.freshS b' es'' cl hg' s hs
  · rw [hloc] at h2; rw [h1] at h2; cases h2
  · by_cases e : b' = b
    · subst e; exact .inr (by simp [hb])
    · rw [hoth b' s e, h1] at h2; cases h2

theorem run_setMap {r : Nat} {ces : Array MapEntry} {clock : Nat} (h : w.heap[r]? = some (.map ces clock)) (o : Obj) : (setObj r o).run P w = .ok () { w with heap := w.heap.setIfInBounds r o } := by
  simp only [setObj, Sem.run, h]

theorem turnA_some {kt : TypeId} {k v : AV} {ck cv : Value} (hk : VRel μ k ck) (hv : VRel μ v cv) {b : Nat} : ∀ {es es' : List (AV × AV × Nat)} {p : List MapEntry}, MRel μ b es p → turnA (keyEqA P kt) k v es = some (some es') →
    ∃ p1 e p2, p = p1 ++ e :: p2 ∧ At P kt ck p1 e p2 ∧ ∀ key, (key = e.key ∨ key = ck) → MRel μ b es' (p1 ++ { e with key, val := cv } :: p2)
  | [], _, _, .nil, h => by simp [turnA] at h
  | (k', v', s) :: es, _, _, .cons (e := e0) (ces := ces) hk' hv' hs t, h => by
    simp only [turnA] at h
    split at h
    · rename_i hq
      split at h
      · rename_i hn
        simp only [Bool.and_eq_true] at hn
        injection h with h; injection h with h; subst h
        have hkk := sameA_eq _ _ hn.2
        refine ⟨[], e0, ces, rfl, ⟨cmp_rel hk hk' hq, fun x hx => noneA_spec hk t hn.1 x (by simpa using hx)⟩, fun key hkey => ?_⟩
        refine .cons ?_ hv hs t
        rcases hkey with rfl | rfl
        · exact hk'
        · rw [← hkk]; exact hk
      · cases h
    · rename_i hq
      split at h
      · rename_i l hl
        injection h with h; injection h with h; subst h
        obtain ⟨p1, e, p2, rfl, h1, h2⟩ := turnA_some hk hv t hl
        refine ⟨e0 :: p1, e, p2, rfl, ⟨h1.here, fun x hx => ?_⟩, fun key hkey => .cons hk' hv' hs (h2 key hkey)⟩
        rcases List.mem_cons.1 (show x ∈ e0 :: (p1 ++ p2) by simpa using hx) with rfl | hx
        · exact cmp_rel hk hk' hq
        · exact h1.other x (by simpa using hx)
      · rename_i hx
        exact (hx _ h).elim
    · cases h

theorem turnA_none {kt : TypeId} {k v : AV} {ck : Value} (hk : VRel μ k ck) {b : Nat} : ∀ {es : List (AV × AV × Nat)} {p : List MapEntry}, MRel μ b es p → turnA (keyEqA P kt) k v es = some none → ∀ e ∈ p, Cmp P kt ck e.key false
  | [], _, .nil, _, e, he => by simp at he
  | _ :: _, _, .cons hk' hv hs t, h, e, he => by
    simp only [turnA] at h
    split at h
    · split at h <;> cases h
    · rename_i hq
      split at h
      · cases h
      · rcases List.mem_cons.1 he with rfl | he
        · exact cmp_rel hk hk' hq
        · exact turnA_none hk t h e he
    · cases h

theorem MRel.snoc {μ' : Inj} (le : μ.le μ') {b : Nat} {k v : AV} {s : Nat} {e : MapEntry} (hk : VRel μ' k e.key) (hv : VRel μ' v e.val) (hs : μ'.st b s = some e.born) :
    ∀ {es : List (AV × AV × Nat)} {p : List MapEntry}, MRel μ b es p → MRel μ' b (es ++ [(k, v, s)]) (p ++ [e])
  | _, _, .nil => .cons hk hv hs .nil
  | _, _, .cons h1 h2 h3 t => .cons (h1.mono le) (h2.mono le) (le.2 _ _ _ h3) (MRel.snoc le hk hv hs t)

def Inj.stamp (μ : Inj) (b s n : Nat) : Inj := ⟨μ.loc, fun b' s' => if b' = b ∧ s' = s then some n else μ.st b' s'⟩

theorem list_modify_mid (f : MapEntry → MapEntry) (e : MapEntry) (c2 : List MapEntry) : ∀ c1 : List MapEntry, (c1 ++ e :: c2).modify c1.length f = c1 ++ f e :: c2
  | [] => by simp
  | x :: c1 => by simp [list_modify_mid f e c2 c1]

theorem modify_mid {c1 c2 : List MapEntry} {e : MapEntry} (f : MapEntry → MapEntry) (ces : Array MapEntry) (h : ces.toList = c1 ++ e :: c2) : (ces.modify c1.length f).toList = c1 ++ f e :: c2 := by
  rw [Array.toList_modify, h, list_modify_mid]

/-- What a writing operation does. -/
def WOk (P : Program) (μ : Inj) (H : AH) (w : World) (s : Sem Unit) (H' : AH) : Prop := ∃ μ' w', s.run P w = .ok () w' ∧ Ext μ H w μ' H' w'

set_option maxHeartbeats 1000000 in
theorem mapUpdA_rel (h : HRel μ H w) {t : TypeId} {m k v : AV} {cm ck cv : Value} {H' : AH} (hm : VRel μ m cm) (hk : VRel μ k ck) (hv : VRel μ v cv) (hu' : mapUpdA P H t m k v = some H') :
    WOk P μ H w (Instr.mapUpdate t cm ck cv) H' := by
  unfold mapUpdA at hu'
  split at hu'
  · rename_i kt et b hu
    cases hm with
    | map hμ =>
      rename_i β δ r
      split at hu'
      · cases hu'
      · rename_i hck
        have hck : checkA P 10000 kt k = true := by simpa using hck
        obtain ⟨d, hd⟩ := checkA_und hck
        split at hu'
        · rename_i es clock hb
          obtain ⟨ces, cclock, hg, ⟨p, hp, hr⟩, hn, hc⟩ := h.mp hb hμ
          have start : (Instr.mapUpdate t (.map (some β)) ck cv).run P w = ((Instr.findKey kt ck ces.toList).run P w).andThen fun x w' => (match x with
              | some (i, _) => do
                let key ← Instr.keyThatStays (((ces[i]?).map (·.key)).getD ck) ck
                setObj β (.map (ces.modify i fun e => { e with key, val := cv }) cclock)
              | none => setObj β (.map (ces.push { key := ck, val := cv, born := cclock }) (cclock + 1)) : Sem Unit).run P w' := by
            simp only [Instr.mapUpdate, Sem.run_bind, run_und hu, Result.andThen_ok, run_getMap hg, run_checkKey _ 10000 hk hck]
            congr 1
          split at hu'
          · rename_i es' ht
            injection hu' with hu'; subst hu'
            obtain ⟨p1, e, p2, rfl, hat, hnew⟩ := turnA_some hk hv hr ht
            obtain ⟨c1, c2, hces, hperm, hat2⟩ := hat.perm hp
            rw [hces] at hn
            have hfind := hat2.first hn hd w
            rw [← hces] at hfind
            obtain ⟨key, w1, hs1, hkey, hh1, ho1, hou1⟩ := run_stays (P := P) e.key ck w
            have hei : ces[c1.length]? = some e := by rw [← Array.getElem?_toList, hces]; simp
            have hg1 : w1.heap[β]? = some (.map ces cclock) := by rw [hh1]; exact hg
            refine ⟨μ, _, ?_, Ext.of_map h hb hμ (w' := { w1 with heap := w1.heap.setIfInBounds β (.map (ces.modify c1.length fun e => { e with key, val := cv }) cclock) }) μ rfl (fun _ _ _ h => h) (fun _ _ _ => rfl) (h.freshS b es clock hb)
              (ces' := ces.modify c1.length fun e => { e with key, val := cv }) (cclock' := cclock) (by simp [hh1]) ho1 hou1 ⟨_, ?_, hnew key hkey⟩ ?_ ?_⟩
            · rw [start, hfind]
              simp only [Result.andThen_ok, hei, Option.map_some, Option.getD_some, Sem.run_bind, hs1, run_setMap hg1]
            · rw [modify_mid _ _ hces]
              exact List.perm_middle.trans ((hperm.cons _).trans List.perm_middle.symm)
            · rw [modify_mid _ _ hces]; simpa using hn
            · rw [modify_mid _ _ hces]
              intro x hx
              have hc := fun y hy => hc y (hces ▸ hy)
              rcases List.mem_append.1 hx with hx | hx
              · exact hc x (List.mem_append_left _ hx)
              · rcases List.mem_cons.1 hx with rfl | hx
                · exact hc e (by simp)
                · exact hc x (by simp [hx])
          · rename_i ht
            injection hu' with hu'; subst hu'
            have hnone := turnA_none hk hr ht
            have hfind := run_find_none (fun e he => hnone e (hp.mem_iff.2 he)) hd w
            have hfs := h.freshS b es clock hb
            let μ' := μ.stamp b clock cclock
            have hst : ∀ b' s n, μ.st b' s = some n → μ'.st b' s = some n := by
              intro b' s n hs
              show (if b' = b ∧ s = clock then some cclock else μ.st b' s) = some n
              split
              · rename_i e; rw [e.1, e.2, hfs clock (Nat.le_refl _)] at hs; cases hs
              · exact hs
            have hle : μ.le μ' := ⟨fun _ _ h => h, hst⟩
            refine ⟨μ', _, ?_, Ext.of_map h hb hμ (w' := { w with heap := w.heap.setIfInBounds β (.map (ces.push { key := ck, val := cv, born := cclock }) (cclock + 1)) }) μ' rfl hst (fun b' s hne => ?_) (fun s hs => ?_)
              (ces' := ces.push { key := ck, val := cv, born := cclock }) (cclock' := cclock + 1) rfl rfl rfl ⟨p ++ [{ key := ck, val := cv, born := cclock }], ?_, ?_⟩ ?_ ?_⟩
            · rw [start, hfind]
              simp only [Result.andThen_ok, run_setMap hg]
            · show (if b' = b ∧ s = clock then some cclock else μ.st b' s) = μ.st b' s
              rw [if_neg (fun e => hne e.1)]
            · show (if b = b ∧ s = clock then some cclock else μ.st b s) = none
              rw [if_neg (by omega)]; exact hfs s (by omega)
            · rw [Array.toList_push]; exact hp.append_right _
            · exact MRel.snoc (μ' := μ') (s := clock) (e := { key := ck, val := cv, born := cclock }) hle (hk.mono hle) (hv.mono hle) (by show (if b = b ∧ clock = clock then some cclock else μ.st b clock) = some cclock; simp) hr
            · rw [Array.toList_push, List.map_append, List.nodup_append]
              refine ⟨hn, by simp, ?_⟩
              intro x hx y hy
              simp only [List.map_cons, List.map_nil, List.mem_singleton] at hy
              obtain ⟨e, he, rfl⟩ := List.mem_map.1 hx
              have := hc e he; omega
            · rw [Array.toList_push]
              intro x hx
              rcases List.mem_append.1 hx with hx | hx
              · have := hc x hx; omega
              · simp only [List.mem_singleton] at hx; subst hx; exact Nat.lt_succ_self _
          · cases hu'
        · cases hu'
  · cases hu'

theorem entA_some {kt : TypeId} {k v : AV} {s : Nat} {ck : Value} (hk : VRel μ k ck) {b : Nat} : ∀ {es : List (AV × AV × Nat)} {p : List MapEntry}, MRel μ b es p → entA (keyEqA P kt) k es = some (some (v, s)) →
    ∃ p1 e p2, p = p1 ++ e :: p2 ∧ VRel μ v e.val ∧ μ.st b s = some e.born ∧ At P kt ck p1 e p2 ∧ ∀ key, (key = e.key ∨ key = ck) → MRel μ b es (p1 ++ { e with key } :: p2)
  | [], _, .nil, h => by simp [entA] at h
  | (k', v', s') :: es, _, .cons (e := e0) (ces := ces) hk' hv' hs t, h => by
    simp only [entA] at h
    split at h
    · rename_i hq
      split at h
      · rename_i hn
        simp only [Bool.and_eq_true] at hn
        injection h with h; injection h with h; injection h with h1 h2; subst h1 h2
        have hkk := sameA_eq _ _ hn.2
        refine ⟨[], e0, ces, rfl, hv', hs, ⟨cmp_rel hk hk' hq, fun x hx => noneA_spec hk t hn.1 x (by simpa using hx)⟩, fun key hkey => ?_⟩
        refine .cons ?_ hv' hs t
        rcases hkey with rfl | rfl
        · exact hk'
        · rw [← hkk]; exact hk
      · cases h
    · rename_i hq
      obtain ⟨p1, e, p2, rfl, h1, h2, h3, h4⟩ := entA_some hk t h
      refine ⟨e0 :: p1, e, p2, rfl, h1, h2, ⟨h3.here, fun x hx => ?_⟩, fun key hkey => .cons hk' hv' hs (h4 key hkey)⟩
      rcases List.mem_cons.1 (show x ∈ e0 :: (p1 ++ p2) by simpa using hx) with rfl | hx
      · exact cmp_rel hk hk' hq
      · exact h3.other x (by simpa using hx)
    · cases h

theorem entA_none {kt : TypeId} {k : AV} {ck : Value} (hk : VRel μ k ck) {b : Nat} : ∀ {es : List (AV × AV × Nat)} {p : List MapEntry}, MRel μ b es p → entA (keyEqA P kt) k es = some none → ∀ e ∈ p, Cmp P kt ck e.key false
  | [], _, .nil, _, e, he => by simp at he
  | _ :: _, _, .cons hk' hv hs t, h, e, he => by
    simp only [entA] at h
    split at h
    · split at h <;> cases h
    · rename_i hq
      rcases List.mem_cons.1 he with rfl | he
      · exact cmp_rel hk hk' hq
      · exact entA_none hk t h e he
    · cases h

/-- What an operation that yields a value does. -/
def VOk (P : Program) (μ : Inj) (H : AH) (w : World) (s : Sem Value) (v : AV) (H' : AH) : Prop := ∃ μ' w' c, s.run P w = .ok c w' ∧ Ext μ H w μ' H' w' ∧ VRel μ' v c

theorem bornsLt {c1 c2 : List MapEntry} {e : MapEntry} {n : Nat} (f : MapEntry → MapEntry) (hf : (f e).born = e.born) (hc : ∀ x ∈ c1 ++ e :: c2, x.born < n) : ∀ x ∈ c1 ++ f e :: c2, x.born < n := by
  intro x hx
  rcases List.mem_append.1 hx with hx | hx
  · exact hc x (List.mem_append_left _ hx)
  · rcases List.mem_cons.1 hx with rfl | hx
    · rw [hf]; exact hc e (by simp)
    · exact hc x (by simp [hx])

set_option maxHeartbeats 1000000 in
theorem mapEntryA_rel (h : HRel μ H w) {t : TypeId} {m k v : AV} {cm ck : Value} {H' : AH} (hm : VRel μ m cm) (hk : VRel μ k ck) (hu' : mapEntryA P H t m k = some (v, H')) :
    VOk P μ H w (Instr.mapEntry t cm ck) v H' := by
  unfold mapEntryA at hu'
  split at hu'
  · rename_i kt et b hu
    cases hm with
    | map hμ =>
      rename_i β δ r
      split at hu'
      · cases hu'
      · rename_i hck
        have hck : checkA P 10000 kt k = true := by simpa using hck
        obtain ⟨d, hd⟩ := checkA_und hck
        split at hu'
        · rename_i es clock z hb hz
          obtain ⟨cz, hcz, hzr⟩ := run_zero (μ := μ) hz
          obtain ⟨ces, cclock, hg, ⟨p, hp, hr⟩, hn, hc⟩ := h.mp hb hμ
          have start : (Instr.mapEntry t (.map (some β)) ck).run P w = ((Instr.findKey kt ck ces.toList).run P w).andThen fun x w' => (match x with
              | some (i, v) => do
                let key ← Instr.keyThatStays (((ces[i]?).map (·.key)).getD ck) ck
                setObj β (.map (ces.modify i fun e => { e with key }) cclock)
                pure (.tuple #[v, goInt (((ces[i]?).map (·.born)).getD 0)])
              | none => do
                let zero ← zeroValue et
                setObj β (.map (ces.push { key := ck, val := zero, born := cclock }) (cclock + 1))
                pure (.tuple #[zero, goInt cclock]) : Sem Value).run P w' := by
            simp only [Instr.mapEntry, Sem.run_bind, run_und hu, Result.andThen_ok, run_getMap hg, run_checkKey _ 10000 hk hck]
            congr 1
          split at hu'
          · rename_i v' s ht
            injection hu' with hu'; injection hu' with e1 e2; subst e1 e2
            obtain ⟨p1, e, p2, rfl, hv, hs, hat, hnew⟩ := entA_some hk hr ht
            obtain ⟨c1, c2, hces, hperm, hat2⟩ := hat.perm hp
            rw [hces] at hn
            have hfind := hat2.first hn hd w
            rw [← hces] at hfind
            obtain ⟨key, w1, hs1, hkey, hh1, ho1, hou1⟩ := run_stays (P := P) e.key ck w
            have hei : ces[c1.length]? = some e := by rw [← Array.getElem?_toList, hces]; simp
            have hg1 : w1.heap[β]? = some (.map ces cclock) := by rw [hh1]; exact hg
            refine ⟨μ, _, _, ?_, Ext.of_map h hb hμ (w' := { w1 with heap := w1.heap.setIfInBounds β (.map (ces.modify c1.length fun e => { e with key }) cclock) }) μ rfl (fun _ _ _ h => h) (fun _ _ _ => rfl) (h.freshS b es clock hb)
              (ces' := ces.modify c1.length fun e => { e with key }) (cclock' := cclock) (by simp [hh1]) ho1 hou1 ⟨_, ?_, hnew key hkey⟩ ?_ ?_, .tup (cs := [e.val, goInt e.born]) (.cons hv (.cons (.stamp hs) .nil))⟩
            · rw [start, hfind]
              simp only [Result.andThen_ok, hei, Option.map_some, Option.getD_some, Sem.run_bind, hs1, run_setMap hg1]
              rfl
            · rw [modify_mid _ _ hces]
              exact List.perm_middle.trans ((hperm.cons _).trans List.perm_middle.symm)
            · rw [modify_mid _ _ hces]; simpa using hn
            · rw [modify_mid _ _ hces]; exact bornsLt (fun e => { e with key }) rfl (fun x hx => hc x (hces ▸ hx))
          · rename_i ht
            injection hu' with hu'; injection hu' with e1 e2; subst e1 e2
            have hnone := entA_none hk hr ht
            have hfind := run_find_none (fun e he => hnone e (hp.mem_iff.2 he)) hd w
            have hfs := h.freshS b es clock hb
            let μ' := μ.stamp b clock cclock
            have hst : ∀ b' s n, μ.st b' s = some n → μ'.st b' s = some n := by
              intro b' s n hs
              show (if b' = b ∧ s = clock then some cclock else μ.st b' s) = some n
              split
              · rename_i e; rw [e.1, e.2, hfs clock (Nat.le_refl _)] at hs; cases hs
              · exact hs
            have hself : μ'.st b clock = some cclock := by show (if b = b ∧ clock = clock then some cclock else μ.st b clock) = some cclock; simp
            have hle : μ.le μ' := ⟨fun _ _ h => h, hst⟩
            refine ⟨μ', _, _, ?_, Ext.of_map h hb hμ (w' := { w with heap := w.heap.setIfInBounds β (.map (ces.push { key := ck, val := cz, born := cclock }) (cclock + 1)) }) μ' rfl hst (fun b' s hne => ?_) (fun s hs => ?_)
              (ces' := ces.push { key := ck, val := cz, born := cclock }) (cclock' := cclock + 1) rfl rfl rfl ⟨p ++ [{ key := ck, val := cz, born := cclock }], ?_, ?_⟩ ?_ ?_, .tup (cs := [cz, goInt cclock]) (.cons (hcz.mono hle) (.cons (.stamp hself) .nil))⟩
            · rw [start, hfind]
              simp only [Result.andThen_ok, Sem.run_bind, hzr, run_setMap hg]
              rfl
            · show (if b' = b ∧ s = clock then some cclock else μ.st b' s) = μ.st b' s
              rw [if_neg (fun e => hne e.1)]
            · show (if b = b ∧ s = clock then some cclock else μ.st b s) = none
              rw [if_neg (by omega)]; exact hfs s (by omega)
            · rw [Array.toList_push]; exact hp.append_right _
            · exact MRel.snoc (μ' := μ') (s := clock) (e := { key := ck, val := cz, born := cclock }) hle (hk.mono hle) (hcz.mono hle) hself hr
            · rw [Array.toList_push, List.map_append, List.nodup_append]
              refine ⟨hn, by simp, ?_⟩
              intro x hx y hy
              simp only [List.map_cons, List.map_nil, List.mem_singleton] at hy
              obtain ⟨e, he, rfl⟩ := List.mem_map.1 hx
              have := hc e he; omega
            · rw [Array.toList_push]
              intro x hx
              rcases List.mem_append.1 hx with hx | hx
              · have := hc x hx; omega
              · simp only [List.mem_singleton] at hx; subst hx; exact Nat.lt_succ_self _
          · cases hu'
        · cases hu'
  · cases hu'

theorem putStamp_some {v : AV} {cv : Value} (hv : VRel μ v cv) {b s n : Nat} (hsn : μ.st b s = some n) : ∀ {es es' : List (AV × AV × Nat)} {p : List MapEntry}, MRel μ b es p → putStamp s v es = some es' →
    ∃ p1 e p2, p = p1 ++ e :: p2 ∧ e.born = n ∧ MRel μ b es' (p1 ++ { e with val := cv } :: p2)
  | [], _, _, .nil, h => by simp [putStamp] at h
  | (k', v', s') :: es, _, _, .cons (e := e0) (ces := ces) hk' hv' hs t, h => by
    simp only [putStamp] at h
    split at h
    · rename_i hq
      subst hq
      injection h with h; subst h
      rw [hsn] at hs; injection hs with hs'
      exact ⟨[], e0, ces, rfl, hs'.symm, .cons hk' hv (by rw [hsn, hs']) t⟩
    · split at h
      · rename_i l hl
        injection h with h; subst h
        obtain ⟨p1, e, p2, rfl, h1, h2⟩ := putStamp_some hv hsn t hl
        exact ⟨e0 :: p1, e, p2, rfl, h1, .cons hk' hv' hs h2⟩
      · cases h

theorem findIdx_mid {n : Nat} {c1 c2 : List MapEntry} {e : MapEntry} (he : e.born = n) (hne : ∀ x ∈ c1, x.born ≠ n) : (c1 ++ e :: c2).findIdx? (fun x => ((x.born : Int) == (n : Int))) = some c1.length := by
  induction c1 with
  | nil => simp [List.findIdx?_cons, he]
  | cons x r ih =>
    have h0 := hne x (List.mem_cons_self ..)
    have h1 : ((x.born : Int) == (n : Int)) = false := by simpa using fun e : (x.born : Int) = n => h0 (by omega)
    simp only [List.cons_append, List.findIdx?_cons, h1]
    rw [ih fun y hy => hne y (List.mem_cons_of_mem _ hy)]
    simp

theorem entryStoreA_rel (h : HRel μ H w) {t : TypeId} {m s v : AV} {cm cs cv : Value} {H' : AH} (hm : VRel μ m cm) (hs : VRel μ s cs) (hv : VRel μ v cv) (hu : entryStoreA H m s v = some H') :
    WOk P μ H w (Instr.entryStore t cm cs cv) H' := by
  unfold entryStoreA at hu
  split at hu
  · rename_i b b' s'
    split at hu
    · rename_i hbb
      subst hbb
      cases hm with
      | map hμ =>
        rename_i β δ r
        cases hs with
        | stamp hst =>
          rename_i n
          split at hu
          · rename_i es clock hb
            split at hu
            · rename_i es' hp'
              injection hu with hu; subst hu
              obtain ⟨ces, cclock, hg, ⟨p, hp, hr⟩, hn, hc⟩ := h.mp hb hμ
              obtain ⟨p1, e, p2, rfl, hen, hnew⟩ := putStamp_some hv hst hr hp'
              have hmem : e ∈ ces.toList := hp.mem_iff.1 (by simp)
              obtain ⟨c1, c2, hces⟩ := List.append_of_mem hmem
              have hperm : List.Perm (p1 ++ p2) (c1 ++ c2) := by
                have h1 : List.Perm (e :: (p1 ++ p2)) (e :: (c1 ++ c2)) := (List.perm_middle.symm.trans (hces ▸ hp)).trans List.perm_middle
                exact (List.perm_cons e).1 h1
              have hne : ∀ x ∈ c1, x.born ≠ n := by
                intro x hx hxe
                rw [hces] at hn
                have h2 : ((e :: (c1 ++ c2)).map (·.born)).Nodup := ((List.perm_middle.map _).nodup_iff).1 hn
                simp only [List.map_cons, List.nodup_cons] at h2
                exact h2.1 (by rw [hen, ← hxe]; exact List.mem_map_of_mem (List.mem_append_left _ hx))
              have hidx : ces.findIdx? (fun x => ((x.born : Int) == (n : Int))) = some c1.length := by
                rw [← findIdx_mid (c2 := c2) hen hne, ← hces]
                rw [← List.findIdx?_toArray]
              refine ⟨μ, _, ?_, Ext.of_map h hb hμ (w' := { w with heap := w.heap.setIfInBounds β (.map (ces.modify c1.length fun e => { e with val := cv }) cclock) }) μ rfl (fun _ _ _ h => h) (fun _ _ _ => rfl) (h.freshS b es clock hb)
                (ces' := ces.modify c1.length fun e => { e with val := cv }) (cclock' := cclock) rfl rfl rfl ⟨_, ?_, hnew⟩ ?_ ?_⟩
              · simp only [Instr.entryStore, Sem.run_bind, run_getMap hg, Result.andThen_ok, asInt, asIntOf, Sem.run_pure, hidx, run_setMap hg]
              · rw [modify_mid _ _ hces]
                exact List.perm_middle.trans ((hperm.cons _).trans List.perm_middle.symm)
              · rw [modify_mid _ _ hces]; rw [hces] at hn; simpa using hn
              · rw [modify_mid _ _ hces]; exact bornsLt (fun e => { e with val := cv }) rfl (fun x hx => hc x (hces ▸ hx))
            · cases hu
          · cases hu
    · cases hu
  · cases hu

end
end Go.Abs

/- Deleting from maps; storing into variables; copying; emptying. -/
namespace Go.Abs

section
variable {P : Program} {μ : Inj} {H : AH} {w : World}

theorem delA_spec {kt : TypeId} {k : AV} {ck : Value} (hk : VRel μ k ck) {b : Nat} : ∀ {es es' : List (AV × AV × Nat)} {p : List MapEntry}, MRel μ b es p → delA (keyEqA P kt) k es = some es' →
    (∃ p1 e p2, p = p1 ++ e :: p2 ∧ At P kt ck p1 e p2 ∧ MRel μ b es' (p1 ++ p2)) ∨ ((∀ e ∈ p, Cmp P kt ck e.key false) ∧ es' = es)
  | [], _, _, .nil, h => by simp only [delA] at h; injection h with h; subst h; exact .inr ⟨by simp, rfl⟩
  | (k', v', s) :: es, _, _, .cons (e := e0) (ces := ces) hk' hv' hs t, h => by
    simp only [delA] at h
    split at h
    · rename_i hq
      split at h
      · rename_i hn
        injection h with h; subst h
        exact .inl ⟨[], e0, ces, rfl, ⟨cmp_rel hk hk' hq, fun x hx => noneA_spec hk t hn x (by simpa using hx)⟩, t⟩
      · cases h
    · rename_i hq
      split at h
      · rename_i l hl
        injection h with h; subst h
        rcases delA_spec hk t hl with ⟨p1, e, p2, rfl, h1, h2⟩ | ⟨h1, h2⟩
        · refine .inl ⟨e0 :: p1, e, p2, rfl, ⟨h1.here, fun x hx => ?_⟩, .cons hk' hv' hs h2⟩
          rcases List.mem_cons.1 (show x ∈ e0 :: (p1 ++ p2) by simpa using hx) with rfl | hx
          · exact cmp_rel hk hk' hq
          · exact h1.other x (by simpa using hx)
        · refine .inr ⟨fun e he => ?_, by rw [h2]⟩
          rcases List.mem_cons.1 he with rfl | he
          · exact cmp_rel hk hk' hq
          · exact h1 e he
      · cases h
    · cases h

theorem erase_mid {c1 c2 : List MapEntry} {e : MapEntry} (ces : Array MapEntry) (h : ces.toList = c1 ++ e :: c2) : (ces.eraseIdxIfInBounds c1.length).toList = c1 ++ c2 := by
  have hlt : c1.length < ces.size := by
    have := congrArg List.length h; simp at this; omega
  rw [Array.eraseIdxIfInBounds, dif_pos hlt, Array.toList_eraseIdx, h, List.eraseIdx_append_of_length_le (Nat.le_refl _)]
  simp

/-- A writing built-in: it yields nothing. -/
def UOk (P : Program) (μ : Inj) (H : AH) (w : World) (s : Sem Value) (H' : AH) : Prop := ∃ μ' w', s.run P w = .ok (.tuple #[]) w' ∧ Ext μ H w μ' H' w'

theorem deleteA_rel (h : HRel μ H w) {ats : Array TypeId} {ty : TypeId} {m k : AV} {cm ck : Value} {H' : AH} (hm : VRel μ m cm) (hk : VRel μ k ck) (hu' : deleteA P H ats m k = some H') :
    UOk P μ H w (Builtin.delete_ ats ty #[cm, ck]) H' := by
  unfold deleteA at hu'
  split at hu'
  · cases hu'
  · rename_i t hat
    split at hu'
    · rename_i kt et hu
      cases hm
      split at hu'
      · rename_i hck
        injection hu' with hu'; subst hu'
        refine ⟨μ, w, ?_, Ext.refl h⟩
        simp only [Builtin.delete_, hat, List.getElem?_toArray, List.getElem?_cons_zero, List.getElem?_cons_succ, Sem.run_bind, run_und hu, Result.andThen_ok, run_checkKey _ 10000 hk hck, Sem.run_pure]
      · cases hu'
    · rename_i kt et b hu
      cases hm with
      | map hμ =>
        rename_i β δ r
        split at hu'
        · cases hu'
        · rename_i hck
          have hck : checkA P 10000 kt k = true := by simpa using hck
          obtain ⟨d, hd⟩ := checkA_und hck
          split at hu'
          · rename_i es clock hb
            split at hu'
            · rename_i es' hdel
              injection hu' with hu'; subst hu'
              obtain ⟨ces, cclock, hg, ⟨p, hp, hr⟩, hn, hc⟩ := h.mp hb hμ
              rcases delA_spec hk hr hdel with ⟨p1, e, p2, rfl, hat', hnew⟩ | ⟨hnone, rfl⟩
              · obtain ⟨c1, c2, hces, hperm, hat2⟩ := hat'.perm hp
                have hn' := hn
                rw [hces] at hn'
                have hfind := hat2.first hn' hd w
                rw [← hces] at hfind
                have hl := erase_mid ces hces
                refine ⟨μ, _, ?_, Ext.of_map h hb hμ (w' := { w with heap := w.heap.setIfInBounds β (.map (ces.eraseIdxIfInBounds c1.length) cclock) }) μ rfl (fun _ _ _ h => h) (fun _ _ _ => rfl) (h.freshS b es clock hb)
                  (ces' := ces.eraseIdxIfInBounds c1.length) (cclock' := cclock) rfl rfl rfl ⟨_, ?_, hnew⟩ ?_ ?_⟩
                · simp only [Builtin.delete_, hat, List.getElem?_toArray, List.getElem?_cons_zero, List.getElem?_cons_succ, Sem.run_bind, run_und hu, Result.andThen_ok, run_getMap hg, run_checkKey _ 10000 hk hck, hfind, run_setMap hg, Sem.run_pure]
                · rw [hl]; exact hperm
                · rw [hl]
                  have h2 : ((e :: (c1 ++ c2)).map (·.born)).Nodup := ((List.perm_middle.map _).nodup_iff).1 hn'
                  simp only [List.map_cons, List.nodup_cons] at h2; exact h2.2
                · rw [hl]; intro x hx
                  refine hc x (hces ▸ ?_)
                  rcases List.mem_append.1 hx with hx | hx
                  · exact List.mem_append_left _ hx
                  · exact List.mem_append_right _ (List.mem_cons_of_mem _ hx)
              · have hfind := run_find_none (fun e he => hnone e (hp.mem_iff.2 he)) hd w
                refine ⟨μ, _, ?_, Ext.of_map h hb hμ (w' := { w with heap := w.heap.setIfInBounds β (.map ces cclock) }) μ rfl (fun _ _ _ h => h) (fun _ _ _ => rfl) (h.freshS b _ clock hb)
                  (ces' := ces) (cclock' := cclock) rfl rfl rfl ⟨_, hp, hr⟩ hn hc⟩
                simp only [Builtin.delete_, hat, List.getElem?_toArray, List.getElem?_cons_zero, List.getElem?_cons_succ, Sem.run_bind, run_und hu, Result.andThen_ok, run_getMap hg, run_checkKey _ 10000 hk hck, hfind, run_setMap hg, Sem.run_pure]
            · cases hu'
          · cases hu'
    · cases hu'

/-! ## Storing -/

theorem cellsX_rel {μ : Inj} {H : AH} {b : Nat} {v : AV} {c : Value} {m : List AV} (hv : VRel μ v c) (h : cellsX H b v = some m) : Row μ m c.cells.toList := by
  unfold cellsX at h
  split at h
  · exact cellsB_rel hv h
  · exact cellsB_rel hv h
  · cases h


theorem storeA_rel (h : HRel μ H w) {t : TypeId} {b o : Nat} {v : AV} {c cv : Value} {H' : AH} (hp : VRel μ (.ptr b o) c) (hv : VRel μ v cv) (hs : storeA P H t b o v = some H') :
    WOk P μ H w (Instr.storeAt t c cv) H' := by
  cases hp with
  | ptr hμ =>
    rename_i β δ r
    unfold storeA at hs
    split at hs
    · rename_i k l s hb hc hsz
      split at hs
      · rename_i hlen
        split at hs
        · rename_i k' hw
          injection hs with hs; subst hs
          have hr := cellsX_rel hv hc
          obtain ⟨w', hrun, hext⟩ := rel_store (P := P) h hμ hb hw (by rw [← clen_eq]; exact hlen) hr.1 hr.2
          refine ⟨μ, w', ?_, hext⟩
          have hl := hr.len
          rw [hlen] at hl
          simp only [Instr.storeAt, Instr.sureAddr, Sem.run_bind, Sem.run_pure, Result.andThen_ok, storeVar, run_size hsz]
          rw [if_neg (by simpa using hl)]
          exact hrun
        · cases hs
      · cases hs
    · cases hs

/-! ## Sources of elements -/

theorem srcLen_rel {x : AV} {c : Value} {n : Nat} (hx : VRel μ x c) (h : srcLen x = some n) (w : World) : (Builtin.lenOf c).run P w = .ok n w := by
  unfold srcLen at h
  split at h
  · cases hx; injection h with h; subst h; rfl
  · cases hx; injection h with h; subst h; rfl
  · cases hx; injection h with h; subst h; rfl
  · cases hx with
    | str _ _ s hs => injection h with h; subst h; simp only [Builtin.lenOf, Sem.run_pure, str_size hs]
  · cases h

theorem srcCells_rel' (h : HRel μ H w) {s n : Nat} {x : AV} {c : Value} {l : List AV} (hx : VRel μ x c) (hl : srcCells H s n x = some l) :
    ∃ cs : List Value, (∀ w' : World, w'.heap = w.heap → (Builtin.firstCells s n c).run P w' = .ok cs.toArray w') ∧ Row μ l cs ∧ cs.length = n * s := by
  unfold srcCells at hl
  split at hl
  · split at hl
    · rename_i hn
      injection hl with hl; subst hl
      cases hx
      exact ⟨[], fun _ _ => rfl, ⟨.nil, by simp [expand]⟩, by simp [hn]⟩
    · cases hl
  · split at hl
    · rename_i hn
      injection hl with hl; subst hl
      cases hx with
      | slc0 hμ hr =>
        refine ⟨[], ?_, ⟨.nil, by simp [expand]⟩, by simp [hn]⟩
        subst hn
        intro w' _
        simp only [Builtin.firstCells, Nat.zero_mul]
        rfl
    · cases hl
  · split at hl
    · rename_i hc
      obtain ⟨rfl, hnm⟩ := hc
      split at hl
      · rename_i k hb
        cases hx with
        | slc hμ =>
          obtain ⟨cs, h1, h2, h3, h4⟩ := rel_cells h hμ hb hl
          refine ⟨cs, fun w' hw' => ?_, ⟨h3, h4⟩, h1⟩
          simp only [Builtin.firstCells]
          rw [← h1]
          exact run_loadCells_list w' _ cs fun j v hj => by
            rw [Addr.add_mk, Nat.add_assoc]
            have := h2 j v hj
            simp only [World.cell?, hw'] at this ⊢
            exact this
      · cases hl
    · cases hl
  · rename_i m v
    split at hl
    · rename_i hc
      obtain ⟨rfl, hnm⟩ := hc
      injection hl with hl; subst hl
      cases hx with
      | str _ _ u hu =>
        have e : (u.extract 0 n).data.toList = (bytesL n (shr8 v (m - n))).map UInt8.ofNat := by
          have := str_cut (l := 0) hu hnm
          rw [Nat.sub_zero, mod8_eq, bytesL_mod] at this; exact this
        refine ⟨(bytesL n (shr8 v (m - n))).map fun (b : Nat) => Value.int .u8 (b : Int), ?_, ⟨?_, ?_⟩, by simp⟩
        · intro w' _
          simp only [Builtin.firstCells, Sem.run_pure]
          congr 1
          apply Array.toList_inj.1
          rw [Array.toList_map, e, List.map_map]
          apply List.map_congr_left
          intro b hb
          have := bytesL_lt _ _ b hb
          simp [Nat.mod_eq_of_lt this]
        · simp only [expand, List.append_nil]; exact LRel.run _ _
        · intro x hx
          simp only [expand, List.append_nil, runCells, List.mem_map] at hx
          obtain ⟨b, _, rfl⟩ := hx; rfl
    · cases hl
  · cases hl

theorem srcCells_rel (h : HRel μ H w) {s n : Nat} {x : AV} {c : Value} {l : List AV} (hx : VRel μ x c) (hl : srcCells H s n x = some l) :
    ∃ cs : List Value, (Builtin.firstCells s n c).run P w = .ok cs.toArray w ∧ Row μ l cs ∧ cs.length = n * s :=
  let ⟨cs, h1, h2, h3⟩ := srcCells_rel' (P := P) h hx hl
  ⟨cs, h1 w rfl, h2, h3⟩

theorem zero_int0 {n : Nat} : VRel μ (.int .i64 0) (goInt 0) := by
  have := VRel.int (μ := μ) .i64 0 (by decide)
  exact this

theorem run_storeCells_nil (a : Addr) (w : World) : (storeCells a []).run P w = .ok () w := by simp [storeCells]

theorem intA_rel' {n : Nat} {r : AV} (h : intA n = some r) : VRel μ r (goInt n) := intA_rel h

theorem copyA_rel (h : HRel μ H w) {ats : Array TypeId} {ty : TypeId} {d x v : AV} {cd cx : Value} {H' : AH} (hd : VRel μ d cd) (hx : VRel μ x cx) (hc : copyA P H ats d x = some (v, H')) :
    VOk P μ H w (Builtin.copy_ ats ty #[cd, cx]) v H' := by
  unfold copyA at hc
  split at hc
  · cases hc
  · rename_i t hat
    split at hc
    · rename_i e hu
      split at hc
      · cases hc
      · rename_i s hs
        split at hc
        · rename_i a b' ha hb'
          dsimp only at hc
          split at hc
          · cases hc
          · rename_i new hnew
            obtain ⟨cs, hcs, hrow, hlen⟩ := srcCells_rel (P := P) h hx hnew
            have hla := srcLen_rel (P := P) hx ha w
            have run : ∀ base cap, (Builtin.copy_ ats ty #[.slice base b' cap, cx]).run P w =
                (match base with | some a => (storeCells a cs).run P w | none => .ok () w).andThen fun _ w' => .ok (goInt (min a b' : Nat)) w' := by
              intro base cap
              simp only [Builtin.copy_, hat, List.getElem?_toArray, List.getElem?_cons_zero, List.getElem?_cons_succ, Sem.run_bind, run_und hu, Result.andThen_ok, hla, run_size hs]
              rw [show Nat.min a b' = min a b' from rfl, hcs]
              cases base <;> simp [Result.andThen]
            have nothing : min a b' = 0 → v = .int .i64 0 → H' = H → (∃ base cap, cd = .slice base b' cap) → VOk P μ H w (Builtin.copy_ ats ty #[cd, cx]) v H' := by
              rintro h0 rfl rfl ⟨base, cap, rfl⟩
              have hnil : cs = [] := by rw [h0] at hlen; exact List.eq_nil_of_length_eq_zero (by simpa using hlen)
              refine ⟨μ, w, goInt 0, ?_, Ext.refl h, zero_int0 (n := 0)⟩
              rw [run, hnil, h0]
              cases base <;> simp [run_storeCells_nil, Result.andThen]
            split at hc
            · rename_i h0
              injection hc with hc; injection hc with hc1 hc2
              refine nothing h0 hc1.symm hc2.symm ?_
              unfold dstLen at hb'
              split at hb'
              · cases hd; injection hb' with hb'; subst hb'; exact ⟨_, _, rfl⟩
              · cases hd; injection hb' with hb'; subst hb'; exact ⟨_, _, rfl⟩
              · cases hd; injection hb' with hb'; subst hb'; exact ⟨_, _, rfl⟩
              · cases hb'
            · rename_i h0
              split at hc
              · rename_i b o n1 c1 s' ex
                split at hc
                · rename_i hss; subst hss
                  split at hc
                  · rename_i k hb
                    split at hc
                    · rename_i k' r hw hr
                      injection hc with hc; injection hc with hc1 hc2; subst hc1 hc2
                      simp only [dstLen] at hb'; injection hb' with hb'; subst hb'
                      cases hd with
                      | slc hμ =>
                        obtain ⟨w', hrun, hext⟩ := rel_store (P := P) h hμ hb hw (by rw [hrow.1.length, hlen]) hrow.1 hrow.2
                        refine ⟨μ, w', _, ?_, hext, intA_rel' hr⟩
                        rw [run]
                        simp [hrun, Result.andThen]
                    · cases hc
                  · cases hc
                · cases hc
              · cases hc
        · cases hc
    · cases hc

end
end Go.Abs
