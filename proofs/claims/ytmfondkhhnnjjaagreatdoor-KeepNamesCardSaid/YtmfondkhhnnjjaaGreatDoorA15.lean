/- Reading memory: variables, and rows of bytes as texts. -/
import Derived.Test.YtmfondkhhnnjjaaGreatDoorA13

namespace Go.Abs

section
variable {P : Program} {μ : Inj} {H : AH} {w : World}

theorem loadA_rel (h : HRel μ H w) {t : TypeId} {b o : Nat} {v : AV} {β δ r : Nat} (hμ : μ b = some (β, δ, r)) (hl : loadA P H t b o = some v) :
    ∃ c, VRel μ v c ∧ (loadVar t ⟨β, δ + o, none⟩).run P w = .ok c w := by
  have agg : ∀ {d : TypeDesc} {s : Nat} {k : Blk} {l : List AV}, P.underlying t = some d → isAggD d = true → H.get b = some (.blk k) → sizeA P t = some s → k.rd o s = some l →
      ∃ c, VRel μ (.agg l) c ∧ (loadVar t ⟨β, δ + o, none⟩).run P w = .ok c w := by
    intro d s k l hu hd hb hs hk
    obtain ⟨cs, h1, h2, h3, h4⟩ := rel_loadN (P := P) h hμ hb hk
    refine ⟨_, .agg h3 h4, ?_⟩
    simp only [loadVar, Sem.run_bind, run_agg hu, Result.andThen_ok, hd, if_true, run_size hs, h2]
    rfl
  unfold loadA at hl
  split at hl
  · rename_i k hb
    split at hl
    · rename_i fs hu
      split at hl
      · rename_i s hs
        split at hl
        · rename_i l hk; injection hl with hl; subst hl; exact agg hu rfl hb hs hk
        · cases hl
      · cases hl
    · rename_i n e hu
      split at hl
      · rename_i s hs
        split at hl
        · rename_i l hk; injection hl with hl; subst hl; exact agg hu rfl hb hs hk
        · cases hl
      · cases hl
    · rename_i d hns hna hu
      obtain ⟨c, h1, h2, _⟩ := rel_load1 (P := P) h hμ hb hl
      have hf : isAggD d = false := by
        cases d <;> first | rfl | exact (hns _ rfl).elim | exact (hna _ _ rfl).elim
      refine ⟨c, h2, ?_⟩
      simp only [loadVar, Sem.run_bind, run_agg hu, Result.andThen_ok, hf, Bool.false_eq_true, if_false, h1]
    · cases hl
  · cases hl

theorem loadAt_rel (h : HRel μ H w) {t : TypeId} {b o : Nat} {v : AV} {c : Value} (hc : VRel μ (.ptr b o) c) (hl : loadA P H t b o = some v) :
    ∃ c', VRel μ v c' ∧ (Instr.loadAt t c).run P w = .ok c' w := by
  cases hc with
  | ptr hμ =>
    obtain ⟨c', h1, h2⟩ := loadA_rel h hμ hl
    exact ⟨c', h1, by simp only [Instr.loadAt, Instr.sureAddr, Sem.run_bind, Sem.run_pure, Result.andThen_ok, h2]⟩

/-! ## Bytes as a text -/

theorem bytesOf_rel : ∀ {l : List AV} {cs : List Value} {n x : Nat}, LRel μ (expand l) cs → bytesOf l = some (n, x) → cs = (bytesL n x).map fun (b : Nat) => Value.int .u8 (b : Int)
  | [], cs, n, x, hr, h => by
    simp only [bytesOf] at h; injection h with h; injection h with h1 h2; subst h1 h2
    simp only [expand] at hr; cases hr; rfl
  | v :: r, cs, n, x, hr, h => by
    unfold bytesOf at h
    split at h
    · rename_i e; cases e
    · rename_i m y r' e; injection e with e1 e2; subst e1 e2
      split at h
      · rename_i m' y' hb
        injection h with h; injection h with h1 h2; subst h1 h2
        simp only [expand] at hr
        have hl := hr.length
        simp at hl
        have h1 : LRel μ (runCells m y) (cs.take m) := by
          have := hr.take m
          rwa [List.take_append_of_le_length (by simp), List.take_of_length_le (by simp)] at this
        have h2 : LRel μ (expand r) (cs.drop m) := by
          have := hr.drop m
          rwa [List.drop_append_of_le_length (by simp), List.drop_eq_nil_of_le (by simp), List.nil_append] at this
        have e1 := LRel.run_inv h1
        have e2 := bytesOf_rel h2 hb
        rw [bytesL_cat8, List.map_append, ← e1, ← e2, List.take_append_drop]
      · cases h
    · rename_i b r' e; injection e with e1 e2; subst e1 e2
      split at h
      · rename_i m' y' hb
        injection h with h; injection h with h1 h2; subst h1 h2
        simp only [expand] at hr
        cases hr with
        | cons hv t =>
          cases hv with
          | int _ _ hlt =>
            have hlt : b < 256 := hlt
            have e2 := bytesOf_rel t hb
            rw [bytesL_cat8, List.map_append, bytesL_one b hlt, ← e2, toInt_u8]; rfl
      · cases h
    · cases h

theorem run_push : ∀ (l : List Nat) (s : ByteArray) (w : World), (∀ b ∈ l, b < 256) →
    (forIn (l.map fun (b : Nat) => Value.int .u8 (b : Int)) s fun c s => (match c with
      | .int .u8 n => pure (ForInStep.yield (s.push (UInt8.ofNat n.toNat)))
      | _ => do stuck "bytesToString: byte expected"; pure (ForInStep.yield s) : Sem (ForInStep ByteArray))).run P w = .ok ⟨s.data ++ (l.map UInt8.ofNat).toArray⟩ w
  | [], s, w, _ => by simp
  | b :: r, s, w, h => by
    simp only [List.map_cons, List.forIn_cons, Sem.run_bind, Sem.run_pure, Result.andThen_ok]
    rw [run_push r _ w fun x hx => h x (List.mem_cons_of_mem _ hx)]
    congr 1
    simp [ByteArray.push]

theorem toString_rel (h : HRel μ H w) {b off n m x : Nat} {k : Blk} {l : List AV} {cc β δ r : Nat} (hμ : μ b = some (β, δ, r)) (hb : H.get b = some (.blk k)) (hk : k.rd off n = some l) (hl : bytesOf l = some (m, x)) :
    ∃ c, VRel μ (.str m x) c ∧ (Conv.bytesToString (.slice (some ⟨β, δ + off, none⟩) n cc)).run P w = .ok c w := by
  obtain ⟨cs, h1, h2, h3, h4⟩ := rel_loadN (P := P) h hμ hb hk
  have e := bytesOf_rel h3 hl
  refine ⟨.string ⟨((bytesL m x).map UInt8.ofNat).toArray⟩, .str _ _ _ rfl, ?_⟩
  simp only [Conv.bytesToString, Sem.run_bind, h2, Result.andThen_ok]
  rw [← Array.forIn_toList, e]
  have hp := run_push (P := P) (bytesL m x) ByteArray.empty w fun b hb => bytesL_lt m x b hb
  rw [List.toList_toArray]
  refine (congrArg (fun z => Result.andThen z _) hp).trans ?_
  simp only [Result.andThen_ok, Sem.run_pure]
  congr 2
  simp

end
end Go.Abs

/- Maps. -/
namespace Go.Abs

section
variable {P : Program} {μ : Inj} {H : AH} {w : World}

/-! ## Keys -/

theorem run_checkKey (emp : Bool) : ∀ (n : Nat) {t : TypeId} {v : AV} {c : Value}, VRel μ v c → checkA P n t v = true → ∀ w, (Instr.checkKey emp n t c).run P w = .ok () w
  | 0, t, v, c, _, h, w => by simp [checkA] at h
  | n + 1, t, v, c, hv, h, w => by
    unfold checkA at h
    split at h
    · cases h
    · rename_i len e hu
      split at h
      · rename_i l s hs
        obtain ⟨cs, rfl, hr⟩ := Row.of_agg hv
        simp only [Instr.checkKey, Sem.run_bind, run_und hu, Result.andThen_ok]
        rw [Std.Legacy.Range.forIn_eq_forIn_range']
        have hrg : List.range' ([0:len] : Std.Legacy.Range).start ([0:len] : Std.Legacy.Range).size ([0:len] : Std.Legacy.Range).step = List.range len := by
          simp [Std.Legacy.Range.size, List.range_eq_range']
        rw [hrg]
        have h := List.all_eq_true.1 h
        generalize List.range len = rg at h
        clear hrg hu
        induction rg with
        | nil => rfl
        | cons i r ih =>
          have hi := h i (List.mem_cons_self ..)
          split at hi
          · rename_i x hx
            obtain ⟨c, hc, hrun⟩ := part_rel hr hx
            simp only [List.forIn_cons, Sem.run_bind, run_size hs, Result.andThen_ok, hrun, run_checkKey emp n hc hi w, Sem.run_pure]
            exact ih fun j hj => h j (List.mem_cons_of_mem _ hj)
          · cases hi
      · cases h
    · rename_i fs hu
      split at h
      · rename_i l
        obtain ⟨cs, rfl, hr⟩ := Row.of_agg hv
        simp only [Instr.checkKey, Sem.run_bind, run_und hu, Result.andThen_ok]
        rw [← Array.forIn_toList]
        have h := List.all_eq_true.1 h
        generalize fs.toList = rg at h
        clear hu
        induction rg with
        | nil => rfl
        | cons f r ih =>
          have hi := h f (List.mem_cons_self ..)
          have ih := ih fun j hj => h j (List.mem_cons_of_mem _ hj)
          split at hi
          · rename_i hn
            simp only [List.forIn_cons, Sem.run_bind, hn, ne_eq, not_true_eq_false, if_false, Sem.run_pure, Result.andThen_ok]
            exact ih
          · rename_i hn
            split at hi
            · rename_i x hx
              obtain ⟨c, hc, hrun⟩ := part_rel hr hx
              simp only [List.forIn_cons, Sem.run_bind, hn, ne_eq, not_false_eq_true, if_true, Result.andThen_ok, hrun, run_checkKey emp n hc hi w, Sem.run_pure]
              exact ih
            · cases hi
      · cases h
    · rename_i d h1 h2 h3 hu
      simp only [Instr.checkKey, Sem.run_bind, run_und hu, Result.andThen_ok]
      cases d <;> first | exact (h1 _ rfl).elim | exact (h2 _ _ rfl).elim | exact (h3 _ rfl).elim | (cases c <;> rfl)
    · cases h

/-- Two keys are held against one another. -/
def Cmp (P : Program) (kt : TypeId) (ck c : Value) (b : Bool) : Prop :=
  (∀ w, (Op.equal kt ck c).run P w = .ok b w) ∧ ∀ d, P.underlying kt = some d → Instr.sameNow d ck c = some b ∨ Instr.sameNow d ck c = none

theorem cmp_rel {kt : TypeId} {k k' : AV} {ck c : Value} {b : Bool} (hk : VRel μ k ck) (hk' : VRel μ k' c) (h : keyEqA P kt k k' = some b) : Cmp P kt ck c b := by
  have hr : ∀ w, (Op.equal kt ck c).run P w = .ok b w := equalA_rel 10000 _ _ _ _ _ _ h hk hk'
  refine ⟨hr, fun d hd => ?_⟩
  have h0 := hr default
  unfold Instr.sameNow
  split
  · rename_i kk k1 n1 k2 n2
    split
    · rename_i hkk
      subst hkk
      have := (run_equalIn_int (P := P) default 9999 kt k1 kk n1 n2 hd).symm.trans h0
      injection this with this
      exact .inl (by rw [this])
    · exact .inr rfl
  · rename_i s1 s2
    have := (run_equalIn_string (P := P) default 9999 kt s1 s2 hd).symm.trans h0
    injection this with this
    exact .inl (by rw [beq_toListBytes, this])
  · rename_i b1 b2
    have := (run_equalIn_bool' (P := P) default 9999 kt b1 b2 hd).symm.trans h0
    injection this with this
    exact .inl (by rw [this])
  · exact .inr rfl

/-! ## An entry is found -/

/-- The first entry of which a test says yes. -/
def firstE (b : MapEntry → Bool) : List MapEntry → Nat → Option (Nat × Value)
  | [], _ => none
  | e :: r, i => if b e then some (i, e.val) else firstE b r (i + 1)

theorem run_findAsking {kt : TypeId} {ck : Value} {b : MapEntry → Bool} (w : World) : ∀ (l : List MapEntry) (i : Nat), (∀ e ∈ l, Cmp P kt ck e.key (b e)) → (Instr.findAsking kt ck l i).run P w = .ok (firstE b l i) w
  | [], i, _ => rfl
  | e :: r, i, h => by
    have h0 := (h e (List.mem_cons_self ..)).1 w
    simp only [Instr.findAsking, Sem.run_bind, h0, Result.andThen_ok, firstE]
    cases hb : b e with
    | true => simp
    | false =>
      simp only [Bool.false_eq_true, if_false]
      exact run_findAsking w r (i + 1) fun e he => h e (List.mem_cons_of_mem _ he)

theorem findNow_eq {kt : TypeId} {ck : Value} {b : MapEntry → Bool} {d : TypeDesc} (hd : P.underlying kt = some d) : ∀ (l : List MapEntry) (i : Nat), (∀ e ∈ l, Cmp P kt ck e.key (b e)) →
    Instr.findNow d ck l i = some (firstE b l i) ∨ Instr.findNow d ck l i = none
  | [], i, _ => .inl rfl
  | e :: r, i, h => by
    have h0 := (h e (List.mem_cons_self ..)).2 d hd
    simp only [Instr.findNow, firstE]
    rcases h0 with h0 | h0
    · rw [h0]
      cases hb : b e with
      | true => exact .inl (by simp)
      | false =>
        simp only [Bool.false_eq_true, if_false]
        exact findNow_eq hd r (i + 1) fun e he => h e (List.mem_cons_of_mem _ he)
    · rw [h0]; exact .inr rfl

theorem run_findKey {kt : TypeId} {ck : Value} {b : MapEntry → Bool} {d : TypeDesc} (hd : P.underlying kt = some d) (w : World) (l : List MapEntry) (h : ∀ e ∈ l, Cmp P kt ck e.key (b e)) :
    (Instr.findKey kt ck l).run P w = .ok (firstE b l 0) w := by
  simp only [Instr.findKey, Sem.run_bind, run_und hd, Result.andThen_ok]
  rcases findNow_eq hd l 0 h with e | e
  · rw [e]; rfl
  · rw [e]; exact run_findAsking w l 0 h

theorem firstE_none {b : MapEntry → Bool} : ∀ {l : List MapEntry} {i : Nat}, (∀ e ∈ l, b e = false) → firstE b l i = none
  | [], _, _ => rfl
  | e :: r, i, h => by
    simp only [firstE, h e (List.mem_cons_self ..), Bool.false_eq_true, if_false]
    exact firstE_none fun e he => h e (List.mem_cons_of_mem _ he)

theorem firstE_mid {b : MapEntry → Bool} : ∀ {l : List MapEntry} {e : MapEntry} {r : List MapEntry} {i : Nat}, (∀ e ∈ l, b e = false) → b e = true → firstE b (l ++ e :: r) i = some (i + l.length, e.val)
  | [], e, r, i, _, h => by simp [firstE, h]
  | x :: l, e, r, i, hl, h => by
    simp only [List.cons_append, firstE, hl x (List.mem_cons_self ..), Bool.false_eq_true, if_false]
    rw [firstE_mid (fun e he => hl e (List.mem_cons_of_mem _ he)) h]
    simp; omega

theorem noneA_spec {kt : TypeId} {k : AV} {ck : Value} (hk : VRel μ k ck) {b : Nat} : ∀ {es : List (AV × AV × Nat)} {p : List MapEntry}, MRel μ b es p → noneA (keyEqA P kt) k es = true → ∀ e ∈ p, Cmp P kt ck e.key false
  | [], _, .nil, _, e, he => by simp at he
  | _ :: _, _, .cons (e := e0) hk' hv hs t, h, e, he => by
    simp only [noneA] at h
    split at h
    · rename_i hq
      rcases List.mem_cons.1 he with rfl | he
      · exact cmp_rel hk hk' hq
      · exact noneA_spec hk t h e he
    · cases h

/-- A place in a map: all that stands ahead of it, and behind, has other keys. -/
structure At (P : Program) (kt : TypeId) (ck : Value) (p1 : List MapEntry) (e : MapEntry) (p2 : List MapEntry) : Prop where
  here : Cmp P kt ck e.key true
  other : ∀ x ∈ p1 ++ p2, Cmp P kt ck x.key false

theorem findA_none {kt : TypeId} {k : AV} {ck : Value} (hk : VRel μ k ck) {b : Nat} : ∀ {es : List (AV × AV × Nat)} {p : List MapEntry}, MRel μ b es p → findA (keyEqA P kt) k es = some none → ∀ e ∈ p, Cmp P kt ck e.key false
  | [], _, .nil, _, e, he => by simp at he
  | _ :: _, _, .cons hk' hv hs t, h, e, he => by
    simp only [findA] at h
    split at h
    · split at h <;> cases h
    · rename_i hq
      rcases List.mem_cons.1 he with rfl | he
      · exact cmp_rel hk hk' hq
      · exact findA_none hk t h e he
    · cases h

theorem findA_some {kt : TypeId} {k v : AV} {s : Nat} {ck : Value} (hk : VRel μ k ck) {b : Nat} : ∀ {es : List (AV × AV × Nat)} {p : List MapEntry}, MRel μ b es p → findA (keyEqA P kt) k es = some (some (v, s)) →
    ∃ p1 e p2, p = p1 ++ e :: p2 ∧ VRel μ v e.val ∧ μ.st b s = some e.born ∧ At P kt ck p1 e p2
  | [], _, .nil, h => by simp [findA] at h
  | _ :: _, _, .cons (e := e0) (ces := ces) hk' hv hs t, h => by
    simp only [findA] at h
    split at h
    · rename_i hq
      split at h
      · rename_i hn
        injection h with h; injection h with h; injection h with h1 h2; subst h1 h2
        exact ⟨[], e0, ces, rfl, hv, hs, cmp_rel hk hk' hq, fun x hx => noneA_spec hk t hn x (by simpa using hx)⟩
      · cases h
    · rename_i hq
      obtain ⟨p1, e, p2, rfl, h1, h2, h3⟩ := findA_some hk t h
      refine ⟨e0 :: p1, e, p2, rfl, h1, h2, h3.here, fun x hx => ?_⟩
      rcases List.mem_cons.1 (show x ∈ e0 :: (p1 ++ p2) by simpa using hx) with rfl | hx
      · exact cmp_rel hk hk' hq
      · exact h3.other x (by simpa using hx)
    · cases h

/-- The same place in another order of the entries. -/
theorem At.perm {kt : TypeId} {ck : Value} {p1 p2 : List MapEntry} {e : MapEntry} (h : At P kt ck p1 e p2) {l : List MapEntry} (hp : List.Perm (p1 ++ e :: p2) l) :
    ∃ c1 c2, l = c1 ++ e :: c2 ∧ List.Perm (p1 ++ p2) (c1 ++ c2) ∧ At P kt ck c1 e c2 := by
  have hm : e ∈ l := hp.mem_iff.1 (by simp)
  obtain ⟨c1, c2, rfl⟩ := List.append_of_mem hm
  have h1 : List.Perm (e :: (p1 ++ p2)) (e :: (c1 ++ c2)) := (List.perm_middle.symm.trans hp).trans List.perm_middle
  have h2 := (List.perm_cons e).1 h1
  exact ⟨c1, c2, rfl, h2, h.here, fun x hx => h.other x (h2.mem_iff.2 hx)⟩

theorem At.first {kt : TypeId} {ck : Value} {c1 c2 : List MapEntry} {e : MapEntry} (h : At P kt ck c1 e c2) (hn : ((c1 ++ e :: c2).map (·.born)).Nodup) {d : TypeDesc} (hd : P.underlying kt = some d) (w : World) :
    (Instr.findKey kt ck (c1 ++ e :: c2)).run P w = .ok (some (c1.length, e.val)) w := by
  have hne : ∀ x ∈ c1 ++ c2, x.born ≠ e.born := by
    intro x hx heq
    have h1 : List.Perm (c1 ++ e :: c2) (e :: (c1 ++ c2)) := List.perm_middle
    have h2 : ((e :: (c1 ++ c2)).map (·.born)).Nodup := (h1.map _).nodup_iff.1 hn
    simp only [List.map_cons, List.nodup_cons] at h2
    exact h2.1 (heq ▸ List.mem_map_of_mem hx)
  rw [run_findKey (b := fun x => x.born == e.born) hd w _ fun x hx => ?_]
  · rw [firstE_mid (fun x hx => by have := hne x (List.mem_append_left _ hx); simpa using this) (by simp)]; simp
  · by_cases hxe : x.born = e.born
    · have hx2 : x = e := by
        rcases List.mem_append.1 hx with hx | hx
        · exact absurd hxe (hne x (List.mem_append_left _ hx))
        · rcases List.mem_cons.1 hx with rfl | hx
          · rfl
          · exact absurd hxe (hne x (List.mem_append_right _ hx))
      rw [hx2, beq_self_eq_true]; exact h.here
    · have : (x.born == e.born) = false := by simpa using hxe
      rw [this]
      apply h.other
      rcases List.mem_append.1 hx with hx | hx
      · exact List.mem_append_left _ hx
      · rcases List.mem_cons.1 hx with rfl | hx
        · exact absurd rfl hxe
        · exact List.mem_append_right _ hx

theorem run_find_none {kt : TypeId} {ck : Value} {l : List MapEntry} (h : ∀ e ∈ l, Cmp P kt ck e.key false) {d : TypeDesc} (hd : P.underlying kt = some d) (w : World) : (Instr.findKey kt ck l).run P w = .ok none w := by
  rw [run_findKey (b := fun _ => false) hd w l h, firstE_none (fun _ _ => rfl)]

theorem run_getMap {r : Nat} {ces : Array MapEntry} {clock : Nat} (h : w.heap[r]? = some (.map ces clock)) : (getObj r).run P w = .ok (.map ces clock) w := by
  simp only [getObj, Sem.run, h]

theorem checkA_und {n : Nat} {t : TypeId} {v : AV} (h : checkA P n t v = true) : ∃ d, P.underlying t = some d := by
  cases n with
  | zero => simp [checkA] at h
  | succ n =>
    unfold checkA at h
    split at h <;> first | exact ⟨_, ‹_›⟩ | cases h

/-- The entries of a map of the heap. -/
theorem HRel.mp {b : Nat} {es : List (AV × AV × Nat)} {clock : Nat} (h : HRel μ H w) (hb : H.get b = some (.mp es clock)) {β δ r : Nat} (hμ : μ b = some (β, δ, r)) :
    ∃ ces cclock, w.heap[β]? = some (.map ces cclock) ∧ (∃ p, List.Perm p ces.toList ∧ MRel μ b es p) ∧ (ces.toList.map (·.born)).Nodup ∧ (∀ e ∈ ces.toList, e.born < cclock) := by
  obtain ⟨β', δ', r', hμ', hr⟩ := h.obj b _ hb
  rw [hμ] at hμ'; injection hμ' with e; injection e with e1 e2; subst e1
  exact hr

theorem MRel.len {b : Nat} : ∀ {es : List (AV × AV × Nat)} {p : List MapEntry}, MRel μ b es p → es.length = p.length
  | _, _, .nil => rfl
  | _, _, .cons _ _ _ t => by simp [t.len]

theorem lookupA_rel (h : HRel μ H w) {t : TypeId} {m k v : AV} {cm ck : Value} {ok : Bool} (hm : VRel μ m cm) (hk : VRel μ k ck) (hl : lookupA P H t m k ok = some v) :
    ∃ c, VRel μ v c ∧ (Instr.lookup t cm ck ok).run P w = .ok c w := by
  have tup : ∀ {a : AV} {c : Value} (b : Bool), VRel μ a c → VRel μ (if ok = true then .tup [a, .bool b] else a) (if ok = true then .tuple #[c, .bool b] else c) := by
    intro a c b hv
    split
    · exact .tup (cs := [c, .bool b]) (.cons hv (.cons (.bool _) .nil))
    · exact hv
  unfold lookupA at hl
  split at hl
  · rename_i kt et hu
    split at hl
    · cases hl
    · rename_i hck
      have hck : checkA P 10000 kt k = true := by simpa using hck
      obtain ⟨d, hd⟩ := checkA_und hck
      split at hl
      · rename_i z hz
        obtain ⟨cz, hcz, hzr⟩ := run_zero (μ := μ) hz
        split at hl
        · rename_i es hes
          -- the entries as the model has them
          have key : ∀ (l : Array MapEntry), (∃ p, List.Perm p l.toList ∧ (∃ b, MRel μ b es p)) → (l.toList.map (·.born)).Nodup →
              ∃ c, VRel μ v c ∧ ((∃ i u, (Instr.findKey kt ck l.toList).run P w = .ok (some (i, u)) w ∧ c = if ok = true then .tuple #[u, .bool true] else u) ∨
                ((Instr.findKey kt ck l.toList).run P w = .ok none w ∧ c = if ok = true then .tuple #[cz, .bool false] else cz)) := by
            rintro l ⟨p, hp, b, hr⟩ hn
            split at hl
            · rename_i v' s hf
              injection hl with hl; subst hl
              obtain ⟨p1, e, p2, rfl, h1, _, h3⟩ := findA_some hk hr hf
              obtain ⟨c1, c2, hc, _, h4⟩ := h3.perm hp
              rw [hc] at hn ⊢
              exact ⟨_, tup true h1, .inl ⟨_, _, h4.first hn hd w, rfl⟩⟩
            · rename_i hf
              injection hl with hl; subst hl
              have h1 := findA_none hk hr hf
              exact ⟨_, tup false hcz, .inr ⟨run_find_none (fun e he => h1 e (hp.mem_iff.2 he)) hd w, rfl⟩⟩
            · cases hl
          cases hm with
          | nilm =>
            injection hes with hes; subst hes
            obtain ⟨c, hc, hr⟩ := key #[] ⟨[], List.Perm.refl _, 0, .nil⟩ (by simp)
            refine ⟨c, hc, ?_⟩
            simp only [Instr.lookup, Sem.run_bind, run_und hu, Result.andThen_ok, Sem.run_pure, run_checkKey _ 10000 hk hck]
            rcases hr with ⟨i, u, h1, rfl⟩ | ⟨h1, rfl⟩
            · rw [h1]; rfl
            · rw [h1]; simp only [Result.andThen_ok, Sem.run_bind, hzr]; rfl
          | map hμ =>
            dsimp only at hes
            split at hes
            · rename_i es' clock hb
              injection hes with hes; subst hes
              obtain ⟨ces, cclock, h1, ⟨p, hp, hr⟩, h3, _⟩ := h.mp hb hμ
              obtain ⟨c, hc, hr⟩ := key ces ⟨p, hp, _, hr⟩ h3
              refine ⟨c, hc, ?_⟩
              simp only [Instr.lookup, Sem.run_bind, run_und hu, Result.andThen_ok, run_getMap h1, Sem.run_pure, run_checkKey _ 10000 hk hck]
              rcases hr with ⟨i, u, h1, rfl⟩ | ⟨h1, rfl⟩
              · rw [h1]; rfl
              · rw [h1]; simp only [Result.andThen_ok, Sem.run_bind, hzr]; rfl
            · cases hes
          | _ => cases hes
        · cases hl
      · cases hl
  · cases hl

end
end Go.Abs
