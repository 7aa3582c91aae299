/- Slicing, indexing, asserting; all operations that ask nothing of memory. -/
import Derived.Test.YtmfondkhhnnjjaaGreatDoorA10

namespace Go.Abs

section
variable {P : Program} {μ : Inj}

theorem natOf_rel {v : AV} {c : Value} {n : Nat} (hv : VRel μ v c) (h : natOf v = some n) : ∃ k, c = .int k (n : Int) := by
  unfold natOf at h
  split at h
  · split at h
    · cases h
    · rename_i hneg
      injection h with h; subst h
      cases hv with
      | int _ _ hn => exact ⟨_, by rw [toInt_pos (by simpa using hneg)]⟩
  · cases h

/-- Operands that may be left out. -/
inductive OptRel (μ : Inj) : Option AV → Option Value → Prop where
  | none : OptRel μ none none
  | some {v : AV} {c : Value} (h : VRel μ v c) : OptRel μ (some v) (some c)

theorem run_bound {v : AV} {c : Value} {n y : Nat} (hv : VRel μ v c) (h : natOf v = some n) (hle : n ≤ y) (code : BoundsCode) (w : World) : (Instr.sliceBound c y code).run P w = .ok n w := by
  obtain ⟨k, rfl⟩ := natOf_rel hv h
  simp only [Instr.sliceBound, asIntOf, Sem.run_bind, Sem.run_pure, Result.andThen_ok]
  rw [if_pos ⟨by omega, by omega⟩]; simp

theorem bounds_rel {len cap cc : Nat} {lo hi mx : Option AV} {clo chi cmx : Option Value} {l h m : Nat} (hlo : OptRel μ lo clo) (hhi : OptRel μ hi chi) (hmx : OptRel μ mx cmx)
    (hb : bounds len cap lo hi mx = some (l, h, m)) (hcc : cap ≤ cc) (isS : Bool) :
    l ≤ h ∧ h ≤ m ∧ m ≤ cap ∧ (mx = none → m = cap) ∧ (∀ w, (Instr.sliceBounds isS len cc clo chi cmx).run P w = .ok (l, h, if mx.isSome then m else cc) w) := by
  unfold bounds at hb
  split at hb
  · cases hb
  · rename_i m' hm'
    split at hb
    · cases hb
    · rename_i h' hh'
      split at hb
      · cases hb
      · rename_i l' hl'
        split at hb
        · rename_i hc
          injection hb with hb; injection hb with e1 e2; injection e2 with e2 e3
          subst e1 e2 e3
          obtain ⟨c1, c2, c3, c4⟩ := hc
          refine ⟨c1, c2, c3, fun e => by subst e; simpa using hm'.symm, fun w => ?_⟩
          cases hmx with
          | none =>
            simp only [Option.some.injEq] at hm'; subst hm'
            cases hhi with
            | none =>
              simp only [Option.some.injEq] at hh'; subst hh'
              cases hlo with
              | none =>
                simp only [Option.some.injEq] at hl'; subst hl'
                simp [Instr.sliceBounds]
              | some hv =>
                simp only [Instr.sliceBounds, Sem.run_bind, Sem.run_pure, Result.andThen_ok, run_bound hv hl' c1]; simp
            | some hv2 =>
              cases hlo with
              | none =>
                simp only [Option.some.injEq] at hl'; subst hl'
                simp only [Instr.sliceBounds, Sem.run_bind, Sem.run_pure, Result.andThen_ok, run_bound hv2 hh' (Nat.le_trans c2 hcc)]; simp
              | some hv =>
                simp only [Instr.sliceBounds, Sem.run_bind, Sem.run_pure, Result.andThen_ok, run_bound hv2 hh' (Nat.le_trans c2 hcc), run_bound hv hl' c1]; simp
          | some hv3 =>
            cases hhi with
            | none => simp at c4
            | some hv2 =>
              cases hlo with
              | none =>
                simp only [Option.some.injEq] at hl'; subst hl'
                simp only [Instr.sliceBounds, Sem.run_bind, Sem.run_pure, Result.andThen_ok, run_bound hv3 hm' (Nat.le_trans c3 hcc), run_bound hv2 hh' c2]; simp
              | some hv =>
                simp only [Instr.sliceBounds, Sem.run_bind, Sem.run_pure, Result.andThen_ok, run_bound hv3 hm' (Nat.le_trans c3 hcc), run_bound hv2 hh' c2, run_bound hv hl' c1]; simp
        · cases hb

theorem evOpt_rel {ev : Operand → Option AV} {ρ : Operand → Value} (hev : ∀ x v, ev x = some v → VRel μ v (ρ x)) {x : Option Operand} {r : Option AV} (h : evOpt ev x = some r) : OptRel μ r (x.map ρ) := by
  cases x with
  | none => simp only [evOpt] at h; injection h with h; subst h; exact .none
  | some x =>
    simp only [evOpt] at h
    split at h
    · rename_i v hv; injection h with h; subst h; exact .some (hev _ _ hv)
    · cases h

theorem str_cut {n x l h : Nat} {s : ByteArray} (hs : s.data.toList = (bytesL n x).map UInt8.ofNat) (h2 : h ≤ n) :
    (s.extract l h).data.toList = (bytesL (h - l) (mod8 (shr8 x (n - h)) (h - l))).map UInt8.ofNat := by
  have e : (s.extract l h).data.toList = (s.data.toList.take h).drop l := by
    rw [ByteArray.data_extract, Array.toList_extract]
    simp [List.extract_eq_take_drop, List.drop_take]
  rw [e, hs, ← List.map_take, ← List.map_drop, bytesL_take n x h h2, bytesL_drop, mod8_eq, bytesL_mod, shr8_eq]

theorem mulAdd (l m s : Nat) (h : l ≤ m) : l * s + (m - l) * s = m * s := by rw [← Nat.add_mul]; congr 1; omega

theorem sliceA_rel {t : TypeId} {x v : AV} {cx : Value} {lo hi mx : Option AV} {clo chi cmx : Option Value} (hx : VRel μ x cx) (hlo : OptRel μ lo clo) (hhi : OptRel μ hi chi) (hmx : OptRel μ mx cmx)
    (h : sliceA P t x lo hi mx = some v) : ∃ c, VRel μ v c ∧ ∀ w, (Instr.sliceAt t cx clo chi cmx).run P w = .ok c w := by
  have arr : ∀ (b o s l h m : Nat) {β δ r : Nat}, μ b = some (β, δ, r) → l ≤ h → h ≤ m →
      VRel μ (.slc b (if m = l then o else o + l * s) (h - l) (m - l) s true) (.slice (some (if m = l then (⟨β, δ + o, none⟩ : Addr) else (⟨β, δ + o, none⟩ : Addr).add (l * s))) (h - l) (m - l)) := by
    intro b o s l h m β δ r hμ h1 h2
    split
    · exact .slc hμ (by omega) (Nat.le_refl _) (fun _ => rfl) (fun e => by cases e)
    · rw [Addr.add_mk, Nat.add_assoc]
      exact .slc hμ (by omega) (Nat.le_refl _) (fun _ => rfl) (fun e => by cases e)
  unfold sliceA at h
  split at h
  · rename_i n x' hu
    cases hx with
    | str _ _ s hs =>
      cases hmx with
      | some _ => cases h
      | none =>
        dsimp only at h
        split at h
        · rename_i l h' m hb
          injection h with h; subst h
          have hsz := str_size hs
          obtain ⟨b1, b2, b3, b4, b5⟩ := bounds_rel (P := P) hlo hhi OptRel.none hb (Nat.le_refl n) false
          refine ⟨_, .str _ _ _ (str_cut hs (by omega)), fun w => ?_⟩
          simp only [Instr.sliceAt, Sem.run_bind, run_und hu, Result.andThen_ok, Instr.slice, Option.isSome_none, Bool.false_eq_true, if_false, hsz, b5]
          rfl
        · cases h
  · rename_i e b o n c s ex hu
    cases hx with
    | slc hμ hn hc he hr =>
      rename_i β δ r cc
      split at h
      · rename_i l h' m hb
        obtain ⟨b1, b2, b3, b4, b5⟩ := bounds_rel (P := P) hlo hhi hmx hb hc true
        split at h
        · rename_i hs
          have hrun : ∀ (mm : Nat), (if mx.isSome then m else cc) = mm → ∀ w, (Instr.sliceAt t (.slice (some ⟨β, δ + o, none⟩) n cc) clo chi cmx).run P w =
              .ok (.slice (some (if mm = l then (⟨β, δ + o, none⟩ : Addr) else (⟨β, δ + o, none⟩ : Addr).add (l * s))) (h' - l) (mm - l)) w := by
            intro mm hmm w
            simp only [Instr.sliceAt, Sem.run_bind, run_und hu, Result.andThen_ok, Instr.slice, b5, hmm, run_size hs]
            split <;> rfl
          split at h
          · rename_i hsome
            injection h with h; subst h
            exact ⟨_, arr b o s l h' m hμ b1 b2, hrun m (by simp [hsome])⟩
          · rename_i hnone
            have hmc : m = c := b4 (by cases mx <;> simp_all)
            split at h
            · rename_i hex
              injection h with h; subst h
              have := he hex
              exact ⟨_, arr b o s l h' m hμ b1 b2, hrun m (by simp [hnone]; omega)⟩
            · rename_i hex
              have hex : ex = false := by simpa using hex
              have hr := hr hex
              split at h
              · rename_i hml
                injection h with h; subst h
                have hl : h' - l = 0 := by omega
                refine ⟨_, ?_, hrun cc (by simp [hnone])⟩
                rw [hl]
                split
                · rename_i e2; rw [e2, Nat.sub_self]; exact .slc0 (off := o) hμ (by simp; omega)
                · rw [Addr.add_mk, Nat.add_assoc]
                  refine .slc0 (off := o + l * s) hμ ?_
                  have := mulAdd l cc s (by omega); omega
              · rename_i hml
                injection h with h; subst h
                refine ⟨_, ?_, hrun cc (by simp [hnone])⟩
                rw [if_neg (by omega), Addr.add_mk, Nat.add_assoc]
                refine .slc hμ (by omega) (by omega) (fun e => by cases e) (fun _ => ?_)
                have := mulAdd l cc s (by omega); omega
        · cases h
      · cases h
  · rename_i e b s hu
    cases hx with
    | slc0 hμ hr =>
      rename_i off cc β δ r
      split at h
      · rename_i bb hb
        obtain ⟨l, h', m⟩ := bb
        obtain ⟨b1, b2, b3, b4, b5⟩ := bounds_rel (P := P) hlo hhi hmx hb (Nat.zero_le cc) true
        split at h
        · rename_i hs
          injection h with h; subst h
          have hl : l = 0 := by omega
          have hh : h' = 0 := by omega
          subst hl hh
          have hmn : mx.isSome = false := by cases mx <;> simp_all
          refine ⟨.slice (some ⟨β, δ + off, none⟩) 0 cc, .slc0 hμ hr, fun w => ?_⟩
          simp only [Instr.sliceAt, Sem.run_bind, run_und hu, Result.andThen_ok, Instr.slice, b5, hmn, run_size hs.1, Bool.false_eq_true, if_false]
          simp [Addr.add_mk]
        · cases h
      · cases h
  · rename_i e hu
    cases hx with
    | nils =>
      split at h
      · rename_i bb s hb hs
        obtain ⟨l, h', m⟩ := bb
        injection h with h; subst h
        obtain ⟨b1, b2, b3, b4, b5⟩ := bounds_rel (P := P) hlo hhi hmx hb (Nat.le_refl 0) true
        have hl : l = 0 := by omega
        have hh : h' = 0 := by omega
        have hm : m = 0 := by omega
        subst hl hh hm
        refine ⟨_, .nils, fun w => ?_⟩
        simp only [Instr.sliceAt, Sem.run_bind, run_und hu, Result.andThen_ok, Instr.slice, b5, run_size hs]
        simp
      · cases h
  · rename_i n e b o hu
    cases hx with
    | ptr hμ =>
      split at h
      · rename_i l h' m s hb hs
        injection h with h; subst h
        obtain ⟨b1, b2, b3, b4, b5⟩ := bounds_rel (P := P) hlo hhi hmx hb (Nat.le_refl n) false
        have hmm : (if mx.isSome then m else n) = m := by
          split
          · rfl
          · rename_i hn; rw [b4 (by cases mx <;> simp_all)]
        refine ⟨_, arr b o s l h' m hμ b1 b2, fun w => ?_⟩
        simp only [Instr.sliceAt, Sem.run_bind, run_und hu, Result.andThen_ok, Instr.sureAddr, Sem.run_pure, b5, hmm, run_size hs]
      · cases h
  · rename_i a b o hu
    cases hx with
    | ptr hμ =>
      split at h
      · rename_i n e hua
        split at h
        · rename_i l h' m s hb hs
          injection h with h; subst h
          obtain ⟨b1, b2, b3, b4, b5⟩ := bounds_rel (P := P) hlo hhi hmx hb (Nat.le_refl n) false
          have hmm : (if mx.isSome then m else n) = m := by
            split
            · rfl
            · rename_i hn; rw [b4 (by cases mx <;> simp_all)]
          refine ⟨_, arr b o s l h' m hμ b1 b2, fun w => ?_⟩
          simp only [Instr.sliceAt, Sem.run_bind, run_und hu, Result.andThen_ok, Instr.slice, asAddr, Sem.run_pure, run_und hua, b5, hmm, run_size hs]
        · cases h
      · cases h
  · cases h

/-! ## Addresses and parts -/

theorem fieldAddrA_rel {s : TypeId} {x v : AV} {cx : Value} {f : Nat} (hx : VRel μ x cx) (h : fieldAddrA P s x f = some v) : ∃ c, VRel μ v c ∧ ∀ w, (Instr.fieldAt s cx f).run P w = .ok c w := by
  unfold fieldAddrA at h
  split at h
  · rename_i fs b o hu
    cases hx with
    | ptr hμ =>
      split at h
      · rename_i fd hf
        split at h
        · rename_i n hs
          injection h with h; subst h
          refine ⟨_, .ptr hμ, fun w => ?_⟩
          simp only [Instr.fieldAt, Sem.run_bind, run_und hu, Result.andThen_ok, hf, Instr.sureAddr, Sem.run_pure, fieldPlace, run_size hs, Addr.add_mk, Nat.add_assoc]
          rw [if_neg (Nat.succ_ne_zero n)]; rfl
        · cases h
      · cases h
  · cases h

theorem fieldA_rel {t : TypeId} {x v : AV} {cx : Value} {f : Nat} (hx : VRel μ x cx) (h : fieldA P t x f = some v) : ∃ c, VRel μ v c ∧ ∀ w, (Instr.field t cx f).run P w = .ok c w := by
  unfold fieldA at h
  split at h
  · rename_i fs l hu
    obtain ⟨cs, rfl, hr⟩ := Row.of_agg hx
    split at h
    · rename_i fd hf
      obtain ⟨c, hc, hrun⟩ := part_rel hr h
      refine ⟨c, hc, fun w => ?_⟩
      simp only [Instr.field, Sem.run_bind, run_und hu, Result.andThen_ok, hf, asAgg, Sem.run_pure, hrun]
    · cases h
  · cases h

theorem indexAddrA_rel {t : TypeId} {x i v : AV} {cx ci : Value} (hx : VRel μ x cx) (hi : VRel μ i ci) (h : indexAddrA P t x i = some v) : ∃ c, VRel μ v c ∧ ∀ w, (Instr.indexAt t cx ci).run P w = .ok c w := by
  unfold indexAddrA at h
  split at h
  · rename_i n e b o i' hu hn
    obtain ⟨k, rfl⟩ := natOf_rel hi hn
    cases hx with
    | ptr hμ =>
      split at h
      · rename_i hlt
        split at h
        · rename_i s hs
          injection h with h; subst h
          refine ⟨_, .ptr hμ, fun w => ?_⟩
          simp only [Instr.indexAt, Sem.run_bind, asIntOf, Sem.run_pure, Result.andThen_ok, run_und hu, Instr.sureAddr]
          rw [if_pos ⟨by omega, by omega⟩]
          simp only [Sem.run_bind, run_size hs, Result.andThen_ok, Sem.run_pure, Addr.add_mk, Nat.add_assoc, Int.toNat_natCast]
        · cases h
      · cases h
  · rename_i e b o n c s' ex i' hu hn
    obtain ⟨k, rfl⟩ := natOf_rel hi hn
    cases hx with
    | slc hμ =>
      split at h
      · rename_i hlt
        split at h
        · rename_i s hs
          injection h with h; subst h
          refine ⟨_, .ptr hμ, fun w => ?_⟩
          simp only [Instr.indexAt, Sem.run_bind, asIntOf, Sem.run_pure, Result.andThen_ok, run_und hu]
          rw [if_pos ⟨by omega, by omega⟩]
          simp only [Sem.run_bind, run_size hs, Result.andThen_ok, Sem.run_pure, Addr.add_mk, Nat.add_assoc, Int.toNat_natCast]
        · cases h
      · cases h
  · cases h

theorem byte_rel {n x i : Nat} {s : ByteArray} (hs : s.data.toList = (bytesL n x).map UInt8.ofNat) (h : i < n) : ∃ b : UInt8, s[i]? = some b ∧ b.toNat = shr8 x (n - 1 - i) % 256 := by
  have hg := bytesL_get n x i h
  have hl : s.data.toList[i]? = some (UInt8.ofNat (byteAt n x i)) := by rw [hs, List.getElem?_map, hg]; rfl
  have hsz : i < s.size := by rw [str_size hs]; exact h
  refine ⟨s[i], by simp [getElem?_pos, hsz], ?_⟩
  have e : s.data.toList[i]? = some s[i] := by
    rw [Array.getElem?_toList, Array.getElem?_eq_getElem (by exact hsz)]; rfl
  rw [e] at hl
  injection hl with hl
  rw [hl, shr8_eq]
  simp [byteAt]

theorem indexA_rel {t : TypeId} {x i v : AV} {cx ci : Value} (hx : VRel μ x cx) (hi : VRel μ i ci) (h : indexA P t x i = some v) : ∃ c, VRel μ v c ∧ ∀ w, (Instr.index t cx ci).run P w = .ok c w := by
  unfold indexA at h
  split at h
  · rename_i n e l i' hu hn
    obtain ⟨k, rfl⟩ := natOf_rel hi hn
    obtain ⟨cs, rfl, hr⟩ := Row.of_agg hx
    split at h
    · rename_i hlt
      split at h
      · rename_i s hs
        obtain ⟨c, hc, hrun⟩ := part_rel hr h
        refine ⟨c, hc, fun w => ?_⟩
        simp only [Instr.index, Sem.run_bind, asIntOf, Sem.run_pure, Result.andThen_ok, run_und hu]
        rw [if_pos ⟨by omega, by omega⟩]
        simp only [Sem.run_bind, run_size hs, Result.andThen_ok, Int.toNat_natCast, hrun]
      · cases h
    · cases h
  · rename_i n x' i' hu hn
    obtain ⟨k, rfl⟩ := natOf_rel hi hn
    cases hx with
    | str _ _ s hs =>
      split at h
      · rename_i hlt
        injection h with h; subst h
        obtain ⟨b, hb, hbn⟩ := byte_rel hs hlt
        refine ⟨.int .u8 b.toNat, int_rel (by rw [toInt_u8, hbn]) (Nat.mod_lt _ (by decide)), fun w => ?_⟩
        simp only [Instr.index, Sem.run_bind, asIntOf, Sem.run_pure, Result.andThen_ok, run_und hu]
        rw [if_pos (by omega), Int.toNat_natCast, hb]; rfl
      · cases h
  · cases h

theorem failA_rel {t : TypeId} {ok : Bool} {v : AV} (h : failA P t ok = some v) : ok = true ∧ ∃ z : Value, VRel μ v (.tuple #[z, .bool false]) ∧ ∀ w, (zeroValue t).run P w = .ok z w := by
  unfold failA at h
  split at h
  · rename_i hok
    split at h
    · rename_i z hz
      injection h with h; subst h
      obtain ⟨c, hc, hr⟩ := run_zero (μ := μ) hz
      exact ⟨hok, c, .tup (cs := [c, .bool false]) (.cons hc (.cons (.bool _) .nil)), hr⟩
    · cases h
  · cases h

theorem missing_none {want : List (String × TypeId)} {got : Array Method} (h : noMissing want got = true) : Instr.missingMethod want.toArray got = none := by
  have : (want.filter fun (x : String × TypeId) => !got.any fun m => m.name == x.1 && m.sig == x.2) = [] := by
    rw [List.filter_eq_nil_iff]
    intro a ha
    have := List.all_eq_true.1 h a ha
    simpa using this
  simp only [Instr.missingMethod]
  have e : (want.filter fun x => match x with | (name, sig) => !got.any fun m => m.name == name && m.sig == sig) = [] := this
  rw [e]; rfl

theorem missing_some {want : List (String × TypeId)} {got : Array Method} (h : noMissing want got = false) : ∃ m, Instr.missingMethod want.toArray got = some m := by
  have h2 : ∃ a ∈ want, (got.any fun m => m.name == a.1 && m.sig == a.2) = false := by
    have := List.all_eq_false.1 h
    obtain ⟨a, ha, hb⟩ := this
    exact ⟨a, ha, by simpa using hb⟩
  obtain ⟨a, ha, hb⟩ := h2
  simp only [Instr.missingMethod]
  generalize hl : ((want.filter fun x => match x with | (name, sig) => !got.any fun m => m.name == name && m.sig == sig).map (·.1)) = l
  have hne : l ≠ [] := by
    intro e
    have : a ∈ (want.filter fun x => match x with | (name, sig) => !got.any fun m => m.name == name && m.sig == sig) := by
      rw [List.mem_filter]; exact ⟨ha, by simp [hb]⟩
    rw [e] at hl
    have := List.map_eq_nil_iff.1 hl
    simp_all
  have key : ∀ (p : String → Bool) (g : String → String), ∃ m, (match l.partition p with | (unexported, exported) => Instr.least exported <|> Instr.least (unexported.map g)) = some m := by
    intro p g
    rw [List.partition_eq_filter_filter]
    cases hq : l.filter (not ∘ p) with
    | cons s r => exact ⟨_, rfl⟩
    | nil =>
      cases hpp : l.filter p with
      | cons s r => exact ⟨_, rfl⟩
      | nil =>
        exfalso
        cases hll : l with
        | nil => exact hne hll
        | cons s r =>
          have h1 := List.filter_eq_nil_iff.1 hpp s (by rw [hll]; simp)
          have h2 := List.filter_eq_nil_iff.1 hq s (by rw [hll]; simp)
          simp_all
  exact key _ _

end
end Go.Abs

/- All operations that ask nothing of memory. -/
namespace Go.Abs

section
variable {P : Program} {μ : Inj}

theorem assertA_rel {x v : AV} {cx : Value} {xt t : TypeId} {ok : Bool} (hx : VRel μ x cx) (h : assertA P x t ok = some v) : ∃ c, VRel μ v c ∧ ∀ w, (Instr.typeAssert cx xt t ok).run P w = .ok c w := by
  have holds : ∀ {a : AV} {c : Value}, VRel μ a c → VRel μ (if ok = true then .tup [a, .bool true] else a) (if ok = true then .tuple #[c, .bool true] else c) := by
    intro a c hv
    split
    · exact .tup (cs := [c, .bool true]) (.cons hv (.cons (.bool _) .nil))
    · exact hv
  unfold assertA at h
  split at h
  · rename_i want hu
    split at h
    · cases hx
      obtain ⟨hok, z, hv, hz⟩ := failA_rel (μ := μ) h
      subst hok
      refine ⟨_, hv, fun w => ?_⟩
      simp only [Instr.typeAssert, Sem.run_bind, run_und hu, Result.andThen_ok, if_true, hz]; rfl
    · rename_i t' v'
      cases hx with
      | ifc _ hx' =>
        split at h
        · rename_i i hi
          split at h
          · rename_i hm
            injection h with h; subst h
            refine ⟨_, holds (.ifc t' hx'), fun w => ?_⟩
            have := missing_none hm
            simp only [Instr.typeAssert, Sem.run_bind, run_und hu, Result.andThen_ok, run_info hi]
            rw [show want = want.toList.toArray from by simp, this]
            rfl
          · rename_i hm
            obtain ⟨m, hmm⟩ := missing_some (by simpa using hm)
            obtain ⟨hok, z, hv, hz⟩ := failA_rel (μ := μ) h
            subst hok
            refine ⟨_, hv, fun w => ?_⟩
            simp only [Instr.typeAssert, Sem.run_bind, run_und hu, Result.andThen_ok, run_info hi]
            rw [show want = want.toList.toArray from by simp, hmm]
            simp only [Sem.run_bind, if_true, hz, Result.andThen_ok]; rfl
        · cases h
    · cases h
  · rename_i d hni hu
    split at h
    · cases hx
      obtain ⟨hok, z, hv, hz⟩ := failA_rel (μ := μ) h
      subst hok
      refine ⟨_, hv, fun w => ?_⟩
      simp only [Instr.typeAssert, Sem.run_bind, run_und hu, Result.andThen_ok]
      cases d <;> first | (exact (hni _ rfl).elim) | (simp only [if_true, Sem.run_bind, hz, Result.andThen_ok]; rfl)
    · rename_i t' v'
      cases hx with
      | ifc _ hx' =>
        split at h
        · rename_i ht
          injection h with h; subst h
          refine ⟨_, holds hx', fun w => ?_⟩
          simp only [Instr.typeAssert, Sem.run_bind, run_und hu, Result.andThen_ok]
          cases d <;> first | (exact (hni _ rfl).elim) | (simp only [ht, if_true]; rfl)
        · rename_i ht
          obtain ⟨hok, z, hv, hz⟩ := failA_rel (μ := μ) h
          subst hok
          refine ⟨_, hv, fun w => ?_⟩
          simp only [Instr.typeAssert, Sem.run_bind, run_und hu, Result.andThen_ok]
          cases d <;> first | (exact (hni _ rfl).elim) | (simp only [ht, if_true, if_false, Sem.run_bind, hz, Result.andThen_ok]; rfl)
    · cases h
  · cases h

theorem intA_rel {n : Nat} {v : AV} (h : intA n = some v) : VRel μ v (goInt n) := by
  unfold intA at h
  split at h
  · rename_i hb
    injection h with h; subst h
    have hb : n < 2 ^ 62 := by simpa [Nat.blt_eq] using hb
    refine int_rel ?_ ?_
    · unfold toInt
      have : Nat.ble (2 ^ (IntKind.i64.bits - 1)) n = false := by
        cases e : Nat.ble (2 ^ (IntKind.i64.bits - 1)) n with
        | false => rfl
        | true =>
          have := Nat.le_of_ble_eq_true e
          have h2 : 2 ^ (IntKind.i64.bits - 1) = 9223372036854775808 := by decide
          omega
      rw [this]; simp
    · have h2 : 2 ^ IntKind.i64.bits = 18446744073709551616 := by decide
      omega
  · cases h

theorem lenA_rel {ats : Array TypeId} {t : TypeId} {x : AV} {cx : Value} {n : Nat} {ty : TypeId} (hat : ats[0]? = some t) (hx : VRel μ x cx) (h : lenA P t x = some n) (w : World) : (Builtin.len_ ats ty #[cx]).run P w = .ok (goInt n) w := by
  unfold lenA at h
  split at h
  · rename_i hu
    cases hx with
    | str _ _ s hs => injection h with h; subst h; simp only [Builtin.len_, hat, List.getElem?_toArray, List.getElem?_cons_zero, Sem.run_bind, run_und hu, Result.andThen_ok, Sem.run_pure]; rw [str_size hs]
  · rename_i hu
    injection h with h; subst h; simp only [Builtin.len_, hat, List.getElem?_toArray, List.getElem?_cons_zero, Sem.run_bind, run_und hu, Result.andThen_ok, Sem.run_pure]
  · rename_i a hu
    split at h
    · rename_i hua
      injection h with h; subst h
      simp only [Builtin.len_, hat, List.getElem?_toArray, List.getElem?_cons_zero, Sem.run_bind, run_und hu, run_und hua, Result.andThen_ok, Sem.run_pure]
    · cases h
  · rename_i hu; cases hx; injection h with h; subst h; simp only [Builtin.len_, hat, List.getElem?_toArray, List.getElem?_cons_zero, Sem.run_bind, run_und hu, Result.andThen_ok, Sem.run_pure]
  · rename_i hu; cases hx; injection h with h; subst h; simp only [Builtin.len_, hat, List.getElem?_toArray, List.getElem?_cons_zero, Sem.run_bind, run_und hu, Result.andThen_ok, Sem.run_pure]
  · rename_i hu; cases hx; injection h with h; subst h; simp only [Builtin.len_, hat, List.getElem?_toArray, List.getElem?_cons_zero, Sem.run_bind, run_und hu, Result.andThen_ok, Sem.run_pure]
  · rename_i hu; cases hx; injection h with h; subst h; simp only [Builtin.len_, hat, List.getElem?_toArray, List.getElem?_cons_zero, Sem.run_bind, run_und hu, Result.andThen_ok, Sem.run_pure]; rfl
  · cases h

theorem capA_rel {ats : Array TypeId} {t : TypeId} {x : AV} {cx : Value} {n : Nat} {ty : TypeId} (hat : ats[0]? = some t) (hx : VRel μ x cx) (h : capA P t x = some n) (w : World) : (Builtin.cap_ ats ty #[cx]).run P w = .ok (goInt n) w := by
  unfold capA at h
  split at h
  · rename_i hu
    cases hx with
    | slc hμ hn hc he hr =>
      injection h with h; subst h
      simp only [Builtin.cap_, hat, List.getElem?_toArray, List.getElem?_cons_zero, Sem.run_bind, run_und hu, Result.andThen_ok, Sem.run_pure, he rfl]
  · rename_i hu
    cases hx
    injection h with h; subst h
    simp only [Builtin.cap_, hat, List.getElem?_toArray, List.getElem?_cons_zero, Sem.run_bind, run_und hu, Result.andThen_ok, Sem.run_pure]
  · cases h

theorem minmax_rel (isMax : Bool) : ∀ {l : List AV} {cs : List Value} {x v : AV} {cx : Value}, VRel μ x cx → LRel μ l cs → minmax isMax x l = some v →
    ∃ c, VRel μ v c ∧ ∀ w, (cs.foldlM (if isMax then Builtin.max2 else Builtin.min2) cx).run P w = .ok c w
  | [], _, x, v, cx, hx, .nil, h => by
    simp only [minmax] at h; injection h with h; subst h
    exact ⟨cx, hx, fun _ => rfl⟩
  | y :: l, _, x, v, cx, hx, .cons (c := cy) (cs := cs) hy t, h => by
    cases hx with
    | int k n hn =>
      cases hy with
      | int k' m hm =>
        simp only [minmax] at h
        split at h
        · rename_i hk
          subst hk
          cases isMax with
          | true =>
            simp only [if_true] at h ⊢
            have e : ∀ w, (Builtin.max2 (.int k (toInt k n)) (.int k (toInt k m))).run P w = .ok (.int k (if toInt k m > toInt k n then toInt k m else toInt k n)) w := fun _ => rfl
            have hv : VRel μ (if Nat.blt (key k n) (key k m) = true then .int k m else .int k n) (.int k (if toInt k m > toInt k n then toInt k m else toInt k n)) := by
              have := key_lt k n m hn hm
              by_cases hlt : toInt k n < toInt k m
              · rw [if_pos hlt, if_pos (by rw [Nat.blt_eq]; exact this.1 hlt)]; exact .int k m hm
              · rw [if_neg hlt, if_neg (by rw [Nat.blt_eq]; exact fun e => hlt (this.2 e))]; exact .int k n hn
            obtain ⟨c, hc, hr⟩ := minmax_rel true hv t h
            refine ⟨c, hc, fun w => ?_⟩
            rw [List.foldlM_cons, Sem.run_bind, e, Result.andThen_ok]
            exact hr w
          | false =>
            simp only [Bool.false_eq_true, if_false] at h ⊢
            have e : ∀ w, (Builtin.min2 (.int k (toInt k n)) (.int k (toInt k m))).run P w = .ok (.int k (if toInt k m < toInt k n then toInt k m else toInt k n)) w := fun _ => rfl
            have hv : VRel μ (if Nat.blt (key k m) (key k n) = true then .int k m else .int k n) (.int k (if toInt k m < toInt k n then toInt k m else toInt k n)) := by
              have := key_lt k m n hm hn
              by_cases hlt : toInt k m < toInt k n
              · rw [if_pos hlt, if_pos (by rw [Nat.blt_eq]; exact this.1 hlt)]; exact .int k m hm
              · rw [if_neg hlt, if_neg (by rw [Nat.blt_eq]; exact fun e => hlt (this.2 e))]; exact .int k n hn
            obtain ⟨c, hc, hr⟩ := minmax_rel false hv t h
            refine ⟨c, hc, fun w => ?_⟩
            rw [List.foldlM_cons, Sem.run_bind, e, Result.andThen_ok]
            exact hr w
        · cases h
      | _ => simp [minmax] at h
    | _ => simp [minmax] at h

theorem convA_rel {s d : TypeId} {a v : AV} {c : Value} (ha : VRel μ a c) (h : convA P s d a = some v) : ∃ c', VRel μ v c' ∧ ∀ w, (convert s d c).run P w = .ok c' w := by
  unfold convA at h
  split at h
  · rename_i ds dk k n hs hd
    cases ha with
    | int _ _ hn =>
      injection h with h; subst h
      have := cast_rel (k := k) (d := dk) (n := n)
      refine ⟨_, int_rel this.1 this.2, fun w => ?_⟩
      simp only [convert, Sem.run_bind, run_und hs, run_und hd, Result.andThen_ok, Conv.intToInt, Sem.run_pure]
  · rename_i ds n x hs hd
    cases ha with
    | str _ _ u hu =>
      injection h with h; subst h
      refine ⟨_, .str _ _ _ hu, fun w => ?_⟩
      simp only [convert, Sem.run_bind, run_und hs, run_und hd, Result.andThen_ok]; rfl
  · cases h

/-! ## Any of them -/

theorem run_v {s : Sem Value} {c : Value} {w w' : World} (h : s.run P w = .ok c w') : (do pure (Next.value (← s)) : Sem Next).run P w = .ok (.value c) w' := by
  simp only [Sem.run_bind, h, Result.andThen_ok, Sem.run_pure]

theorem builtin_run (ρ : Operand → Value) (o : Oper) (b : Builtin) (args : Array Operand) (ats : Array TypeId) (ho : o.op = .call { callee := .builtin b, args, argTypes := ats }) :
    ∃ consts, ∀ w, (execOp ρ o).run P w = (builtin b ats o.type consts (args.map ρ)).run P w :=
  ⟨_, fun w => by simp only [execOp, ho, resolve, Sem.run_bind, Sem.run_pure, Result.andThen_ok, invoke]; rfl⟩

theorem toArray_map (ρ : Operand → Value) (a : Array Operand) : (a.toList.map ρ).toArray = a.map ρ := Array.toList_inj.1 (by simp)

theorem one_arg {ρ : Operand → Value} {args : Array Operand} {a : AV} (hl : LRel μ [a] (args.toList.map ρ)) : ∃ c, args.map ρ = #[c] ∧ VRel μ a c := by
  generalize hz : args.toList.map ρ = zs at hl
  cases hl with
  | cons hv ht =>
    cases ht
    rename_i c
    refine ⟨c, ?_, hv⟩
    apply Array.toList_inj.1
    rw [Array.toList_map, hz]

set_option maxHeartbeats 1000000 in
theorem pureOp_rel {ev : Operand → Option AV} {ρ : Operand → Value} (hev : ∀ x v, ev x = some v → VRel μ v (ρ x)) {o : Oper} {v : AV} (h : pureOp P ev o = some v) :
    ∃ c, VRel μ v c ∧ ∀ w, (execOp ρ o).run P w = .ok (.value c) w := by
  obtain ⟨dst, op, type, pos, after, guard⟩ := o
  unfold pureOp at h
  split at h
  · rename_i x e; dsimp only at e; subst e
    exact ⟨ρ x, hev _ _ h, fun w => rfl⟩
  · rename_i x e; dsimp only at e; subst e
    exact ⟨ρ x, hev _ _ h, fun w => rfl⟩
  · rename_i c a b e; dsimp only at e; subst e
    split at h
    · rename_i hc
      have := hev _ _ hc
      generalize hz : ρ c = z at this
      cases this
      exact ⟨ρ a, hev _ _ h, fun w => by simp only [execOp, hz, asBool, Sem.run_bind, Sem.run_pure, Result.andThen_ok, if_true]⟩
    · rename_i hc
      have := hev _ _ hc
      generalize hz : ρ c = z at this
      cases this
      exact ⟨ρ b, hev _ _ h, fun w => by simp only [execOp, hz, asBool, Sem.run_bind, Sem.run_pure, Result.andThen_ok, Bool.false_eq_true, if_false]⟩
    · cases h
  · rename_i t ps e; dsimp only at e; subst e
    split at h
    · rename_i l hl
      have hp := evParts_rel hev hl
      obtain ⟨c, hc, hr⟩ := buildA_rel (P := P) (cparts := ps.map fun (i, x) => (i, ρ x)) (by simpa using hp) h
      exact ⟨c, hc, fun w => run_v (hr w)⟩
    · cases h
  · rename_i x e; dsimp only at e; subst e
    split at h
    · cases h
    · cases h
    · cases h
    · cases h
    · rename_i u h1 h2 h3 hu
      injection h with h; subst h
      have hv := hev _ _ hu
      refine ⟨ρ x, hv, fun w => ?_⟩
      simp only [execOp]
      generalize hz : ρ x = z at hv
      cases hv <;> first | rfl | (exact (h1 rfl).elim) | (exact (h2 rfl).elim) | (exact (h3 rfl).elim) | skip
  · rename_i op t x y _ e; dsimp only at e; subst e
    split at h
    · rename_i a b ha hb
      obtain ⟨c, hc, hr⟩ := binA_rel (P := P) (x := x) (y := y) (hev _ _ ha) (hev _ _ hb) h
      exact ⟨c, hc, fun w => run_v (hr w)⟩
    · cases h
  · rename_i op _ x e; dsimp only at e; subst e
    split at h
    · rename_i a ha
      obtain ⟨c, hc, hr⟩ := un_rel (P := P) (hev _ _ ha) h
      exact ⟨c, hc, fun w => run_v (hr w)⟩
    · cases h
  · rename_i s d x e; dsimp only at e; subst e
    split at h
    · rename_i a ha
      obtain ⟨c, hc, hr⟩ := convA_rel (hev _ _ ha) h
      exact ⟨c, hc, fun w => run_v (hr w)⟩
    · cases h
  · rename_i t x e; dsimp only at e; subst e
    split at h
    · rename_i n _ b o len _ _ _ hu hx
      split at h
      · rename_i hle
        injection h with h; subst h
        have hv := hev _ _ hx
        generalize hz : ρ x = z at hv
        cases hv with
        | slc hμ =>
          refine ⟨_, .ptr hμ, fun w => ?_⟩
          refine run_v ?_
          simp only [hz, Instr.arrayAt, Sem.run_bind, run_und hu, Result.andThen_ok]
          rw [if_neg (by omega)]; rfl
      · cases h
    · cases h
  · rename_i t x e; dsimp only at e; subst e
    split at h
    · cases h
    · rename_i d a hni hu hx
      injection h with h; subst h
      refine ⟨_, .ifc t (hev _ _ hx), fun w => run_v ?_⟩
      simp only [Instr.makeInterface, Sem.run_bind, run_und hu, Result.andThen_ok]
      cases d <;> first | rfl | exact (hni _ rfl).elim
    · cases h
  · rename_i f fs cs e; dsimp only at e; subst e
    split at h
    · rename_i a b ha hb
      injection h with h; subst h
      have h1 := evList_rel hev ha
      have h2 := evList_rel hev hb
      refine ⟨.func (.func f) (fs.map ρ) (cs.map ρ), ?_, fun w => rfl⟩
      have := VRel.fn f h1 h2
      rwa [toArray_map, toArray_map] at this
    · cases h
  · rename_i t x lo hi mx e; dsimp only at e; subst e
    split at h
    · rename_i a l hh m ha hl hhi hm
      obtain ⟨c, hc, hr⟩ := sliceA_rel (P := P) (hev _ _ ha) (evOpt_rel hev hl) (evOpt_rel hev hhi) (evOpt_rel hev hm) h
      exact ⟨c, hc, fun w => run_v (hr w)⟩
    · cases h
  · rename_i s x f e; dsimp only at e; subst e
    split at h
    · rename_i a ha
      obtain ⟨c, hc, hr⟩ := fieldAddrA_rel (hev _ _ ha) h
      exact ⟨c, hc, fun w => run_v (hr w)⟩
    · cases h
  · rename_i s x f e; dsimp only at e; subst e
    split at h
    · rename_i a ha
      obtain ⟨c, hc, hr⟩ := fieldA_rel (hev _ _ ha) h
      exact ⟨c, hc, fun w => run_v (hr w)⟩
    · cases h
  · rename_i t x i e; dsimp only at e; subst e
    split at h
    · rename_i a b ha hb
      obtain ⟨c, hc, hr⟩ := indexAddrA_rel (hev _ _ ha) (hev _ _ hb) h
      exact ⟨c, hc, fun w => run_v (hr w)⟩
    · cases h
  · rename_i t x i e; dsimp only at e; subst e
    split at h
    · rename_i a b ha hb
      obtain ⟨c, hc, hr⟩ := indexA_rel (hev _ _ ha) (hev _ _ hb) h
      exact ⟨c, hc, fun w => run_v (hr w)⟩
    · cases h
  · rename_i x xt t ok e; dsimp only at e; subst e
    split at h
    · rename_i a ha
      obtain ⟨c, hc, hr⟩ := assertA_rel (xt := xt) (hev _ _ ha) h
      exact ⟨c, hc, fun w => run_v (hr w)⟩
    · cases h
  · rename_i x i e; dsimp only at e; subst e
    split at h
    · rename_i l hl
      have hv := hev _ _ hl
      generalize hz : ρ x = z at hv
      cases hv with
      | tup hr =>
        obtain ⟨c, hc, hv⟩ := hr.get i v h
        exact ⟨c, hv, fun w => run_v (by simp [hz, Instr.extract, hc])⟩
    · cases h
  · rename_i b args ats e; dsimp only at e; subst e
    split at h
    · rename_i a ha
      have hl := evList_rel hev ha
      split at h
      · rename_i t ht
        split at h
        · rename_i n hn
          refine ⟨_, intA_rel h, fun w => ?_⟩
          obtain ⟨consts, hb⟩ := builtin_run (P := P) ρ ⟨dst, .call { callee := .builtin _, args, argTypes := ats }, type, pos, after, guard⟩ _ _ _ rfl
          rw [hb]
          obtain ⟨c, hc, hv⟩ := one_arg hl
          rw [hc]
          exact run_v (lenA_rel ht hv hn w)
        · cases h
      · cases h
    · rename_i a ha
      have hl := evList_rel hev ha
      split at h
      · rename_i t ht
        split at h
        · rename_i n hn
          refine ⟨_, intA_rel h, fun w => ?_⟩
          obtain ⟨consts, hb⟩ := builtin_run (P := P) ρ ⟨dst, .call { callee := .builtin _, args, argTypes := ats }, type, pos, after, guard⟩ _ _ _ rfl
          rw [hb]
          obtain ⟨c, hc, hv⟩ := one_arg hl
          rw [hc]
          exact run_v (capA_rel ht hv hn w)
        · cases h
      · cases h
    · rename_i a r ha
      have hl := evList_rel hev ha
      obtain ⟨consts, hb⟩ := builtin_run (P := P) ρ ⟨dst, .call { callee := .builtin .max, args, argTypes := ats }, type, pos, after, guard⟩ _ _ _ rfl
      generalize hz : args.toList.map ρ = zs at hl
      have hargs : (args.map ρ).toList = zs := by rw [Array.toList_map]; exact hz
      cases hl with
      | cons hv ht =>
        obtain ⟨c', hc', hr⟩ := minmax_rel (P := P) true hv ht h
        refine ⟨c', hc', fun w => ?_⟩
        rw [hb]
        refine run_v ?_
        simp only [Builtin.max_, hargs]
        exact hr w
    · rename_i a r ha
      have hl := evList_rel hev ha
      obtain ⟨consts, hb⟩ := builtin_run (P := P) ρ ⟨dst, .call { callee := .builtin .min, args, argTypes := ats }, type, pos, after, guard⟩ _ _ _ rfl
      generalize hz : args.toList.map ρ = zs at hl
      have hargs : (args.map ρ).toList = zs := by rw [Array.toList_map]; exact hz
      cases hl with
      | cons hv ht =>
        obtain ⟨c', hc', hr⟩ := minmax_rel (P := P) false hv ht h
        refine ⟨c', hc', fun w => ?_⟩
        rw [hb]
        refine run_v ?_
        simp only [Builtin.min_, hargs]
        exact hr w
    · cases h
  · cases h

end
end Go.Abs
