/- Checkpoints that may be moved: a call told once, in a numbering of its own, holds in every heap that has its blocks under whatever numbers, and leaves the other blocks. -/
import Derived.Test.YtmfondkhhnnjjaaGreatDoorG2

namespace Go.Abs

mutual
/-- A value with its blocks under other numbers. -/
def ren (ρ : Nat → Nat) : AV → AV
  | .ptr b o => .ptr (ρ b) o
  | .slc b o n c s e => .slc (ρ b) o n c s e
  | .slc0 b s => .slc0 (ρ b) s
  | .map b => .map (ρ b)
  | .stamp b s => .stamp (ρ b) s
  | .fn f a c => .fn f (renL ρ a) (renL ρ c)
  | .ifc t v => .ifc t (ren ρ v)
  | .agg l => .agg (renL ρ l)
  | .tup l => .tup (renL ρ l)
  | .bool b => .bool b
  | .int k n => .int k n
  | .str n x => .str n x
  | .run n x => .run n x
  | .nilp => .nilp
  | .nils => .nils
  | .nilm => .nilm
  | .nilf => .nilf
  | .nili => .nili
def renL (ρ : Nat → Nat) : List AV → List AV
  | [] => []
  | v :: l => ren ρ v :: renL ρ l
end

theorem renL_map (ρ : Nat → Nat) : ∀ l, renL ρ l = l.map (ren ρ)
  | [] => by rw [renL]; rfl
  | v :: l => by rw [renL, renL_map ρ l]; rfl

mutual
theorem ren_id : ∀ v : AV, ren (fun b => b) v = v
  | .ptr .. | .slc .. | .slc0 .. | .map .. | .stamp .. | .bool .. | .int .. | .str .. | .run .. | .nilp | .nils | .nilm | .nilf | .nili => by simp only [ren]
  | .fn f a c => by simp only [ren, renL_id a, renL_id c]
  | .ifc t v => by simp only [ren, ren_id v]
  | .agg l => by simp only [ren, renL_id l]
  | .tup l => by simp only [ren, renL_id l]
theorem renL_id : ∀ l : List AV, renL (fun b => b) l = l
  | [] => by simp only [renL]
  | v :: l => by simp only [renL, ren_id v, renL_id l]
end

theorem ren_one (ρ : Nat → Nat) (v : AV) : (ren ρ v).one = v.one := by cases v <;> simp only [ren, AV.one]
theorem expand_renL (ρ : Nat → Nat) : ∀ l, expand (renL ρ l) = renL ρ (expand l)
  | [] => by simp only [renL, expand]
  | v :: l => by
    have ih := expand_renL ρ l
    cases v
    case run n x =>
      simp only [renL, ren, expand, ih]
      rw [renL_map ρ (runCells n x ++ expand l), renL_map ρ (expand l), List.map_append]
      congr 1
      rw [List.map_congr_left (g := id) (fun v hv => ?_), List.map_id]
      simp only [runCells, List.mem_map] at hv
      obtain ⟨y, _, rfl⟩ := hv
      simp only [ren, id]
    all_goals simp only [renL, ren, expand, ih]
theorem clen_renL (ρ : Nat → Nat) (l : List AV) : clen (renL ρ l) = clen l := by
  rw [clen_eq, clen_eq, expand_renL, renL_map, List.length_map]

section
variable {τ ρ : Nat → Nat} {μ1 μ2 : Inj}

theorem ren_list (P1 : ∀ v : AV, Prop) {l : List AV} (hl : ∀ v ∈ l, P1 v) (hint : ∀ n, P1 (.int .u8 n)) : ∀ v ∈ expand l, P1 v := by
  induction l with
  | nil => intro v hv; simp [expand] at hv
  | cons u l ih =>
    intro v hv
    rw [expand_cons] at hv
    rcases List.mem_append.1 hv with hv | hv
    · cases u
      case run n x =>
        simp only [expand, List.append_nil, runCells, List.mem_map] at hv
        obtain ⟨y, _, rfl⟩ := hv
        exact hint y
      all_goals (simp only [expand, List.mem_singleton] at hv; subst hv; exact hl _ (List.mem_cons_self ..))
    · exact ih (fun v hv => hl v (List.mem_cons_of_mem _ hv)) v hv

theorem lrel_of_mem : ∀ {l : List AV} {cs : List Value}, (∀ v ∈ l, ∀ c, VRel μ1 (ren τ v) c → VRel μ2 (ren ρ v) c) → LRel μ1 (renL τ l) cs → LRel μ2 (renL ρ l) cs
  | [], cs, _, h => by simp only [renL] at h ⊢; cases h; exact .nil
  | v :: l, cs, hl, h => by
    simp only [renL] at h ⊢
    cases h with
    | cons h t => exact .cons (hl v (List.mem_cons_self ..) _ h) (lrel_of_mem (fun u hu => hl u (List.mem_cons_of_mem _ hu)) t)

mutual
theorem ren_rel (h1 : ∀ b x, μ1 (τ b) = some x → μ2 (ρ b) = some x) (h2 : ∀ b s x, μ1.st (τ b) s = some x → μ2.st (ρ b) s = some x) : ∀ (v : AV) (c : Value), VRel μ1 (ren τ v) c → VRel μ2 (ren ρ v) c
  | .bool b, c, h => by simp only [ren] at h ⊢; cases h; exact .bool b
  | .int k n, c, h => by simp only [ren] at h ⊢; cases h with | int _ _ h => exact .int k n h
  | .str n x, c, h => by simp only [ren] at h ⊢; cases h with | str _ _ s h => exact .str n x s h
  | .run n x, c, h => by simp only [ren] at h; cases h
  | .ptr b o, c, h => by simp only [ren] at h ⊢; cases h with | ptr h => exact .ptr (h1 _ _ h)
  | .nilp, c, h => by simp only [ren] at h ⊢; cases h; exact .nilp
  | .slc b o n c' s e, c, h => by simp only [ren] at h ⊢; cases h with | slc h hn hc he hr => exact .slc (h1 _ _ h) hn hc he hr
  | .slc0 b s, c, h => by simp only [ren] at h ⊢; cases h with | slc0 h hr => exact .slc0 (h1 _ _ h) hr
  | .nils, c, h => by simp only [ren] at h ⊢; cases h; exact .nils
  | .map b, c, h => by simp only [ren] at h ⊢; cases h with | map h => exact .map (h1 _ _ h)
  | .nilm, c, h => by simp only [ren] at h ⊢; cases h; exact .nilm
  | .fn f a b, c, h => by
    simp only [ren] at h ⊢
    cases h with
    | fn _ ha hb => exact .fn f (lrel_of_mem (ren_relL h1 h2 a) ha) (lrel_of_mem (ren_relL h1 h2 b) hb)
  | .nilf, c, h => by simp only [ren] at h ⊢; cases h; exact .nilf
  | .ifc t v, c, h => by simp only [ren] at h ⊢; cases h with | ifc _ h => exact .ifc t (ren_rel h1 h2 v _ h)
  | .nili, c, h => by simp only [ren] at h ⊢; cases h; exact .nili
  | .agg l, c, h => by
    simp only [ren] at h ⊢
    cases h with
    | agg h g =>
      rw [expand_renL] at h g
      refine .agg (l := renL ρ l) ?_ ?_
      · rw [expand_renL]
        exact lrel_of_mem (ren_list (fun v => ∀ c, VRel μ1 (ren τ v) c → VRel μ2 (ren ρ v) c) (ren_relL h1 h2 l) (fun n c h => by simp only [ren] at h ⊢; cases h with | int _ _ h => exact .int _ n h)) h
      · rw [expand_renL]
        intro v hv
        rw [renL_map] at g hv
        obtain ⟨u, hu, rfl⟩ := List.mem_map.1 hv
        have := g _ (List.mem_map.2 ⟨u, hu, rfl⟩)
        rw [ren_one] at this ⊢
        exact this
  | .tup l, c, h => by
    simp only [ren] at h ⊢
    cases h with
    | tup h => exact .tup (lrel_of_mem (ren_relL h1 h2 l) h)
  | .stamp b s, c, h => by simp only [ren] at h ⊢; cases h with | stamp h => exact .stamp (h2 _ _ _ h)
theorem ren_relL (h1 : ∀ b x, μ1 (τ b) = some x → μ2 (ρ b) = some x) (h2 : ∀ b s x, μ1.st (τ b) s = some x → μ2.st (ρ b) s = some x) : ∀ (l : List AV), ∀ v ∈ l, ∀ c, VRel μ1 (ren τ v) c → VRel μ2 (ren ρ v) c
  | [], v, h => by cases h
  | u :: l, v, h => by
    rcases List.mem_cons.1 h with e | h
    · rw [e]; exact ren_rel h1 h2 u
    · exact ren_relL h1 h2 l v h
end

theorem renL_rel (h1 : ∀ b x, μ1 (τ b) = some x → μ2 (ρ b) = some x) (h2 : ∀ b s x, μ1.st (τ b) s = some x → μ2.st (ρ b) s = some x) {l : List AV} {cs : List Value} (h : LRel μ1 (renL τ l) cs) : LRel μ2 (renL ρ l) cs :=
  lrel_of_mem (ren_relL h1 h2 l) h
end

/-- A written object with its blocks under other numbers. -/
def renE (ρ : Nat → Nat) : List (AV × AV × Nat) → List (AV × AV × Nat)
  | [] => []
  | (k, v, s) :: r => (ren ρ k, ren ρ v, s) :: renE ρ r
def renR (ρ : Nat → Nat) : List (Nat × List AV) → List (Nat × List AV)
  | [] => []
  | (i, r) :: l => (i, renL ρ r) :: renR ρ l
def renO (ρ : Nat → Nat) : LObj → LObj
  | .lst n l => .lst n (renL ρ l)
  | .rows sz cnt z rs => .rows sz cnt (renL ρ z) (renR ρ rs)
  | .mp es c => .mp (renE ρ es) c

theorem treeL_renR (ρ : Nat → Nat) (i : Nat) : ∀ rs, (treeL (renR ρ rs)).get i = match (treeL rs).get i with | some r => some (renL ρ r) | none => none
  | [] => by simp only [renR, treeL, Map.get_empty]
  | (j, r) :: l => by
    simp only [renR, treeL, Map.get_put]
    split
    · rfl
    · exact treeL_renR ρ i l

theorem mrel_ren {τ ρ : Nat → Nat} {μ1 μ2 : Inj} (h1 : ∀ b x, μ1 (τ b) = some x → μ2 (ρ b) = some x) (h2 : ∀ b s x, μ1.st (τ b) s = some x → μ2.st (ρ b) s = some x) {b : Nat} :
    ∀ {es : List (AV × AV × Nat)} {ces : List MapEntry}, MRel μ1 (τ b) (renE τ es) ces → MRel μ2 (ρ b) (renE ρ es) ces
  | [], _, h => by simp only [renE] at h ⊢; cases h; exact .nil
  | (k, v, s) :: r, _, h => by
    simp only [renE] at h ⊢
    cases h with
    | cons hk hv hs t => exact .cons (ren_rel h1 h2 k _ hk) (ren_rel h1 h2 v _ hv) (h2 _ _ _ hs) (mrel_ren h1 h2 t)

theorem cell_lst_ren (ρ : Nat → Nat) (n : Nat) (l : List AV) (i : Nat) : (Blk.lst n (renL ρ l)).cell i = ((Blk.lst n l).cell i).map (ren ρ) := by
  show (expand (renL ρ l))[i]? = (expand l)[i]?.map (ren ρ)
  rw [expand_renL, renL_map, List.getElem?_map]
theorem rowAt_ren (ρ : Nat → Nat) (z : List AV) (rs : List (Nat × List AV)) (i : Nat) : rowAt (renL ρ z) (treeL (renR ρ rs)) i = renL ρ (rowAt z (treeL rs) i) := by
  unfold rowAt
  rw [treeL_renR]
  cases (treeL rs).get i <;> rfl
theorem cell_rows_ren (ρ : Nat → Nat) (sz cnt : Nat) (z : List AV) (rs : List (Nat × List AV)) (i : Nat) : (Blk.rows sz cnt (renL ρ z) (treeL (renR ρ rs))).cell i = ((Blk.rows sz cnt z (treeL rs)).cell i).map (ren ρ) := by
  show (if i / sz < cnt then (expand (rowAt (renL ρ z) (treeL (renR ρ rs)) (i / sz)))[i % sz]? else none) = Option.map (ren ρ) (if i / sz < cnt then (expand (rowAt z (treeL rs) (i / sz)))[i % sz]? else none)
  rw [rowAt_ren, expand_renL, renL_map, List.getElem?_map]
  split <;> rfl

theorem orel_ren {τ ρ : Nat → Nat} {μ1 μ2 : Inj} (h1 : ∀ b x, μ1 (τ b) = some x → μ2 (ρ b) = some x) (h2 : ∀ b s x, μ1.st (τ b) s = some x → μ2.st (ρ b) s = some x) {b : Nat} {lo : LObj} {β δ r : Nat} {w : World}
    (h : ORel μ1 (τ b) (renO τ lo).obj β δ r w) : ORel μ2 (ρ b) (renO ρ lo).obj β δ r w := by
  cases lo with
  | lst n l =>
    obtain ⟨a1, a2, a3, a4, a5⟩ := h
    refine ⟨by have : clen (renL τ l) = n := a1
               show clen (renL ρ l) = n
               rw [clen_renL] at this ⊢; exact this, a2, a3, a4, fun i v hv => ?_⟩
    have hv : (Blk.lst n (renL ρ l)).cell i = some v := hv
    rw [cell_lst_ren, Option.map_eq_some_iff] at hv
    obtain ⟨u, hu, rfl⟩ := hv
    obtain ⟨b1, c, b2, b3⟩ := a5 i (ren τ u) (by show (Blk.lst n (renL τ l)).cell i = _; rw [cell_lst_ren, hu]; rfl)
    rw [ren_one] at b1 ⊢
    exact ⟨b1, c, b2, ren_rel h1 h2 u c b3⟩
  | rows sz cnt z rs =>
    obtain ⟨a1, a2, a3, a4, a5⟩ := h
    obtain ⟨p1, p2, p3, p4⟩ : 0 < sz ∧ cnt ≤ 65536 ∧ clen (renL τ z) = sz ∧ ∀ i r, (treeL (renR τ rs)).get i = some r → clen r = sz := a1
    refine ⟨?_, a2, a3, a4, fun i v hv => ?_⟩
    · refine (⟨p1, p2, ?_, fun i r hr => ?_⟩ : 0 < sz ∧ cnt ≤ 65536 ∧ clen (renL ρ z) = sz ∧ ∀ i r, (treeL (renR ρ rs)).get i = some r → clen r = sz)
      · rw [clen_renL] at p3 ⊢; exact p3
      · rw [treeL_renR] at hr
        cases e : (treeL rs).get i with
        | none => rw [e] at hr; cases hr
        | some q =>
          rw [e] at hr; cases hr
          have := p4 i (renL τ q) (by rw [treeL_renR, e])
          rw [clen_renL] at this ⊢; exact this
    · have hv : (Blk.rows sz cnt (renL ρ z) (treeL (renR ρ rs))).cell i = some v := hv
      rw [cell_rows_ren, Option.map_eq_some_iff] at hv
      obtain ⟨u, hu, rfl⟩ := hv
      obtain ⟨b1, c, b2, b3⟩ := a5 i (ren τ u) (by show (Blk.rows sz cnt (renL τ z) (treeL (renR τ rs))).cell i = _; rw [cell_rows_ren, hu]; rfl)
      rw [ren_one] at b1 ⊢
      exact ⟨b1, c, b2, ren_rel h1 h2 u c b3⟩
  | mp es c =>
    obtain ⟨ces, cclock, a1, ⟨p, hp, hm⟩, a3, a4⟩ := h
    exact ⟨ces, cclock, a1, ⟨p, hp, mrel_ren h1 h2 hm⟩, a3, a4⟩

end Go.Abs

/- A call told once, in a numbering of its own: the oracle, and that it is right. -/
namespace Go.Abs
noncomputable section

def atD : List Nat → Nat → Nat → Nat
  | [], _, d => d
  | x :: _, 0, _ => x
  | _ :: l, i + 1, d => atD l i d
def nodupB : List Nat → Bool
  | [] => true
  | x :: l => !(l.any (Nat.beq x)) && nodupB l
def numb : Nat → List (Option LObj) → List (Nat × LObj)
  | _, [] => []
  | n, some lo :: l => (n, lo) :: numb (n + 1) l
  | n, none :: l => numb (n + 1) l
/-- The blocks that are told of, not named alone. -/
def toldB : List Nat → List (Option LObj) → List Nat
  | b :: bs, some _ :: l => b :: toldB bs l
  | _ :: bs, none :: l => toldB bs l
  | _, _ => []
def lowB (nx : Nat) : List Nat → Bool
  | [] => true
  | b :: l => Nat.blt b nx && lowB nx l
/-- Where the checkpoint's blocks lie: the first nc in bs, the new ones from nx on. -/
def rhoOf (bs : List Nat) (nc nx b : Nat) : Nat := bif Nat.blt b nc then atD bs b 0 else nx + (b - nc)
/-- Which the checkpoint's blocks are behind the call: the first nc as they were, the new ones as nb tells. -/
def tauOf (nb : List Nat) (nc nf b : Nat) : Nat := bif Nat.blt b nc then b else atD nb (b - nc) nf

def holdsR (ρ : Nat → Nat) (H : AH) : List (Nat × LObj) → Bool
  | [] => true
  | (b, lo) :: l => (match H.get (ρ b) with | some o => sameO (renO ρ lo) o | none => false) && holdsR ρ H l
def killL : List Nat → Map AObj → Map AObj
  | [], m => m
  | b :: l, m => (killL l m).put b none
def layM (ρ : Nat → Nat) : List (Nat × LObj) → Map AObj → Map AObj
  | [], m => m
  | (b, lo) :: l, m => (layM ρ l m).put (ρ b) (some (renO ρ lo).obj)

/-- What a call came to is what is written down. -/
def ckROk (nc : Nat) (v1 : AV) (l1 : List (Nat × LObj)) (nb : List Nat) (r : Res) : Bool :=
  match r with
  | some (v, Hf) => nodupB nb && nb.all (Nat.ble nc) && sameA v (ren (tauOf nb nc Hf.next) v1) && holdsR (tauOf nb nc Hf.next) Hf l1
  | none => false
/-- The oracle of such a call, where the blocks lie at bs. -/
def ckRO (bs : List Nat) (A : List AV) (lc : List (Option LObj)) (v1 : AV) (l1 : List (Nat × LObj)) (nb : List Nat) (args : List AV) (H : AH) : Option (AV × AH) :=
  if Nat.beq bs.length lc.length && nodupB bs && lowB H.next bs && sameL args (renL (rhoOf bs lc.length H.next) A) && holdsR (rhoOf bs lc.length H.next) H (numb 0 lc)
  then some (ren (rhoOf bs lc.length H.next) v1, ⟨layM (rhoOf bs lc.length H.next) l1 (killL (toldB bs lc) H.m), H.next + nb.length⟩) else none

/-! ## The laws -/

theorem atD_eq (d : Nat) : ∀ (l : List Nat) (i : Nat), atD l i d = match l[i]? with | some x => x | none => d
  | [], i => by simp [atD]
  | x :: l, 0 => by simp [atD]
  | x :: l, i + 1 => by simp [atD, atD_eq d l i]
theorem nodupB_nodup : ∀ {l : List Nat}, nodupB l = true → l.Nodup
  | [], _ => List.nodup_nil
  | x :: l, h => by
    simp only [nodupB, Bool.and_eq_true, Bool.not_eq_true', List.any_eq_false] at h
    refine List.nodup_cons.2 ⟨fun hm => h.1 x hm (Nat.beq_refl x), nodupB_nodup h.2⟩

def idxO (b : Nat) : List Nat → Option Nat
  | [] => none
  | x :: l => if x = b then some 0 else match idxO b l with | some i => some (i + 1) | none => none
theorem idxO_some {b : Nat} : ∀ {l : List Nat} {i : Nat}, idxO b l = some i → l[i]? = some b
  | [], i, h => by cases h
  | x :: l, i, h => by
    simp only [idxO] at h
    split at h
    · rename_i e; cases h; simp [e]
    · split at h
      · rename_i j hj; cases h; simp [idxO_some hj]
      · cases h
theorem idxO_none {b : Nat} : ∀ {l : List Nat}, idxO b l = none → b ∉ l
  | [], _ => by simp
  | x :: l, h => by
    simp only [idxO] at h
    split at h
    · cases h
    · rename_i e
      split at h
      · cases h
      · rename_i h2
        intro hm
        rcases List.mem_cons.1 hm with rfl | hm
        · exact e rfl
        · exact idxO_none h2 hm
theorem idxO_get {b : Nat} : ∀ {l : List Nat} {i : Nat}, l.Nodup → l[i]? = some b → idxO b l = some i
  | [], i, _, h => by simp at h
  | x :: l, 0, _, h => by simp at h; simp [idxO, h]
  | x :: l, i + 1, hn, h => by
    have h : l[i]? = some b := by simpa using h
    have hx : x ≠ b := fun e => (List.nodup_cons.1 hn).1 (by rw [e]; exact List.mem_of_getElem? h)
    simp [idxO, hx, idxO_get (List.nodup_cons.1 hn).2 h]
theorem idxO_mem {b : Nat} {l : List Nat} (h : b ∈ l) : ∃ i, idxO b l = some i := by
  cases e : idxO b l with
  | none => exact absurd h (idxO_none e)
  | some i => exact ⟨i, rfl⟩

theorem numb_mem : ∀ {l : List (Option LObj)} {n b : Nat} {lo : LObj}, (b, lo) ∈ numb n l → n ≤ b ∧ l[b - n]? = some (some lo)
  | [], n, b, lo, h => by cases h
  | none :: l, n, b, lo, h => by
    obtain ⟨h1, h2⟩ := numb_mem (l := l) (n := n + 1) h
    refine ⟨by omega, ?_⟩
    rw [show b - n = (b - (n + 1)) + 1 by omega]
    simpa using h2
  | some x :: l, n, b, lo, h => by
    rcases List.mem_cons.1 h with h | h
    · cases h; simp
    · obtain ⟨h1, h2⟩ := numb_mem h
      refine ⟨by omega, ?_⟩
      rw [show b - n = (b - (n + 1)) + 1 by omega]
      simpa using h2
theorem numb_get : ∀ {l : List (Option LObj)} {n i : Nat} {lo : LObj}, l[i]? = some (some lo) → (n + i, lo) ∈ numb n l
  | [], n, i, lo, h => by simp at h
  | none :: l, n, 0, lo, h => by simp at h
  | some x :: l, n, 0, lo, h => by simp at h; subst h; exact List.mem_cons_self ..
  | x :: l, n, i + 1, lo, h => by
    have := numb_get (n := n + 1) (show l[i]? = some (some lo) by simpa using h)
    rw [show n + (i + 1) = n + 1 + i by omega]
    cases x with
    | none => exact this
    | some x => exact List.mem_cons_of_mem _ this
theorem toldB_get : ∀ {bs : List Nat} {l : List (Option LObj)} {b : Nat}, b ∈ toldB bs l → ∃ (i : Nat) (lo : LObj), bs[i]? = some b ∧ l[i]? = some (some lo)
  | [], l, b, h => by simp [toldB] at h
  | c :: bs, [], b, h => by simp [toldB] at h
  | c :: bs, some lo :: l, b, h => by
    simp only [toldB] at h
    rcases List.mem_cons.1 h with rfl | h
    · exact ⟨0, lo, rfl, rfl⟩
    · obtain ⟨i, mo, h1, h2⟩ := toldB_get h
      exact ⟨i + 1, mo, by simpa using h1, by simpa using h2⟩
  | c :: bs, none :: l, b, h => by
    simp only [toldB] at h
    obtain ⟨i, mo, h1, h2⟩ := toldB_get h
    exact ⟨i + 1, mo, by simpa using h1, by simpa using h2⟩
theorem toldB_mem : ∀ {bs : List Nat} {l : List (Option LObj)} {i b : Nat} {lo : LObj}, bs[i]? = some b → l[i]? = some (some lo) → b ∈ toldB bs l
  | [], l, i, b, lo, h, _ => by simp at h
  | c :: bs, [], i, b, lo, _, h => by simp at h
  | c :: bs, x :: l, 0, b, lo, h1, h2 => by
    simp at h1 h2; subst h1 h2
    simp only [toldB]; exact List.mem_cons_self ..
  | c :: bs, x :: l, i + 1, b, lo, h1, h2 => by
    have := toldB_mem (show bs[i]? = some b by simpa using h1) (show l[i]? = some (some lo) by simpa using h2)
    cases x with
    | none => exact this
    | some x => exact List.mem_cons_of_mem _ this
theorem lowB_mem {nx : Nat} : ∀ {l : List Nat}, lowB nx l = true → ∀ b ∈ l, b < nx
  | [], _, b, h => by cases h
  | x :: l, h, b, hm => by
    simp only [lowB, Bool.and_eq_true, Nat.blt_eq] at h
    rcases List.mem_cons.1 hm with rfl | hm
    · exact h.1
    · exact lowB_mem h.2 b hm

theorem holdsR_mem {ρ : Nat → Nat} {H : AH} : ∀ {l : List (Nat × LObj)}, holdsR ρ H l = true → ∀ b lo, (b, lo) ∈ l → ∃ o, H.get (ρ b) = some o ∧ OLe (renO ρ lo).obj o
  | [], _, b, lo, h => by cases h
  | (c, mo) :: l, h, b, lo, hm => by
    simp only [holdsR, Bool.and_eq_true] at h
    rcases List.mem_cons.1 hm with e | hm
    · cases e
      have h1 := h.1
      split at h1
      · rename_i o ho; exact ⟨o, ho, sameO_le h1⟩
      · cases h1
    · exact holdsR_mem h.2 b lo hm

theorem killL_get {b : Nat} {o : AObj} : ∀ {l : List Nat} {m : Map AObj}, (killL l m).get b = some o → m.get b = some o ∧ b ∉ l
  | [], m, h => ⟨h, by simp⟩
  | x :: l, m, h => by
    rw [killL, Map.get_put] at h
    split at h
    · cases h
    · rename_i hne
      obtain ⟨h1, h2⟩ := killL_get h
      refine ⟨h1, fun hm => ?_⟩
      rcases List.mem_cons.1 hm with e | hm
      · rcases Nat.lt_or_ge x (4 ^ 8) with hx | hx
        · exact hne ⟨e, hx⟩
        · rw [e, Map.get_big _ _ hx] at h1; cases h1
      · exact h2 hm
theorem layM_get {ρ : Nat → Nat} {b : Nat} {o : AObj} : ∀ {l : List (Nat × LObj)} {m : Map AObj}, (layM ρ l m).get b = some o → (∃ c lo, (c, lo) ∈ l ∧ b = ρ c ∧ o = (renO ρ lo).obj) ∨ m.get b = some o
  | [], m, h => .inr h
  | (c, lo) :: l, m, h => by
    rw [layM, Map.get_put] at h
    split at h
    · rename_i hc; cases h; exact .inl ⟨c, lo, List.mem_cons_self .., hc.1, rfl⟩
    · rcases layM_get h with ⟨d, mo, h1, h2, h3⟩ | h
      · exact .inl ⟨d, mo, List.mem_cons_of_mem _ h1, h2, h3⟩
      · exact .inr h

theorem renE_id : ∀ es, renE (fun b => b) es = es
  | [] => rfl
  | (k, v, s) :: r => by simp only [renE, ren_id, renE_id r]
theorem renR_id : ∀ rs, renR (fun b => b) rs = rs
  | [] => rfl
  | (i, r) :: l => by simp only [renR, renL_id, renR_id l]
theorem renO_id (lo : LObj) : renO (fun b => b) lo = lo := by
  cases lo <;> simp only [renO, renL_id, renE_id, renR_id]

section
variable {μ : Inj} {H : AH} {w : World} {bs nb : List Nat} {lc : List (Option LObj)}

/-- The checkpoint's own places. -/
def mu0 (μ : Inj) (ρ : Nat → Nat) : Inj := ⟨fun b => μ (ρ b), fun b s => μ.st (ρ b) s⟩
/-- The places behind the call. -/
def mu2 (μ μ' : Inj) (bs nb : List Nat) (nx : Nat) : Inj :=
  ⟨fun b => match idxO b bs with | some i => μ' i | none => if b < nx then μ b else match nb[b - nx]? with | some c => μ' c | none => none,
   fun b s => match idxO b bs with | some i => μ'.st i s | none => if b < nx then μ.st b s else match nb[b - nx]? with | some c => μ'.st c s | none => none⟩

theorem rho_old (h : bs.length = lc.length) {b : Nat} (hb : b < lc.length) (nx : Nat) : bs[b]? = some (rhoOf bs lc.length nx b) := by
  have e : Nat.blt b lc.length = true := by rw [Nat.blt_eq]; exact hb
  rw [rhoOf, e, cond_true, atD_eq]
  rw [List.getElem?_eq_getElem (by omega)]
theorem rho_new {b nx : Nat} (hb : lc.length ≤ b) : rhoOf bs lc.length nx b = nx + (b - lc.length) := by
  have e : Nat.blt b lc.length = false := by
    cases h : Nat.blt b lc.length with
    | false => rfl
    | true => rw [Nat.blt_eq] at h; omega
  rw [rhoOf, e, cond_false]
theorem tau_old {b nf : Nat} (hb : b < lc.length) : tauOf nb lc.length nf b = b := by
  have e : Nat.blt b lc.length = true := by rw [Nat.blt_eq]; exact hb
  rw [tauOf, e, cond_true]
theorem tau_new {b nf : Nat} (hb : lc.length ≤ b) : tauOf nb lc.length nf b = match nb[b - lc.length]? with | some x => x | none => nf := by
  have e : Nat.blt b lc.length = false := by
    cases h : Nat.blt b lc.length with
    | false => rfl
    | true => rw [Nat.blt_eq] at h; omega
  rw [tauOf, e, cond_false, atD_eq]

/-- What is known where a checkpoint is put to use. -/
structure Use (μ : Inj) (H : AH) (w : World) (bs : List Nat) (lc : List (Option LObj)) : Prop where
  rel : HRel μ H w
  len : bs.length = lc.length
  nodup : bs.Nodup
  lt : ∀ b ∈ bs, b < H.next
  has : ∀ b lo, lc[b]? = some (some lo) → ∃ o, H.get (rhoOf bs lc.length H.next b) = some o ∧ OLe (renO (rhoOf bs lc.length H.next) lo).obj o

theorem Use.live (u : Use μ H w bs lc) {b : Nat} (hb : b ∈ toldB bs lc) : ∃ i, i < lc.length ∧ rhoOf bs lc.length H.next i = b ∧ (H.get b).isSome = true := by
  obtain ⟨i, lo, hi, hlo⟩ := toldB_get hb
  have hlt : i < lc.length := by have := (List.getElem?_eq_some_iff.1 hi).1; rw [u.len] at this; exact this
  have e := rho_old u.len hlt H.next
  rw [hi] at e; injection e with e
  obtain ⟨o, ho, _⟩ := u.has i lo hlo
  exact ⟨i, hlt, e.symm, by rw [e, ho]; rfl⟩
theorem live_lt (h : HRel μ H w) {b : Nat} (hb : (H.get b).isSome = true) : b < H.next ∧ ∃ β δ r, μ b = some (β, δ, r) ∧ β < w.heap.size := by
  obtain ⟨o, ho⟩ := Option.isSome_iff_exists.1 hb
  obtain ⟨β, δ, r, hμ, hr⟩ := h.obj b o ho
  refine ⟨?_, β, δ, r, hμ, hr.lt⟩
  rcases Nat.lt_or_ge b H.next with hl | hl
  · exact hl
  · rw [(h.fresh b hl).1] at hμ; cases hμ
abbrev hcOf (lc : List (Option LObj)) : AH := heapOf (numb 0 lc) lc.length
theorem hc_get {b : Nat} {o : AObj} (h : (hcOf lc).get b = some o) : ∃ lo, lc[b]? = some (some lo) ∧ o = lo.obj := by
  obtain ⟨lo, h1, h2⟩ := heapOf_get h
  exact ⟨lo, by simpa using (numb_mem h1).2, h2⟩
theorem hc_lt {b : Nat} (h : ((hcOf lc).get b).isSome = true) : b < lc.length := by
  obtain ⟨o, ho⟩ := Option.isSome_iff_exists.1 h
  obtain ⟨lo, h1, _⟩ := hc_get ho
  exact (List.getElem?_eq_some_iff.1 h1).1

theorem Use.rel0 (u : Use μ H w bs lc) : HRel (mu0 μ (rhoOf bs lc.length H.next)) (hcOf lc) w where
  obj := fun b o hb => by
    obtain ⟨lo, h1, rfl⟩ := hc_get hb
    obtain ⟨o', h2, h3⟩ := u.has b lo h1
    obtain ⟨β, δ, r, hμ, ho⟩ := u.rel.obj _ _ h2
    refine ⟨β, δ, r, hμ, ?_⟩
    have := orel_ren (τ := rhoOf bs lc.length H.next) (ρ := fun b => b) (μ1 := μ) (μ2 := mu0 μ (rhoOf bs lc.length H.next)) (fun _ _ h => h) (fun _ _ _ h => h) (h3.1 _ _ _ _ _ _ ho)
    rw [renO_id] at this
    exact this
  inj := fun b b' β δ r δ' r' hs hs' h1 h2 => by
    have l1 := hc_lt hs
    have l2 := hc_lt hs'
    obtain ⟨p, hp⟩ := Option.isSome_iff_exists.1 hs
    obtain ⟨p', hp'⟩ := Option.isSome_iff_exists.1 hs'
    obtain ⟨lo, q, _⟩ := hc_get hp
    obtain ⟨lo', q', _⟩ := hc_get hp'
    obtain ⟨o, ho, _⟩ := u.has b lo q
    obtain ⟨o', ho', _⟩ := u.has b' lo' q'
    have e := u.rel.inj _ _ β δ r δ' r' (by rw [ho]; rfl) (by rw [ho']; rfl) h1 h2
    have e1 := idxO_get u.nodup (rho_old u.len l1 H.next)
    have e2 := idxO_get u.nodup (rho_old u.len l2 H.next)
    rw [e, e2] at e1; exact (Option.some.inj e1).symm
  fresh := fun b hb => by
    have hb : lc.length ≤ b := hb
    have := u.rel.fresh (rhoOf bs lc.length H.next b) (by rw [rho_new hb]; omega)
    exact this
  freshS := fun b es clock hb s hs => by
    obtain ⟨lo, h1, h2⟩ := hc_get hb
    obtain ⟨o', h3, h4⟩ := u.has b lo h1
    cases lo with
    | lst => cases h2
    | rows => cases h2
    | mp es' c =>
      cases h2
      rw [h4.2 _ _ rfl] at h3
      exact u.rel.freshS _ _ _ h3 s hs

variable {μ' : Inj} {Hf : AH} {w' : World}

theorem Use.mu2_rho (u : Use μ H w bs lc) (hf : HRel μ' Hf w') (b : Nat) :
    mu2 μ μ' bs nb H.next (rhoOf bs lc.length H.next b) = μ' (tauOf nb lc.length Hf.next b) ∧ ∀ s, (mu2 μ μ' bs nb H.next).st (rhoOf bs lc.length H.next b) s = μ'.st (tauOf nb lc.length Hf.next b) s := by
  rcases Nat.lt_or_ge b lc.length with hb | hb
  · have e := idxO_get u.nodup (rho_old u.len hb H.next)
    rw [tau_old hb]
    simp only [mu2, e]
    exact ⟨trivial, fun _ => trivial⟩
  · have e : idxO (rhoOf bs lc.length H.next b) bs = none := by
      cases h : idxO (rhoOf bs lc.length H.next b) bs with
      | none => rfl
      | some i =>
        have := u.lt _ (List.mem_of_getElem? (idxO_some h))
        rw [rho_new hb] at this; omega
    rw [tau_new hb]
    simp only [mu2, e]
    rw [rho_new hb, show H.next + (b - lc.length) - H.next = b - lc.length by omega, if_neg (by omega)]
    cases nb[b - lc.length]? with
    | some x => simp only [if_neg (show ¬ H.next + (b - lc.length) < H.next by omega)]; exact ⟨trivial, fun _ => trivial⟩
    | none =>
      simp only [if_neg (show ¬ H.next + (b - lc.length) < H.next by omega)]
      have := hf.fresh Hf.next (Nat.le_refl _)
      exact ⟨this.1.symm, fun s => (this.2 s).symm⟩

end
end
end Go.Abs
