/- Blocks of the abstract heap. -/
import Derived.Test.YtmfondkhhnnjjaaGreatDoorA1
import Derived.Laws.IdiomCopy
import Derived.Laws.Cells
import Derived.Laws.NewBlocks
import Derived.Laws.NewFold

namespace Go.Abs
noncomputable section

/-- A block of cells: a row; or many rows of one size, all alike but some. -/
inductive Blk where
  | lst (n : Nat) (l : List AV)
  | rows (sz cnt : Nat) (z : List AV) (t : Map (List AV))

def rowAt (z : List AV) (t : Map (List AV)) (i : Nat) : List AV := match t.get i with | some r => r | none => z

/-- A block's cell. -/
def Blk.cell : Blk → Nat → Option AV
  | .lst _ l, i => (expand l)[i]?
  | .rows sz cnt z t, i => if i / sz < cnt then (expand (rowAt z t (i / sz)))[i % sz]? else none

def Blk.size : Blk → Nat
  | .lst n _ => n
  | .rows sz cnt _ _ => sz * cnt

def Blk.ok : Blk → Prop
  | .lst n l => clen l = n
  | .rows sz cnt z t => 0 < sz ∧ cnt ≤ 65536 ∧ clen z = sz ∧ ∀ i r, t.get i = some r → clen r = sz

def Blk.rd1 : Blk → Nat → Option AV
  | .lst _ l, i => nthC i l
  | .rows sz cnt z t, i => if i / sz < cnt then nthC (i % sz) (rowAt z t (i / sz)) else none

def rdRows (sz cnt : Nat) (z : List AV) (t : Map (List AV)) : Nat → Nat → Nat → Option (List AV)
  | _, _, 0 => some []
  | 0, _, _ => none
  | f + 1, off, n =>
    if off / sz < cnt then
      let k := min n (sz - off % sz)
      match rdRows sz cnt z t f (off + k) (n - k) with
      | none => none
      | some l => some (catC (takeC k (dropC (off % sz) (rowAt z t (off / sz)))) l)
    else none

def Blk.rd : Blk → Nat → Nat → Option (List AV)
  | .lst k l, off, n => if off + n ≤ k then some (takeC n (dropC off l)) else none
  | .rows sz cnt z t, off, n =>
    if off % sz + n ≤ sz ∧ off / sz < cnt then some (takeC n (dropC (off % sz) (rowAt z t (off / sz)))) else rdRows sz cnt z t n off n

/-- So many cells laid down from a place on. -/
def Blk.wr : Blk → Nat → Nat → List AV → Option Blk
  | .lst k l, off, m, new => if off + m ≤ k then some (.lst k (putC off m new l)) else none
  | .rows sz cnt z t, off, m, new =>
    if off % sz + m ≤ sz ∧ off / sz < cnt then some (.rows sz cnt z (t.put (off / sz) (some (putC (off % sz) m new (rowAt z t (off / sz)))))) else none

theorem Blk.rd1_eq (b : Blk) (i : Nat) : b.rd1 i = b.cell i := by
  cases b <;> simp [rd1, cell, nthC_eq]

theorem len_expand_of {l : List AV} {n : Nat} (h : clen l = n) : (expand l).length = n := by rw [← clen_eq]; exact h

theorem rowAt_len {sz cnt : Nat} {z : List AV} {t : Map (List AV)} (h : (Blk.rows sz cnt z t).ok) (i : Nat) : (expand (rowAt z t i)).length = sz := by
  unfold rowAt
  split
  · rename_i r hr; exact len_expand_of (h.2.2.2 _ _ hr)
  · exact len_expand_of h.2.2.1

theorem Blk.cell_some {b : Blk} (h : b.ok) {i : Nat} (hi : i < b.size) : ∃ v, b.cell i = some v := by
  cases b with
  | lst n l =>
    have := len_expand_of h
    exact ⟨_, List.getElem?_eq_getElem (by simp only [size] at hi; omega)⟩
  | rows sz cnt z t =>
    simp only [size] at hi
    have h1 : i / sz < cnt := Nat.div_lt_of_lt_mul hi
    have h2 : i % sz < sz := Nat.mod_lt _ h.1
    have := rowAt_len h (i / sz)
    simp only [cell, h1, if_true]
    exact ⟨_, List.getElem?_eq_getElem (by omega)⟩

theorem Blk.cell_lt {b : Blk} (h : b.ok) {i : Nat} {v : AV} (hi : b.cell i = some v) : i < b.size := by
  cases b with
  | lst n l =>
    have := len_expand_of h
    have h2 := (List.getElem?_eq_some_iff.1 hi).1
    simp only [size]; omega
  | rows sz cnt z t =>
    simp only [cell] at hi
    split at hi
    · rename_i h1
      simp only [size]
      have := Nat.div_add_mod i sz
      have h2 : i % sz < sz := Nat.mod_lt _ h.1
      have h3 : sz * (i / sz) + sz ≤ sz * cnt := by rw [← Nat.mul_succ]; exact Nat.mul_le_mul_left _ h1
      omega
    · cases hi

/-- A row that was read is what lies there. -/
def Blk.Has (b : Blk) (off n : Nat) (l : List AV) : Prop := (expand l).length = n ∧ ∀ j, j < n → b.cell (off + j) = (expand l)[j]?

theorem takeC_dropC_get (l : List AV) (off n j : Nat) (h : j < n) : (expand (takeC n (dropC off l)))[j]? = (expand l)[off + j]? := by
  rw [expand_takeC, expand_dropC, List.getElem?_take_of_lt h, List.getElem?_drop]

theorem div_mod_add {sz off j : Nat} (hs : off % sz + j < sz) : (off + j) / sz = off / sz ∧ (off + j) % sz = off % sz + j := by
  have hd := Nat.div_add_mod off sz
  have h0 : 0 < sz := Nat.lt_of_le_of_lt (Nat.zero_le _) hs
  have e : off + j = sz * (off / sz) + (off % sz + j) := by rw [← Nat.add_assoc, hd]
  constructor
  · rw [e, Nat.mul_add_div h0, Nat.div_eq_of_lt hs, Nat.add_zero]
  · rw [e, Nat.mul_add_mod, Nat.mod_eq_of_lt hs]

theorem rdRows_has {sz cnt : Nat} {z : List AV} {t : Map (List AV)} (hok : (Blk.rows sz cnt z t).ok) :
    ∀ (f off n : Nat) (l : List AV), rdRows sz cnt z t f off n = some l → (Blk.rows sz cnt z t).Has off n l := by
  intro f
  induction f with
  | zero =>
    intro off n l h
    cases n with
    | zero => simp [rdRows] at h; subst h; exact ⟨rfl, fun j hj => by omega⟩
    | succ n => simp [rdRows] at h
  | succ f ih =>
    intro off n l h
    cases n with
    | zero => simp [rdRows] at h; subst h; exact ⟨rfl, fun j hj => by omega⟩
    | succ n =>
      simp only [rdRows] at h
      split at h
      · rename_i hc
        generalize hk : min (n + 1) (sz - off % sz) = k at h
        split at h
        · cases h
        · rename_i r hr
          injection h with h
          subst h
          obtain ⟨h1, h2⟩ := ih _ _ _ hr
          have hm : off % sz < sz := Nat.mod_lt _ hok.1
          have hlen := rowAt_len hok (off / sz)
          have hkk : k ≤ n + 1 ∧ k ≤ sz - off % sz := by generalize off % sz = q at *; omega
          have hl1 : (expand (takeC k (dropC (off % sz) (rowAt z t (off / sz))))).length = k := by
            rw [expand_takeC, expand_dropC]; simp; generalize off % sz = q at *; omega
          refine ⟨by rw [expand_catC, List.length_append, hl1, h1]; omega, fun j hj => ?_⟩
          rw [expand_catC]
          by_cases hjk : j < k
          · rw [List.getElem?_append_left (by omega), takeC_dropC_get _ _ _ _ hjk]
            obtain ⟨e1, e2⟩ := div_mod_add (sz := sz) (off := off) (j := j) (by generalize off % sz = q at *; omega)
            simp only [Blk.cell, e1, e2, hc, if_true]
          · rw [List.getElem?_append_right (by omega), hl1]
            have := h2 (j - k) (by omega)
            rw [show off + k + (j - k) = off + j from by omega] at this
            exact this
      · cases h

theorem Blk.rd_has {b : Blk} (hok : b.ok) {off n : Nat} {l : List AV} (h : b.rd off n = some l) : b.Has off n l := by
  cases b with
  | lst k r =>
    simp only [rd] at h
    split at h
    · rename_i hc
      injection h with h; subst h
      have := len_expand_of hok
      refine ⟨by rw [expand_takeC, expand_dropC]; simp; omega, fun j hj => ?_⟩
      rw [takeC_dropC_get _ _ _ _ hj]; rfl
    · cases h
  | rows sz cnt z t =>
    simp only [rd] at h
    split at h
    · rename_i hc
      injection h with h; subst h
      have hlen := rowAt_len hok (off / sz)
      refine ⟨by rw [expand_takeC, expand_dropC]; simp; generalize off % sz = q at *; omega, fun j hj => ?_⟩
      rw [takeC_dropC_get _ _ _ _ hj]
      obtain ⟨e1, e2⟩ := div_mod_add (sz := sz) (off := off) (j := j) (by generalize off % sz = q at *; omega)
      simp only [Blk.cell, e1, e2, hc.2, if_true]
    · exact rdRows_has hok _ _ _ _ h

theorem putC_get (off m : Nat) (new l : List AV) (hm : (expand new).length = m) (hl : off + m ≤ (expand l).length) (i : Nat) :
    (expand (putC off m new l))[i]? = if off ≤ i ∧ i < off + m then (expand new)[i - off]? else (expand l)[i]? := by
  rw [expand_putC]
  by_cases h1 : i < off
  · rw [List.getElem?_append_left (by simp; omega), List.getElem?_take_of_lt h1, if_neg (by omega)]
  · rw [List.getElem?_append_right (by simp; omega)]
    have e : ((expand l).take off).length = off := by simp; omega
    rw [e]
    by_cases h2 : i < off + m
    · rw [List.getElem?_append_left (by omega), if_pos (by omega)]
    · rw [List.getElem?_append_right (by omega), List.getElem?_drop, if_neg (by omega), hm]
      congr 1; omega

theorem Blk.wr_spec {b b' : Blk} (hok : b.ok) {off m : Nat} {new : List AV} (hm : (expand new).length = m) (h : b.wr off m new = some b') :
    b'.ok ∧ b'.size = b.size ∧ off + m ≤ b.size ∧ ∀ i, b'.cell i = if off ≤ i ∧ i < off + m then (expand new)[i - off]? else b.cell i := by
  cases b with
  | lst k l =>
    simp only [wr] at h
    split at h
    · rename_i hc
      injection h with h; subst h
      have hl := len_expand_of hok
      refine ⟨?_, rfl, hc, fun i => ?_⟩
      · simp only [ok]; rw [clen_eq, expand_putC]; simp; omega
      · simp only [cell]; exact putC_get off m new l hm (by omega) i
    · cases h
  | rows sz cnt z t =>
    simp only [wr] at h
    split at h
    · rename_i hc
      injection h with h; subst h
      have hlen := rowAt_len hok (off / sz)
      have hsz := hok.1
      have hd := Nat.div_add_mod off sz
      have hlt : off / sz < 4 ^ 8 := by have := hok.2.1; have : (4 : Nat) ^ 8 = 65536 := by decide
                                        omega
      have hput : ∀ j, j < cnt → rowAt z (t.put (off / sz) (some (putC (off % sz) m new (rowAt z t (off / sz))))) j =
          if j = off / sz then putC (off % sz) m new (rowAt z t (off / sz)) else rowAt z t j := by
        intro j hj
        split
        · rename_i e; subst e; simp [rowAt, Map.get_put_same _ _ _ hlt]
        · rename_i e
          simp only [rowAt]
          rw [Map.get_put_ne _ _ _ _ (fun e' => e e'.symm)]
      have hnl : (expand (putC (off % sz) m new (rowAt z t (off / sz)))).length = sz := by
        rw [expand_putC]; simp; generalize off % sz = q at *; omega
      refine ⟨⟨hok.1, hok.2.1, hok.2.2.1, fun j r hr => ?_⟩, rfl, ?_, fun i => ?_⟩
      · rw [Map.get_put] at hr
        split at hr
        · injection hr with hr; subst hr
          rw [clen_eq]; exact hnl
        · exact hok.2.2.2 _ _ hr
      · simp only [size]
        have h3 : sz * (off / sz) + sz ≤ sz * cnt := by rw [← Nat.mul_succ]; exact Nat.mul_le_mul_left _ hc.2
        generalize off % sz = q at *; generalize sz * (off / sz) = p at *; omega
      · simp only [cell]
        by_cases hi : i / sz < cnt
        · simp only [hi, if_true]
          rw [hput _ hi]
          have hdi := Nat.div_add_mod i sz
          have hmi : i % sz < sz := Nat.mod_lt _ hsz
          have hin : (off ≤ i ∧ i < off + m) → i / sz = off / sz := by
            intro hc2
            have := (div_mod_add (sz := sz) (off := off) (j := i - off) (by generalize off % sz = q at *; omega)).1
            rwa [show off + (i - off) = i by omega] at this
          by_cases e : i / sz = off / sz
          · rw [if_pos e, putC_get _ _ _ _ hm (by generalize off % sz = q at *; omega)]
            have e1 : (off % sz ≤ i % sz ∧ i % sz < off % sz + m) ↔ (off ≤ i ∧ i < off + m) := by
              rw [e] at hdi; generalize off % sz = q at *; generalize i % sz = q' at *; generalize sz * (off / sz) = p at *; omega
            by_cases hc2 : off ≤ i ∧ i < off + m
            · rw [if_pos hc2, if_pos (e1.2 hc2)]
              congr 1; rw [e] at hdi; generalize off % sz = q at *; generalize i % sz = q' at *; generalize sz * (off / sz) = p at *; omega
            · rw [if_neg hc2, if_neg (fun h => hc2 (e1.1 h)), e]
          · rw [if_neg e, if_neg (fun hc2 => e (hin hc2))]
        · simp only [hi, if_false]
          rw [if_neg]
          intro hc2
          apply hi
          have := (div_mod_add (sz := sz) (off := off) (j := i - off) (by generalize off % sz = q at *; omega)).1
          rw [show off + (i - off) = i by omega] at this
          rw [this]; exact hc.2
    · cases h

end
end Go.Abs

/- The abstract heap, and its relation to the model's memory: reading, writing, making. -/
namespace Go.Abs
noncomputable section

inductive AObj where
  | blk (b : Blk)
  /-- A map's entries, each with its stamp; the next stamp. -/
  | mp (es : List (AV × AV × Nat)) (clock : Nat)

structure AH where
  m : Map AObj
  next : Nat

def AH.get (H : AH) (b : Nat) : Option AObj := H.m.get b
def AH.set (H : AH) (b : Nat) (o : AObj) : AH := ⟨H.m.put b (some o), H.next⟩
def AH.kill (H : AH) (b : Nat) : AH := ⟨H.m.put b none, H.next⟩
def AH.push (H : AH) (o : AObj) : AH := ⟨H.m.put H.next (some o), H.next + 1⟩

theorem AH.get_lt {H : AH} {b : Nat} {o : AObj} (h : H.get b = some o) : b < 4 ^ 8 := by
  rcases Nat.lt_or_ge b (4 ^ 8) with hl | hl
  · exact hl
  · rw [AH.get, Map.get_big _ _ hl] at h; cases h

theorem AH.get_set (H : AH) (b b' : Nat) (o : AObj) : (H.set b o).get b' = if b' = b ∧ b < 4 ^ 8 then some o else H.get b' := Map.get_put _ _ _ _
theorem AH.get_kill (H : AH) (b b' : Nat) : (H.kill b).get b' = if b' = b ∧ b < 4 ^ 8 then none else H.get b' := Map.get_put _ _ _ _
theorem AH.get_push (H : AH) (b' : Nat) (o : AObj) : (H.push o).get b' = if b' = H.next ∧ H.next < 4 ^ 8 then some o else H.get b' := Map.get_put _ _ _ _

inductive MRel (μ : Inj) (b : Nat) : List (AV × AV × Nat) → List MapEntry → Prop where
  | nil : MRel μ b [] []
  | cons {k v : AV} {s : Nat} {e : MapEntry} {es : List (AV × AV × Nat)} {ces : List MapEntry} (hk : VRel μ k e.key) (hv : VRel μ v e.val) (hs : μ.st b s = some e.born) (t : MRel μ b es ces) : MRel μ b ((k, v, s) :: es) (e :: ces)

theorem MRel.mono {μ μ' : Inj} (le : μ.le μ') {b : Nat} {es : List (AV × AV × Nat)} {ces : List MapEntry} (h : MRel μ b es ces) : MRel μ' b es ces := by
  induction h with
  | nil => exact .nil
  | cons hk hv hs _ ih => exact .cons (hk.mono le) (hv.mono le) (le.2 _ _ _ hs) ih

/-- What a block of the model has, where an abstract object is there. -/
def ORel (μ : Inj) (b : Nat) (o : AObj) (β δ r : Nat) (w : World) : Prop :=
  match o with
  | .blk k => k.ok ∧ k.size ≤ r ∧ (∃ t, w.shape? β = some (t, δ + r)) ∧ (∀ i, i < r → w.frozen? ⟨β, δ + i, none⟩ = false) ∧
      ∀ i v, k.cell i = some v → v.one = true ∧ ∃ c, w.cell? ⟨β, δ + i, none⟩ = some c ∧ VRel μ v c
  | .mp es _ => ∃ ces cclock, w.heap[β]? = some (.map ces cclock) ∧ (∃ p, List.Perm p ces.toList ∧ MRel μ b es p) ∧
      (ces.toList.map (·.born)).Nodup ∧ (∀ e ∈ ces.toList, e.born < cclock)

/-- A block of the model that an abstract block that lives has. -/
def Img (μ : Inj) (H : AH) (β : Nat) : Prop := ∃ b δ r, (H.get b).isSome = true ∧ μ b = some (β, δ, r)

structure HRel (μ : Inj) (H : AH) (w : World) : Prop where
  obj : ∀ b o, H.get b = some o → ∃ β δ r, μ b = some (β, δ, r) ∧ ORel μ b o β δ r w
  inj : ∀ b b' β δ r δ' r', (H.get b).isSome = true → (H.get b').isSome = true → μ b = some (β, δ, r) → μ b' = some (β, δ', r') → b = b'
  fresh : ∀ b, H.next ≤ b → μ b = none ∧ ∀ s, μ.st b s = none
  freshS : ∀ b es clock, H.get b = some (.mp es clock) → ∀ s, clock ≤ s → μ.st b s = none

structure Ext (μ : Inj) (H : AH) (w : World) (μ' : Inj) (H' : AH) (w' : World) : Prop where
  le : μ.le μ'
  rel : HRel μ' H' w'
  size : w.heap.size ≤ w'.heap.size
  next : H.next ≤ H'.next
  live : ∀ b, b < H.next → (H'.get b).isSome = true → (H.get b).isSome = true
  img : ∀ b β δ r, μ b = none → μ' b = some (β, δ, r) → H.next ≤ b ∧ (w.heap.size ≤ β ∨ Img μ H β)
  frame : ∀ β, β < w.heap.size → ¬ Img μ H β → w'.heap[β]? = w.heap[β]?
  os : w'.os = w.os
  out : w'.output = w.output
  stamp : ∀ b s x, μ.st b s = none → μ'.st b s = some x → H.next ≤ b ∨ (H.get b).isSome = true

theorem ORel.lt {μ : Inj} {b : Nat} {o : AObj} {β δ r : Nat} {w : World} (h : ORel μ b o β δ r w) : β < w.heap.size := by
  cases o with
  | blk k =>
    obtain ⟨_, _, ⟨t, ht⟩, _⟩ := h
    simp only [World.shape?] at ht
    split at ht
    · rename_i e; exact (Array.getElem?_eq_some_iff.1 e).1
    · cases ht
  | mp es clock =>
    obtain ⟨ces, cclock, h, _⟩ := h
    exact (Array.getElem?_eq_some_iff.1 h).1

theorem HRel.img_lt {μ : Inj} {H : AH} {w : World} (h : HRel μ H w) {β : Nat} (hi : Img μ H β) : β < w.heap.size := by
  obtain ⟨b, δ, r, hb, hμ⟩ := hi
  obtain ⟨o, ho⟩ := Option.isSome_iff_exists.1 hb
  obtain ⟨β', δ', r', hμ', hr⟩ := h.obj b o ho
  rw [hμ] at hμ'; injection hμ' with e; injection e with e1 e2; subst e1
  exact hr.lt

theorem Ext.refl {μ : Inj} {H : AH} {w : World} (h : HRel μ H w) : Ext μ H w μ H w :=
  ⟨μ.le_refl, h, Nat.le_refl _, Nat.le_refl _, fun _ _ h => h, fun b β δ r h1 h2 => by rw [h1] at h2; (cases h2), fun _ _ _ => rfl, rfl, rfl, fun b s x h1 h2 => by rw [h1] at h2; (cases h2)⟩

theorem Ext.imgBack {μ : Inj} {H : AH} {w : World} {μ' : Inj} {H' : AH} {w' : World} (h0 : HRel μ H w) (h : Ext μ H w μ' H' w') {β : Nat} (hβ : β < w.heap.size) (hi : Img μ' H' β) : Img μ H β := by
  obtain ⟨b, δ, r, hb, hμ⟩ := hi
  cases hm : μ b with
  | none =>
    rcases (h.img b β δ r hm hμ).2 with h1 | h1
    · omega
    · exact h1
  | some x =>
    have := h.le.1 b x hm
    rw [hμ] at this; injection this with e; subst e
    have hlt : b < H.next := by
      rcases Nat.lt_or_ge b H.next with hl | hl
      · exact hl
      · rw [(h0.fresh b hl).1] at hm; cases hm
    exact ⟨b, δ, r, h.live b hlt hb, hm⟩

theorem Ext.trans {μ : Inj} {H : AH} {w : World} {μ' : Inj} {H' : AH} {w' : World} {μ'' : Inj} {H'' : AH} {w'' : World}
    (h0 : HRel μ H w) (h : Ext μ H w μ' H' w') (g : Ext μ' H' w' μ'' H'' w'') : Ext μ H w μ'' H'' w'' where
  le := Inj.le_trans h.le g.le
  rel := g.rel
  size := Nat.le_trans h.size g.size
  next := Nat.le_trans h.next g.next
  live b hb hl := h.live b hb (g.live b (Nat.lt_of_lt_of_le hb h.next) hl)
  img b β δ r h1 h2 := by
    cases hm : μ' b with
    | none =>
      obtain ⟨hn, h3⟩ := g.img b β δ r hm h2
      refine ⟨Nat.le_trans h.next hn, ?_⟩
      rcases h3 with h3 | h3
      · exact .inl (Nat.le_trans h.size h3)
      · by_cases hlt : β < w.heap.size
        · exact .inr (h.imgBack h0 hlt h3)
        · exact .inl (Nat.le_of_not_lt hlt)
    | some x =>
      have := g.le.1 b x hm
      rw [h2] at this; injection this with e; subst e
      exact h.img b β δ r h1 hm
  frame β hβ hi := by
    rw [g.frame β (Nat.lt_of_lt_of_le hβ h.size) (fun hi' => hi (h.imgBack h0 hβ hi')), h.frame β hβ hi]
  os := g.os.trans h.os
  out := g.out.trans h.out
  stamp b s x h1 h2 := by
    cases hm : μ'.st b s with
    | none =>
      rcases g.stamp b s x hm h2 with h3 | h3
      · exact .inl (Nat.le_trans h.next h3)
      · rcases Nat.lt_or_ge b H.next with hl | hl
        · exact .inr (h.live b hl h3)
        · exact .inl hl
    | some y => exact h.stamp b s y h1 hm

/-! ## Reading -/

theorem Addr.add_mk (b o k : Nat) : (⟨b, o, none⟩ : Addr).add k = ⟨b, o + k, none⟩ := by
  unfold Addr.add; split <;> simp_all

section
variable {P : Program} {μ : Inj} {H : AH} {w : World}

theorem HRel.blk {b : Nat} {k : Blk} (h : HRel μ H w) (hb : H.get b = some (.blk k)) {β δ r : Nat} (hμ : μ b = some (β, δ, r)) :
    k.ok ∧ k.size ≤ r ∧ (∃ t, w.shape? β = some (t, δ + r)) ∧ (∀ i, i < r → w.frozen? ⟨β, δ + i, none⟩ = false) ∧
      ∀ i v, k.cell i = some v → v.one = true ∧ ∃ c, w.cell? ⟨β, δ + i, none⟩ = some c ∧ VRel μ v c := by
  obtain ⟨β', δ', r', hμ', hr⟩ := h.obj b _ hb
  rw [hμ] at hμ'; injection hμ' with e; injection e with e1 e2; injection e2 with e2 e3; subst e1 e2 e3
  exact hr

theorem rel_load1 (h : HRel μ H w) {b o : Nat} {k : Blk} {v : AV} {β δ r : Nat} (hμ : μ b = some (β, δ, r)) (hb : H.get b = some (.blk k)) (hv : k.rd1 o = some v) :
    ∃ c, (load ⟨β, δ + o, none⟩).run P w = .ok c w ∧ VRel μ v c ∧ v.one = true := by
  rw [Blk.rd1_eq] at hv
  obtain ⟨h1, c, hc, hr⟩ := (h.blk hb hμ).2.2.2.2 o v hv
  exact ⟨c, by simp [hc], hr, h1⟩

theorem rel_cells (h : HRel μ H w) {b o n : Nat} {k : Blk} {l : List AV} {β δ r : Nat} (hμ : μ b = some (β, δ, r)) (hb : H.get b = some (.blk k)) (hv : k.rd o n = some l) :
    ∃ cs : List Value, cs.length = n ∧ (∀ j c, cs[j]? = some c → w.cell? ⟨β, δ + (o + j), none⟩ = some c) ∧ LRel μ (expand l) cs ∧ ∀ v ∈ expand l, v.one = true := by
  obtain ⟨hok, hsz, _, _, hc⟩ := h.blk hb hμ
  obtain ⟨h1, h2⟩ := Blk.rd_has hok hv
  have key : ∀ j, j < n → ∃ v c, (expand l)[j]? = some v ∧ v.one = true ∧ w.cell? ⟨β, δ + (o + j), none⟩ = some c ∧ VRel μ v c := by
    intro j hj
    have e := List.getElem?_eq_getElem (l := expand l) (i := j) (by omega)
    have := h2 j hj
    rw [e] at this
    obtain ⟨ho, c, hc1, hc2⟩ := hc _ _ this
    exact ⟨_, c, e, ho, hc1, hc2⟩
  refine ⟨(List.range n).map fun j => (w.cell? ⟨β, δ + (o + j), none⟩).getD default, by simp, ?_, ?_, ?_⟩
  · intro j c hj
    simp only [List.getElem?_map, Option.map_eq_some_iff] at hj
    obtain ⟨i, hi, rfl⟩ := hj
    obtain ⟨hlt, rfl⟩ := List.getElem?_eq_some_iff.1 hi
    simp only [List.length_range] at hlt
    obtain ⟨v, c, _, _, hc1, _⟩ := key j hlt
    simp [hc1]
  · refine LRel.of_get (by simp [h1]) fun i v hi => ?_
    have hlt := (List.getElem?_eq_some_iff.1 hi).1
    obtain ⟨v', c, e, _, hc1, hc2⟩ := key i (by omega)
    rw [hi] at e; injection e with e; subst e
    exact ⟨c, by simp [show i < n by omega, hc1], hc2⟩
  · intro v hv
    obtain ⟨j, hj⟩ := List.mem_iff_getElem?.1 hv
    have hlt := (List.getElem?_eq_some_iff.1 hj).1
    obtain ⟨v', c, e, ho, _, _⟩ := key j (by omega)
    rw [hj] at e; injection e with e; subst e; exact ho

theorem rel_loadN (h : HRel μ H w) {b o n : Nat} {k : Blk} {l : List AV} {β δ r : Nat} (hμ : μ b = some (β, δ, r)) (hb : H.get b = some (.blk k)) (hv : k.rd o n = some l) :
    ∃ cs : List Value, cs.length = n ∧ (loadCells ⟨β, δ + o, none⟩ n).run P w = .ok cs.toArray w ∧ LRel μ (expand l) cs ∧ ∀ v ∈ expand l, v.one = true := by
  obtain ⟨cs, h1, h2, h3, h4⟩ := rel_cells h hμ hb hv
  refine ⟨cs, h1, ?_, h3, h4⟩
  subst h1
  exact run_loadCells_list w _ cs fun j v hj => by rw [Addr.add_mk, Nat.add_assoc]; exact h2 j v hj

/-! ## Writing -/

theorem VRel.one {v : AV} {c : Value} (h : VRel μ v c) (h1 : v.one = true) : c.oneCell' = true := by
  cases h <;> first | rfl | (simp [AV.one] at h1)

theorem heap_setCell_other (w : World) (a : Addr) (v : Value) (β : Nat) (h : β ≠ a.block) : (w.setCell a v).heap[β]? = w.heap[β]? := by
  simp only [World.setCell, Array.getElem?_modify]; rw [if_neg (fun e => h e.symm)]

theorem heap_setCells_other (b : Nat) : ∀ (vs : List Value) (o : Nat) (w : World) (β : Nat), β ≠ b → (w.setCells b o vs).heap[β]? = w.heap[β]?
  | [], _, _, _, _ => rfl
  | v :: r, o, w, β, h => by rw [World.setCells, heap_setCells_other b r _ _ β h, heap_setCell_other _ _ _ _ h]

theorem size_setCells' (b : Nat) : ∀ (vs : List Value) (o : Nat) (w : World), (w.setCells b o vs).heap.size = w.heap.size
  | [], _, _ => rfl
  | v :: r, o, w => by rw [World.setCells, size_setCells' b r, World.size_setCell]

theorem shape_setCells (b : Nat) : ∀ (vs : List Value) (o : Nat) (w : World) (β : Nat), (w.setCells b o vs).shape? β = w.shape? β
  | [], _, _, _ => rfl
  | v :: r, o, w, β => by
    rw [World.setCells, shape_setCells b r]
    simp only [World.shape?, World.setCell, Array.getElem?_modify]
    by_cases e : b = β
    · subst e
      simp only [if_true]
      cases w.heap[b]? with
      | none => rfl
      | some x => cases x <;> simp
    · simp [e]

theorem os_setCells (b : Nat) : ∀ (vs : List Value) (o : Nat) (w : World), (w.setCells b o vs).os = w.os ∧ (w.setCells b o vs).output = w.output
  | [], _, _ => ⟨rfl, rfl⟩
  | v :: r, o, w => by rw [World.setCells]; exact os_setCells b r _ _

/-- An object of the heap stays in relation when memory turns elsewhere. -/
theorem ORel.keep {b : Nat} {o : AObj} {β δ r : Nat} {w w' : World} {μ' : Inj} (le : μ.le μ') (hh : w'.heap[β]? = w.heap[β]?) (h : ORel μ b o β δ r w) : ORel μ' b o β δ r w' := by
  have hc : ∀ i, w'.cell? ⟨β, i, none⟩ = w.cell? ⟨β, i, none⟩ := fun i => by simp only [World.cell?, hh]
  have hf : ∀ i, w'.frozen? ⟨β, i, none⟩ = w.frozen? ⟨β, i, none⟩ := fun i => by simp only [World.frozen?, hh]
  have hs : w'.shape? β = w.shape? β := by simp only [World.shape?, hh]
  cases o with
  | blk k =>
    obtain ⟨h1, h2, h3, h4, h5⟩ := h
    refine ⟨h1, h2, by rw [hs]; exact h3, fun i hi => by rw [hf]; exact h4 i hi, fun i v hv => ?_⟩
    obtain ⟨ho, c, hc1, hc2⟩ := h5 i v hv
    exact ⟨ho, c, by rw [hc]; exact hc1, hc2.mono le⟩
  | mp es clock =>
    obtain ⟨ces, cclock, h1, ⟨p, hp, hr⟩, h3, h4⟩ := h
    exact ⟨ces, cclock, by rw [hh]; exact h1, ⟨p, hp, hr.mono le⟩, h3, h4⟩

/-- One object turned in place. -/
theorem Ext.of_set (h : HRel μ H w) {b : Nat} {o o' : AObj} (hb : H.get b = some o) {β δ r : Nat} (hμ : μ b = some (β, δ, r)) (w' : World)
    (hrel : ORel μ b o' β δ r w') (hst : ∀ es clock, o' = .mp es clock → ∀ s, clock ≤ s → μ.st b s = none) (hsize : w'.heap.size = w.heap.size) (hother : ∀ β', β' ≠ β → w'.heap[β']? = w.heap[β']?) (hos : w'.os = w.os) (hout : w'.output = w.output) :
    Ext μ H w μ (H.set b o') w' := by
  have hb0 := AH.get_lt hb
  have hback : ∀ b', ((H.set b o').get b').isSome = true → (H.get b').isSome = true := by
    intro b' hs
    rw [AH.get_set] at hs
    split at hs
    · rename_i e; rw [e.1]; simp [hb]
    · exact hs
  refine ⟨μ.le_refl, ⟨fun b' o'' hg => ?_, fun b1 b2 β' δ1 r1 δ2 r2 h1 h2 => h.inj b1 b2 β' δ1 r1 δ2 r2 (hback _ h1) (hback _ h2), h.fresh, fun b' es clock hg => ?_⟩, by omega, Nat.le_refl _, fun b' _ hs => hback b' hs,
    fun b' β' δ' r' h1 h2 => by (rw [h1] at h2; cases h2), fun β' hβ' hi => hother β' fun e => hi ⟨b, δ, r, by simp [hb], by rw [e]; exact hμ⟩, hos, hout, fun b s x h1 h2 => by (rw [h1] at h2; cases h2)⟩
  · rw [AH.get_set] at hg
    split at hg
    · rename_i e; rw [e.1]; injection hg with hg; subst hg
      exact ⟨β, δ, r, hμ, hrel⟩
    · rename_i hne
      obtain ⟨β', δ', r', hμ', hr⟩ := h.obj b' o'' hg
      refine ⟨β', δ', r', hμ', hr.keep μ.le_refl (hother β' fun e => ?_)⟩
      subst e
      exact hne ⟨h.inj b' b β' δ' r' δ r (by simp [hg]) (by simp [hb]) hμ' hμ, hb0⟩
  · rw [AH.get_set] at hg
    split at hg
    · rename_i e; rw [e.1]; injection hg with hg; exact hst es clock hg
    · exact h.freshS b' es clock hg

/-- Cells stored into a block. -/
theorem rel_store (h : HRel μ H w) {b o m : Nat} {k k' : Blk} {new : List AV} {cs : List Value} {β δ r : Nat} (hμ : μ b = some (β, δ, r)) (hb : H.get b = some (.blk k))
    (hw : k.wr o m new = some k') (hm : (expand new).length = m) (hr : LRel μ (expand new) cs) (h1 : ∀ v ∈ expand new, v.one = true) :
    ∃ w', (storeCells ⟨β, δ + o, none⟩ cs).run P w = .ok () w' ∧ Ext μ H w μ (H.set b (.blk k')) w' := by
  obtain ⟨hok, hsz, ⟨t, ht⟩, hf, hc⟩ := h.blk hb hμ
  obtain ⟨s1, s2, s3, s4⟩ := Blk.wr_spec hok hm hw
  have hlen : cs.length = m := by rw [← hr.length, hm]
  have hcell : ∀ j, j < cs.length → (w.cell? ⟨β, δ + o + j, none⟩).isSome = true := by
    intro j hj
    obtain ⟨v, hv⟩ := Blk.cell_some hok (i := o + j) (by omega)
    obtain ⟨_, c, hc1, _⟩ := hc _ _ hv
    rw [Nat.add_assoc, hc1]; rfl
  have hone : ∀ c ∈ cs, c.oneCell' = true := by
    intro c hcm
    obtain ⟨j, hj⟩ := List.mem_iff_getElem?.1 hcm
    have hlt := (List.getElem?_eq_some_iff.1 hj).1
    have e := List.getElem?_eq_getElem (l := expand new) (i := j) (by omega)
    obtain ⟨c', hc', hv⟩ := hr.get j _ e
    rw [hj] at hc'; injection hc' with hc'; subst hc'
    exact hv.one (h1 _ (List.getElem_mem _))
  have hrun := run_storeCells_cells (P := P) β (δ + o) cs 0 w (by simpa using hcell)
    (fun j hj => by rw [Nat.add_zero, Nat.add_assoc]; exact hf _ (by omega)) hone
  refine ⟨w.setCells β (δ + o) cs, by simpa using hrun, ?_⟩
  refine Ext.of_set h hb hμ _ ⟨s1, by omega, ⟨t, by rw [shape_setCells]; exact ht⟩, fun i hi => by rw [World.frozen?_setCells]; exact hf i hi, fun i v hv => ?_⟩
    (fun _ _ e => by cases e) (size_setCells' _ _ _ _) (fun β' hne => heap_setCells_other _ _ _ _ _ hne) (os_setCells _ _ _ _).1 (os_setCells _ _ _ _).2
  rw [s4] at hv
  split at hv
  · rename_i hin
    obtain ⟨c, hc1, hc2⟩ := hr.get _ _ hv
    refine ⟨h1 _ (List.mem_of_getElem? hv), c, ?_, hc2⟩
    have hj : i - o < cs.length := by omega
    have := World.cell?_setCells_in β cs (δ + o) w hcell (i - o) hj
    rw [show δ + o + (i - o) = δ + i by omega] at this
    rw [this]
    rw [List.getElem?_eq_getElem hj] at hc1; exact hc1
  · rename_i hout
    obtain ⟨ho, c, hc1, hc2⟩ := hc i v hv
    exact ⟨ho, c, by rw [World.cell?_setCells_out _ _ _ _ _ (fun _ _ => by simp; omega)]; exact hc1, hc2⟩

/-! ## Making -/

def Inj.upd (μ : Inj) (b : Nat) (x : Nat × Nat × Nat) : Inj := ⟨fun b' => if b' = b then some x else μ b', μ.st⟩
theorem Inj.le_upd {μ : Inj} {b : Nat} {x : Nat × Nat × Nat} (h : μ b = none) : μ.le (μ.upd b x) := by
  refine ⟨fun b' y hy => ?_, fun _ _ _ h => h⟩
  show (if b' = b then some x else μ b') = some y
  split
  · rename_i e; subst e; rw [h] at hy; cases hy
  · exact hy
theorem Inj.upd_same (μ : Inj) (b : Nat) (x : Nat × Nat × Nat) : (μ.upd b x) b = some x := by simp [Inj.upd]

theorem heap_alloc_old (w : World) (o : Obj) (β : Nat) (h : β < w.heap.size) : (w.alloc o).heap[β]? = w.heap[β]? := by
  show (w.heap.push o)[β]? = w.heap[β]?
  rw [Array.getElem?_push, if_neg (by omega)]
theorem heap_alloc_new (w : World) (o : Obj) : (w.alloc o).heap[w.heap.size]? = some o := by
  show (w.heap.push o)[w.heap.size]? = some o
  simp

/-- An object under a block's number that none has yet, in a new block of the model. -/
theorem Ext.of_new (h : HRel μ H w) {o : AObj} {obj : Obj} {r : Nat} (hrel : ORel (μ.upd H.next (w.heap.size, 0, r)) H.next o w.heap.size 0 r (w.alloc obj)) :
    Ext μ H w (μ.upd H.next (w.heap.size, 0, r)) (H.push o) (w.alloc obj) := by
  have hfresh := (h.fresh H.next (Nat.le_refl _)).1
  have hle : μ.le (μ.upd H.next (w.heap.size, 0, r)) := Inj.le_upd hfresh
  have hold : ∀ b, b ≠ H.next → (μ.upd H.next (w.heap.size, 0, r)) b = μ b := fun b hb => by simp [Inj.upd, hb]
  have hdead : H.get H.next = none := by
    cases e : H.get H.next with
    | none => rfl
    | some o => obtain ⟨β, δ, r, hμ, _⟩ := h.obj _ _ e; rw [hfresh] at hμ; cases hμ
  have hget : ∀ b, b ≠ H.next → (H.push o).get b = H.get b := fun b hb => by rw [AH.get_push, if_neg (fun e => hb e.1)]
  have hplace : ∀ b β δ r', b ≠ H.next → (H.get b).isSome = true → μ b = some (β, δ, r') → β < w.heap.size := fun b β δ r' _ hs hm => h.img_lt ⟨b, δ, r', hs, hm⟩
  refine ⟨hle, ⟨fun b o' hg => ?_, fun b b' β δ r1 δ' r2 hs hs' hm hm' => ?_, fun b hb => ?_, fun b es clock hg s hs => ?_⟩, by show _ ≤ (w.heap.push obj).size; simp, by simp [AH.push], fun b hb hs => ?_, fun b β δ r' h1 h2 => ?_, fun β hβ _ => heap_alloc_old _ _ _ hβ, rfl, rfl, fun b s x h1 h2 => by (rw [show (μ.upd H.next (w.heap.size, 0, r)).st b s = μ.st b s from rfl, h1] at h2; cases h2)⟩
  · by_cases e : b = H.next
    · subst e
      rw [AH.get_push] at hg
      split at hg
      · injection hg with hg; subst hg
        exact ⟨_, _, _, Inj.upd_same _ _ _, hrel⟩
      · rw [hdead] at hg; cases hg
    · rw [hget b e] at hg
      obtain ⟨β, δ, r', hm, hr⟩ := h.obj b o' hg
      exact ⟨β, δ, r', by rw [hold b e]; exact hm, hr.keep hle (heap_alloc_old _ _ _ hr.lt)⟩
  · by_cases e : b = H.next <;> by_cases e' : b' = H.next
    · rw [e, e']
    · subst e
      rw [Inj.upd_same] at hm; injection hm with hm; injection hm with hm1 hm2
      rw [hget b' e'] at hs'; rw [hold b' e'] at hm'
      have := hplace b' _ _ _ e' hs' hm'; omega
    · subst e'
      rw [Inj.upd_same] at hm'; injection hm' with hm1; injection hm1 with hm1 hm2
      rw [hget b e] at hs; rw [hold b e] at hm
      have := hplace b _ _ _ e hs hm; omega
    · rw [hget b e] at hs; rw [hget b' e'] at hs'; rw [hold b e] at hm; rw [hold b' e'] at hm'
      exact h.inj b b' β δ r1 δ' r2 hs hs' hm hm'
  · simp only [AH.push] at hb
    rw [hold b (by omega)]; exact h.fresh b (by omega)
  · by_cases e : b = H.next
    · subst e; exact (h.fresh _ (Nat.le_refl _)).2 s
    · rw [hget b e] at hg; exact h.freshS b es clock hg s hs
  · rwa [hget b (by omega)] at hs
  · by_cases e : b = H.next
    · subst e
      rw [Inj.upd_same] at h2; injection h2 with h2; injection h2 with h2 h3
      exact ⟨Nat.le_refl _, .inl (by omega)⟩
    · rw [hold b e, h1] at h2; cases h2

/-- A new block of cells. -/
theorem rel_new (h : HRel μ H w) {k : Blk} {cells : List Value} (t : TypeId) (fz : Nat × Nat) (hfz : fz.2 ≤ fz.1 ∨ cells.length ≤ fz.1)
    (hok : k.ok) (hsz : k.size ≤ cells.length) (hc : ∀ i v, k.cell i = some v → v.one = true ∧ ∃ c, cells[i]? = some c ∧ VRel μ v c) :
    Ext μ H w (μ.upd H.next (w.heap.size, 0, cells.length)) (H.push (.blk k)) (w.alloc (.cells cells.toArray t fz)) := by
  have hle : μ.le (μ.upd H.next (w.heap.size, 0, cells.length)) := Inj.le_upd (h.fresh H.next (Nat.le_refl _)).1
  have hn := heap_alloc_new w (.cells cells.toArray t fz)
  refine Ext.of_new h ⟨hok, hsz, ⟨t, by simp only [World.shape?, hn]; simp⟩, fun i hi => ?_, fun i v hv => ?_⟩
  · simp only [World.frozen?, hn, Nat.zero_add]
    rcases hfz with hfz | hfz
    · simp; omega
    · simp; omega
  · obtain ⟨ho, c, hc1, hc2⟩ := hc i v hv
    exact ⟨ho, c, by simp only [World.cell?, hn]; simp [hc1], hc2.mono hle⟩

end
end
end Go.Abs
