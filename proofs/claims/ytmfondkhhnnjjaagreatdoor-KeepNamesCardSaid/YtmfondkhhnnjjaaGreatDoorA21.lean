/- Operations that read, operations that make a block. -/
import Derived.Test.YtmfondkhhnnjjaaGreatDoorA19

namespace Go.Abs

section
variable {P : Program} {μ : Inj} {H : AH} {w : World}

theorem empty_str : VRel μ (.str 0 0) (.string ByteArray.empty) := .str 0 0 _ (by simp [bytesL])

theorem readOp_rel (h : HRel μ H w) {ev : Operand → Option AV} {ρ : Operand → Value} (hev : ∀ x v, ev x = some v → VRel μ v (ρ x)) {o : Oper} {v : AV} (hr : readOp P ev o H = some v) :
    ∃ c, VRel μ v c ∧ (execOp ρ o).run P w = .ok (.value c) w := by
  obtain ⟨dst, op, type, pos, after, guard⟩ := o
  unfold readOp at hr
  split at hr
  · rename_i t x e; dsimp only at e; subst e
    split at hr
    · rename_i b off hx
      obtain ⟨c, hc, hrun⟩ := loadAt_rel (P := P) h (hev _ _ hx) hr
      exact ⟨c, hc, run_v hrun⟩
    · cases hr
  · rename_i t m k ok e; dsimp only at e; subst e
    split at hr
    · rename_i a b ha hb
      obtain ⟨c, hc, hrun⟩ := lookupA_rel (P := P) h (hev _ _ ha) (hev _ _ hb) hr
      exact ⟨c, hc, run_v hrun⟩
    · cases hr
  · rename_i s d x e; dsimp only at e; subst e
    split at hr
    · rename_i el a hs hd hx
      have hv := hev _ _ hx
      generalize hz : ρ x = z at hv
      split at hr
      · rename_i he
        injection hr with hr; subst hr
        cases hv
        refine ⟨_, empty_str, run_v ?_⟩
        simp [convert, run_und hs, run_und hd, run_und he, hz, Conv.bytesToString]
      · rename_i he
        injection hr with hr; subst hr
        cases hv with
        | slc0 hμ hr0 =>
          rename_i off cc β δ r
          refine ⟨_, empty_str, run_v ?_⟩
          have hl := run_loadCells_list (P := P) w ⟨β, δ + off, none⟩ [] (by simp)
          rw [show ([] : List Value).length = 0 from rfl] at hl
          simp only [convert, Sem.run_bind, run_und hs, run_und hd, run_und he, Result.andThen_ok, hz, Conv.bytesToString, hl]
          rfl
      · rename_i he
        split at hr
        · rename_i k hb
          split at hr
          · rename_i l hl
            split at hr
            · rename_i n' x' hbo
              injection hr with hr; subst hr
              cases hv with
              | slc hμ =>
                obtain ⟨c, hc, hrun⟩ := toString_rel (P := P) h hμ hb hl hbo
                refine ⟨c, hc, run_v ?_⟩
                simp only [convert, Sem.run_bind, run_und hs, run_und hd, Result.andThen_ok, hz, run_und he]
                exact hrun
            · cases hr
          · cases hr
        · cases hr
      · cases hr
    · cases hr
  · rename_i args ats e; dsimp only at e; subst e
    split at hr
    · rename_i b t ha ht
      split at hr
      · rename_i kt vt es clock hu hb
        have hl := evList_rel hev ha
        obtain ⟨c, hc, hv⟩ := one_arg hl
        refine ⟨_, intA_rel hr, ?_⟩
        obtain ⟨consts, hbu⟩ := builtin_run (P := P) ρ ⟨dst, .call { callee := .builtin _, args, argTypes := ats }, type, pos, after, guard⟩ _ _ _ rfl
        rw [hbu, hc]
        cases hv with
        | map hμ =>
          obtain ⟨ces, cclock, hg, ⟨p, hp, hmr⟩, _⟩ := h.mp hb hμ
          refine run_v ?_
          have hsize : ces.size = es.length := by
            have h1 := hp.length_eq
            have h2 := hmr.len
            simp at h1; omega
          simp only [Builtin.len_, ht, List.getElem?_toArray, List.getElem?_cons_zero, Sem.run_bind, run_und hu, Result.andThen_ok, run_getMap hg, Sem.run_pure, hsize]
      · cases hr
    · cases hr
  · cases hr

/-! ## Making -/

/-- What an operation that makes a block comes to: one object more, whatever the number it is to have. -/
def AllocR (P : Program) (μ : Inj) (w : World) (s : Sem Next) (f : Nat → AV) (obj : AObj) : Prop :=
  ∃ O r c w', s.run P w = .ok (.value c) w' ∧ w'.heap = w.heap.push O ∧ w'.os = w.os ∧ w'.output = w.output ∧
    ∀ (μ' : Inj) n, μ.le μ' → μ' n = some (w.heap.size, 0, r) → VRel μ' (f n) c ∧ ∀ w'' : World, w''.heap[w.heap.size]? = some O → ORel μ' n obj w.heap.size 0 r w''

theorem AllocR.ext {s : Sem Next} {f : Nat → AV} {obj : AObj} (h : HRel μ H w) (ha : AllocR P μ w s f obj) :
    ∃ μ' w' c, s.run P w = .ok (.value c) w' ∧ Ext μ H w μ' (H.push obj) w' ∧ VRel μ' (f H.next) c := by
  obtain ⟨O, r, c, w', hrun, hheap, hos, hout, hrel⟩ := ha
  have hle : μ.le (μ.upd H.next (w.heap.size, 0, r)) := Inj.le_upd (h.fresh H.next (Nat.le_refl _)).1
  obtain ⟨h1, h2⟩ := hrel _ _ hle (Inj.upd_same _ _ _)
  have e := Ext.of_new (obj := O) (r := r) h (h2 _ (heap_alloc_new w O))
  refine ⟨_, w', c, hrun, e.trans h (Ext.same e.rel hheap hos hout), h1⟩

theorem ORel.row {μ' : Inj} {n : Nat} {k : Blk} {β : Nat} {cells : List Value} {t : TypeId} {fz : Nat × Nat} (hfz : fz.2 ≤ fz.1 ∨ cells.length ≤ fz.1) {w'' : World} (hw : w''.heap[β]? = some (.cells cells.toArray t fz))
    (hok : k.ok) (hsz : k.size ≤ cells.length) (hc : ∀ i v, k.cell i = some v → v.one = true ∧ ∃ c, cells[i]? = some c ∧ VRel μ' v c) : ORel μ' n (.blk k) β 0 cells.length w'' := by
  refine ⟨hok, hsz, ⟨t, by simp only [World.shape?, hw]; simp⟩, fun i hi => ?_, fun i v hv => ?_⟩
  · simp only [World.frozen?, hw, Nat.zero_add]
    rcases hfz with hfz | hfz
    · simp; omega
    · simp; omega
  · obtain ⟨ho, c, hc1, hc2⟩ := hc i v hv
    exact ⟨ho, c, by simp only [World.cell?, hw]; simp [hc1], hc2⟩

theorem ORel.lst {μ' : Inj} {n m : Nat} {l : List AV} {β : Nat} {cells : List Value} {t : TypeId} {fz : Nat × Nat} (hfz : fz.2 ≤ fz.1 ∨ cells.length ≤ fz.1) {w'' : World} (hw : w''.heap[β]? = some (.cells cells.toArray t fz))
    {cs ds : List Value} (hcells : cells = cs ++ ds) (hrow : Row μ' l cs) (hm : cs.length = m) : ORel μ' n (.blk (.lst m l)) β 0 cells.length w'' := by
  subst hcells
  refine ORel.row hfz hw (by show clen _ = _; rw [clen_eq, hrow.1.length, hm]) (by show _ ≤ _; rw [List.length_append, hm]; exact Nat.le_add_right _ _) fun i v hv => ?_
  obtain ⟨c, hc, hvr⟩ := hrow.1.get i v hv
  exact ⟨hrow.2 v (List.mem_of_getElem? hv), c, by rw [List.getElem?_append_left (List.getElem?_eq_some_iff.1 hc).1]; exact hc, hvr⟩

theorem Row.mono {μ' : Inj} (le : μ.le μ') {l : List AV} {cs : List Value} (h : Row μ l cs) : Row μ' l cs := ⟨h.1.mono le, h.2⟩

theorem run_newRow (e : TypeId) (cells : Array Value) (w : World) : (newRow e cells).run P w = .ok ⟨w.heap.size, 0, none⟩ (w.alloc (.cells cells e)) := by
  simp [newRow]

theorem allocOp_rel {ev : Operand → Option AV} {ρ : Operand → Value} (hev : ∀ x v, ev x = some v → VRel μ v (ρ x)) {o : Oper} {f : Nat → AV} {obj : AObj} (h : allocOp P ev o = some (f, obj)) :
    AllocR P μ w (execOp ρ o) f obj := by
  obtain ⟨dst, op, type, pos, after, guard⟩ := o
  unfold allocOp at h
  split at h
  · rename_i t e; dsimp only at e; subst e
    split at h
    · rename_i z hz
      split at h
      · rename_i l hl
        injection h with h; injection h with h1 h2; subst h1 h2
        obtain ⟨c, hc, hr⟩ := run_zero (μ := μ) hz
        have hrow := cellsOfA_rel hc hl
        refine ⟨.cells c.cells t, c.cells.toList.length, _, _, run_v (c := .pointer (some ⟨w.heap.size, 0, none⟩)) (w := w) (w' := w.alloc (.cells c.cells t)) ?_, rfl, rfl, rfl, fun μ' n le hn => ⟨?_, fun w'' hw => ?_⟩⟩
        · simp [Instr.alloc, hr, newVar, run_newRow]
        · exact .ptr (δ := 0) (o := 0) hn
        · exact ORel.lst (cells := c.cells.toList) (t := t) (fz := (0, 0)) (.inl (Nat.le_refl _)) (by simpa using hw) (cs := c.cells.toList) (ds := []) (by simp) (hrow.mono le) (by rw [clen_eq, hrow.1.length])
      · cases h
    · cases h
  · rename_i t x e; dsimp only at e; subst e
    split at h
    · rename_i v hv
      split at h
      · rename_i l hl
        injection h with h; injection h with h1 h2; subst h1 h2
        have hrow := cellsOfA_rel (hev _ _ hv) hl
        refine ⟨.cells (ρ x).cells t, (ρ x).cells.toList.length, _, _, run_v (c := .pointer (some ⟨w.heap.size, 0, none⟩)) (w := w) (w' := w.alloc (.cells (ρ x).cells t)) ?_, rfl, rfl, rfl, fun μ' n le hn => ⟨?_, fun w'' hw => ?_⟩⟩
        · simp [Instr.box, newVar, run_newRow]
        · exact .ptr (δ := 0) (o := 0) hn
        · exact ORel.lst (cells := (ρ x).cells.toList) (t := t) (fz := (0, 0)) (.inl (Nat.le_refl _)) (by simpa using hw) (cs := (ρ x).cells.toList) (ds := []) (by simp) (hrow.mono le) (by rw [clen_eq, hrow.1.length])
      · cases h
    · cases h
  · rename_i t n ps e; dsimp only at e; subst e
    split at h
    · rename_i el hu
      split at h
      · rename_i s z l hs hz hl
        split at h
        · rename_i zl hzl
          split at h
          · rename_i hcond
            obtain ⟨hbig, hcl⟩ := hcond
            split at h
            · rename_i r hfill
              injection h with h; injection h with h1 h2; subst h1 h2
              have hp := evParts_rel hev hl
              obtain ⟨cz, hcz, hzr⟩ := run_zero (μ := μ) hz
              have hrow := cellsOfA_rel hcz hzl
              have hlen : cz.cells.toList.length = s := by rw [← hrow.1.length, ← clen_eq, hcl]
              have hsz : cz.cells.size = s := by simpa using hlen
              have hrep := hrow.rep n
              obtain ⟨rs, hf, hrr, hrl⟩ := fillA_rel (cparts := ps.toList.map fun (i, x) => (i, ρ x)) hp hrep hfill
              have hrl' : rs.length = n * s := by
                rw [← hrr.1.length, ← clen_eq, hrl, clen_eq, hrep.1.length]; simp [hsz]
              refine ⟨.cells rs.toArray el, rs.length, _, _, run_v (c := .slice (some ⟨w.heap.size, 0, none⟩) n n) (w := w) (w' := w.alloc (.cells rs.toArray el)) ?_, rfl, rfl, rfl, fun μ' n' le hn => ⟨?_, fun w'' hw => ?_⟩⟩
              · have hparts : (ps.map fun (i, x) => (i, ρ x)).toList = ps.toList.map fun (i, x) => (i, ρ x) := by simp
                have hb : ¬ (n * s > 2 ^ 24) := by omega
                by_cases h0 : n * s = 0
                · have hnil : (List.replicate n cz.cells.toList).flatten = [] := List.eq_nil_of_length_eq_zero (by simp [hsz, h0])
                  rw [hnil] at hf
                  have hst : ((Array.range (n * s)).map fun i => (#[] : Array Value)[i % (#[] : Array Value).size]!) = ([] : List Value).toArray := by rw [h0]; simp
                  simp only [Instr.buildSlice, Sem.run_bind, run_und hu, Result.andThen_ok, run_size hs, hb, if_false, if_pos h0, Sem.run_pure, hst, hparts, hf, run_newRow]
                · have hst : ((Array.range (n * s)).map fun i => cz.cells[i % cz.cells.size]!) = ((List.replicate n cz.cells.toList).flatten).toArray := by
                    apply Array.toList_inj.1
                    have := range_rep cz.cells.toList n (fun i => cz.cells[i]!) (fun i c h => by
                      obtain ⟨hlt, rfl⟩ := List.getElem?_eq_some_iff.1 h
                      simp at hlt
                      simp [hlt])
                    rw [hlen] at this
                    rw [hsz]; exact this
                  simp only [Instr.buildSlice, Sem.run_bind, run_und hu, Result.andThen_ok, run_size hs, hb, if_false, if_neg h0, hzr, Sem.run_pure, hst, hparts, hf, run_newRow]
              · exact .slc (δ := 0) (o := 0) hn (Nat.le_refl _) (Nat.le_refl _) (fun _ => rfl) (fun hf => by cases hf)
              · exact ORel.lst (cells := rs) (t := el) (fz := (0, 0)) (.inl (Nat.le_refl _)) hw (cs := rs) (ds := []) (by simp) (hrr.mono le) hrl'
            · cases h
          · cases h
        · cases h
      · cases h
    · cases h
  · rename_i t l c e; dsimp only at e; subst e
    split at h
    · rename_i el la ca hu hla hca
      split at h
      · rename_i l' c' i z hl hc hi hz
        split at h
        · rename_i zl hzl
          split at h
          · rename_i hcond
            obtain ⟨hlc, hc40, hb40, hcl, hpos⟩ := hcond
            obtain ⟨k1, e1⟩ := natOf_rel (hev _ _ hla) hl
            obtain ⟨k2, e2⟩ := natOf_rel (hev _ _ hca) hc
            obtain ⟨cz, hcz, hzr⟩ := run_zero (μ := μ) hz
            have hrow := cellsOfA_rel hcz hzl
            have hlen : cz.cells.toList.length = i.size := by rw [← hrow.1.length, ← clen_eq, hcl]
            have hsz : cz.cells.size = i.size := by simpa using hlen
            have hiz : i.zero = some cz := by
              have := hzr w
              simp only [zeroValue, Sem.run_bind, run_info hi, Result.andThen_ok] at this
              split at this
              · rename_i z' hz'; rw [hz']
                simp only [Sem.run_pure] at this; injection this with this; rw [this]
              · simp [stuck] at this
            have hrun := run_make (P := P) w t el i cz hu hi hiz k1 k2 (l' : Int) (c' : Int) (by omega) (by omega) (by
              have : ((i.bytes * c' : Nat) : Int) ≤ 281474976710656 := by omega
              rwa [Int.natCast_mul] at this) (by omega)
            simp only [Int.toNat_natCast] at hrun
            have hmade : madeCells cz.cells (c' * i.size) = ((List.replicate c' cz.cells.toList).flatten).toArray := by
              apply Array.toList_inj.1
              have := range_rep cz.cells.toList c' (fun i => cz.cells[i]!) (fun i c h => by
                obtain ⟨hlt, rfl⟩ := List.getElem?_eq_some_iff.1 h
                simp at hlt
                simp [hlt])
              rw [hlen] at this
              rw [← this]; simp [madeCells, hsz]
            rw [hmade] at hrun
            have hrun' : (execOp ρ ⟨dst, .makeSlice t l c, type, pos, after, guard⟩).run P w = .ok (.value (.slice (some ⟨w.heap.size, 0, none⟩) l' c')) (w.alloc (.cells ((List.replicate c' cz.cells.toList).flatten).toArray el)) := by
              refine run_v ?_
              rw [e1, e2]; exact hrun
            have hl' : ((List.replicate c' cz.cells.toList).flatten).length = c' * i.size := by simp [hsz]
            split at h
            · injection h with h; injection h with h1 h2; subst h1 h2
              refine ⟨_, ((List.replicate c' cz.cells.toList).flatten).length, _, _, hrun', rfl, rfl, rfl, fun μ' n' le hn => ⟨?_, fun w'' hw => ?_⟩⟩
              · exact .slc (δ := 0) (o := 0) hn hlc (Nat.le_refl _) (fun _ => rfl) (fun hf => by cases hf)
              · exact ORel.lst (t := el) (fz := (0, 0)) (.inl (Nat.le_refl _)) hw (cs := (List.replicate c' cz.cells.toList).flatten) (ds := []) (by simp) ((hrow.rep c').mono le) hl'
            · split at h
              · rename_i hcm
                injection h with h; injection h with h1 h2; subst h1 h2
                refine ⟨_, ((List.replicate c' cz.cells.toList).flatten).length, _, _, hrun', rfl, rfl, rfl, fun μ' n' le hn => ⟨?_, fun w'' hw => ?_⟩⟩
                · exact .slc (δ := 0) (o := 0) hn hlc (Nat.le_refl _) (fun _ => rfl) (fun hf => by cases hf)
                · have hrow' := hrow.mono le
                  refine ORel.row (t := el) (fz := (0, 0)) (.inl (Nat.le_refl _)) hw ⟨hpos, hcm, hcl, fun j r hg => ?_⟩ (by show i.size * c' ≤ _; rw [hl', Nat.mul_comm]; exact Nat.le_refl _) fun j v hv => ?_
                  · rw [Map.get_empty] at hg; cases hg
                  · simp only [Blk.cell] at hv
                    split at hv
                    · rename_i hj
                      have hrw : rowAt zl .empty (j / i.size) = zl := by unfold rowAt; rw [Map.get_empty]
                      rw [hrw] at hv
                      obtain ⟨c, hc1, hc2⟩ := hrow'.1.get _ _ hv
                      refine ⟨hrow'.2 v (List.mem_of_getElem? hv), c, ?_, hc2⟩
                      have hjlt : j < c' * i.size := (Nat.div_lt_iff_lt_mul hpos).1 hj
                      rw [get_rep, hlen, if_pos hjlt]; exact hc1
                    · cases hv
              · cases h
          · cases h
        · cases h
      · cases h
    · cases h
  · rename_i t r e; dsimp only at e; subst e
    have mk : ∀ (s : Sem Next), s.run P w = .ok (.value (.map (some w.heap.size))) (w.alloc (.map #[] 0)) → AllocR P μ w s (fun b => .map b) (.mp [] 0) := fun s hs =>
      ⟨.map #[] 0, 0, _, _, hs, rfl, rfl, rfl, fun μ' n le hn => ⟨.map hn, fun w'' hw => ⟨#[], 0, hw, ⟨[], by simp, .nil⟩, by simp, by simp⟩⟩⟩
    split at h
    · injection h with h; injection h with h1 h2; subst h1 h2
      refine mk _ ?_
      simp [execOp, Instr.makeMap]
    · rename_i x
      split at h
      · rename_i hu hx
        injection h with h; injection h with h1 h2; subst h1 h2
        refine mk _ ?_
        have hv := hev _ _ hx
        generalize hz : ρ x = z at hv
        cases hv
        simp [execOp, Instr.makeMap, run_und hu, hz, asInt, asIntOf]
      · cases h
  · rename_i s d x e; dsimp only at e; subst e
    split at h
    · rename_i el n v hs hd hx
      split at h
      · rename_i he
        injection h with h; injection h with h1 h2; subst h1 h2
        have hv := hev _ _ hx
        generalize hz : ρ x = z at hv
        cases hv with
        | str _ _ u hu =>
          have hsize := str_size hu
          have hge := grownCap_ge w u.size 0 el
          generalize hcap : grownCap w u.size 0 el = cap at hge
          let cells : List Value := (u.data.map fun b => Value.int .u8 b.toNat).toList ++ List.replicate (cap - u.size) (.int .u8 0)
          have hcl : cells.length = cap := by simp [cells]; have : u.data.size = u.size := rfl; omega
          refine ⟨.cells cells.toArray el (cap, cap + 1), cells.length, _, { w.drew with heap := w.heap.push (.cells cells.toArray el (cap, cap + 1)) }, run_v (c := .slice (some ⟨w.heap.size, 0, none⟩) u.size cap) (w := w) ?_, rfl, rfl, rfl, fun μ' n' le hn => ⟨?_, fun w'' hw => ?_⟩⟩
          · have hq : (Question.appendCap u.size 0 el).forced = false := rfl
            have hcells : (u.data.map fun b => Value.int .u8 b.toNat) ++ Array.replicate (cap - u.size) (.int .u8 0) = cells.toArray := by
              apply Array.ext'; simp [cells]
            have hsh : (w.drew.alloc (.cells cells.toArray el)).shape? w.heap.size = some (el, cap) := by
              have := heap_alloc_new w.drew (.cells cells.toArray el)
              simp only [World.shape?, World.size_drew] at this ⊢
              rw [this]; simp [hcl]
            have hfz : (w.drew.alloc (.cells cells.toArray el)).freeze ⟨w.heap.size, cap, none⟩ 1 = { w.drew with heap := w.heap.push (.cells cells.toArray el (cap, cap + 1)) } := by
              simp only [World.freeze, World.alloc, World.drew]
              rw [if_neg (by omega)]
              congr 1
              apply Array.ext_getElem?
              intro j
              rw [Array.getElem?_modify, Array.getElem?_push, Array.getElem?_push]
              by_cases h1 : j = w.heap.size
              · subst h1; simp
              · simp [h1, Ne.symm h1]
            simp only [convert, Sem.run_bind, run_und hs, run_und hd, run_und he, Result.andThen_ok, hz, Conv.stringToBytes]
            have hch : (choose (.appendCap u.size 0 el)).run P w = .ok cap w.drew := by
              rw [run_choose_drew, hq, ← hcap]; rfl
            simp only [hch, Result.andThen_ok]
            rw [hcells]
            simp only [run_newRow, Result.andThen_ok, markStringish, Sem.run_bind, run_shape, World.size_drew, hsh, run_freeze, hfz, Sem.run_pure]
          · rw [← hsize]
            exact .slc (δ := 0) (o := 0) hn (Nat.le_refl _) hge (fun hf => by cases hf) (fun _ => by rw [hcl]; omega)
          · refine ORel.lst (t := el) (fz := (cap, cap + 1)) (.inr (by rw [hcl]; exact Nat.le_refl _)) hw (cs := (u.data.map fun b => Value.int .u8 b.toNat).toList) (ds := List.replicate (cap - u.size) (.int .u8 0)) rfl ⟨?_, ?_⟩ (by simp; exact hsize)
            · have e : (u.data.map fun b => Value.int .u8 b.toNat).toList = (bytesL n v).map fun (b : Nat) => Value.int .u8 (b : Int) := by
                rw [Array.toList_map, hu, List.map_map]
                apply List.map_congr_left
                intro b hb
                have := bytesL_lt _ _ b hb
                simp [Nat.mod_eq_of_lt this]
              rw [e]
              simp only [expand, List.append_nil]; exact LRel.run _ _
            · intro x hx
              simp only [expand, List.append_nil, runCells, List.mem_map] at hx
              obtain ⟨b, _, rfl⟩ := hx; rfl
      · cases h
    · cases h
  · cases h

end
end Go.Abs

/- Any operation: calls, stores, and the rest. -/
namespace Go.Abs

section
variable {P : Program} {μ : Inj} {H : AH} {w : World} {ng : Nat}

/-- What a call of a function comes to, where a value and a heap are told. -/
def FnOk (P : Program) (μ : Inj) (H : AH) (w : World) (f : FuncId) (cargs : Array Value) (v : AV) (H' : AH) : Prop :=
  (∃ fn c, P.funcs[f]? = some fn ∧ (fn.name == "runtime.NumGoroutine") = false ∧ fn.body = some c ∧
    Calls P f cargs w fun | .returned r, w' => ∃ μ', Ext μ H w μ' H' w' ∧ VRel μ' v r | .panicked _, _ => False | .outgrown, _ => False) ∨
  ∃ μ' w' r, (callFunc f cargs).run P w = .ok (.value r) w' ∧ Ext μ H w μ' H' w' ∧ VRel μ' v r

def CallOk (P : Program) (ng : Nat) (call : CallA) : Prop :=
  ∀ f args H v H', call f args H = some (v, H') → ∀ μ w cargs, HRel μ H w → GRel ng μ → LRel μ args cargs → FnOk P μ H w f cargs.toArray v H'

/-- What an operation comes to, where a value and a heap are told. -/
def OpOk (P : Program) (μ : Inj) (H : AH) (w : World) (o : Oper) (a : Act) (v : AV) (H' : AH) : Prop :=
  ∀ (K : Act → World → Prop) (Q : Exit → Act → World → Prop), True → (∀ μ' w' c, Ext μ H w μ' H' w' → VRel μ' v c → K (a.put o.dst c) w') → o.wp P a w K Q ∨ (o.asks P a w ∧ LetsOut Q)

theorem OpOk.value {o : Oper} {a : Act} {v : AV} {H' : AH} {μ' : Inj} {w' : World} {c : Value} (hr : (execOp a.eval o).run P w = .ok (.value c) w') (he : Ext μ H w μ' H' w') (hv : VRel μ' v c) : OpOk P μ H w o a v H' :=
  fun K Q _ hK => .inl (by unfold Oper.wp; rw [hr]; exact hK _ _ _ he hv)

theorem OpOk.skip {o : Oper} {a : Act} {H' : AH} {μ' : Inj} {w' : World} (hr : (execOp a.eval o).run P w = .ok .skip w') (he : Ext μ H w μ' H' w') : OpOk P μ H w o a undefA H' :=
  fun K Q _ hK => .inl (by unfold Oper.wp; rw [hr]; exact hK _ _ _ he (VRel.undef _))

theorem run_u {s : Sem Unit} {w w' : World} (h : s.run P w = .ok () w') : (do s; pure Next.skip : Sem Next).run P w = .ok .skip w' := by
  simp only [Sem.run_bind, h, Result.andThen_ok, Sem.run_pure]

theorem run_callFunc {f : FuncId} {fn : Func} {c : Code} {args : Array Value} (hf : P.funcs[f]? = some fn) (hn : (fn.name == "runtime.NumGoroutine") = false) (hb : fn.body = some c) (w : World) :
    (callFunc f args).run P w = .ok (.enter f args) w := by
  simp only [callFunc, Sem.run_bind, run_program, Result.andThen_ok, hf, hn, hb, Option.isNone_some, Bool.false_eq_true, if_false, Sem.run_pure]

theorem FnOk.op {o : Oper} {a : Act} {f : FuncId} {cargs : Array Value} {v : AV} {H' : AH} (hr : (execOp a.eval o).run P w = (callFunc f cargs).run P w) (h : FnOk P μ H w f cargs v H') : OpOk P μ H w o a v H' := by
  rcases h with ⟨fn, c, hf, hn, hb, hc⟩ | ⟨μ', w', r, hrun, he, hv⟩
  · intro K Q hout hK
    left
    unfold Oper.wp
    rw [hr, run_callFunc hf hn hb]
    refine Calls.mono hc fun e w' he => ?_
    cases e with
    | returned r => obtain ⟨μ', h1, h2⟩ := he; exact hK _ _ _ h1 h2
    | panicked ch => exact he.elim
    | outgrown => exact he.elim
  · exact OpOk.value (hr.trans hrun) he hv

theorem two_args {ρ : Operand → Value} {args : Array Operand} {a b : AV} (hl : LRel μ [a, b] (args.toList.map ρ)) : ∃ c d, args.map ρ = #[c, d] ∧ VRel μ a c ∧ VRel μ b d := by
  generalize hz : args.toList.map ρ = zs at hl
  have hargs : (args.map ρ).toList = zs := by rw [Array.toList_map]; exact hz
  cases hl with
  | cons h1 t =>
    cases t with
    | cons h2 t =>
      cases t
      exact ⟨_, _, Array.toList_inj.1 hargs, h1, h2⟩

theorem wrapNilChk (xt : TypeId) (a : Addr) (n : String) : Builtin.ssaWrapNilChk_ #[xt] xt #[.pointer (some a), strVal "", strVal n] = pure (.pointer (some a)) := rfl

theorem methodA_rel (h : HRel μ H w) {t : TypeId} {v rv : AV} {c : Value} {name : String} {f : FuncId} (hv : VRel μ v c) (hm : methodA P H t v name = some (f, rv)) :
    ∃ r, VRel μ rv r ∧ ∀ k, (method (k + 1) t c name).run P w = .ok (f, r) w := by
  unfold methodA at hm
  split at hm
  · cases hm
  · rename_i i hi
    split at hm
    · cases hm
    · rename_i m hmf
      split at hm
      · rename_i hpath
        have hp : m.path.toList = [] := by
          have : m.path = #[] := by simpa using hpath
          rw [this]
        split at hm
        · rename_i f' e v' hfn hu
          injection hm with hm; injection hm with h1 h2; subst h1 h2
          refine ⟨c, hv, fun k => ?_⟩
          simp only [method, Sem.run_bind, run_info hi, Result.andThen_ok, hmf, hp, follow, Sem.run_pure, hfn, receiverAt, run_und hu, Place.get]
        · rename_i f' e b o hfn hu
          split at hm
          · rename_i r hl
            injection hm with hm; injection hm with h1 h2; subst h1 h2
            cases hv with
            | ptr hμ =>
              obtain ⟨c', hc', hrun⟩ := loadA_rel (P := P) h hμ hl
              refine ⟨c', hc', fun k => ?_⟩
              simp only [method, Sem.run_bind, run_info hi, Result.andThen_ok, hmf, hp, follow, Sem.run_pure, hfn, receiverAt, run_und hu, Place.get, hpath, if_true, wrapNilChk, asAddr, hrun]
          · cases hm
        · cases hm
        · rename_i f' d v' hfn hu hnp
          injection hm with hm; injection hm with h1 h2; subst h1 h2
          refine ⟨c, hv, fun k => ?_⟩
          have hrun : (receiverAt t (.val c) false (if m.path.isEmpty then some ((name.splitOn ".").getLastD name) else none)).run P w = .ok c w := by
            unfold receiverAt
            simp only [Sem.run_bind, run_und hu, Result.andThen_ok]
            cases d <;> first | rfl | exact (hnp _ rfl rfl).elim | trace_state
          simp only [method, Sem.run_bind, run_info hi, Result.andThen_ok, hmf, hp, follow, Sem.run_pure, hfn, hrun]
        · cases hm
      · cases hm

theorem appendA_types {ats : Array TypeId} {s x : AV} {r : AV × AH} (h : appendA P H ats s x = some r) : ∃ t tx, ats = #[t, tx] := by
  obtain ⟨l⟩ := ats
  have bad : ∀ (n k : Nat) (zc : Option (List AV)), (∀ t tx, l ≠ [t, tx]) → appendSrc P H ⟨l⟩ n k zc x = none := by
    intro n k zc hne
    unfold appendSrc
    split
    · rename_i y z heq
      injection heq with heq
      exact absurd heq (hne _ _)
    · rfl
  by_cases hl : ∃ t tx, l = [t, tx]
  · obtain ⟨t, tx, rfl⟩ := hl; exact ⟨t, tx, rfl⟩
  · have hb := fun n k zc => bad n k zc fun t tx e => hl ⟨t, tx, e⟩
    unfold appendA at h
    simp only [hb] at h
    repeat' split at h
    all_goals first | (cases h; done) | simp_all

theorem evList_len {ev : Operand → Option AV} : ∀ {l : List Operand} {r : List AV}, evList ev l = some r → r.length = l.length
  | [], r, h => by simp only [evList] at h; injection h with h; subst h; rfl
  | x :: l, r, h => by
    simp only [evList] at h
    split at h
    · rename_i v m hv hm
      injection h with h; subst h
      simp [evList_len hm]
    · cases h

theorem heavyOp_rel {call : CallA} (hcall : CallOk P ng call) (h : HRel μ H w) (hg : GRel ng μ) {ev : Operand → Option AV} {a : Act} (hev : ∀ x v, ev x = some v → VRel μ v (a.eval x)) {o : Oper} {v : AV} {H' : AH} (hh : heavyOp P call ev o H = some (v, H')) :
    OpOk P μ H w o a v H' := by
  obtain ⟨dst, op, type, pos, after, guard⟩ := o
  unfold heavyOp at hh
  split at hh
  · rename_i t x y e; dsimp only at e; subst e
    split at hh
    · rename_i b off u hx hy
      split at hh
      · rename_i H1 hs
        injection hh with hh; injection hh with h1 h2; subst h1 h2
        obtain ⟨μ', w', hrun, hext⟩ := storeA_rel h (hev _ _ hx) (hev _ _ hy) hs
        exact OpOk.skip (run_u hrun) hext
      · cases hh
    · cases hh
  · rename_i t m k x e; dsimp only at e; subst e
    split at hh
    · rename_i a1 b1 c1 hm hk hx
      split at hh
      · rename_i H1 hs
        injection hh with hh; injection hh with h1 h2; subst h1 h2
        obtain ⟨μ', w', hrun, hext⟩ := mapUpdA_rel h (hev _ _ hm) (hev _ _ hk) (hev _ _ hx) hs
        exact OpOk.skip (run_u hrun) hext
      · cases hh
    · cases hh
  · rename_i t m k x e; dsimp only at e; subst e
    split at hh
    · rename_i a1 b1 c1 hm hk hx
      split at hh
      · rename_i H1 hs
        injection hh with hh; injection hh with h1 h2; subst h1 h2
        obtain ⟨μ', w', hrun, hext⟩ := mapUpdA_rel h (hev _ _ hm) (hev _ _ hk) (hev _ _ hx) hs
        exact OpOk.skip (run_u hrun) hext
      · cases hh
    · cases hh
  · rename_i t m k e; dsimp only at e; subst e
    split at hh
    · rename_i a1 b1 hm hk
      obtain ⟨μ', w', c, hrun, hext, hv⟩ := mapEntryA_rel h (hev _ _ hm) (hev _ _ hk) hh
      exact OpOk.value (run_v hrun) hext hv
    · cases hh
  · rename_i t m s x e; dsimp only at e; subst e
    split at hh
    · rename_i a1 b1 c1 hm hk hx
      split at hh
      · rename_i H1 hs
        injection hh with hh; injection hh with h1 h2; subst h1 h2
        obtain ⟨μ', w', hrun, hext⟩ := entryStoreA_rel h (hev _ _ hm) (hev _ _ hk) (hev _ _ hx) hs
        exact OpOk.skip (run_u hrun) hext
      · cases hh
    · cases hh
  · rename_i b args ats e; dsimp only at e; subst e
    split at hh
    · -- append
      rename_i s x hl
      have hlr := evList_rel hev hl
      obtain ⟨c, d, hcd, hs, hx⟩ := two_args hlr
      obtain ⟨t, tx, rfl⟩ := appendA_types hh
      have hlen := evList_len hl
      obtain ⟨os, ox, rfl⟩ : ∃ os ox, args = #[os, ox] := by
        obtain ⟨l⟩ := args
        rcases l with _ | ⟨os, _ | ⟨ox, _ | ⟨y, l⟩⟩⟩ <;> simp at hlen
        exact ⟨_, _, rfl⟩
      have hc : a.eval os = c ∧ a.eval ox = d := by
        have := congrArg Array.toList hcd
        simpa using this
      obtain ⟨rfl, rfl⟩ := hc
      obtain ⟨consts, hbu⟩ := builtin_run (P := P) a.eval ⟨dst, .call { callee := .builtin .append, args := #[os, ox], argTypes := #[t, tx] }, type, pos, after, guard⟩ _ _ _ rfl
      obtain ⟨μ', w', c, hrun, hext, hv⟩ := appendA_rel (ty := type) h hs hx hh
      exact OpOk.value (by rw [hbu, hcd]; exact run_v hrun) hext hv
    · -- copy
      rename_i s x hl
      have hlr := evList_rel hev hl
      obtain ⟨c, d, hcd, hs, hx⟩ := two_args hlr
      obtain ⟨consts, hbu⟩ := builtin_run (P := P) a.eval ⟨dst, .call { callee := .builtin .copy, args := args, argTypes := ats }, type, pos, after, guard⟩ _ _ _ rfl
      obtain ⟨μ', w', c', hrun, hext, hv⟩ := copyA_rel (ats := ats) (ty := type) h hs hx hh
      exact OpOk.value (by rw [hbu, hcd]; exact run_v hrun) hext hv
    · -- clear
      rename_i x hl
      split at hh
      · rename_i H1 hs
        injection hh with hh; injection hh with h1 h2; subst h1 h2
        have hlr := evList_rel hev hl
        obtain ⟨c, hcd, hx⟩ := one_arg hlr
        obtain ⟨consts, hbu⟩ := builtin_run (P := P) a.eval ⟨dst, .call { callee := .builtin .clear, args := args, argTypes := ats }, type, pos, after, guard⟩ _ _ _ rfl
        obtain ⟨μ', w', hrun, hext⟩ := clearA_rel (ats := ats) (ty := type) h hx hs
        exact OpOk.value (by rw [hbu, hcd]; exact run_v hrun) hext (VRel.undef _)
      · cases hh
    · -- delete
      rename_i m k hl
      split at hh
      · rename_i H1 hs
        injection hh with hh; injection hh with h1 h2; subst h1 h2
        have hlr := evList_rel hev hl
        obtain ⟨c, d, hcd, hm, hk⟩ := two_args hlr
        obtain ⟨consts, hbu⟩ := builtin_run (P := P) a.eval ⟨dst, .call { callee := .builtin .delete, args := args, argTypes := ats }, type, pos, after, guard⟩ _ _ _ rfl
        obtain ⟨μ', w', hrun, hext⟩ := deleteA_rel (ats := ats) (ty := type) h hm hk hs
        exact OpOk.value (by rw [hbu, hcd]; exact run_v hrun) hext (VRel.undef _)
      · cases hh
    · cases hh
  · rename_i f args ats e; dsimp only at e; subst e
    split at hh
    · rename_i g fs cs l hf hl
      have hlr := evList_rel hev hl
      have hfr := hev _ _ hf
      generalize hz : a.eval f = z at hfr
      cases hfr with
      | fn _ h1 h2 =>
        rename_i cfs ccs
        refine FnOk.op (cargs := (cfs ++ args.toList.map a.eval ++ ccs).toArray) ?_ (hcall _ _ _ _ _ hh μ w _ h hg ((h1.append hlr).append h2))
        simp only [execOp, resolve, hz, Deferred.ofValue, Sem.run_bind, Sem.run_pure, Result.andThen_ok, invoke]
        congr 2
        apply Array.toList_inj.1; simp
    · cases hh
  · rename_i r name args ats e; dsimp only at e; subst e
    split at hh
    · rename_i t u l hr hl
      split at hh
      · rename_i f rv hm
        have hlr := evList_rel hev hl
        have hrr := hev _ _ hr
        generalize hz : a.eval r = z at hrr
        cases hrr with
        | ifc _ hv =>
          rename_i cv
          obtain ⟨rc, hrc, hmr⟩ := methodA_rel (P := P) h hv hm
          refine FnOk.op (cargs := (rc :: args.toList.map a.eval).toArray) ?_ (hcall _ _ _ _ _ hh μ w _ h hg (.cons hrc hlr))
          have hd : P.types.size + Made.depth = (P.types.size + 99) + 1 := rfl
          simp only [execOp, resolve, hz, Sem.run_bind, Sem.run_pure, Result.andThen_ok, invoke]
          have h0 : (#[Value.iface t cv] ++ Array.map a.eval args)[0]? = some (Value.iface t cv) := by
            rw [Array.getElem?_append_left (by simp)]; rfl
          have h1 : #[rc] ++ (#[Value.iface t cv] ++ Array.map a.eval args).extract 1 = (rc :: List.map a.eval args.toList).toArray := by
            apply Array.toList_inj.1
            simp only [Array.toList_append, Array.toList_extract, Array.toList_map, Array.size_append, Array.size_map]
            simp [List.take_of_length_le]
          rw [h0]
          dsimp only
          simp only [callMethod, Sem.run_bind, run_program, Result.andThen_ok, hd, hmr, h1]
      · cases hh
    · cases hh
  · cases hh

end
end Go.Abs
