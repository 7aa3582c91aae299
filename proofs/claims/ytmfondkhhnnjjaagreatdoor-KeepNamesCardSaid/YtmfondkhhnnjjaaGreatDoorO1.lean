/- What the evaluator is told of three functions of Go's library: their answers. -/
import Derived.Test.YtmfondkhhnnjjaaGreatDoorA6
import Derived.Test.YtmfondkhhnnjjaaGreatDoorA7

namespace Go.Abs
noncomputable section

/-- The numbers among a map's keys. -/
def keyNums : List (AV × AV × Nat) → Option (List Nat)
  | [] => some []
  | (.int .i64 n, _, _) :: r => match keyNums r with | some l => some (n :: l) | none => none
  | _ :: _ => none

def insNum (n : Nat) : List Nat → List Nat
  | [] => [n]
  | m :: r => if Nat.ble (key .i64 n) (key .i64 m) then n :: m :: r else m :: insNum n r
def sortNums : List Nat → List Nat
  | [] => []
  | n :: r => insNum n (sortNums r)

/-- Do numbers rise? -/
def upBy (f : Nat → Nat) : List Nat → Bool
  | [] => true
  | a :: r => (match r with | [] => true | b :: _ => Nat.blt (f a) (f b)) && upBy f r
def upNums (l : List Nat) : Bool := upBy (key .i64) l

/-- slices.Sorted(maps.Keys(m)): k is the iterator's function. -/
def sortedO (k : FuncId) (args : List AV) (H : AH) : Option (AV × AH) :=
  match args with
  | [.fn g [] [.ptr b 0]] =>
    if g = k then
      match H.get b with
      | some (.blk c) =>
        match c.rd1 0 with
        | some (.map m) =>
          match H.get m with
          | some (.mp es _) =>
            match keyNums es with
            | some l =>
              if (upNums (sortNums l) && Nat.ble l.length 65536) = true then
                match l with
                | [] => some (.nils, H)
                | l => some (.slc H.next 0 l.length l.length 1 false, H.push (.blk (.lst l.length ((sortNums l).map (.int .i64 ·)))))
              else none
            | none => none
          | _ => none
        | _ => none
      | _ => none
    else none
  | _ => none

/-- Entries under new stamps. -/
def renum : Nat → List (AV × AV × Nat) → List (AV × AV × Nat)
  | _, [] => []
  | c, (k, v, _) :: r => (k, v, c) :: renum (c + 1) r
def outOf (l : List Nat) (x : AV × AV × Nat) : Bool := match x.1 with | .int _ n => l.all (fun m => !(Nat.beq n m)) | _ => true

/-- Are the elements rows of so many cells? -/
def rowsV (k : Nat) : List (AV × AV × Nat) → Bool
  | [] => true
  | (_, v, _) :: r => (match v with | .agg l => Nat.beq (clen l) k | _ => false) && rowsV k r

/-- maps.Copy(d, s) at keys that are numbers, elements that are rows of cells. -/
def copyO (size : Nat) (args : List AV) (H : AH) : Option (AV × AH) :=
  match args with
  | [.map d, .map s] =>
    if Nat.beq d s = true then none else
    match H.get d with
    | some (.mp ed clock) =>
      match H.get s with
      | some (.mp es _) =>
        match keyNums ed with
        | some ld =>
          match keyNums es with
          | some ls =>
            if (upNums (sortNums ld) && Nat.ble ld.length 65536 && (upNums (sortNums ls) && Nat.ble ls.length 65536) && (rowsV size ed && rowsV size es)) = true then
              some (.tup [], H.set d (.mp (renum clock (ed.filter (outOf ls) ++ es)) (clock + (ed.filter (outOf ls) ++ es).length)))
            else none
          | none => none
        | none => none
      | _ => none
    | _ => none
  | _ => none

/-- slices.Insert(s, i, v...) where s may have room or not. -/
def insertO (size : Nat) (args : List AV) (H : AH) : Option (AV × AH) :=
  match args with
  | [.slc b o n _ z false, .int .i64 i, .slc b2 o2 m _ z2 _] =>
    if (Nat.beq z size && Nat.beq z2 size && Nat.blt i n && Nat.blt n 65536 && Nat.beq m 1 && !(Nat.beq b b2)) = true then
      match H.get b, H.get b2 with
      | some (.blk k), some (.blk k2) =>
        match k.rd o (n * size), k2.rd o2 (m * size) with
        | some l, some l2 => some (.slc H.next 0 (n + m) (n + m) size false, (H.kill b).push (.blk (.lst ((n + m) * size) (catC (takeC (i * size) l) (catC l2 (dropC (i * size) l))))))
        | _, _ => none
      | _, _ => none
    else none
  | _ => none

/-- slices.Clone of all rows of a block. -/
def cloneO (size : Nat) (args : List AV) (H : AH) : Option (AV × AH) :=
  match args with
  | [.slc b 0 n _ z _] =>
    if (Nat.beq z size && Nat.blt 0 n) = true then
      match H.get b with
      | some (.blk (.rows sz cnt zz t)) => if (Nat.beq sz size && Nat.beq cnt n) = true then some (.slc H.next 0 n n size false, H.push (.blk (.rows sz cnt zz t))) else none
      | _ => none
    else none
  | _ => none

/-- Is none of the entries (of four cells) of the kind 3? -/
def noMem (k : Blk) (o : Nat) : Nat → Bool
  | 0 => true
  | j + 1 => (match k.rd1 (o + 4 * j + 1) with | some (.int .u8 x) => !(Nat.beq x 3) | _ => false) && noMem k o j
/-- (*rlog.Log).Members where no entry is a list of members. -/
def membersO (args : List AV) (H : AH) : Option (AV × AH) :=
  match args with
  | [.ptr g 0, .int .i64 _] =>
    match H.get g with
    | some (.blk c) =>
      match c.rd1 2 with
      | some (.slc b o n _ z _) =>
        match H.get b with
        | some (.blk k) => if (Nat.beq z 4 && Nat.blt n 65536 && Nat.ble (o + 4 * n) k.size && noMem k o n) = true then some (.tup [.nils, .bool false], H) else none
        | _ => none
      | _ => none
    | _ => none
  | _ => none

end
end Go.Abs

/- The plain law of the sorted keys. -/
namespace Go.Abs

theorem mem_insNum {x n : Nat} : ∀ {l : List Nat}, x ∈ insNum n l ↔ x = n ∨ x ∈ l
  | [] => by simp [insNum]
  | m :: r => by
    unfold insNum
    split
    · simp
    · simp only [List.mem_cons, mem_insNum]
      constructor
      · rintro (h | h | h)
        · exact .inr (.inl h)
        · exact .inl h
        · exact .inr (.inr h)
      · rintro (h | h | h)
        · exact .inr (.inl h)
        · exact .inl h
        · exact .inr (.inr h)

theorem insNum_perm (n : Nat) : ∀ l : List Nat, (insNum n l).Perm (n :: l)
  | [] => .refl _
  | m :: r => by
    unfold insNum
    split
    · exact .refl _
    · exact ((insNum_perm n r).cons m).trans (.swap n m r)

theorem sortNums_perm : ∀ l : List Nat, (sortNums l).Perm l
  | [] => .refl _
  | n :: r => (insNum_perm n (sortNums r)).trans ((sortNums_perm r).cons n)

/-- Their order, as Go's int has it. -/
theorem le_toInt {n m : Nat} (hn : n < 2 ^ 64) (hm : m < 2 ^ 64) : toInt .i64 n ≤ toInt .i64 m ↔ key .i64 n ≤ key .i64 m := by
  have h := key_lt .i64 m n hm hn
  constructor
  · intro h1
    rcases Nat.lt_or_ge (key .i64 m) (key .i64 n) with h2 | h2
    · have := h.2 h2; omega
    · exact h2
  · intro h1
    rcases Int.lt_or_le (toInt .i64 m) (toInt .i64 n) with h2 | h2
    · have := h.1 h2; omega
    · exact h2

theorem insNum_sorted {n : Nat} (hn : n < 2 ^ 64) : ∀ {l : List Nat}, (∀ x ∈ l, x < 2 ^ 64) → l.Pairwise (fun a b => toInt .i64 a ≤ toInt .i64 b) → (insNum n l).Pairwise (fun a b => toInt .i64 a ≤ toInt .i64 b)
  | [], _, _ => by simp [insNum]
  | m :: r, hl, hp => by
    have hm := hl m (List.mem_cons_self ..)
    have hr := fun x hx => hl x (List.mem_cons_of_mem _ hx)
    rw [List.pairwise_cons] at hp
    unfold insNum
    split
    · rename_i hb
      have h1 := (le_toInt hn hm).2 (Nat.le_of_ble_eq_true hb)
      refine List.pairwise_cons.2 ⟨fun x hx => ?_, List.pairwise_cons.2 hp⟩
      rcases List.mem_cons.1 hx with rfl | hx
      · exact h1
      · exact Int.le_trans h1 (hp.1 x hx)
    · rename_i hb
      have h1 : toInt .i64 m ≤ toInt .i64 n := by
        rcases Int.le_total (toInt .i64 n) (toInt .i64 m) with h2 | h2
        · exact absurd (Nat.ble_eq_true_of_le ((le_toInt hn hm).1 h2)) (by simpa using hb)
        · exact h2
      refine List.pairwise_cons.2 ⟨fun x hx => ?_, insNum_sorted hn hr hp.2⟩
      rcases mem_insNum.1 hx with rfl | hx
      · exact h1
      · exact hp.1 x hx

theorem sortNums_sorted : ∀ {l : List Nat}, (∀ x ∈ l, x < 2 ^ 64) → (sortNums l).Pairwise (fun a b => toInt .i64 a ≤ toInt .i64 b)
  | [], _ => .nil
  | n :: r, hl => insNum_sorted (hl n (List.mem_cons_self ..)) (fun x hx => hl x (List.mem_cons_of_mem _ ((sortNums_perm r).mem_iff.1 hx))) (sortNums_sorted fun x hx => hl x (List.mem_cons_of_mem _ hx))

/-- The evaluator's sort is the library's order. -/
theorem sortNums_eq {l : List Nat} (hl : ∀ x ∈ l, x < 2 ^ 64) {ss : List Int} (hp : ss.Perm (l.map (toInt .i64))) : ss.mergeSort (fun x y => decide (x ≤ y)) = (sortNums l).map (toInt .i64) := by
  have p1 : (ss.mergeSort (fun x y => decide (x ≤ y))).Perm ((sortNums l).map (toInt .i64)) := (List.mergeSort_perm ss _).trans (hp.trans ((sortNums_perm l).symm.map _))
  have s1 : (ss.mergeSort (fun x y => decide (x ≤ y))).Pairwise (fun a b : Int => a ≤ b) := by
    have := List.pairwise_mergeSort (le := fun x y : Int => decide (x ≤ y)) (fun a b c h1 h2 => by simp at h1 h2 ⊢; omega) (fun a b => by simp; omega) ss
    exact this.imp fun h => by simpa using h
  have s2 : ((sortNums l).map (toInt .i64)).Pairwise (fun a b : Int => a ≤ b) := by
    rw [List.pairwise_map]; exact sortNums_sorted hl
  exact p1.eq_of_pairwise (fun a b _ _ h1 h2 => Int.le_antisymm h1 h2) s1 s2

end Go.Abs
