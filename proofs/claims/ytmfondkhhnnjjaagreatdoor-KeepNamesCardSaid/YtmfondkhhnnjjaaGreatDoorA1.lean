/- Abstract values: numbers in two's complement, texts and rows of bytes packed into numbers; the relation to the model's values. -/
import Derived.Orders

namespace Go.Abs

/-! ## Numbers -/

def toInt (k : IntKind) (n : Nat) : Int := if k.signed && Nat.ble (2 ^ (k.bits - 1)) n then (n : Int) - (2 ^ k.bits : Nat) else (n : Int)
def ofInt (k : IntKind) (x : Int) : Nat := (x % ((2 ^ k.bits : Nat) : Int)).toNat

theorem bits_pos (k : IntKind) : 0 < k.bits := by cases k <;> decide
theorem two_bits (k : IntKind) : 2 ^ k.bits = 2 * 2 ^ (k.bits - 1) := by cases k <;> decide

theorem ofInt_lt (k : IntKind) (x : Int) : ofInt k x < 2 ^ k.bits := by
  unfold ofInt
  have h : 0 < ((2 ^ k.bits : Nat) : Int) := by
    have := Nat.pow_pos (n := k.bits) (show 0 < 2 by decide); omega
  have h1 := Int.emod_nonneg x (b := ((2 ^ k.bits : Nat) : Int)) (by omega)
  have h2 := Int.emod_lt_of_pos x h
  omega

theorem toInt_ofInt (k : IntKind) (x : Int) : toInt k (ofInt k x) = k.wrap x := by
  unfold toInt ofInt IntKind.wrap
  cases k <;> simp [IntKind.signed, IntKind.bits] <;> (try split) <;> (try split) <;> omega

theorem toInt_emod (k : IntKind) (n : Nat) : (toInt k n) % ((2 ^ k.bits : Nat) : Int) = (n : Int) % ((2 ^ k.bits : Nat) : Int) := by
  unfold toInt
  split
  · rw [Int.sub_emod, Int.emod_self]; simp
  · rfl

theorem ofInt_congr (k : IntKind) (x y : Int) (h : x % ((2 ^ k.bits : Nat) : Int) = y % ((2 ^ k.bits : Nat) : Int)) : ofInt k x = ofInt k y := by
  unfold ofInt; rw [h]

theorem ofInt_nat (k : IntKind) (n : Nat) : ofInt k (n : Int) = n % 2 ^ k.bits := by
  unfold ofInt
  rw [← Int.natCast_emod]; exact Int.toNat_natCast _

theorem toInt_inj (k : IntKind) (n m : Nat) (hn : n < 2 ^ k.bits) (hm : m < 2 ^ k.bits) (h : toInt k n = toInt k m) : n = m := by
  have h2 := congrArg (ofInt k) h
  have e : ∀ x : Nat, x < 2 ^ k.bits → ofInt k (toInt k x) = x := by
    intro x hx
    rw [ofInt_congr k _ _ (toInt_emod k x), ofInt_nat, Nat.mod_eq_of_lt hx]
  rw [e n hn, e m hm] at h2
  exact h2

theorem ofInt_toInt (k : IntKind) (n : Nat) (hn : n < 2 ^ k.bits) : ofInt k (toInt k n) = n := by
  rw [ofInt_congr k _ _ (toInt_emod k n), ofInt_nat, Nat.mod_eq_of_lt hn]

/-- The order of two numbers: the sign turned. -/
def key (k : IntKind) (n : Nat) : Nat := if k.signed then (n + 2 ^ (k.bits - 1)) % 2 ^ k.bits else n

theorem key_lt (k : IntKind) (n m : Nat) (hn : n < 2 ^ k.bits) (hm : m < 2 ^ k.bits) : (toInt k n < toInt k m) ↔ key k n < key k m := by
  unfold toInt key
  cases k <;> simp [IntKind.signed, IntKind.bits] at * <;> (try split) <;> (try split) <;> omega

/-! ## Bytes packed into numbers, the first byte highest -/

def byteAt (n x i : Nat) : Nat := x / 256 ^ (n - 1 - i) % 256
def bytesL (n x : Nat) : List Nat := (List.range n).map (byteAt n x)

@[simp] theorem bytesL_length (n x : Nat) : (bytesL n x).length = n := by simp [bytesL]
theorem bytesL_get (n x i : Nat) (h : i < n) : (bytesL n x)[i]? = some (byteAt n x i) := by simp [bytesL, h]
theorem byteAt_lt (n x i : Nat) : byteAt n x i < 256 := Nat.mod_lt _ (by decide)
theorem bytesL_lt (n x b : Nat) (h : b ∈ bytesL n x) : b < 256 := by
  simp only [bytesL, List.mem_map] at h
  obtain ⟨i, _, rfl⟩ := h
  exact byteAt_lt _ _ _

theorem byteAt_cat_left (n m x y i : Nat) (hi : i < n) (hy : y < 256 ^ m) : byteAt (n + m) (x * 256 ^ m + y) i = byteAt n x i := by
  unfold byteAt
  have e : n + m - 1 - i = m + (n - 1 - i) := by omega
  rw [e, Nat.pow_add, ← Nat.div_div_eq_div_mul]
  congr 2
  rw [Nat.mul_comm, Nat.mul_add_div (Nat.pow_pos (by decide)), Nat.div_eq_of_lt hy]; rfl

theorem byteAt_cat_right (n m x y i : Nat) (hi : i < m) : byteAt (n + m) (x * 256 ^ m + y) (n + i) = byteAt m y i := by
  unfold byteAt
  have e : n + m - 1 - (n + i) = m - 1 - i := by omega
  rw [e]
  have e2 : x * 256 ^ m = 256 ^ (m - 1 - i) * (256 * (x * 256 ^ i)) := by
    have : m = (m - 1 - i) + 1 + i := by omega
    conv => lhs; rw [this, Nat.pow_add, Nat.pow_add]
    simp [Nat.mul_comm, Nat.mul_left_comm, Nat.mul_assoc]
  rw [e2, Nat.mul_add_div (Nat.pow_pos (by decide)), Nat.mul_comm 256, Nat.mul_add_mod_self_right]

theorem bytesL_cat (n m x y : Nat) (hy : y < 256 ^ m) : bytesL (n + m) (x * 256 ^ m + y) = bytesL n x ++ bytesL m y := by
  apply List.ext_getElem (by simp)
  intro i h1 h2
  simp only [bytesL_length] at h1
  by_cases hi : i < n
  · rw [List.getElem_append_left (by simpa using hi)]
    simp [bytesL, byteAt_cat_left n m x y i hi hy]
  · obtain ⟨j, rfl⟩ : ∃ j, i = n + j := ⟨i - n, by omega⟩
    rw [List.getElem_append_right (by simp)]
    simp only [bytesL, List.getElem_map, List.getElem_range, List.length_map, List.length_range]
    rw [byteAt_cat_right n m x y j (by omega)]
    congr 1; omega

theorem byteAt_mod (n x i : Nat) (_hi : i < n) : byteAt n (x % 256 ^ n) i = byteAt n x i := by
  by_cases hi : i < n
  · unfold byteAt
    have : 256 ^ n = 256 ^ (n - 1 - i) * 256 ^ (i + 1) := by rw [← Nat.pow_add]; congr 1; omega
    rw [this, Nat.mod_mul_right_div_self, Nat.pow_succ, Nat.mod_mul_left_mod]
  · omega

theorem bytesL_mod (n x : Nat) : bytesL n (x % 256 ^ n) = bytesL n x := by
  apply List.ext_getElem (by simp)
  intro i h1 h2
  simp only [bytesL_length] at h1
  simp [bytesL, byteAt_mod n x i h1]

theorem bytesL_take (n x k : Nat) (h : k ≤ n) : (bytesL n x).take k = bytesL k (x / 256 ^ (n - k)) := by
  apply List.ext_getElem (by simp [h])
  intro i h1 h2
  simp only [bytesL_length] at h2
  simp only [bytesL, List.getElem_take, List.getElem_map, List.getElem_range, byteAt, Nat.div_div_eq_div_mul, ← Nat.pow_add]
  congr 3; omega

theorem bytesL_drop (n x k : Nat) : (bytesL n x).drop k = bytesL (n - k) x := by
  apply List.ext_getElem (by simp)
  intro i h1 h2
  simp only [bytesL_length] at h2
  simp only [bytesL, List.getElem_drop, List.getElem_map, List.getElem_range, byteAt]
  congr 3; omega

theorem bytesL_inj (n x y : Nat) (h : bytesL n x = bytesL n y) : x % 256 ^ n = y % 256 ^ n := by
  induction n generalizing x y with
  | zero => simp [Nat.mod_one]
  | succ n ih =>
    have hx : ∀ z, bytesL (n + 1) z = bytesL n (z / 256) ++ [z % 256] := by
      intro z
      have := bytesL_cat n 1 (z / 256) (z % 256) (by have := Nat.mod_lt z (show 256 > 0 by decide); simpa using this)
      rw [show z / 256 * 256 ^ 1 + z % 256 = z from by have := Nat.div_add_mod z 256; omega] at this
      rw [this]
      simp [bytesL, byteAt, List.range_succ]
    rw [hx, hx] at h
    have h1 := List.append_inj' h (by simp)
    have h2 := ih _ _ h1.1
    have h3 : x % 256 = y % 256 := by simpa using h1.2
    have e : ∀ z, z % 256 ^ (n + 1) = (z / 256) % 256 ^ n * 256 + z % 256 := by
      intro z
      rw [Nat.pow_succ, Nat.mul_comm (256 ^ n) 256, Nat.mod_mul]; omega
    rw [e, e, h2, h3]

end Go.Abs

/- A finite map from numbers, made for the kernel's evaluation: rows of sixteen; a key's way is a pair of closed functions, reckoned once. -/
namespace Go.Abs
noncomputable section

structure R16 (α : Type) where
  a0 : α
  a1 : α
  a2 : α
  a3 : α
  a4 : α
  a5 : α
  a6 : α
  a7 : α
  a8 : α
  a9 : α
  a10 : α
  a11 : α
  a12 : α
  a13 : α
  a14 : α
  a15 : α

/-- A place in a tree: how it is read, how it is turned. -/
structure Lens (σ α : Type) where
  get : σ → α
  upd : (α → α) → σ → σ

def up0 {α : Type} (f : α → α) (x0 x1 x2 x3 x4 x5 x6 x7 x8 x9 x10 x11 x12 x13 x14 x15 : α) : R16 α := ⟨f x0, x1, x2, x3, x4, x5, x6, x7, x8, x9, x10, x11, x12, x13, x14, x15⟩
def up1 {α : Type} (f : α → α) (x0 x1 x2 x3 x4 x5 x6 x7 x8 x9 x10 x11 x12 x13 x14 x15 : α) : R16 α := ⟨x0, f x1, x2, x3, x4, x5, x6, x7, x8, x9, x10, x11, x12, x13, x14, x15⟩
def up2 {α : Type} (f : α → α) (x0 x1 x2 x3 x4 x5 x6 x7 x8 x9 x10 x11 x12 x13 x14 x15 : α) : R16 α := ⟨x0, x1, f x2, x3, x4, x5, x6, x7, x8, x9, x10, x11, x12, x13, x14, x15⟩
def up3 {α : Type} (f : α → α) (x0 x1 x2 x3 x4 x5 x6 x7 x8 x9 x10 x11 x12 x13 x14 x15 : α) : R16 α := ⟨x0, x1, x2, f x3, x4, x5, x6, x7, x8, x9, x10, x11, x12, x13, x14, x15⟩
def up4 {α : Type} (f : α → α) (x0 x1 x2 x3 x4 x5 x6 x7 x8 x9 x10 x11 x12 x13 x14 x15 : α) : R16 α := ⟨x0, x1, x2, x3, f x4, x5, x6, x7, x8, x9, x10, x11, x12, x13, x14, x15⟩
def up5 {α : Type} (f : α → α) (x0 x1 x2 x3 x4 x5 x6 x7 x8 x9 x10 x11 x12 x13 x14 x15 : α) : R16 α := ⟨x0, x1, x2, x3, x4, f x5, x6, x7, x8, x9, x10, x11, x12, x13, x14, x15⟩
def up6 {α : Type} (f : α → α) (x0 x1 x2 x3 x4 x5 x6 x7 x8 x9 x10 x11 x12 x13 x14 x15 : α) : R16 α := ⟨x0, x1, x2, x3, x4, x5, f x6, x7, x8, x9, x10, x11, x12, x13, x14, x15⟩
def up7 {α : Type} (f : α → α) (x0 x1 x2 x3 x4 x5 x6 x7 x8 x9 x10 x11 x12 x13 x14 x15 : α) : R16 α := ⟨x0, x1, x2, x3, x4, x5, x6, f x7, x8, x9, x10, x11, x12, x13, x14, x15⟩
def up8 {α : Type} (f : α → α) (x0 x1 x2 x3 x4 x5 x6 x7 x8 x9 x10 x11 x12 x13 x14 x15 : α) : R16 α := ⟨x0, x1, x2, x3, x4, x5, x6, x7, f x8, x9, x10, x11, x12, x13, x14, x15⟩
def up9 {α : Type} (f : α → α) (x0 x1 x2 x3 x4 x5 x6 x7 x8 x9 x10 x11 x12 x13 x14 x15 : α) : R16 α := ⟨x0, x1, x2, x3, x4, x5, x6, x7, x8, f x9, x10, x11, x12, x13, x14, x15⟩
def up10 {α : Type} (f : α → α) (x0 x1 x2 x3 x4 x5 x6 x7 x8 x9 x10 x11 x12 x13 x14 x15 : α) : R16 α := ⟨x0, x1, x2, x3, x4, x5, x6, x7, x8, x9, f x10, x11, x12, x13, x14, x15⟩
def up11 {α : Type} (f : α → α) (x0 x1 x2 x3 x4 x5 x6 x7 x8 x9 x10 x11 x12 x13 x14 x15 : α) : R16 α := ⟨x0, x1, x2, x3, x4, x5, x6, x7, x8, x9, x10, f x11, x12, x13, x14, x15⟩
def up12 {α : Type} (f : α → α) (x0 x1 x2 x3 x4 x5 x6 x7 x8 x9 x10 x11 x12 x13 x14 x15 : α) : R16 α := ⟨x0, x1, x2, x3, x4, x5, x6, x7, x8, x9, x10, x11, f x12, x13, x14, x15⟩
def up13 {α : Type} (f : α → α) (x0 x1 x2 x3 x4 x5 x6 x7 x8 x9 x10 x11 x12 x13 x14 x15 : α) : R16 α := ⟨x0, x1, x2, x3, x4, x5, x6, x7, x8, x9, x10, x11, x12, f x13, x14, x15⟩
def up14 {α : Type} (f : α → α) (x0 x1 x2 x3 x4 x5 x6 x7 x8 x9 x10 x11 x12 x13 x14 x15 : α) : R16 α := ⟨x0, x1, x2, x3, x4, x5, x6, x7, x8, x9, x10, x11, x12, x13, f x14, x15⟩
def up15 {α : Type} (f : α → α) (x0 x1 x2 x3 x4 x5 x6 x7 x8 x9 x10 x11 x12 x13 x14 x15 : α) : R16 α := ⟨x0, x1, x2, x3, x4, x5, x6, x7, x8, x9, x10, x11, x12, x13, x14, f x15⟩
def row0 {α : Type} : Lens (R16 α) α := ⟨fun r => r.a0, fun f r => R16.rec (motive := fun _ => R16 α) (up0 f) r⟩
def row1 {α : Type} : Lens (R16 α) α := ⟨fun r => r.a1, fun f r => R16.rec (motive := fun _ => R16 α) (up1 f) r⟩
def row2 {α : Type} : Lens (R16 α) α := ⟨fun r => r.a2, fun f r => R16.rec (motive := fun _ => R16 α) (up2 f) r⟩
def row3 {α : Type} : Lens (R16 α) α := ⟨fun r => r.a3, fun f r => R16.rec (motive := fun _ => R16 α) (up3 f) r⟩
def row4 {α : Type} : Lens (R16 α) α := ⟨fun r => r.a4, fun f r => R16.rec (motive := fun _ => R16 α) (up4 f) r⟩
def row5 {α : Type} : Lens (R16 α) α := ⟨fun r => r.a5, fun f r => R16.rec (motive := fun _ => R16 α) (up5 f) r⟩
def row6 {α : Type} : Lens (R16 α) α := ⟨fun r => r.a6, fun f r => R16.rec (motive := fun _ => R16 α) (up6 f) r⟩
def row7 {α : Type} : Lens (R16 α) α := ⟨fun r => r.a7, fun f r => R16.rec (motive := fun _ => R16 α) (up7 f) r⟩
def row8 {α : Type} : Lens (R16 α) α := ⟨fun r => r.a8, fun f r => R16.rec (motive := fun _ => R16 α) (up8 f) r⟩
def row9 {α : Type} : Lens (R16 α) α := ⟨fun r => r.a9, fun f r => R16.rec (motive := fun _ => R16 α) (up9 f) r⟩
def row10 {α : Type} : Lens (R16 α) α := ⟨fun r => r.a10, fun f r => R16.rec (motive := fun _ => R16 α) (up10 f) r⟩
def row11 {α : Type} : Lens (R16 α) α := ⟨fun r => r.a11, fun f r => R16.rec (motive := fun _ => R16 α) (up11 f) r⟩
def row12 {α : Type} : Lens (R16 α) α := ⟨fun r => r.a12, fun f r => R16.rec (motive := fun _ => R16 α) (up12 f) r⟩
def row13 {α : Type} : Lens (R16 α) α := ⟨fun r => r.a13, fun f r => R16.rec (motive := fun _ => R16 α) (up13 f) r⟩
def row14 {α : Type} : Lens (R16 α) α := ⟨fun r => r.a14, fun f r => R16.rec (motive := fun _ => R16 α) (up14 f) r⟩
def row15 {α : Type} : Lens (R16 α) α := ⟨fun r => r.a15, fun f r => R16.rec (motive := fun _ => R16 α) (up15 f) r⟩
/-- The place of a digit. -/
def dl {α : Type} (i : Nat) : Lens (R16 α) α :=
  (Bool.rec (motive := fun _ => Lens (R16 α) α) (Bool.rec (motive := fun _ => Lens (R16 α) α) (Bool.rec (motive := fun _ => Lens (R16 α) α) (Bool.rec (motive := fun _ => Lens (R16 α) α) row0 row1 (Nat.ble 1 i)) (Bool.rec (motive := fun _ => Lens (R16 α) α) row2 row3 (Nat.ble 3 i)) (Nat.ble 2 i)) (Bool.rec (motive := fun _ => Lens (R16 α) α) (Bool.rec (motive := fun _ => Lens (R16 α) α) row4 row5 (Nat.ble 5 i)) (Bool.rec (motive := fun _ => Lens (R16 α) α) row6 row7 (Nat.ble 7 i)) (Nat.ble 6 i)) (Nat.ble 4 i)) (Bool.rec (motive := fun _ => Lens (R16 α) α) (Bool.rec (motive := fun _ => Lens (R16 α) α) (Bool.rec (motive := fun _ => Lens (R16 α) α) row8 row9 (Nat.ble 9 i)) (Bool.rec (motive := fun _ => Lens (R16 α) α) row10 row11 (Nat.ble 11 i)) (Nat.ble 10 i)) (Bool.rec (motive := fun _ => Lens (R16 α) α) (Bool.rec (motive := fun _ => Lens (R16 α) α) row12 row13 (Nat.ble 13 i)) (Bool.rec (motive := fun _ => Lens (R16 α) α) row14 row15 (Nat.ble 15 i)) (Nat.ble 14 i)) (Nat.ble 12 i)) (Nat.ble 8 i))

/-- One place in another: made once, of the two functions themselves. -/
def Lens.comp {a b c : Type} (x : Lens a b) (y : Lens b c) : Lens a c :=
  Lens.rec (motive := fun _ => Lens a c) (fun g u => Lens.rec (motive := fun _ => Lens a c) (fun g' u' => ⟨fun s => g' (g s), fun f s => u (u' f) s⟩) y) x

def Tree (α : Type) : Nat → Type
  | 0 => α
  | n + 1 => R16 (Tree α n)

def full {α : Type} (z : α) : (n : Nat) → Tree α n
  | 0 => z
  | n + 1 => (⟨full z n, full z n, full z n, full z n, full z n, full z n, full z n, full z n, full z n, full z n, full z n, full z n, full z n, full z n, full z n, full z n⟩ : R16 (Tree α n))

def look {α : Type} : (n : Nat) → Nat → Lens (Tree α n) α
  | 0, _ => ⟨fun s => s, fun f s => f s⟩
  | 1, i => (dl (Nat.mod i 16) : Lens (R16 α) α)
  | n + 2, i => Lens.comp (dl (Nat.mod i 16) : Lens (R16 (Tree α (n + 1))) (Tree α (n + 1))) (look (n + 1) (Nat.div i 16))

def nolens {σ α : Type} : Lens σ (Option α) := ⟨fun _ => none, fun _ s => s⟩

/-- Keys from 4^8 on have nothing. -/
def look4 {α : Type} (i : Nat) : Lens (Tree α 4) α :=
  Lens.comp (dl (Nat.mod i 16) : Lens (R16 (Tree α 3)) (Tree α 3)) (Lens.comp (dl (Nat.mod (Nat.div i 16) 16) : Lens (R16 (Tree α 2)) (Tree α 2)) (Lens.comp (dl (Nat.mod (Nat.div (Nat.div i 16) 16) 16) : Lens (R16 (Tree α 1)) (Tree α 1)) (dl (Nat.mod (Nat.div (Nat.div (Nat.div i 16) 16) 16) 16) : Lens (R16 α) α)))
def lens9 {α : Type} (i : Nat) : Lens (Tree (Option α) 4) (Option α) := Bool.rec (motive := fun _ => Lens (Tree (Option α) 4) (Option α)) (look4 i) nolens (Nat.ble 65536 i)
/-- A place of a small map; from 4^4 on there is none. -/
def look2 {α : Type} (i : Nat) : Lens (Tree α 2) α := Lens.comp (dl (Nat.mod i 16) : Lens (R16 (Tree α 1)) (Tree α 1)) (dl (Nat.mod (Nat.div i 16) 16) : Lens (R16 α) α)
def lensD {α : Type} (z : α) (i : Nat) : Lens (Tree α 2) α := Bool.rec (motive := fun _ => Lens (Tree α 2) α) (look2 i) ⟨fun _ => z, fun _ s => s⟩ (Nat.ble 256 i)

/-- A map. -/
structure Map (α : Type) where
  t : Tree (Option α) 4
def Map.empty {α : Type} : Map α := ⟨full none 4⟩
def Map.get {α : Type} (m : Map α) (i : Nat) : Option α := (lens9 i).get m.t
def Map.put {α : Type} (m : Map α) (i : Nat) (v : Option α) : Map α := ⟨(lens9 i).upd (fun _ => v) m.t⟩
/-- A small map that has something everywhere. -/
structure DMap (α : Type) where
  t : Tree α 2
def DMap.empty {α : Type} (z : α) : DMap α := ⟨full z 2⟩
def DMap.get {α : Type} (z : α) (m : DMap α) (i : Nat) : α := (lensD z i).get m.t
def DMap.put {α : Type} (z : α) (m : DMap α) (i : Nat) (v : α) : DMap α := ⟨(lensD z i).upd (fun _ => v) m.t⟩
instance {α : Type} : Inhabited (Map α) := ⟨.empty⟩

/-! ## The laws -/

theorem below16 {i : Nat} (h : i < 16) : i = 0 ∨ i = 1 ∨ i = 2 ∨ i = 3 ∨ i = 4 ∨ i = 5 ∨ i = 6 ∨ i = 7 ∨ i = 8 ∨ i = 9 ∨ i = 10 ∨ i = 11 ∨ i = 12 ∨ i = 13 ∨ i = 14 ∨ i = 15 := by omega

theorem dl_same {α : Type} (i : Nat) (h : i < 16) (f : α → α) (r : R16 α) : (dl i).get ((dl i).upd f r) = f ((dl i).get r) := by
  cases r
  rcases below16 h with rfl | rfl | rfl | rfl | rfl | rfl | rfl | rfl | rfl | rfl | rfl | rfl | rfl | rfl | rfl | rfl <;> rfl

theorem dl_ne {α : Type} (i j : Nat) (h : i < 16) (g : j < 16) (ne : i ≠ j) (f : α → α) (r : R16 α) : (dl j).get ((dl i).upd f r) = (dl j).get r := by
  cases r
  rcases below16 h with rfl | rfl | rfl | rfl | rfl | rfl | rfl | rfl | rfl | rfl | rfl | rfl | rfl | rfl | rfl | rfl <;>
    rcases below16 g with rfl | rfl | rfl | rfl | rfl | rfl | rfl | rfl | rfl | rfl | rfl | rfl | rfl | rfl | rfl | rfl <;>
    first
      | rfl
      | exact absurd rfl ne

theorem dl_full {α : Type} (z : α) (i : Nat) (h : i < 16) (n : Nat) : (dl i : Lens (R16 (Tree α n)) (Tree α n)).get (full z (n + 1) : R16 (Tree α n)) = full z n := by
  rcases below16 h with rfl | rfl | rfl | rfl | rfl | rfl | rfl | rfl | rfl | rfl | rfl | rfl | rfl | rfl | rfl | rfl <;> rfl

theorem look_succ {α : Type} (n i : Nat) (t : Tree α (n + 1)) :
    (look (n + 1) i).get t = (look n (i / 16)).get ((dl (i % 16) : Lens (R16 (Tree α n)) (Tree α n)).get t) := by
  cases n with
  | zero => rfl
  | succ n => rfl
theorem look_upd {α : Type} (n i : Nat) (f : α → α) (t : Tree α (n + 1)) :
    (look (n + 1) i).upd f t = (dl (i % 16) : Lens (R16 (Tree α n)) (Tree α n)).upd ((look n (i / 16)).upd f) t := by
  cases n with
  | zero => rfl
  | succ n => rfl

theorem digits (n i : Nat) : i % 16 ^ (n + 1) = i % 16 + 16 * (i / 16 % 16 ^ n) := by
  rw [Nat.pow_succ, Nat.mul_comm, Nat.mod_mul]

theorem look_same {α : Type} (f : α → α) : ∀ (n : Nat) (i j : Nat) (t : Tree α n), i % 16 ^ n = j % 16 ^ n → (look n j).get ((look n i).upd f t) = f ((look n j).get t)
  | 0, _, _, _, _ => rfl
  | n + 1, i, j, t, h => by
    rw [digits, digits] at h
    have e : i % 16 = j % 16 := by omega
    have e2 : i / 16 % 16 ^ n = j / 16 % 16 ^ n := by omega
    rw [look_succ, look_upd, look_succ, e]
    exact (congrArg (look n (j / 16)).get (dl_same (α := Tree α n) _ (Nat.mod_lt _ (by decide)) _ _)).trans (look_same f n _ _ _ e2)

theorem look_ne {α : Type} (f : α → α) : ∀ (n : Nat) (i j : Nat) (t : Tree α n), i % 16 ^ n ≠ j % 16 ^ n → (look n j).get ((look n i).upd f t) = (look n j).get t
  | 0, _, _, _, h => absurd (by simp [Nat.mod_one]) h
  | n + 1, i, j, t, h => by
    rw [look_succ, look_upd, look_succ]
    by_cases e : i % 16 = j % 16
    · rw [e]
      refine (congrArg (look n (j / 16)).get (dl_same (α := Tree α n) _ (Nat.mod_lt _ (by decide)) _ _)).trans ?_
      refine look_ne f n _ _ _ fun e2 => h ?_
      rw [digits, digits, e, e2]
    · exact congrArg (look n (j / 16)).get (dl_ne (α := Tree α n) _ _ (Nat.mod_lt _ (by decide)) (Nat.mod_lt _ (by decide)) e _ _)

theorem look_full {α : Type} (z : α) : ∀ (n i : Nat), (look n i).get (full z n) = z
  | 0, _ => rfl
  | n + 1, i => by rw [look_succ, dl_full z _ (Nat.mod_lt _ (by decide)), look_full z n]

theorem look4_eq {α : Type} (i : Nat) : (look4 i : Lens (Tree α 4) α) = look 4 i := rfl
theorem look2_eq {α : Type} (i : Nat) : (look2 i : Lens (Tree α 2) α) = look 2 i := rfl
theorem p48 : (4 : Nat) ^ 8 = 65536 := by decide
theorem p44 : (4 : Nat) ^ 4 = 256 := by decide
theorem lens9_big {α : Type} (i : Nat) (h : 4 ^ 8 ≤ i) : (lens9 i : Lens _ (Option α)) = nolens := by rw [p48] at h; unfold lens9; rw [Nat.ble_eq_true_of_le h]
theorem lens9_small {α : Type} (i : Nat) (h : i < 4 ^ 8) : (lens9 i : Lens _ (Option α)) = look 4 i := by
  rw [p48] at h
  unfold lens9
  cases e : Nat.ble 65536 i with
  | true => have := Nat.le_of_ble_eq_true e; omega
  | false => rfl
theorem lensD_big {α : Type} (z : α) (i : Nat) (h : 4 ^ 4 ≤ i) : lensD z i = ⟨fun _ => z, fun _ s => s⟩ := by rw [p44] at h; unfold lensD; rw [Nat.ble_eq_true_of_le h]
theorem lensD_small {α : Type} (z : α) (i : Nat) (h : i < 4 ^ 4) : lensD z i = look 2 i := by
  rw [p44] at h
  unfold lensD
  cases e : Nat.ble 256 i with
  | true => have := Nat.le_of_ble_eq_true e; omega
  | false => rfl

theorem Map.get_big {α : Type} (m : Map α) (i : Nat) (h : 4 ^ 8 ≤ i) : m.get i = none := by unfold Map.get; rw [lens9_big i h]; rfl
theorem DMap.get_big {α : Type} (z : α) (m : DMap α) (i : Nat) (h : 4 ^ 4 ≤ i) : m.get z i = z := by unfold DMap.get; rw [lensD_big z i h]

theorem Map.get_put {α : Type} (m : Map α) (i j : Nat) (v : Option α) : (m.put i v).get j = if j = i ∧ i < 4 ^ 8 then v else m.get j := by
  unfold Map.get Map.put
  rcases Nat.lt_or_ge i (4 ^ 8) with hi | hi
  · rw [lens9_small i hi]
    rcases Nat.lt_or_ge j (4 ^ 8) with hj | hj
    · rw [lens9_small j hj]
      by_cases e : j = i
      · subst e; rw [if_pos ⟨rfl, hi⟩]; exact look_same _ 4 j j _ rfl
      · rw [if_neg (fun h => e h.1)]
        have p : (4 : Nat) ^ 8 = 65536 := by decide
        have q : (16 : Nat) ^ 4 = 65536 := by decide
        refine look_ne _ 4 i j _ ?_
        rw [Nat.mod_eq_of_lt (by omega), Nat.mod_eq_of_lt (by omega)]
        exact fun h => e h.symm
    · rw [lens9_big j hj, if_neg (fun h => by omega)]; rfl
  · rw [lens9_big i hi, if_neg (fun h => by omega)]; rfl
theorem DMap.get_put {α : Type} (z : α) (m : DMap α) (i j : Nat) (v : α) : (m.put z i v).get z j = if j = i ∧ i < 4 ^ 4 then v else m.get z j := by
  unfold DMap.get DMap.put
  rcases Nat.lt_or_ge i (4 ^ 4) with hi | hi
  · rw [lensD_small z i hi]
    rcases Nat.lt_or_ge j (4 ^ 4) with hj | hj
    · rw [lensD_small z j hj]
      by_cases e : j = i
      · subst e; rw [if_pos ⟨rfl, hi⟩]; exact look_same _ 2 j j _ rfl
      · rw [if_neg (fun h => e h.1)]
        have p : (4 : Nat) ^ 4 = 256 := by decide
        have q : (16 : Nat) ^ 2 = 256 := by decide
        refine look_ne _ 2 i j _ ?_
        rw [Nat.mod_eq_of_lt (by omega), Nat.mod_eq_of_lt (by omega)]
        exact fun h => e h.symm
    · rw [lensD_big z j hj, if_neg (fun h => by omega)]
  · rw [lensD_big z i hi, if_neg (fun h => by omega)]
theorem Map.get_put_same {α : Type} (m : Map α) (i : Nat) (v : Option α) (h : i < 4 ^ 8) : (m.put i v).get i = v := by rw [Map.get_put, if_pos ⟨rfl, h⟩]
theorem Map.get_put_ne {α : Type} (m : Map α) (i j : Nat) (v : Option α) (h : i ≠ j) : (m.put i v).get j = m.get j := by rw [Map.get_put, if_neg (fun e => h e.1.symm)]
theorem Map.get_empty {α : Type} (i : Nat) : (Map.empty : Map α).get i = none := by
  rcases Nat.lt_or_ge i (4 ^ 8) with hi | hi
  · unfold Map.get; rw [lens9_small i hi]; exact look_full none 4 i
  · exact Map.get_big _ _ hi
theorem DMap.get_empty {α : Type} (z : α) (i : Nat) : (DMap.empty z).get z i = z := by
  rcases Nat.lt_or_ge i (4 ^ 4) with hi | hi
  · unfold DMap.get; rw [lensD_small z i hi]; exact look_full z 2 i
  · exact DMap.get_big _ _ _ hi

end
end Go.Abs

/- Abstract values, rows of cells, and what it is that a value of the model is one of them under a mapping of blocks. -/
namespace Go.Abs

inductive AV where
  | bool (b : Bool)
  | int (k : IntKind) (n : Nat)
  | str (n x : Nat)
  | run (n x : Nat)
  | ptr (b o : Nat)
  | nilp
  | slc (b o n c s : Nat) (e : Bool)
  | slc0 (b s : Nat)
  | nils
  | map (b : Nat)
  | nilm
  | fn (f : FuncId) (first cap : List AV)
  | nilf
  | ifc (t : TypeId) (v : AV)
  | nili
  | agg (l : List AV)
  | tup (l : List AV)
  | stamp (b s : Nat)
  deriving Inhabited

def undefA : AV := .tup []

/-! ## Rows of cells -/

def shl8 (x m : Nat) : Nat := x <<< (8 * m)
def shr8 (x m : Nat) : Nat := x >>> (8 * m)
def mod8 (x m : Nat) : Nat := x % (1 <<< (8 * m))

theorem pow256 (m : Nat) : 256 ^ m = 2 ^ (8 * m) := by rw [Nat.pow_mul]
theorem shl8_eq (x m : Nat) : shl8 x m = x * 256 ^ m := by rw [shl8, Nat.shiftLeft_eq, pow256]
theorem shr8_eq (x m : Nat) : shr8 x m = x / 256 ^ m := by rw [shr8, Nat.shiftRight_eq_div_pow, pow256]
theorem mod8_eq (x m : Nat) : mod8 x m = x % 256 ^ m := by rw [mod8, Nat.shiftLeft_eq, pow256, Nat.one_mul]
theorem mod8_lt (x m : Nat) : mod8 x m < 256 ^ m := by rw [mod8_eq]; exact Nat.mod_lt _ (Nat.pow_pos (by decide))

/-- One behind the other. -/
def cat8 (x m y : Nat) : Nat := shl8 x m + mod8 y m
theorem bytesL_cat8 (n m x y : Nat) : bytesL (n + m) (cat8 x m y) = bytesL n x ++ bytesL m y := by
  rw [cat8, shl8_eq, bytesL_cat n m x _ (mod8_lt y m), mod8_eq, bytesL_mod]

def runCells (n x : Nat) : List AV := (bytesL n x).map (.int .u8 ·)
@[simp] theorem runCells_length (n x : Nat) : (runCells n x).length = n := by simp [runCells]

def expand : List AV → List AV
  | [] => []
  | .run n x :: r => runCells n x ++ expand r
  | v :: r => v :: expand r

def clen : List AV → Nat
  | [] => 0
  | .run n _ :: r => n + clen r
  | _ :: r => clen r + 1

def takeC : Nat → List AV → List AV
  | _, [] => []
  | k, .run n x :: r => if k < n then (if k = 0 then [] else [.run k (shr8 x (n - k))]) else .run n x :: takeC (k - n) r
  | 0, _ => []
  | k + 1, v :: r => v :: takeC k r

def dropC : Nat → List AV → List AV
  | _, [] => []
  | k, .run n x :: r => if k < n then .run (n - k) (mod8 x (n - k)) :: r else dropC (k - n) r
  | 0, l => l
  | k + 1, _ :: r => dropC k r

def nthC : Nat → List AV → Option AV
  | _, [] => none
  | k, .run n x :: r => if k < n then some (.int .u8 (shr8 x (n - 1 - k) % 256)) else nthC (k - n) r
  | 0, v :: _ => some v
  | k + 1, _ :: r => nthC k r

/-- A value in front; rows of bytes that meet are one. -/
def consC (v : AV) (l : List AV) : List AV :=
  match v, l with
  | .run n x, .run m y :: r => .run (n + m) (cat8 x m y) :: r
  | v, l => v :: l

def catC : List AV → List AV → List AV
  | [], l => l
  | v :: r, l => consC v (catC r l)

/-- So many cells laid over a row from a place on. -/
def putC (k m : Nat) (new l : List AV) : List AV := catC (takeC k l) (catC new (dropC (k + m) l))

/-! The laws. -/

theorem expand_cons (v : AV) (l : List AV) : expand (v :: l) = expand [v] ++ expand l := by
  cases v <;> simp [expand]

theorem clen_eq (l : List AV) : clen l = (expand l).length := by
  induction l with
  | nil => rfl
  | cons v r ih => cases v <;> simp [clen, expand, ih]

theorem runCells_take (n x k : Nat) (h : k ≤ n) : (runCells n x).take k = runCells k (shr8 x (n - k)) := by
  rw [runCells, ← List.map_take, bytesL_take n x k h, shr8_eq, runCells]
theorem runCells_drop (n x k : Nat) : (runCells n x).drop k = runCells (n - k) (mod8 x (n - k)) := by
  rw [runCells, ← List.map_drop, bytesL_drop, runCells, mod8_eq, bytesL_mod]
theorem runCells_get (n x k : Nat) (h : k < n) : (runCells n x)[k]? = some (.int .u8 (shr8 x (n - 1 - k) % 256)) := by
  rw [runCells, List.getElem?_map, bytesL_get n x k h, shr8_eq]; rfl
theorem runCells_cat (n m x y : Nat) : runCells (n + m) (cat8 x m y) = runCells n x ++ runCells m y := by
  simp [runCells, bytesL_cat8]

theorem expand_takeC (k : Nat) (l : List AV) : expand (takeC k l) = (expand l).take k := by
  induction l generalizing k with
  | nil => cases k <;> simp [takeC, expand]
  | cons v r ih =>
    cases v
    case run n x =>
      simp only [takeC, expand]
      split
      · rename_i h
        split
        · rename_i h0; subst h0; simp [expand]
        · rw [List.take_append_of_le_length (by simp; omega), runCells_take _ _ _ (by omega)]; simp [expand]
      · rename_i h
        simp only [expand, ih]
        rw [List.take_append, List.take_of_length_le (l := runCells n x) (by simp; omega)]; simp
    all_goals (cases k <;> simp [takeC, expand, ih])

theorem expand_dropC (k : Nat) (l : List AV) : expand (dropC k l) = (expand l).drop k := by
  induction l generalizing k with
  | nil => cases k <;> simp [dropC, expand]
  | cons v r ih =>
    cases v
    case run n x =>
      simp only [dropC, expand]
      split
      · rename_i h
        rw [List.drop_append_of_le_length (by simp; omega), runCells_drop]; simp [expand]
      · rename_i h
        rw [ih, List.drop_append, List.drop_eq_nil_of_le (as := runCells n x) (by simp; omega)]; simp
    all_goals (cases k <;> simp [dropC, expand, ih])

theorem nthC_eq (k : Nat) (l : List AV) : nthC k l = (expand l)[k]? := by
  induction l generalizing k with
  | nil => cases k <;> simp [nthC, expand]
  | cons v r ih =>
    cases v
    case run n x =>
      simp only [nthC, expand]
      split
      · rename_i h; rw [List.getElem?_append_left (by simpa using h), runCells_get n x k h]
      · rename_i h; rw [List.getElem?_append_right (by simp; omega), ih]; simp
    all_goals (cases k <;> simp [nthC, expand, ih])

theorem expand_consC (v : AV) (l : List AV) : expand (consC v l) = expand [v] ++ expand l := by
  unfold consC
  split
  · simp [expand, runCells_cat]
  · exact expand_cons v l

theorem expand_catC (a b : List AV) : expand (catC a b) = expand a ++ expand b := by
  induction a with
  | nil => simp [catC, expand]
  | cons v r ih => rw [catC, expand_consC, ih, expand_cons v r, List.append_assoc]

theorem expand_append (a b : List AV) : expand (a ++ b) = expand a ++ expand b := by
  induction a with
  | nil => simp [expand]
  | cons v r ih => rw [List.cons_append, expand_cons, ih, expand_cons v r, List.append_assoc]

theorem expand_putC (k m : Nat) (new l : List AV) : expand (putC k m new l) = (expand l).take k ++ (expand new ++ (expand l).drop (k + m)) := by
  rw [putC, expand_catC, expand_catC, expand_takeC, expand_dropC]

/-- A value that is one cell. -/
def AV.one : AV → Bool
  | .agg _ | .tup _ | .run .. => false
  | _ => true

/-! ## The relation to the model's values -/

/-- Where a block lies: the model's block, the cell at which it begins, how many cells there are from there on. -/
structure Inj where
  loc : Nat → Option (Nat × Nat × Nat)
  /-- The model's stamp of a map's entry. -/
  st : Nat → Nat → Option Nat
instance : CoeFun Inj (fun _ => Nat → Option (Nat × Nat × Nat)) := ⟨Inj.loc⟩

mutual
inductive VRel (μ : Inj) : AV → Value → Prop where
  | bool (b : Bool) : VRel μ (.bool b) (.bool b)
  | int (k : IntKind) (n : Nat) (h : n < 2 ^ k.bits) : VRel μ (.int k n) (.int k (toInt k n))
  | str (n x : Nat) (s : ByteArray) (h : s.data.toList = (bytesL n x).map UInt8.ofNat) : VRel μ (.str n x) (.string s)
  | ptr {b o β δ r : Nat} (h : μ b = some (β, δ, r)) : VRel μ (.ptr b o) (.pointer (some ⟨β, δ + o, none⟩))
  | nilp : VRel μ .nilp (.pointer none)
  | slc {b o n c s : Nat} {e : Bool} {β δ r cc : Nat} (h : μ b = some (β, δ, r)) (hn : n ≤ c) (hc : c ≤ cc) (he : e = true → cc = c) (hr : e = false → o + cc * s ≤ r) :
      VRel μ (.slc b o n c s e) (.slice (some ⟨β, δ + o, none⟩) n cc)
  | slc0 {b s off cc β δ r : Nat} (h : μ b = some (β, δ, r)) (hr : off + cc * s ≤ r) : VRel μ (.slc0 b s) (.slice (some ⟨β, δ + off, none⟩) 0 cc)
  | nils : VRel μ .nils (.slice none 0 0)
  | map {b β δ r : Nat} (h : μ b = some (β, δ, r)) : VRel μ (.map b) (.map (some β))
  | nilm : VRel μ .nilm (.map none)
  | stamp {b s n : Nat} (h : μ.st b s = some n) : VRel μ (.stamp b s) (.int .i64 n)
  | fn (f : FuncId) {first cap : List AV} {fs cs : List Value} (h1 : LRel μ first fs) (h2 : LRel μ cap cs) : VRel μ (.fn f first cap) (.func (.func f) fs.toArray cs.toArray)
  | nilf : VRel μ .nilf .nilFunc
  | ifc (t : TypeId) {v : AV} {c : Value} (h : VRel μ v c) : VRel μ (.ifc t v) (.iface t c)
  | nili : VRel μ .nili .nilIface
  | agg {l : List AV} {cs : List Value} (h : LRel μ (expand l) cs) (h1 : ∀ v ∈ expand l, v.one = true) : VRel μ (.agg l) (.agg cs.toArray)
  | tup {l : List AV} {cs : List Value} (h : LRel μ l cs) : VRel μ (.tup l) (.tuple cs.toArray)
inductive LRel (μ : Inj) : List AV → List Value → Prop where
  | nil : LRel μ [] []
  | cons {v : AV} {c : Value} {l : List AV} {cs : List Value} (h : VRel μ v c) (t : LRel μ l cs) : LRel μ (v :: l) (c :: cs)
end

def Inj.le (μ μ' : Inj) : Prop := (∀ b x, μ b = some x → μ' b = some x) ∧ ∀ b s n, μ.st b s = some n → μ'.st b s = some n
theorem Inj.le_refl (μ : Inj) : μ.le μ := ⟨fun _ _ h => h, fun _ _ _ h => h⟩
theorem Inj.le_trans {a b c : Inj} (h : a.le b) (g : b.le c) : a.le c := ⟨fun _ _ e => g.1 _ _ (h.1 _ _ e), fun _ _ _ e => g.2 _ _ _ (h.2 _ _ _ e)⟩

mutual
theorem VRel.mono {μ μ' : Inj} (le : μ.le μ') {v : AV} {c : Value} (h : VRel μ v c) : VRel μ' v c := by
  cases h with
  | bool b => exact .bool b
  | int k n h => exact .int k n h
  | str n x s h => exact .str n x s h
  | ptr h => exact .ptr (le.1 _ _ h)
  | nilp => exact .nilp
  | slc h hn hc he hr => exact .slc (le.1 _ _ h) hn hc he hr
  | slc0 h hr => exact .slc0 (le.1 _ _ h) hr
  | nils => exact .nils
  | map h => exact .map (le.1 _ _ h)
  | nilm => exact .nilm
  | stamp h => exact .stamp (le.2 _ _ _ h)
  | fn f h1 h2 => exact .fn f (h1.mono le) (h2.mono le)
  | nilf => exact .nilf
  | ifc t h => exact .ifc t (h.mono le)
  | nili => exact .nili
  | agg h h1 => exact .agg (h.mono le) h1
  | tup h => exact .tup (h.mono le)
theorem LRel.mono {μ μ' : Inj} (le : μ.le μ') {l : List AV} {cs : List Value} (h : LRel μ l cs) : LRel μ' l cs := by
  cases h with
  | nil => exact .nil
  | cons h t => exact .cons (h.mono le) (t.mono le)
end

theorem LRel.length {μ : Inj} : ∀ {l : List AV} {cs : List Value}, LRel μ l cs → l.length = cs.length
  | _, _, .nil => rfl
  | _, _, .cons _ t => by simp [t.length]

theorem LRel.append {μ : Inj} : ∀ {l : List AV} {cs : List Value} {m : List AV} {ds : List Value}, LRel μ l cs → LRel μ m ds → LRel μ (l ++ m) (cs ++ ds)
  | _, _, _, _, .nil, g => g
  | _, _, _, _, .cons h t, g => .cons h (t.append g)

theorem LRel.take {μ : Inj} : ∀ {l : List AV} {cs : List Value} (k : Nat), LRel μ l cs → LRel μ (l.take k) (cs.take k)
  | _, _, 0, _ => by simpa using LRel.nil
  | _, _, _ + 1, .nil => .nil
  | _, _, k + 1, .cons h t => .cons h (t.take k)

theorem LRel.drop {μ : Inj} : ∀ {l : List AV} {cs : List Value} (k : Nat), LRel μ l cs → LRel μ (l.drop k) (cs.drop k)
  | _, _, 0, g => g
  | _, _, _ + 1, .nil => .nil
  | _, _, k + 1, .cons _ t => t.drop k

theorem LRel.get {μ : Inj} : ∀ {l : List AV} {cs : List Value}, LRel μ l cs → ∀ (i : Nat) (v : AV), l[i]? = some v → ∃ c, cs[i]? = some c ∧ VRel μ v c
  | _, _, .nil, i, v, h => by simp at h
  | _, _, .cons h t, 0, v, e => by simp at e; subst e; exact ⟨_, rfl, h⟩
  | _, _, .cons h t, i + 1, v, e => by simpa using t.get i v (by simpa using e)

theorem LRel.of_get {μ : Inj} : ∀ {l : List AV} {cs : List Value}, l.length = cs.length → (∀ (i : Nat) (v : AV), l[i]? = some v → ∃ c, cs[i]? = some c ∧ VRel μ v c) → LRel μ l cs
  | [], [], _, _ => .nil
  | [], _ :: _, h, _ => by simp at h
  | _ :: _, [], h, _ => by simp at h
  | v :: l, c :: cs, h, g => by
    obtain ⟨c', hc, hv⟩ := g 0 v rfl
    simp at hc; subst hc
    exact .cons hv (LRel.of_get (by simpa using h) fun i v e => by simpa using g (i + 1) v (by simpa using e))

theorem VRel.undef (μ : Inj) : VRel μ undefA undef := .tup (cs := []) .nil

theorem toInt_u8 (n : Nat) : toInt .u8 n = n := by simp [toInt, IntKind.signed]
theorem LRel.run {μ : Inj} (n x : Nat) : LRel μ (runCells n x) ((bytesL n x).map fun (b : Nat) => Value.int .u8 (b : Int)) := by
  refine LRel.of_get (by simp [runCells]) fun i v h => ?_
  simp only [runCells, List.getElem?_map, Option.map_eq_some_iff] at h
  obtain ⟨b, hb, rfl⟩ := h
  have hlt : b < 256 := bytesL_lt n x b (List.mem_of_getElem? hb)
  refine ⟨.int .u8 b, by simp [hb], ?_⟩
  have := VRel.int (μ := μ) .u8 b hlt
  rwa [toInt_u8 b] at this

end Go.Abs
