/- Memory as bytes and tags: plain words and laws, no program. -/
import Derived.Test.YtalhdcjnaknglaaBase
import Derived.Laws.BitsAllLaws
namespace Go.Proofs.Ytalhdcjnaknglaa

/-- What a memory has: how many bytes, the bytes, the granules' tags. -/
structure Mem where
  n : Nat
  B : Nat → Nat
  T : Nat → Bool

/-- The number that k bytes are, the lowest first. -/
def num (f : Nat → Nat) : Nat → Nat
  | 0 => 0
  | k + 1 => num f k + f k * 256 ^ k

theorem num_lt (f : Nat → Nat) (hf : ∀ i, f i < 256) (k : Nat) : num f k < 256 ^ k := by
  induction k with
  | zero => simp [num]
  | succ k ih =>
    have h1 : f k * 256 ^ k ≤ 255 * 256 ^ k := Nat.mul_le_mul_right _ (by have := hf k; omega)
    have h2 : 256 ^ (k + 1) = 256 * 256 ^ k := by rw [Nat.pow_succ, Nat.mul_comm]
    simp only [num]
    omega

theorem num_congr {f g : Nat → Nat} (k : Nat) (h : ∀ i, i < k → f i = g i) : num f k = num g k := by
  induction k with
  | zero => rfl
  | succ k ih => simp only [num]; rw [ih fun i hi => h i (by omega), h k (by omega)]

/-- From the upper end: the reference's way. -/
theorem num_top (f : Nat → Nat) (k : Nat) : num f (k + 1) = f 0 + 256 * num (fun i => f (i + 1)) k := by
  induction k with
  | zero => simp [num]
  | succ k ih =>
    have e : num f (k + 2) = num f (k + 1) + f (k + 1) * 256 ^ (k + 1) := rfl
    rw [e, ih]
    simp only [num, Nat.pow_succ, Nat.mul_add]
    have : f (k + 1) * (256 ^ k * 256) = 256 * (f (k + 1) * 256 ^ k) := by
      rw [← Nat.mul_assoc, Nat.mul_comm]
    omega

theorem num_digits (v k : Nat) : num (fun i => v / 256 ^ i % 256) k = v % 256 ^ k := by
  induction k with
  | zero => simp [num, Nat.mod_one]
  | succ k ih =>
    simp only [num]
    rw [ih, Nat.pow_succ, Nat.mod_mul, Nat.mul_comm (256 ^ k)]

theorem num_or (f : Nat → Nat) (hf : ∀ i, f i < 256) (k : Nat) : num f k ||| f k * 256 ^ k = num f (k + 1) := by
  have e : (256 : Nat) ^ k = 2 ^ (8 * k) := by rw [show (256 : Nat) = 2 ^ 8 from rfl, ← Nat.pow_mul]
  have h := num_lt f hf k
  rw [e] at h
  rw [Nat.or_comm]
  have := Go.nat_join (8 * k) (f k * 256 ^ k) (num f k) (by rw [e]; exact Nat.mul_mod_left _ _) h
  rw [this, num]
  omega

def Sized (size : Int) : Prop := size = 1 ∨ size = 2 ∨ size = 4 ∨ size = 8
instance (size : Int) : Decidable (Sized size) := inferInstanceAs (Decidable (size = 1 ∨ size = 2 ∨ size = 4 ∨ size = 8))
/-- Are so many bytes there? -/
def There (M : Mem) (off n : Int) : Prop := 0 ≤ off ∧ off + n ≤ M.n
instance (M : Mem) (off n : Int) : Decidable (There M off n) := inferInstanceAs (Decidable (0 ≤ off ∧ off + n ≤ M.n))

/-- Load. -/
def Mem.load (M : Mem) (off size : Int) : Nat × Bool := if Sized size ∧ There M off size then (num (fun i => M.B (off.toNat + i)) size.toNat, true) else (0, false)
/-- Bytes laid from a place on. -/
def lay (B : Nat → Nat) (o k v : Nat) : Nat → Nat := fun i => if o ≤ i ∧ i < o + k then v / 256 ^ (i - o) % 256 else B i
/-- Store. -/
def Mem.store (M : Mem) (off size : Int) (v : Nat) : Bool × Mem :=
  if Sized size ∧ There M off size then
    (true, { M with B := lay M.B off.toNat size.toNat v, T := fun g => if g = off.toNat / 16 ∨ g = (off.toNat + size.toNat - 1) / 16 then false else M.T g })
  else (false, M)
/-- Is a granule there? -/
def Gran (M : Mem) (off : Int) : Prop := There M off 16 ∧ off % 16 = 0
instance (M : Mem) (off : Int) : Decidable (Gran M off) := inferInstanceAs (Decidable (There M off 16 ∧ off % 16 = 0))
def Mem.loadCap (M : Mem) (off : Int) : Bool × Nat × Nat × Bool :=
  if Gran M off then (M.T (off.toNat / 16), num (fun i => M.B (off.toNat + i)) 8, num (fun i => M.B (off.toNat + 8 + i)) 8, true) else (false, 0, 0, false)
def Mem.storeCap (M : Mem) (off : Int) (tag : Bool) (a m : Nat) : Bool × Mem :=
  if Gran M off then (true, { M with B := lay (lay M.B off.toNat 8 a) (off.toNat + 8) 8 m, T := fun g => if g = off.toNat / 16 then tag else M.T g }) else (false, M)
/-- Where granules have tags. -/
def Mem.tagged (M : Mem) : List Int := ((List.range (M.n / 16)).filter M.T).map fun g => ((16 * g : Nat) : Int)

def Mem.zero (n : Nat) : Mem := ⟨n, fun _ => 0, fun _ => false⟩
/-- May memory have so many bytes? -/
def SizeOk (n : Int) : Prop := 4096 ≤ n ∧ n ≤ 65536 ∧ n % 4096 = 0

theorem lay_lt {B : Nat → Nat} (hB : ∀ i, B i < 256) (o k v : Nat) : ∀ i, lay B o k v i < 256 := by
  intro i
  unfold lay
  split
  · exact Nat.mod_lt _ (by decide)
  · exact hB i

end Go.Proofs.Ytalhdcjnaknglaa
