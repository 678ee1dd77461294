/-
  NUMBERS IN BYTES, PLAIN: the lowest byte first.
-/
import Derived.Test.YteljopjaolegaaaDoorWords
namespace Go.Proofs.YteljopjaolegaaaDoor
open Go
set_option maxRecDepth 100000

/-- A number in k bytes. -/
def le : Nat → Nat → List UInt8
  | 0, _ => []
  | k + 1, n => UInt8.ofNat (n % 256) :: le k (n / 256)
/-- The number that stands in bytes. -/
def unle : List UInt8 → Nat
  | [] => 0
  | c :: l => c.toNat + 256 * unle l

theorem le_length (k n : Nat) : (le k n).length = k := by
  induction k generalizing n with
  | zero => rfl
  | succ k ih => simp [le, ih]

theorem le_get (k n j : Nat) (h : j < k) : (le k n)[j]? = some (UInt8.ofNat (n / 256 ^ j % 256)) := by
  induction k generalizing n j with
  | zero => omega
  | succ k ih =>
    cases j with
    | zero => simp [le]
    | succ j =>
      simp only [le, List.getElem?_cons_succ]
      rw [ih _ _ (by omega), Nat.div_div_eq_div_mul, Nat.pow_succ, Nat.mul_comm 256]

theorem unle_le (k n : Nat) : unle (le k n) = n % 256 ^ k := by
  induction k generalizing n with
  | zero => simp [le, unle, Nat.mod_one]
  | succ k ih =>
    simp only [le, unle, ih]
    have : (UInt8.ofNat (n % 256)).toNat = n % 256 := by rw [UInt8.toNat_ofNat']; omega
    rw [this, Nat.pow_succ, Nat.mul_comm (256 ^ k), Nat.mod_mul]

theorem unle_lt (l : List UInt8) : unle l < 256 ^ l.length := by
  induction l with
  | nil => simp [unle]
  | cons c l ih =>
    have := c.toNat_lt
    simp only [unle, List.length_cons, Nat.pow_succ]
    omega

theorem le_unle (l : List UInt8) : le l.length (unle l) = l := by
  induction l with
  | nil => rfl
  | cons c l ih =>
    have := c.toNat_lt
    simp only [List.length_cons, le, unle]
    have e1 : (c.toNat + 256 * unle l) % 256 = c.toNat := by omega
    have e2 : (c.toNat + 256 * unle l) / 256 = unle l := by omega
    rw [e1, e2, ih]
    simp

theorem unle_snoc (l : List UInt8) (c : UInt8) : unle (l ++ [c]) = unle l + 256 ^ l.length * c.toNat := by
  induction l with
  | nil => simp [unle]
  | cons d l ih =>
    simp only [List.cons_append, unle, ih, List.length_cons, Nat.pow_succ]
    rw [Nat.mul_add, Nat.mul_comm (256 ^ l.length) 256, Nat.mul_assoc]
    omega

theorem le_snoc (k n : Nat) : le (k + 1) n = le k n ++ [UInt8.ofNat (n / 256 ^ k % 256)] := by
  induction k generalizing n with
  | zero => simp [le]
  | succ k ih =>
    rw [le, ih (n / 256), le]
    rw [Nat.div_div_eq_div_mul, Nat.pow_succ, Nat.mul_comm 256]
    rfl

theorem pow_256 (j : Nat) : (2 : Int) ^ (8 * j) = ((256 ^ j : Nat) : Int) := by
  rw [Int.pow_mul]
  have : (2 : Int) ^ 8 = ((256 : Nat) : Int) := by decide
  rw [this, Int.natCast_pow]
theorem int_shr (n j : Nat) : (n : Int) / 2 ^ (8 * j) = ((n / 256 ^ j : Nat) : Int) := by rw [pow_256, Int.natCast_ediv]
theorem byte_shr (n j : Nat) : (n : Int) / 2 ^ (8 * j) % 256 = ub (UInt8.ofNat (n / 256 ^ j % 256)) := by
  rw [int_shr]
  unfold ub
  rw [UInt8.toNat_ofNat']
  omega

theorem pow_lt8 {j : Nat} (h : j < 8) : 256 * 256 ^ j ≤ 18446744073709551616 := by
  have : ∀ i : Fin 8, 256 * 256 ^ i.val ≤ 18446744073709551616 := by decide
  exact this ⟨j, h⟩
theorem or_byte (l : List UInt8) (b : UInt8) (h : l.length < 8) :
    bits .or .u64 (unle l : Int) (IntKind.u64.wrap (ub b * 2 ^ (8 * l.length))) = (unle (l ++ [b]) : Int) := by
  have hb := b.toNat_lt
  have hl := unle_lt l
  have hp := pow_lt8 h
  have hpos : 0 < 256 ^ l.length := Nat.pow_pos (by decide)
  have hmul : b.toNat * 256 ^ l.length ≤ 255 * 256 ^ l.length := Nat.mul_le_mul_right _ (by omega)
  have e1 : ub b * 2 ^ (8 * l.length) = ((b.toNat * 256 ^ l.length : Nat) : Int) := by
    rw [pow_256]; unfold ub; rw [Int.natCast_mul]
  rw [e1, IntKind.wrap_u64]
  have e2 : ((b.toNat * 256 ^ l.length : Nat) : Int) % 18446744073709551616 = ((b.toNat * 256 ^ l.length : Nat) : Int) := by omega
  rw [e2, u64_or_nat _ _ (by omega) (by omega), unle_snoc]
  have e3 : 2 ^ (8 * l.length) = 256 ^ l.length := by rw [Nat.pow_mul]
  have e4 := nat_join (8 * l.length) (b.toNat * 256 ^ l.length) (unle l) (by rw [e3]; exact Nat.mul_mod_left _ _) (by rw [e3]; exact hl)
  rw [Nat.or_comm, e4, Nat.mul_comm, Nat.add_comm]

/-- May n stand in so many bytes? -/
def NumOk (n size : Int) : Bool := decide (1 ≤ size ∧ size ≤ 8 ∧ 0 ≤ n ∧ n < 256 ^ size.toNat)

end Go.Proofs.YteljopjaolegaaaDoor
