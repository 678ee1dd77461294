/-
  A RECORD's FRAME, in plain Lean.
-/
import Derived.Test.YtaaimonnpmfnlaaDoorPage
namespace Go.Proofs.YtaaimonnpmfnlaaDoor
set_option maxRecDepth 100000
set_option linter.unusedVariables false

def jHead (e number len : Nat) : List UInt8 := le 4 len ++ le 8 e ++ le 4 number
theorem jHead_length (e number len : Nat) : (jHead e number len).length = 16 := by simp [jHead, le_length]
def jSum (e number : Nat) (b : List UInt8) : BitVec 32 := Crc.sum (jHead e number b.length ++ b)
def frameOf (e number : Nat) (b : List UInt8) : List UInt8 := jHead e number b.length ++ le 4 (jSum e number b).toNat ++ b
theorem frameOf_length (e number : Nat) (b : List UInt8) : (frameOf e number b).length = 20 + b.length := by
  simp [frameOf, jHead_length, le_length]; omega

/-- A frame that may be: an epoch, a number. -/
def EpOk (e : Int) : Bool := decide (1 ≤ e ∧ e ≤ 1099511627776)
def FrOk (e number : Int) : Bool := decide (1 ≤ e ∧ e ≤ 1099511627776 ∧ 0 ≤ number ∧ number < 2147483648)

def jL0 : List UInt8 := List.replicate 20 0
def jL1 (len : Nat) : List UInt8 := splice jL0 0 (le 4 len)
def jL2 (e len : Nat) : List UInt8 := splice (jL1 len) 4 (le 8 e)
def jL3 (e number len : Nat) : List UInt8 := splice (jL2 e len) 12 (le 4 number)
theorem jL1_is (len : Nat) : jL1 len = le 4 len ++ List.replicate 16 0 := by
  have := splice_end [] (le 4 len) 20 (by rw [le_length]; omega)
  rw [le_length] at this
  exact this
theorem jL2_is (e len : Nat) : jL2 e len = le 4 len ++ le 8 e ++ List.replicate 8 0 := by
  have := splice_end (le 4 len) (le 8 e) 16 (by rw [le_length]; omega)
  rw [le_length, le_length] at this
  rw [jL2, jL1_is]; exact this
theorem jL3_is (e number len : Nat) : jL3 e number len = jHead e number len ++ List.replicate 4 0 := by
  have := splice_end (le 4 len ++ le 8 e) (le 4 number) 8 (by rw [le_length]; omega)
  rw [List.length_append, le_length, le_length, le_length] at this
  rw [jL3, jL2_is, jHead]; exact this
theorem jL1_length (len : Nat) : (jL1 len).length = 20 := by rw [jL1_is]; simp [le_length]
theorem jL2_length (e len : Nat) : (jL2 e len).length = 20 := by rw [jL2_is]; simp [le_length]
theorem jL3_length (e number len : Nat) : (jL3 e number len).length = 20 := by rw [jL3_is]; simp [jHead_length]
theorem splice_mid (pre mid post cs : List UInt8) (h : cs.length = mid.length) : splice (pre ++ mid ++ post) pre.length cs = pre ++ cs ++ post := by
  rw [splice, List.append_assoc, List.take_left' rfl, List.drop_append, List.drop_of_length_le (by omega), List.nil_append, Nat.add_sub_cancel_left, List.drop_left' h.symm, List.append_assoc]
theorem jL4_is (e number : Nat) (b : List UInt8) : splice (jL3 e number b.length ++ b) 16 (le 4 (jSum e number b).toNat) = frameOf e number b := by
  have := splice_mid (jHead e number b.length) (List.replicate 4 0) b (le 4 (jSum e number b).toNat) (by rw [le_length, List.length_replicate])
  rw [jHead_length] at this
  rw [jL3_is]; exact this
theorem jL3_take (e number : Nat) (b : List UInt8) : (jL3 e number b.length ++ b).take 16 = jHead e number b.length := by
  rw [jL3_is, List.append_assoc, List.take_left' (jHead_length _ _ _)]
theorem jL3_drop (e number : Nat) (b : List UInt8) : (jL3 e number b.length ++ b).drop 20 = b := by
  rw [List.drop_left' (jL3_length _ _ _)]

end Go.Proofs.YtaaimonnpmfnlaaDoor
