/-
  A PAGE's BYTES, in plain Lean.
-/
import Derived.Test.YteljopjaolegaaaDoorCrc
import Derived.Test.YteljopjaolegaaaDoorNum
import Derived.Laws.CopyOwn
namespace Go.Proofs.YteljopjaolegaaaDoor
set_option maxRecDepth 100000
set_option linter.unusedVariables false

/-- All but its sum. -/
def pageRest (number kind : Nat) (body : List UInt8) : List UInt8 := le 4 number ++ le 1 kind ++ le 2 body.length ++ body ++ List.replicate (4085 - body.length) 0
theorem pageRest_length (number kind : Nat) (body : List UInt8) (h : body.length ≤ 4085) : (pageRest number kind body).length = 4092 := by
  simp [pageRest, le_length]; omega
def pageSum (number kind : Nat) (body : List UInt8) : Nat := (Crc.sum (pageRest number kind body)).toNat
def pageOf (number kind : Nat) (body : List UInt8) : List UInt8 := le 4 (pageSum number kind body) ++ pageRest number kind body
theorem pageOf_length (number kind : Nat) (body : List UInt8) (h : body.length ≤ 4085) : (pageOf number kind body).length = 4096 := by
  simp [pageOf, le_length, pageRest_length number kind body h]
theorem pageSum_lt (number kind : Nat) (body : List UInt8) : pageSum number kind body < 4294967296 := (Crc.sum (pageRest number kind body)).isLt

/-- Bytes that are laid over zeros, piece behind piece. -/
theorem splice_end (pre cs : List UInt8) (n : Nat) (h : cs.length ≤ n) : splice (pre ++ List.replicate n 0) pre.length cs = pre ++ cs ++ List.replicate (n - cs.length) 0 := by
  rw [splice, List.take_left' rfl, List.drop_append, List.drop_of_length_le (by omega), Nat.add_sub_cancel_left, List.drop_replicate, List.nil_append, List.append_assoc]
theorem splice_head (pre cs rest : List UInt8) (h : cs.length = pre.length) : splice (pre ++ rest) 0 cs = cs ++ rest := by
  rw [splice, List.take_zero, List.nil_append, Nat.zero_add, List.drop_left' h.symm]

def pageL0 : List UInt8 := List.replicate 4096 0
def pageL1 (number : Nat) : List UInt8 := splice pageL0 4 (le 4 number)
def pageL2 (number kind : Nat) : List UInt8 := splice (pageL1 number) 8 (le 1 kind)
def pageL3 (number kind len : Nat) : List UInt8 := splice (pageL2 number kind) 9 (le 2 len)
def pageL4 (number kind : Nat) (body : List UInt8) : List UInt8 := splice (pageL3 number kind body.length) 11 body
theorem pageL1_is (number : Nat) : pageL1 number = List.replicate 4 0 ++ le 4 number ++ List.replicate 4088 0 := by
  have := splice_end (List.replicate 4 0) (le 4 number) 4092 (by rw [le_length]; omega)
  rw [List.length_replicate, le_length, List.replicate_append_replicate] at this
  exact this
theorem pageL2_is (number kind : Nat) : pageL2 number kind = List.replicate 4 0 ++ le 4 number ++ le 1 kind ++ List.replicate 4087 0 := by
  have := splice_end (List.replicate 4 0 ++ le 4 number) (le 1 kind) 4088 (by rw [le_length]; omega)
  rw [List.length_append, List.length_replicate, le_length, le_length] at this
  rw [pageL2, pageL1_is]; exact this
theorem pageL3_is (number kind len : Nat) : pageL3 number kind len = List.replicate 4 0 ++ le 4 number ++ le 1 kind ++ le 2 len ++ List.replicate 4085 0 := by
  have := splice_end (List.replicate 4 0 ++ le 4 number ++ le 1 kind) (le 2 len) 4087 (by rw [le_length]; omega)
  rw [List.length_append, List.length_append, List.length_replicate, le_length, le_length, le_length] at this
  rw [pageL3, pageL2_is]; exact this
theorem pageL4_is (number kind : Nat) (body : List UInt8) (h : body.length ≤ 4085) : pageL4 number kind body = List.replicate 4 0 ++ pageRest number kind body := by
  have := splice_end (List.replicate 4 0 ++ le 4 number ++ le 1 kind ++ le 2 body.length) body 4085 h
  simp only [List.length_append, List.length_replicate, le_length] at this
  rw [pageL4, pageL3_is, pageRest]
  simp only [List.append_assoc] at this ⊢
  exact this
theorem pageL5_is (number kind : Nat) (body : List UInt8) (h : body.length ≤ 4085) : splice (pageL4 number kind body) 0 (le 4 (pageSum number kind body)) = pageOf number kind body := by
  rw [pageL4_is _ _ _ h, splice_head _ _ _ (by rw [le_length, List.length_replicate])]
  rfl
theorem pageL4_drop (number kind : Nat) (body : List UInt8) (h : body.length ≤ 4085) : (pageL4 number kind body).drop 4 = pageRest number kind body := by
  rw [pageL4_is _ _ _ h, List.drop_left' (by rw [List.length_replicate])]

end Go.Proofs.YteljopjaolegaaaDoor
