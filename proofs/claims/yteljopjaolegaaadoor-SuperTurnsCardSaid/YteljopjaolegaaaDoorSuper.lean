/-
  A SUPERBLOCK's BYTES, in plain Lean.
-/
import Derived.Test.YteljopjaolegaaaDoorPageI
namespace Go.Proofs.YteljopjaolegaaaDoor
open Go.RowKit
set_option maxRecDepth 100000
set_option linter.unusedVariables false

/-- Version, Root, Epoch, Pages. -/
structure Sup where
  version : Int
  root : Int
  epoch : Int
  pages : Int
deriving DecidableEq

def Sup.val (s : Sup) : Value := .agg #[.int .i64 s.version, .int .i64 s.root, .int .i64 s.epoch, .int .i64 s.pages]
def Sup.zero : Sup := ⟨0, 0, 0, 0⟩

/-- May it be? -/
def supMay (s : Sup) : Bool := decide (1 ≤ s.version ∧ s.version ≤ 1099511627776 ∧ 1 ≤ s.epoch ∧ s.epoch ≤ 1099511627776 ∧ 16 ≤ s.pages ∧ s.pages ≤ 65536 ∧ 0 ≤ s.root ∧ s.root < s.pages)
def supBody (s : Sup) : List UInt8 := [67, 70, 82, 84] ++ le 8 s.version.toNat ++ le 8 s.root.toNat ++ le 8 s.epoch.toNat ++ le 8 s.pages.toNat
theorem supBody_length (s : Sup) : (supBody s).length = 36 := by simp [supBody, le_length]
def supPlace (s : Sup) : Nat := (s.version % 2).toNat
def supPage (s : Sup) : List UInt8 := pageOf (supPlace s) 1 (supBody s)
theorem supPage_length (s : Sup) : (supPage s).length = 4096 := pageOf_length _ _ _ (by rw [supBody_length]; omega)

/-- The numbers that a body tells. -/
def supTells (x : List UInt8) : Sup := ⟨unle ((x.drop 4).take 8), unle ((x.drop 12).take 8), unle ((x.drop 20).take 8), unle ((x.drop 28).take 8)⟩
theorem supBody_drop4 (s : Sup) : (supBody s).drop 4 = le 8 s.version.toNat ++ (le 8 s.root.toNat ++ (le 8 s.epoch.toNat ++ le 8 s.pages.toNat)) := by
  simp only [supBody, List.append_assoc]; rfl
theorem supBody_drop12 (s : Sup) : (supBody s).drop 12 = le 8 s.root.toNat ++ (le 8 s.epoch.toNat ++ le 8 s.pages.toNat) := by
  have h := congrArg (List.drop 8) (supBody_drop4 s)
  rw [List.drop_drop, List.drop_left' (le_length 8 _)] at h; exact h
theorem supBody_drop20 (s : Sup) : (supBody s).drop 20 = le 8 s.epoch.toNat ++ le 8 s.pages.toNat := by
  have h := congrArg (List.drop 8) (supBody_drop12 s)
  rw [List.drop_drop, List.drop_left' (le_length 8 _)] at h; exact h
theorem supBody_drop28 (s : Sup) : (supBody s).drop 28 = le 8 s.pages.toNat := by
  have h := congrArg (List.drop 8) (supBody_drop20 s)
  rw [List.drop_drop, List.drop_left' (le_length 8 _)] at h; exact h
theorem supTells_body (s : Sup) (h : supMay s = true) : supTells (supBody s) = s := by
  simp only [supMay, decide_eq_true_eq] at h
  have e8 : (256 : Nat) ^ 8 = 18446744073709551616 := by decide
  rw [supTells, supBody_drop4, supBody_drop12, supBody_drop20, supBody_drop28, List.take_left' (le_length 8 _), List.take_left' (le_length 8 _), List.take_left' (le_length 8 _), List.take_of_length_le (by rw [le_length]; exact Nat.le_refl _)]
  rw [unle_le, unle_le, unle_le, unle_le, e8, Nat.mod_eq_of_lt (by omega), Nat.mod_eq_of_lt (by omega), Nat.mod_eq_of_lt (by omega), Nat.mod_eq_of_lt (by omega)]
  cases s
  simp only [Sup.mk.injEq] at h ⊢
  omega

/-- Bytes that tell what may be, each number as it is read, are that superblock's. -/
theorem supBody_tells (x : List UInt8) (hl : x.length = 36) (h4 : x.take 4 = [67, 70, 82, 84]) : supBody (supTells x) = x := by
  have p (a : Nat) (h : a + 8 ≤ 36) : (x.drop a).take 8 = le 8 (unle ((x.drop a).take 8)) := by
    have e := le_unle ((x.drop a).take 8)
    rw [show ((x.drop a).take 8).length = 8 by simp; omega] at e
    exact e.symm
  simp only [supBody, supTells, Int.toNat_natCast]
  rw [← p 4 (by omega), ← p 12 (by omega), ← p 20 (by omega), ← p 28 (by omega), ← h4]
  have a1 : x.take 4 ++ (x.drop 4).take 8 = x.take 12 := by rw [← List.take_add]
  have a2 : x.take 12 ++ (x.drop 12).take 8 = x.take 20 := by rw [← List.take_add]
  have a3 : x.take 20 ++ (x.drop 20).take 8 = x.take 28 := by rw [← List.take_add]
  have a4 : x.take 28 ++ (x.drop 28).take 8 = x.take 36 := by rw [← List.take_add]
  rw [a1, a2, a3, a4, List.take_of_length_le (by omega)]

/-- Can all four numbers be read? -/
def supReads (x : List UInt8) : Bool := decide (unle ((x.drop 4).take 8) ≤ 9223372036854775807 ∧ unle ((x.drop 12).take 8) ≤ 9223372036854775807 ∧ unle ((x.drop 20).take 8) ≤ 9223372036854775807 ∧ unle ((x.drop 28).take 8) ≤ 9223372036854775807)

/-- Why bytes are no superblock's page of that number; 0: they are. -/
def supCode (l : List UInt8) (z : Int) : Int :=
  if ¬ (z = 0 ∨ z = 1) then 1 else if openCode l z ≠ 0 then openCode l z
  else if ¬ (openKind l = 1 ∧ openLen l = 36 ∧ (openBody l).take 4 = [67, 70, 82, 84]) then 140
  else if supMay (supTells (openBody l)) = true ∧ (supTells (openBody l)).version % 2 = z then 0 else 140
def supOpen (l : List UInt8) (z : Int) : Sup := if supCode l z = 0 then supTells (openBody l) else .zero

theorem supMay_reads (x : List UInt8) (h : supMay (supTells x) = true) : supReads x = true := by
  have h2 := of_decide_eq_true (show decide _ = true from h)
  simp only [supTells] at h2
  simp only [supReads, decide_eq_true_eq]
  omega

end Go.Proofs.YteljopjaolegaaaDoor
