/-
  An argument of type [4]byte, opened.
-/
import Derived.Test.YtaaimonnpmfnlaaDoorRow
namespace Go.Proofs.YtaaimonnpmfnlaaDoor
open Go.ChangeShapes Go.WideShapes Go.ChangeAt Go.RowKit
set_option maxRecDepth 100000

theorem fourTypes : Tryd.prog.cellTypes Tryd.prog.depth 36 = some [5, 5, 5, 5] := by kernel_rfl
theorem fourCells : Tryd.prog.cellsOf 36 = 4 := by kernel_rfl

theorem cell_byte {W : World} {b0 : Nat} {v : Value} (h : Cell.okWide Tryd.prog W .any b0 5 v) : ∃ c, v = .int .u8 (ub c) := by
  have h2 : Cell.ok Tryd.prog W .any b0 5 v := by
    simp only [Cell.okWide, Tryd.underlying5] at h
    exact h
  simp only [Cell.ok, Tryd.underlying5] at h2
  cases v with
  | int k n =>
    simp only [IntKind.has] at h2
    obtain ⟨rfl, h3, h4⟩ := h2
    obtain ⟨c, hc⟩ := ub_of n (by simpa [IntKind.min, IntKind.max, IntKind.signed, IntKind.bits] using h3) (by simpa [IntKind.min, IntKind.max, IntKind.signed, IntKind.bits] using h4)
    exact ⟨c, by rw [hc]⟩
  | _ => simp at h2

theorem arg_four {W : World} {b0 : Nat} {v : Value} (hval : Value.okWide Tryd.prog W .any b0 36 v) :
    ∃ x0 x1 x2 x3 : UInt8, v = .agg #[.int .u8 (ub x0), .int .u8 (ub x1), .int .u8 (ub x2), .int .u8 (ub x3)] := by
  simp only [Value.okWide, Tryd.underlying36] at hval
  obtain ⟨cs, rfl, hsz, ts, hts, _, hcell⟩ := hval
  rw [fourTypes] at hts
  cases hts
  rw [fourCells] at hsz
  have one : ∀ i, i < 4 → ∃ c, cs[i]? = some (.int .u8 (ub c)) := by
    intro i hi
    obtain ⟨u, hu, hc⟩ := hcell i cs[i] (Array.getElem?_eq_getElem (by omega))
    have e : u = 5 := by
      have : ∀ i : Fin 4, ([5, 5, 5, 5] : List TypeId)[i.val % 4]? = some 5 := by decide
      exact Option.some.inj (hu.symm.trans (this ⟨i, hi⟩))
    subst e
    obtain ⟨c, hc'⟩ := cell_byte hc
    exact ⟨c, by rw [Array.getElem?_eq_getElem (by omega), hc']⟩
  obtain ⟨x0, h0⟩ := one 0 (by omega)
  obtain ⟨x1, h1⟩ := one 1 (by omega)
  obtain ⟨x2, h2⟩ := one 2 (by omega)
  obtain ⟨x3, h3⟩ := one 3 (by omega)
  refine ⟨x0, x1, x2, x3, congrArg Value.agg ?_⟩
  apply Array.ext_getElem?
  intro i
  match i with
  | 0 => exact h0
  | 1 => exact h1
  | 2 => exact h2
  | 3 => exact h3
  | i + 4 => rw [Array.getElem?_eq_none (by omega), Array.getElem?_eq_none (by simp)]

end Go.Proofs.YtaaimonnpmfnlaaDoor
