/-
  An argument of type api.Super, opened.
-/
import Derived.Test.YteljopjaolegaaaDoorRow
namespace Go.Proofs.YteljopjaolegaaaDoor
open Go.ChangeShapes Go.WideShapes Go.ChangeAt Go.RowKit
set_option maxRecDepth 100000

theorem supTypes : Tryd.prog.cellTypes Tryd.prog.depth 30 = some [3, 3, 3, 3] := by kernel_rfl
theorem supCellsOf : Tryd.prog.cellsOf 30 = 4 := by kernel_rfl

theorem cell_int {W : World} {b0 : Nat} {v : Value} (h : Cell.okWide Tryd.prog W .any b0 3 v) : ∃ n, v = .int .i64 n ∧ -9223372036854775808 ≤ n ∧ n ≤ 9223372036854775807 := by
  have h2 : Cell.ok Tryd.prog W .any b0 3 v := by
    simp only [Cell.okWide, Tryd.underlying3] at h
    exact h
  simp only [Cell.ok, Tryd.underlying3] at h2
  cases v with
  | int k n =>
    simp only [IntKind.has] at h2
    obtain ⟨rfl, h3, h4⟩ := h2
    exact ⟨n, rfl, by simpa [IntKind.min, IntKind.max, IntKind.signed, IntKind.bits] using h3, by simpa [IntKind.min, IntKind.max, IntKind.signed, IntKind.bits] using h4⟩
  | _ => simp at h2

theorem arg_sup {W : World} {b0 : Nat} {v : Value} (hval : Value.okWide Tryd.prog W .any b0 30 v) :
    ∃ x0 x1 x2 x3 : Int, v = .agg #[.int .i64 x0, .int .i64 x1, .int .i64 x2, .int .i64 x3] := by
  simp only [Value.okWide, Tryd.underlying30] at hval
  obtain ⟨cs, rfl, hsz, ts, hts, _, hcell⟩ := hval
  rw [supTypes] at hts
  cases hts
  rw [supCellsOf] at hsz
  have one : ∀ i, i < 4 → ∃ c, cs[i]? = some (.int .i64 c) := by
    intro i hi
    obtain ⟨u, hu, hc⟩ := hcell i cs[i] (Array.getElem?_eq_getElem (by omega))
    have e : u = 3 := by
      have : ∀ i : Fin 4, ([3, 3, 3, 3] : List TypeId)[i.val % 4]? = some 3 := by decide
      exact Option.some.inj (hu.symm.trans (this ⟨i, hi⟩))
    subst e
    obtain ⟨c, hc', _, _⟩ := cell_int hc
    exact ⟨c, by rw [Array.getElem?_eq_getElem (by omega), hc']⟩
  obtain ⟨x0, h0⟩ := one 0 (by omega)
  obtain ⟨x1, h1⟩ := one 1 (by omega)
  obtain ⟨x2, h2⟩ := one 2 (by omega)
  obtain ⟨x3, h3⟩ := one 3 (by omega)
  refine ⟨x0, x1, x2, x3, congrArg Value.agg ?_⟩
  apply Array.ext_getElem?
  intro i
  match i with
  | 0 => exact h0
  | 1 => exact h1
  | 2 => exact h2
  | 3 => exact h3
  | i + 4 => rw [Array.getElem?_eq_none (by omega), Array.getElem?_eq_none (by simp)]

end Go.Proofs.YteljopjaolegaaaDoor
