/-
  CONTRACTS: super.Open: refusals ahead of the numbers.
-/
import Derived.Test.YteljopjaolegaaaDoorSuperC
namespace Go.Proofs.YteljopjaolegaaaDoor
open Go.RowKit
set_option maxRecDepth 100000
set_option linter.unusedVariables false
set_option linter.unusedSimpArgs false

/-- Two results: a struct that lies in a block of its own, and a slot. -/
theorem results_row_tmp {P : Program} {fn : Func} {p u : Tmp} {ty : TypeId} (h : fn.results = #[.cell p ty, .tmp u]) (tmps : Array Value) (w : World) (g : Nat) (t : TypeId) (cs : Array Value) (fr : Nat × Nat) (d : TypeDesc)
    (hp : tmps.getD p undef = .pointer (some ⟨g, 0, none⟩)) (hg : w.heap[g]? = some (.cells cs t fr))
    (hu : P.underlying ty = some d) (hd : (match d with | .struct _ | .array _ _ => true | _ => false) = true) (hi : (P.info? ty).map (·.size) = some cs.size) :
    (results fn tmps).run P w = .ok (.tuple #[.agg cs, tmps.getD u undef]) w := by
  rw [results_cell_tmp h, hp]
  simp [asAddr, run_loadVar_row w g t ty cs fr d hg hu hd hi, Result.andThen]

/-- A superblock in a block of its own. -/
def SupAt (w : World) (g : Nat) (v r e p : Int) : Prop := w.heap[g]? = some (.cells #[.int .i64 v, .int .i64 r, .int .i64 e, .int .i64 p] 30 (0, 0))
theorem SupAt.new (w : World) (v r e p : Int) : SupAt (w.alloc (.cells #[.int .i64 v, .int .i64 r, .int .i64 e, .int .i64 p] 30)) w.heap.size v r e p := heap_alloc_new w _
theorem SupAt.lt {w : World} {g : Nat} {v r e p : Int} (h : SupAt w g v r e p) : g < w.heap.size := by
  simp only [SupAt] at h
  exact (Array.getElem?_eq_some_iff.mp h).1
theorem SupAt.below {w w1 : World} {g : Nat} {v r e p : Int} (hb : Below w.heap.size w w1) (h : SupAt w g v r e p) : SupAt w1 g v r e p := (hb.block g h.lt).trans h
theorem SupAt.cells {w : World} {g : Nat} {v r e p : Int} (h : SupAt w g v r e p) : w.cell? ⟨g, 0, none⟩ = some (.int .i64 v) ∧ w.cell? ⟨g, 1, none⟩ = some (.int .i64 r) ∧ w.cell? ⟨g, 2, none⟩ = some (.int .i64 e) ∧ w.cell? ⟨g, 3, none⟩ = some (.int .i64 p) :=
  ⟨cell_of_row _ _ 0 _ _ _ h, cell_of_row _ _ 1 _ _ _ h, cell_of_row _ _ 2 _ _ _ h, cell_of_row _ _ 3 _ _ _ h⟩
theorem SupAt.free {w : World} {g : Nat} {v r e p : Int} (h : SupAt w g v r e p) (k : Nat) : w.frozen? ⟨g, k, none⟩ = false := frozen_of_row _ _ _ _ _ h
theorem SupAt.set0 {w : World} {g : Nat} {v r e p : Int} (h : SupAt w g v r e p) (x : Int) : SupAt (w.setCell ⟨g, 0, none⟩ (.int .i64 x)) g x r e p := heap_setCell_same w g 0 _ _ _ h
theorem SupAt.set1 {w : World} {g : Nat} {v r e p : Int} (h : SupAt w g v r e p) (x : Int) : SupAt (w.setCell ⟨g, 1, none⟩ (.int .i64 x)) g v x e p := heap_setCell_same w g 1 _ _ _ h
theorem SupAt.set2 {w : World} {g : Nat} {v r e p : Int} (h : SupAt w g v r e p) (x : Int) : SupAt (w.setCell ⟨g, 2, none⟩ (.int .i64 x)) g v r x p := heap_setCell_same w g 2 _ _ _ h
theorem SupAt.set3 {w : World} {g : Nat} {v r e p : Int} (h : SupAt w g v r e p) (x : Int) : SupAt (w.setCell ⟨g, 3, none⟩ (.int .i64 x)) g v r e x := heap_setCell_same w g 3 _ _ _ h
theorem SupAt.drewN {w : World} {g : Nat} {v r e p : Int} (h : SupAt w g v r e p) (k : Nat) : SupAt (w.drewN k) g v r e p := h
theorem below_set {B : Nat} {a w : World} (h : Below B a w) (g k : Nat) (hg : B ≤ g) (x : Value) : Below B a (w.setCell ⟨g, k, none⟩ x) :=
  ⟨h.os, h.tape, h.output, by rw [World.size_setCell]; exact h.size, fun i hi => by rw [heap_setCell_other _ _ _ _ (by simp only [ne_eq]; omega)]; exact h.block i hi⟩
/-- All four are written. -/
theorem SupAt.four {w : World} {g : Nat} {v r e p : Int} (h : SupAt w g v r e p) (a b c d : Int) : SupAt ((((w.setCell ⟨g, 0, none⟩ (.int .i64 a)).setCell ⟨g, 1, none⟩ (.int .i64 b)).setCell ⟨g, 2, none⟩ (.int .i64 c)).setCell ⟨g, 3, none⟩ (.int .i64 d)) g a b c d :=
  (((h.set0 a).set1 b).set2 c).set3 d
theorem below_four {B : Nat} {x w : World} (h : Below B x w) (g : Nat) (hg : B ≤ g) (a b c d : Int) : Below B x ((((w.setCell ⟨g, 0, none⟩ (.int .i64 a)).setCell ⟨g, 1, none⟩ (.int .i64 b)).setCell ⟨g, 2, none⟩ (.int .i64 c)).setCell ⟨g, 3, none⟩ (.int .i64 d)) :=
  below_set (below_set (below_set (below_set h g 0 hg _) g 1 hg _) g 2 hg _) g 3 hg _

theorem sopen_arg (A : Option Addr) (n c : Nat) (z : Int) (w : World) (h0 : ¬ z = 0) (h1 : ¬ z = 1) :
    Calls Tryd.prog 18 #[.slice A n c, .int .i64 z] w fun r w' => r = .returned (.tuple #[Sup.zero.val, .int .i64 1]) ∧ Below w.heap.size w w' := by
  have hz : (z != 0 && z != 1) = true := by simp [h0, h1]
  go_enter Tryd.func18, Tryd.ntmps18
  go_wp2
  refine bodyPost_ret (results_row_tmp rfl _ _ w.heap.size 30 _ (0, 0) _ rfl (heap_alloc_new w _) Tryd.underlying30 rfl (by kernel_rfl)) rfl ⟨rfl, ?_⟩
  exact (Below.refl _ _).alloc (Nat.le_refl _) _

theorem sopen_page (A : Option Addr) (n c : Nat) (z k : Int) (w : World) (hz : z = 0 ∨ z = 1) (hk : ¬ k = 0)
    (CO : Hid (∀ wx, Below w.heap.size w wx → Calls Tryd.prog 44 #[.slice A n c, .int .i64 z] wx fun r w' => r = .returned (.tuple #[.int .i64 0, .slice none 0 0, .int .i64 k]) ∧ Below wx.heap.size wx w')) :
    Calls Tryd.prog 18 #[.slice A n c, .int .i64 z] w fun r w' => r = .returned (.tuple #[Sup.zero.val, .int .i64 k]) ∧ Below w.heap.size w w' := by
  have C1 := Lib.hid (CO.out (w.alloc (.cells #[.int .i64 0, .int .i64 0, .int .i64 0, .int .i64 0] 30)) ((Below.refl _ _).alloc (Nat.le_refl _) _))
  have S0 := Lib.hid (SupAt.new w 0 0 0 0)
  have G0 : Hid (Below w.heap.size w (w.alloc (.cells #[.int .i64 0, .int .i64 0, .int .i64 0, .int .i64 0] 30))) := Lib.hid ((Below.refl _ _).alloc (Nat.le_refl _) _)
  clear CO
  rcases hz with rfl | rfl
  all_goals (
    go_enter Tryd.func18, Tryd.ntmps18
    go_wp2_with (go_at_call 44; (with_reducible refine C1.out.mono ?_); rintro r w1 ⟨rfl, hb⟩; have G1 := Lib.hid hb; have S1 := Lib.hid (S0.out.below hb); obtain ⟨c0, c1, c2, c3⟩ := S1.out.cells; have f0 := S1.out.free 0; have f1 := S1.out.free 1; have f2 := S1.out.free 2; have f3 := S1.out.free 3; clear hb)
    refine bodyPost_ret (results_row_tmp rfl _ _ w.heap.size 30 _ (0, 0) _ rfl (S1.out.four 0 0 0 0) Tryd.underlying30 rfl (by kernel_rfl)) rfl ⟨rfl, ?_⟩
    exact below_four (G0.out.trans (G1.out.mono G0.out.size)) _ (Nat.le_refl _) _ _ _ _)

end Go.Proofs.YteljopjaolegaaaDoor
