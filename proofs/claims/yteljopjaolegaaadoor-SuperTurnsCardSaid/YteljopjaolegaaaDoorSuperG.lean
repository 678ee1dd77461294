/-
  CONTRACTS: the reference's Open (14). (Printed by rsuperopen.py.)
-/
import Derived.Test.YteljopjaolegaaaDoorSuperF
namespace Go.Proofs.YteljopjaolegaaaDoor
open Go.RowKit
set_option maxRecDepth 100000
set_option linter.unusedVariables false
set_option linter.unusedSimpArgs false

theorem rsopen_arg (A : Option Addr) (n c : Nat) (z : Int) (w : World) (h0 : ¬ z = 0) (h1 : ¬ z = 1) :
    Calls Tryd.prog 20 #[.slice A n c, .int .i64 z] w fun r w' => r = .returned (.tuple #[Sup.zero.val, .int .i64 1]) ∧ Below w.heap.size w w' := by
  have hz : z < 0 ∨ (¬ z < 0 ∧ 1 < z) := by omega
  clear h0 h1
  rcases hz with hz | ⟨hz, hz2⟩
  all_goals (
    go_enter Tryd.func20, Tryd.ntmps20
    go_wp2
    refine bodyPost_ret (results_row_tmp rfl _ _ w.heap.size 30 _ (0, 0) _ rfl (heap_alloc_new w _) Tryd.underlying30 rfl (by kernel_rfl)) rfl ⟨rfl, ?_⟩
    exact (Below.refl _ _).alloc (Nat.le_refl _) _)

theorem rsopen_page (A : Option Addr) (n c : Nat) (z k : Int) (w : World) (hz : z = 0 ∨ z = 1) (hk : ¬ k = 0)
    (CO : Hid (∀ wx, Below w.heap.size w wx → Calls Tryd.prog 48 #[.slice A n c, .int .i64 z] wx fun r w' => r = .returned (.tuple #[.int .i64 0, .slice none 0 0, .int .i64 k]) ∧ Below wx.heap.size wx w')) :
    Calls Tryd.prog 20 #[.slice A n c, .int .i64 z] w fun r w' => r = .returned (.tuple #[Sup.zero.val, .int .i64 k]) ∧ Below w.heap.size w w' := by
  have C1 := Lib.hid (CO.out (w.alloc (.cells #[.int .i64 0, .int .i64 0, .int .i64 0, .int .i64 0] 30)) ((Below.refl _ _).alloc (Nat.le_refl _) _))
  have S0 := Lib.hid (SupAt.new w 0 0 0 0)
  have G0 : Hid (Below w.heap.size w (w.alloc (.cells #[.int .i64 0, .int .i64 0, .int .i64 0, .int .i64 0] 30))) := Lib.hid ((Below.refl _ _).alloc (Nat.le_refl _) _)
  clear CO
  rcases hz with rfl | rfl
  all_goals (
    go_enter Tryd.func20, Tryd.ntmps20
    go_wp2_with (go_at_call 48; (with_reducible refine C1.out.mono ?_); rintro r w1 ⟨rfl, hb⟩; have G1 := Lib.hid hb; have S1 := Lib.hid (S0.out.below hb); obtain ⟨c0, c1, c2, c3⟩ := S1.out.cells; have f0 := S1.out.free 0; have f1 := S1.out.free 1; have f2 := S1.out.free 2; have f3 := S1.out.free 3; clear hb)
    refine bodyPost_ret (results_row_tmp rfl _ _ w.heap.size 30 _ (0, 0) _ rfl (S1.out.four 0 0 0 0) Tryd.underlying30 rfl (by kernel_rfl)) rfl ⟨rfl, ?_⟩
    exact below_four (G0.out.trans (G1.out.mono G0.out.size)) _ (Nat.le_refl _) _ _ _ _)

theorem rsopen_kind (A : Option Addr) (n c N : Nat) (z K : Int) (X : List UInt8) (w : World) (hz : z = 0 ∨ z = 1) (hk : ¬ K = 1)
    (CO : Hid (∀ wx, Below w.heap.size w wx → Calls Tryd.prog 48 #[.slice A n c, .int .i64 z] wx fun r w' => ∃ Av cv, r = .returned (.tuple #[.int .i64 K, .slice Av N cv, .int .i64 0]) ∧ Bs w' Av N X ∧ N ≤ cv ∧ Below wx.heap.size wx w')) :
    Calls Tryd.prog 20 #[.slice A n c, .int .i64 z] w fun r w' => r = .returned (.tuple #[Sup.zero.val, .int .i64 140]) ∧ Below w.heap.size w w' := by
  have C1 := Lib.hid (CO.out (w.alloc (.cells #[.int .i64 0, .int .i64 0, .int .i64 0, .int .i64 0] 30)) ((Below.refl _ _).alloc (Nat.le_refl _) _))
  have S0 := Lib.hid (SupAt.new w 0 0 0 0)
  have G0 : Hid (Below w.heap.size w (w.alloc (.cells #[.int .i64 0, .int .i64 0, .int .i64 0, .int .i64 0] 30))) := Lib.hid ((Below.refl _ _).alloc (Nat.le_refl _) _)
  clear CO
  rcases hz with rfl | rfl
  all_goals (
    go_enter Tryd.func20, Tryd.ntmps20
    go_wp2_with (go_at_call 48; (with_reducible refine C1.out.mono ?_); rintro q w1 ⟨Av, cv, rfl, hbs, hcv, hb⟩; have G1 : Hid (Below w.heap.size w w1) := Lib.hid (G0.out.trans (hb.mono G0.out.size)); have S1 : Hid (SupAt w1 w.heap.size 0 0 0 0) := Lib.hid (S0.out.below hb); have X1 := Lib.hid hbs; have Hcv := Lib.hid hcv; obtain ⟨c0, c1, c2, c3⟩ := S1.out.cells; have f0 := S1.out.free 0; have f1 := S1.out.free 1; have f2 := S1.out.free 2; have f3 := S1.out.free 3; clear hb hbs hcv)
    refine bodyPost_ret (results_row_tmp rfl _ _ w.heap.size 30 _ (0, 0) _ rfl (S1.out.four 0 0 0 0) Tryd.underlying30 rfl (by kernel_rfl)) rfl ⟨rfl, ?_⟩
    exact below_four G1.out _ (Nat.le_refl _) _ _ _ _)

theorem rsopen_long (A : Option Addr) (n c N : Nat) (z : Int) (X : List UInt8) (w : World) (hz : z = 0 ∨ z = 1) (hN : ¬ N = 36)
    (CO : Hid (∀ wx, Below w.heap.size w wx → Calls Tryd.prog 48 #[.slice A n c, .int .i64 z] wx fun r w' => ∃ Av cv, r = .returned (.tuple #[.int .i64 1, .slice Av N cv, .int .i64 0]) ∧ Bs w' Av N X ∧ N ≤ cv ∧ Below wx.heap.size wx w')) :
    Calls Tryd.prog 20 #[.slice A n c, .int .i64 z] w fun r w' => r = .returned (.tuple #[Sup.zero.val, .int .i64 140]) ∧ Below w.heap.size w w' := by
  have C1 := Lib.hid (CO.out (w.alloc (.cells #[.int .i64 0, .int .i64 0, .int .i64 0, .int .i64 0] 30)) ((Below.refl _ _).alloc (Nat.le_refl _) _))
  have S0 := Lib.hid (SupAt.new w 0 0 0 0)
  have G0 : Hid (Below w.heap.size w (w.alloc (.cells #[.int .i64 0, .int .i64 0, .int .i64 0, .int .i64 0] 30))) := Lib.hid ((Below.refl _ _).alloc (Nat.le_refl _) _)
  clear CO
  have hN2 : ¬ (N : Int) = 36 := by omega
  rcases hz with rfl | rfl
  all_goals (
    go_enter Tryd.func20, Tryd.ntmps20
    go_wp2_with (go_at_call 48; (with_reducible refine C1.out.mono ?_); rintro q w1 ⟨Av, cv, rfl, hbs, hcv, hb⟩; have G1 : Hid (Below w.heap.size w w1) := Lib.hid (G0.out.trans (hb.mono G0.out.size)); have S1 : Hid (SupAt w1 w.heap.size 0 0 0 0) := Lib.hid (S0.out.below hb); have X1 := Lib.hid hbs; have Hcv := Lib.hid hcv; obtain ⟨c0, c1, c2, c3⟩ := S1.out.cells; have f0 := S1.out.free 0; have f1 := S1.out.free 1; have f2 := S1.out.free 2; have f3 := S1.out.free 3; clear hb hbs hcv)
    refine bodyPost_ret (results_row_tmp rfl _ _ w.heap.size 30 _ (0, 0) _ rfl (S1.out.four 0 0 0 0) Tryd.underlying30 rfl (by kernel_rfl)) rfl ⟨rfl, ?_⟩
    exact below_four G1.out _ (Nat.le_refl _) _ _ _ _)

theorem rsopen_mark (A : Option Addr) (n c N : Nat) (z : Int) (X : List UInt8) (w : World) (hz : z = 0 ∨ z = 1) (hN : N = 36) (hX : ¬ X.take 4 = [67, 70, 82, 84])
    (CO : Hid (∀ wx, Below w.heap.size w wx → Calls Tryd.prog 48 #[.slice A n c, .int .i64 z] wx fun r w' => ∃ Av cv, r = .returned (.tuple #[.int .i64 1, .slice Av N cv, .int .i64 0]) ∧ Bs w' Av N X ∧ N ≤ cv ∧ Below wx.heap.size wx w')) :
    Calls Tryd.prog 20 #[.slice A n c, .int .i64 z] w fun r w' => r = .returned (.tuple #[Sup.zero.val, .int .i64 140]) ∧ Below w.heap.size w w' := by
  have C1 := Lib.hid (CO.out (w.alloc (.cells #[.int .i64 0, .int .i64 0, .int .i64 0, .int .i64 0] 30)) ((Below.refl _ _).alloc (Nat.le_refl _) _))
  have S0 := Lib.hid (SupAt.new w 0 0 0 0)
  have G0 : Hid (Below w.heap.size w (w.alloc (.cells #[.int .i64 0, .int .i64 0, .int .i64 0, .int .i64 0] 30))) := Lib.hid ((Below.refl _ _).alloc (Nat.le_refl _) _)
  clear CO
  have HN : Hid (4 ≤ N) := Lib.hid (by omega)
  have hN2 : (N : Int) = 36 := by omega
  have hXd : ((strB (X.take 4)).toList == [67, 70, 82, 84]) = false := by rw [strB, ByteArray.toList_mk]; simpa using hX
  clear hX hN
  rcases hz with rfl | rfl
  all_goals (
    go_enter Tryd.func20, Tryd.ntmps20
    go_wp2_with (go_at_call 48; (with_reducible refine C1.out.mono ?_); rintro q w1 ⟨Av, cv, rfl, hbs, hcv, hb⟩; have G1 : Hid (Below w.heap.size w w1) := Lib.hid (G0.out.trans (hb.mono G0.out.size)); have S1 : Hid (SupAt w1 w.heap.size 0 0 0 0) := Lib.hid (S0.out.below hb); have X1 := Lib.hid hbs; have Hcv := Lib.hid hcv; obtain ⟨c0, c1, c2, c3⟩ := S1.out.cells; have f0 := S1.out.free 0; have f1 := S1.out.free 1; have f2 := S1.out.free 2; have f3 := S1.out.free 3; obtain ⟨ad, hav⟩ := some_of_bs X1.out HN.out; subst hav; have kc := run_convert_bs (X1.out.head 4 HN.out) cv; have h4c : (4 : Int) ≤ (cv : Int) := (by have := Hcv.out; have := HN.out; omega);  clear hb hbs hcv)
    refine bodyPost_ret (results_row_tmp rfl _ _ w.heap.size 30 _ (0, 0) _ rfl (S1.out.four 0 0 0 0) Tryd.underlying30 rfl (by kernel_rfl)) rfl ⟨rfl, ?_⟩
    exact below_four G1.out _ (Nat.le_refl _) _ _ _ _)

def intsV (l : List Int) : List Value := l.map fun x => .int .i64 x
theorem info_int : (Tryd.prog.info? 3).map (fun i => (i.zero, i.size, i.bytes)) = some (some (.int .i64 0), 1, 8) := by kernel_rfl

theorem rread_at (a : Nat) (X : List UInt8) (N : Nat) (hN : N = 36) (h : a + 8 ≤ 36) (wx : World) (Av : Option Addr) (cv : Nat) (hb : Bs wx Av N X) (hM : unle ((X.drop a).take 8) ≤ 9223372036854775807) :
    Calls Tryd.prog 49 #[.slice Av N cv, .int .i64 a, .int .i64 8] wx fun q w' => q = .returned (.tuple #[.int .i64 (unle ((X.drop a).take 8) : Nat), .int .i64 0]) ∧ wx = w' := by
  have := rread_ok Av N cv a 8 X wx hb (by omega) (by omega) (by omega)
  rw [readRes_ok hM] at this
  exact this
theorem rread_not (a : Nat) (X : List UInt8) (N : Nat) (hN : N = 36) (h : a + 8 ≤ 36) (wx : World) (Av : Option Addr) (cv : Nat) (hb : Bs wx Av N X) (hM : ¬ unle ((X.drop a).take 8) ≤ 9223372036854775807) :
    Calls Tryd.prog 49 #[.slice Av N cv, .int .i64 a, .int .i64 8] wx fun q w' => q = .returned (.tuple #[.int .i64 0, .int .i64 111]) ∧ wx = w' := by
  have := rread_ok Av N cv a 8 X wx hb (by omega) (by omega) (by omega)
  rw [readRes_big hM] at this
  exact this

theorem get_take {l m : List Value} {n : Nat} (h : l.take n = m) (k : Nat) (v : Value) (hk : m[k]? = some v) : l[k]? = some v := by
  subst h
  rw [List.getElem?_take] at hk
  split at hk
  · exact hk
  · cases hk

end Go.Proofs.YteljopjaolegaaaDoor
