/-
  CONTRACTS: super.Open: where the page opens. (Printed by superopen.py.)
-/
import Derived.Test.YteljopjaolegaaaDoorSuperD
namespace Go.Proofs.YteljopjaolegaaaDoor
open Go.RowKit
set_option maxRecDepth 100000
set_option linter.unusedVariables false
set_option linter.unusedSimpArgs false

theorem body_zero (wx : World) : Calls Tryd.prog 40 #[.agg #[.int .i64 0, .int .i64 0, .int .i64 0, .int .i64 0]] wx fun q w' => ∃ A c, q = .returned (.slice A 36 c) ∧ Below wx.heap.size wx w' := by
  refine (sbody_in Sup.zero wx (by simp [supIn, Sup.zero])).mono ?_
  rintro q w' ⟨x, rfl, ho, hb⟩
  obtain ⟨A, c, rfl, hbs⟩ := own_bytes ho
  exact ⟨A, c, rfl, hb⟩

theorem sopen_kind (A : Option Addr) (n c N : Nat) (z K : Int) (X : List UInt8) (w : World) (hz : z = 0 ∨ z = 1) (hk : ¬ K = 1)
    (CO : Hid (∀ wx, Below w.heap.size w wx → Calls Tryd.prog 44 #[.slice A n c, .int .i64 z] wx fun r w' => ∃ Av cv, r = .returned (.tuple #[.int .i64 K, .slice Av N cv, .int .i64 0]) ∧ Bs w' Av N X ∧ N ≤ cv ∧ Below wx.heap.size wx w')) :
    Calls Tryd.prog 18 #[.slice A n c, .int .i64 z] w fun r w' => r = .returned (.tuple #[Sup.zero.val, .int .i64 140]) ∧ Below w.heap.size w w' := by
  have C1 := Lib.hid (CO.out (w.alloc (.cells #[.int .i64 0, .int .i64 0, .int .i64 0, .int .i64 0] 30)) ((Below.refl _ _).alloc (Nat.le_refl _) _))
  have S0 := Lib.hid (SupAt.new w 0 0 0 0)
  have G0 : Hid (Below w.heap.size w (w.alloc (.cells #[.int .i64 0, .int .i64 0, .int .i64 0, .int .i64 0] 30))) := Lib.hid ((Below.refl _ _).alloc (Nat.le_refl _) _)
  have C2 := Lib.hid body_zero
  clear CO
  rcases hz with rfl | rfl
  all_goals (
    go_enter Tryd.func18, Tryd.ntmps18
    go_wp2_with (go_at_call 44; (with_reducible refine C1.out.mono ?_); rintro r w1 ⟨Av, cv, rfl, hbs, hcv, hb⟩; have G1 : Hid (Below w.heap.size w w1) := Lib.hid (G0.out.trans (hb.mono G0.out.size)); have S1 : Hid (SupAt (w1.alloc (.cells #[.int .i64 0, .int .i64 0, .int .i64 0, .int .i64 0] 30)) w.heap.size 0 0 0 0) := Lib.hid ((S0.out.below hb).below ((Below.refl _ _).alloc (Nat.le_refl _) _)); have G2 : Hid (Below w.heap.size w (w1.alloc (.cells #[.int .i64 0, .int .i64 0, .int .i64 0, .int .i64 0] 30))) := Lib.hid (G1.out.alloc G1.out.size _); have X1 := Lib.hid hbs; have Hcv := Lib.hid hcv; obtain ⟨c0, c1, c2, c3⟩ := S1.out.cells; have f0 := S1.out.free 0; have f1 := S1.out.free 1; have f2 := S1.out.free 2; have f3 := S1.out.free 3; clear hb hbs hcv)
    refine bodyPost_ret (results_row_tmp rfl _ _ w.heap.size 30 _ (0, 0) _ rfl (S1.out.four 0 0 0 0) Tryd.underlying30 rfl (by kernel_rfl)) rfl ⟨rfl, ?_⟩
    exact below_four G2.out _ (Nat.le_refl _) _ _ _ _)

theorem sopen_long (A : Option Addr) (n c N : Nat) (z : Int) (X : List UInt8) (w : World) (hz : z = 0 ∨ z = 1) (hN : ¬ N = 36)
    (CO : Hid (∀ wx, Below w.heap.size w wx → Calls Tryd.prog 44 #[.slice A n c, .int .i64 z] wx fun r w' => ∃ Av cv, r = .returned (.tuple #[.int .i64 1, .slice Av N cv, .int .i64 0]) ∧ Bs w' Av N X ∧ N ≤ cv ∧ Below wx.heap.size wx w')) :
    Calls Tryd.prog 18 #[.slice A n c, .int .i64 z] w fun r w' => r = .returned (.tuple #[Sup.zero.val, .int .i64 140]) ∧ Below w.heap.size w w' := by
  have C1 := Lib.hid (CO.out (w.alloc (.cells #[.int .i64 0, .int .i64 0, .int .i64 0, .int .i64 0] 30)) ((Below.refl _ _).alloc (Nat.le_refl _) _))
  have S0 := Lib.hid (SupAt.new w 0 0 0 0)
  have G0 : Hid (Below w.heap.size w (w.alloc (.cells #[.int .i64 0, .int .i64 0, .int .i64 0, .int .i64 0] 30))) := Lib.hid ((Below.refl _ _).alloc (Nat.le_refl _) _)
  have C2 := Lib.hid body_zero
  clear CO
  have hN2 : ¬ (N : Int) = 36 := by omega
  rcases hz with rfl | rfl
  all_goals (
    go_enter Tryd.func18, Tryd.ntmps18
    go_wp2_with (first | (go_at_call 44; (with_reducible refine C1.out.mono ?_); rintro r w1 ⟨Av, cv, rfl, hbs, hcv, hb⟩; have G1 : Hid (Below w.heap.size w w1) := Lib.hid (G0.out.trans (hb.mono G0.out.size)); have S1 : Hid (SupAt (w1.alloc (.cells #[.int .i64 0, .int .i64 0, .int .i64 0, .int .i64 0] 30)) w.heap.size 0 0 0 0) := Lib.hid ((S0.out.below hb).below ((Below.refl _ _).alloc (Nat.le_refl _) _)); have G2 : Hid (Below w.heap.size w (w1.alloc (.cells #[.int .i64 0, .int .i64 0, .int .i64 0, .int .i64 0] 30))) := Lib.hid (G1.out.alloc G1.out.size _); have X1 := Lib.hid hbs; have Hcv := Lib.hid hcv; obtain ⟨c0, c1, c2, c3⟩ := S1.out.cells; have f0 := S1.out.free 0; have f1 := S1.out.free 1; have f2 := S1.out.free 2; have f3 := S1.out.free 3; clear hb hbs hcv) | (go_at_call 40; (with_reducible refine (C2.out _).mono ?_); rintro r w3 ⟨A3, c3v, rfl, hb⟩; have G3 : Hid (Below w.heap.size w w3) := Lib.hid (G2.out.trans (hb.mono G2.out.size)); have S3 : Hid (SupAt w3 w.heap.size 0 0 0 0) := Lib.hid (S1.out.below hb); have X3 : Hid (Bs w3 Av N X) := Lib.hid ((X1.out.below ((Below.refl _ _).alloc (Nat.le_refl _) _)).below hb); obtain ⟨e0, e1, e2, e3⟩ := S3.out.cells; have g0 := S3.out.free 0; have g1 := S3.out.free 1; have g2 := S3.out.free 2; have g3 := S3.out.free 3; clear hb))
    refine bodyPost_ret (results_row_tmp rfl _ _ w.heap.size 30 _ (0, 0) _ rfl (S3.out.four 0 0 0 0) Tryd.underlying30 rfl (by kernel_rfl)) rfl ⟨rfl, ?_⟩
    exact below_four G3.out _ (Nat.le_refl _) _ _ _ _)

theorem some_of_bs {w : World} {A : Option Addr} {n : Nat} {l : List UInt8} (h : Bs w A n l) (hn : 4 ≤ n) : ∃ ad, A = some ad := by
  obtain ⟨ad, _, rfl, -, -⟩ := h.get (k := 0) (by omega)
  exact ⟨ad, rfl⟩

theorem sopen_mark (A : Option Addr) (n c N : Nat) (z : Int) (X : List UInt8) (w : World) (hz : z = 0 ∨ z = 1) (hN : N = 36) (hX : ¬ X.take 4 = [67, 70, 82, 84])
    (CO : Hid (∀ wx, Below w.heap.size w wx → Calls Tryd.prog 44 #[.slice A n c, .int .i64 z] wx fun r w' => ∃ Av cv, r = .returned (.tuple #[.int .i64 1, .slice Av N cv, .int .i64 0]) ∧ Bs w' Av N X ∧ N ≤ cv ∧ Below wx.heap.size wx w')) :
    Calls Tryd.prog 18 #[.slice A n c, .int .i64 z] w fun r w' => r = .returned (.tuple #[Sup.zero.val, .int .i64 140]) ∧ Below w.heap.size w w' := by
  have C1 := Lib.hid (CO.out (w.alloc (.cells #[.int .i64 0, .int .i64 0, .int .i64 0, .int .i64 0] 30)) ((Below.refl _ _).alloc (Nat.le_refl _) _))
  have S0 := Lib.hid (SupAt.new w 0 0 0 0)
  have G0 : Hid (Below w.heap.size w (w.alloc (.cells #[.int .i64 0, .int .i64 0, .int .i64 0, .int .i64 0] 30))) := Lib.hid ((Below.refl _ _).alloc (Nat.le_refl _) _)
  have C2 := Lib.hid body_zero
  clear CO
  have HN : Hid (4 ≤ N) := Lib.hid (by omega)
  have hN2 : (N : Int) = 36 := by omega
  have hXd : decide (X.take 4 = [67, 70, 82, 84]) = false := decide_eq_false hX
  clear hX hN
  rcases hz with rfl | rfl
  all_goals (
    go_enter Tryd.func18, Tryd.ntmps18
    go_wp2_with (first | (go_at_call 44; (with_reducible refine C1.out.mono ?_); rintro r w1 ⟨Av, cv, rfl, hbs, hcv, hb⟩; have G1 : Hid (Below w.heap.size w w1) := Lib.hid (G0.out.trans (hb.mono G0.out.size)); have S1 : Hid (SupAt (w1.alloc (.cells #[.int .i64 0, .int .i64 0, .int .i64 0, .int .i64 0] 30)) w.heap.size 0 0 0 0) := Lib.hid ((S0.out.below hb).below ((Below.refl _ _).alloc (Nat.le_refl _) _)); have G2 : Hid (Below w.heap.size w (w1.alloc (.cells #[.int .i64 0, .int .i64 0, .int .i64 0, .int .i64 0] 30))) := Lib.hid (G1.out.alloc G1.out.size _); have X1 := Lib.hid hbs; have Hcv := Lib.hid hcv; obtain ⟨c0, c1, c2, c3⟩ := S1.out.cells; have f0 := S1.out.free 0; have f1 := S1.out.free 1; have f2 := S1.out.free 2; have f3 := S1.out.free 3; clear hb hbs hcv) | (go_at_call 40; (with_reducible refine (C2.out _).mono ?_); rintro r w3 ⟨A3, c3v, rfl, hb⟩; have G3 : Hid (Below w.heap.size w w3) := Lib.hid (G2.out.trans (hb.mono G2.out.size)); have S3 : Hid (SupAt w3 w.heap.size 0 0 0 0) := Lib.hid (S1.out.below hb); have X3 : Hid (Bs w3 Av N X) := Lib.hid ((X1.out.below ((Below.refl _ _).alloc (Nat.le_refl _) _)).below hb); obtain ⟨e0, e1, e2, e3⟩ := S3.out.cells; have g0 := S3.out.free 0; have g1 := S3.out.free 1; have g2 := S3.out.free 2; have g3 := S3.out.free 3; have kc := Lib.run_convert_bytes_const (P := Tryd.prog) w3 31 5 #[.int .u8 67, .int .u8 70, .int .u8 82, .int .u8 84] 4 4 Tryd.underlying31 Tryd.underlying5; have L4 : Hid (Bs (w3.alloc (.cells #[.int .u8 67, .int .u8 70, .int .u8 82, .int .u8 84] 5 (4, 5))) (some ⟨w3.heap.size, 0, none⟩) 4 [67, 70, 82, 84]) := Lib.hid (lit_bytes w3 [67, 70, 82, 84] #[.int .u8 67, .int .u8 70, .int .u8 82, .int .u8 84] 4 (4, 5) rfl rfl (by omega)); have X4 : Hid (Bs (w3.alloc (.cells #[.int .u8 67, .int .u8 70, .int .u8 82, .int .u8 84] 5 (4, 5))) Av N X) := Lib.hid (X3.out.below ((Below.refl _ _).alloc (Nat.le_refl _) _)); have S4 : Hid (SupAt (w3.alloc (.cells #[.int .u8 67, .int .u8 70, .int .u8 82, .int .u8 84] 5 (4, 5))) w.heap.size 0 0 0 0) := Lib.hid (S3.out.below ((Below.refl _ _).alloc (Nat.le_refl _) _)); have G4 : Hid (Below w.heap.size w (w3.alloc (.cells #[.int .u8 67, .int .u8 70, .int .u8 82, .int .u8 84] 5 (4, 5)))) := Lib.hid (G3.out.alloc G3.out.size _); clear hb) | (go_at_call 45; obtain ⟨ad, hav⟩ := some_of_bs X4.out HN.out; subst hav; (with_reducible refine (prefix_any ad _ N cv X [67, 70, 82, 84] _ X4.out L4.out HN.out Hcv.out).mono ?_); rintro r w5 ⟨rfl, hb⟩; have G5 : Hid (Below w.heap.size w w5) := Lib.hid (G4.out.trans (hb.mono G4.out.size)); have S5 : Hid (SupAt w5 w.heap.size 0 0 0 0) := Lib.hid (S4.out.below hb); obtain ⟨k0, k1, k2, k3⟩ := S5.out.cells; have h0 := S5.out.free 0; have h1 := S5.out.free 1; have h2 := S5.out.free 2; have h3 := S5.out.free 3; clear hb))
    refine bodyPost_ret (results_row_tmp rfl _ _ w.heap.size 30 _ (0, 0) _ rfl (S5.out.four 0 0 0 0) Tryd.underlying30 rfl (by kernel_rfl)) rfl ⟨rfl, ?_⟩
    exact below_four G5.out _ (Nat.le_refl _) _ _ _ _)

end Go.Proofs.YteljopjaolegaaaDoor
