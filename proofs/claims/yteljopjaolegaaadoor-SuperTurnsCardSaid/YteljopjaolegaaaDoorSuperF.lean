/-
  CONTRACTS: super.Open: the numbers. (Printed by superopen2.py.)
-/
import Derived.Test.YteljopjaolegaaaDoorSuperE
namespace Go.Proofs.YteljopjaolegaaaDoor
open Go.RowKit
set_option maxRecDepth 100000
set_option linter.unusedVariables false
set_option linter.unusedSimpArgs false

theorem read_at (a : Nat) (X : List UInt8) (N : Nat) (hN : N = 36) (h : a + 8 ≤ 36) (wx : World) (Av : Option Addr) (cv : Nat) (hb : Bs wx Av N X) (hc : N ≤ cv) (hM : unle ((X.drop a).take 8) ≤ 9223372036854775807) :
    Calls Tryd.prog 47 #[.slice Av N cv, .int .i64 a, .int .i64 8] wx fun q w' => q = .returned (.tuple #[.int .i64 (unle ((X.drop a).take 8) : Nat), .int .i64 0]) ∧ wx = w' := by
  have := read_ok Av N cv a 8 X wx hb hc (by omega) (by omega) (by omega)
  rw [readRes_ok hM] at this
  exact this
theorem read_not (a : Nat) (X : List UInt8) (N : Nat) (hN : N = 36) (h : a + 8 ≤ 36) (wx : World) (Av : Option Addr) (cv : Nat) (hb : Bs wx Av N X) (hc : N ≤ cv) (hM : ¬ unle ((X.drop a).take 8) ≤ 9223372036854775807) :
    Calls Tryd.prog 47 #[.slice Av N cv, .int .i64 a, .int .i64 8] wx fun q w' => q = .returned (.tuple #[.int .i64 0, .int .i64 111]) ∧ wx = w' := by
  have := read_ok Av N cv a 8 X wx hb hc (by omega) (by omega) (by omega)
  rw [readRes_big hM] at this
  exact this

set_option maxHeartbeats 8000000 in
theorem sopen_fine (A : Option Addr) (n c N : Nat) (z v r e p : Int) (X : List UInt8) (w : World) (hz : z = 0 ∨ z = 1) (hN : N = 36) (hX : X.take 4 = [67, 70, 82, 84])
    (hv : v = (unle ((X.drop 4).take 8) : Nat)) (hr : r = (unle ((X.drop 12).take 8) : Nat)) (he : e = (unle ((X.drop 20).take 8) : Nat)) (hp : p = (unle ((X.drop 28).take 8) : Nat)) (hq : v ≤ 9223372036854775807 ∧ r ≤ 9223372036854775807 ∧ e ≤ 9223372036854775807 ∧ p ≤ 9223372036854775807) (hm : supMay ⟨v, r, e, p⟩ = true) (hpl : v % 2 = z)
    (CO : Hid (∀ wx, Below w.heap.size w wx → Calls Tryd.prog 44 #[.slice A n c, .int .i64 z] wx fun r w' => ∃ Av cv, r = .returned (.tuple #[.int .i64 1, .slice Av N cv, .int .i64 0]) ∧ Bs w' Av N X ∧ N ≤ cv ∧ Below wx.heap.size wx w')) :
    Calls Tryd.prog 18 #[.slice A n c, .int .i64 z] w fun q w' => q = .returned (.tuple #[.agg #[.int .i64 v, .int .i64 r, .int .i64 e, .int .i64 p], .int .i64 0]) ∧ Below w.heap.size w w' := by
  have C1 := Lib.hid (CO.out (w.alloc (.cells #[.int .i64 0, .int .i64 0, .int .i64 0, .int .i64 0] 30)) ((Below.refl _ _).alloc (Nat.le_refl _) _))
  have S0 := Lib.hid (SupAt.new w 0 0 0 0)
  have G0 : Hid (Below w.heap.size w (w.alloc (.cells #[.int .i64 0, .int .i64 0, .int .i64 0, .int .i64 0] 30))) := Lib.hid ((Below.refl _ _).alloc (Nat.le_refl _) _)
  have C2 := Lib.hid body_zero
  clear CO
  have HN : Hid (4 ≤ N) := Lib.hid (by omega)
  have hN2 : (N : Int) = 36 := by omega
  have hXd : decide (X.take 4 = [67, 70, 82, 84]) = true := decide_eq_true hX
  have R0 : Hid (∀ wx Av cv, Bs wx Av N X → N ≤ cv → Calls Tryd.prog 47 #[.slice Av N cv, .int .i64 4, .int .i64 8] wx fun q w' => q = .returned (.tuple #[.int .i64 v, .int .i64 0]) ∧ wx = w') := Lib.hid (fun wx Av cv hb hc => by rw [hv]; exact read_at 4 X N hN (by omega) wx Av cv hb hc (by omega))
  have R1 : Hid (∀ wx Av cv, Bs wx Av N X → N ≤ cv → Calls Tryd.prog 47 #[.slice Av N cv, .int .i64 12, .int .i64 8] wx fun q w' => q = .returned (.tuple #[.int .i64 r, .int .i64 0]) ∧ wx = w') := Lib.hid (fun wx Av cv hb hc => by rw [hr]; exact read_at 12 X N hN (by omega) wx Av cv hb hc (by omega))
  have R2 : Hid (∀ wx Av cv, Bs wx Av N X → N ≤ cv → Calls Tryd.prog 47 #[.slice Av N cv, .int .i64 20, .int .i64 8] wx fun q w' => q = .returned (.tuple #[.int .i64 e, .int .i64 0]) ∧ wx = w') := Lib.hid (fun wx Av cv hb hc => by rw [he]; exact read_at 20 X N hN (by omega) wx Av cv hb hc (by omega))
  have R3 : Hid (∀ wx Av cv, Bs wx Av N X → N ≤ cv → Calls Tryd.prog 47 #[.slice Av N cv, .int .i64 28, .int .i64 8] wx fun q w' => q = .returned (.tuple #[.int .i64 p, .int .i64 0]) ∧ wx = w') := Lib.hid (fun wx Av cv hb hc => by rw [hp]; exact read_at 28 X N hN (by omega) wx Av cv hb hc (by omega))
  have CM : Hid (∀ wx, Calls Tryd.prog 37 #[.agg #[.int .i64 v, .int .i64 r, .int .i64 e, .int .i64 p]] wx fun q w' => q = .returned (.bool true) ∧ Below wx.heap.size wx w') := Lib.hid (fun wx => by have := smay_any ⟨v, r, e, p⟩ wx; rw [hm] at this; exact this)
  have CP : Hid (∀ wx, Calls Tryd.prog 39 #[.agg #[.int .i64 v, .int .i64 r, .int .i64 e, .int .i64 p]] wx fun q w' => q = .returned (.int .i64 (v % 2)) ∧ Below wx.heap.size wx w') := Lib.hid (fun wx => by
    have ez : v % 2 = (supPlace ⟨v, r, e, p⟩ : Nat) := by simp only [supPlace]; omega
    rw [ez]; exact splace_any ⟨v, r, e, p⟩ wx hm)
  obtain ⟨m2, hm2⟩ : ∃ m2, m2 = v % 2 := ⟨_, rfl⟩
  rw [← hm2] at CP hpl
  clear hm2
  clear hX hN hv hr he hp hm hq
  rcases hz with rfl | rfl
  all_goals (
    go_enter Tryd.func18, Tryd.ntmps18
    go_wp2_with (first | (go_at_call 44; (with_reducible refine C1.out.mono ?_); rintro r w1 ⟨Av, cv, rfl, hbs, hcv, hb⟩; have G1 : Hid (Below w.heap.size w w1) := Lib.hid (G0.out.trans (hb.mono G0.out.size)); have S1 : Hid (SupAt (w1.alloc (.cells #[.int .i64 0, .int .i64 0, .int .i64 0, .int .i64 0] 30)) w.heap.size 0 0 0 0) := Lib.hid ((S0.out.below hb).below ((Below.refl _ _).alloc (Nat.le_refl _) _)); have G2 : Hid (Below w.heap.size w (w1.alloc (.cells #[.int .i64 0, .int .i64 0, .int .i64 0, .int .i64 0] 30))) := Lib.hid (G1.out.alloc G1.out.size _); have SW : Hid (SupAt w1 w.heap.size 0 0 0 0) := Lib.hid (S0.out.below hb); have T1 := Lib.hid (SupAt.new w1 0 0 0 0); have X1 := Lib.hid hbs; have Hcv := Lib.hid hcv; obtain ⟨c0, c1, c2, c3⟩ := S1.out.cells; have f0 := S1.out.free 0; have f1 := S1.out.free 1; have f2 := S1.out.free 2; have f3 := S1.out.free 3; clear hb hbs hcv) | (go_at_call 40; (with_reducible refine (C2.out _).mono ?_); rintro r w3 ⟨A3, c3v, rfl, hb⟩; have G3 : Hid (Below w.heap.size w w3) := Lib.hid (G2.out.trans (hb.mono G2.out.size)); have S3 : Hid (SupAt w3 w.heap.size 0 0 0 0) := Lib.hid (S1.out.below hb); have X3 : Hid (Bs w3 Av N X) := Lib.hid ((X1.out.below ((Below.refl _ _).alloc (Nat.le_refl _) _)).below hb); obtain ⟨e0, e1, e2, e3⟩ := S3.out.cells; have g0 := S3.out.free 0; have g1 := S3.out.free 1; have g2 := S3.out.free 2; have g3 := S3.out.free 3; have T3 := Lib.hid (T1.out.below hb); have kc := Lib.run_convert_bytes_const (P := Tryd.prog) w3 31 5 #[.int .u8 67, .int .u8 70, .int .u8 82, .int .u8 84] 4 4 Tryd.underlying31 Tryd.underlying5; have L4 : Hid (Bs (w3.alloc (.cells #[.int .u8 67, .int .u8 70, .int .u8 82, .int .u8 84] 5 (4, 5))) (some ⟨w3.heap.size, 0, none⟩) 4 [67, 70, 82, 84]) := Lib.hid (lit_bytes w3 [67, 70, 82, 84] #[.int .u8 67, .int .u8 70, .int .u8 82, .int .u8 84] 4 (4, 5) rfl rfl (by omega)); have X4 : Hid (Bs (w3.alloc (.cells #[.int .u8 67, .int .u8 70, .int .u8 82, .int .u8 84] 5 (4, 5))) Av N X) := Lib.hid (X3.out.below ((Below.refl _ _).alloc (Nat.le_refl _) _)); have T4 := Lib.hid (T3.out.below ((Below.refl w3.heap.size w3).alloc (Nat.le_refl _) (.cells #[.int .u8 67, .int .u8 70, .int .u8 82, .int .u8 84] 5 (4, 5)))); have E4 : Hid (Below w1.heap.size w1 (w3.alloc (.cells #[.int .u8 67, .int .u8 70, .int .u8 82, .int .u8 84] 5 (4, 5)))) := Lib.hid ((((Below.refl w1.heap.size w1).alloc (Nat.le_refl _) (.cells #[.int .i64 0, .int .i64 0, .int .i64 0, .int .i64 0] 30)).trans (hb.mono (by simp))).alloc (Nat.le_trans (by simp) hb.size) _); have S4 : Hid (SupAt (w3.alloc (.cells #[.int .u8 67, .int .u8 70, .int .u8 82, .int .u8 84] 5 (4, 5))) w.heap.size 0 0 0 0) := Lib.hid (S3.out.below ((Below.refl _ _).alloc (Nat.le_refl _) _)); have G4 : Hid (Below w.heap.size w (w3.alloc (.cells #[.int .u8 67, .int .u8 70, .int .u8 82, .int .u8 84] 5 (4, 5)))) := Lib.hid (G3.out.alloc G3.out.size _);  clear hb) | (go_at_call 45; obtain ⟨ad, hav⟩ := some_of_bs X4.out HN.out; subst hav; (with_reducible refine (prefix_any ad _ N cv X [67, 70, 82, 84] _ X4.out L4.out HN.out Hcv.out).mono ?_); rintro r w5 ⟨rfl, hb⟩; have G5 : Hid (Below w.heap.size w w5) := Lib.hid (G4.out.trans (hb.mono G4.out.size)); have T5 := Lib.hid (T4.out.below hb); have E5 : Hid (Below w1.heap.size w1 w5) := Lib.hid (E4.out.trans (hb.mono E4.out.size)); have S5 : Hid (SupAt w5 w.heap.size 0 0 0 0) := Lib.hid (S4.out.below hb); clear hb) | (go_at_call 46; (with_reducible refine (snumbers_any _ _).mono ?_); rintro r w6 ⟨rfl, hb⟩; have T6 := Lib.hid (T5.out.below hb); have E6 : Hid (Below w1.heap.size w1 w6) := Lib.hid (E5.out.trans (hb.mono E5.out.size)); clear hb))
    obtain ⟨g1, hg1⟩ : ∃ g1, g1 = w1.heap.size := ⟨_, rfl⟩
    rw [← hg1] at E6 T6 ⊢
    have HWS : Hid (w.heap.size ≤ g1) := Lib.hid (by rw [hg1]; exact G1.out.size)
    have KX : Hid (∀ wr, Below g1 w1 wr → Bs wr (some ad) N X) := Lib.hid (fun wr h => X1.out.below (by rw [← hg1]; exact h))
    have KS : Hid (∀ wr, Below g1 w1 wr → SupAt wr w.heap.size 0 0 0 0) := Lib.hid (fun wr h => SW.out.below (by rw [← hg1]; exact h))
    have KG : Hid (∀ wr, Below g1 w1 wr → Below w.heap.size w wr) := Lib.hid (fun wr h => G1.out.trans (h.mono (by rw [hg1]; exact G1.out.size)))
    clear hg1
    go_loopw [49] (fun i wr => ∃ (k : Nat) (z : Int), k ≤ 4 ∧ i = .int .i64 z ∧ z = k ∧ Below g1 w1 wr ∧ SupAt wr g1 (if 0 < k then v else 0) (if 1 < k then r else 0) (if 2 < k then e else 0) (if 3 < k then p else 0)) (fun i _ => 4 - (intOf i).toNat)
    case atStart => exact ⟨0, 0, by omega, rfl, rfl, E6.out, T6.out⟩
    case round =>
      obtain ⟨k, zk, hk, rfl, hzk, hb, hs⟩ := hrel
      have Hb := Lib.hid hb
      clear hb
      have hcase : k = 0 ∨ k = 1 ∨ k = 2 ∨ k = 3 ∨ k = 4 := by omega
      rcases hcase with rfl | rfl | rfl | rfl | rfl
      · obtain rfl : zk = 0 := by omega
        have hs2 : SupAt wr g1 0 0 0 0 := hs
        have HS := Lib.hid hs2
        obtain ⟨d0, d1, d2, d3⟩ := hs2.cells
        have y0 := hs2.free 0
        have hix : (Instr.index 86 (.agg #[.pointer (some ⟨g1, 0, none⟩), .pointer (some ⟨g1, 1, none⟩), .pointer (some ⟨g1, 2, none⟩), .pointer (some ⟨g1, 3, none⟩)]) (.int .i64 0)).run Tryd.prog wr = .ok (.pointer (some ⟨g1, 0, none⟩)) wr := index_0 _ _ _ _ wr
        have C9 := Lib.hid (R0.out wr (some ad) cv (KX.out _ Hb.out) Hcv.out)
        clear hs hs2 hzk hk
        go_wp2_with (go_at_call 47; (with_reducible refine (C9.out).mono ?_); rintro q w7 ⟨rfl, rfl⟩)
        go_roundw
        case rel => exact ⟨1, 1, by omega, rfl, rfl, below_set Hb.out _ _ (Nat.le_refl _) _, HS.out.set0 _⟩
        case measure => simp [intOf]
      · obtain rfl : zk = 1 := by omega
        have hs2 : SupAt wr g1 v 0 0 0 := hs
        have HS := Lib.hid hs2
        obtain ⟨d0, d1, d2, d3⟩ := hs2.cells
        have y1 := hs2.free 1
        have hix : (Instr.index 86 (.agg #[.pointer (some ⟨g1, 0, none⟩), .pointer (some ⟨g1, 1, none⟩), .pointer (some ⟨g1, 2, none⟩), .pointer (some ⟨g1, 3, none⟩)]) (.int .i64 1)).run Tryd.prog wr = .ok (.pointer (some ⟨g1, 1, none⟩)) wr := index_1 _ _ _ _ wr
        have C9 := Lib.hid (R1.out wr (some ad) cv (KX.out _ Hb.out) Hcv.out)
        clear hs hs2 hzk hk
        go_wp2_with (go_at_call 47; (with_reducible refine (C9.out).mono ?_); rintro q w7 ⟨rfl, rfl⟩)
        go_roundw
        case rel => exact ⟨2, 2, by omega, rfl, rfl, below_set Hb.out _ _ (Nat.le_refl _) _, HS.out.set1 _⟩
        case measure => simp [intOf]
      · obtain rfl : zk = 2 := by omega
        have hs2 : SupAt wr g1 v r 0 0 := hs
        have HS := Lib.hid hs2
        obtain ⟨d0, d1, d2, d3⟩ := hs2.cells
        have y2 := hs2.free 2
        have hix : (Instr.index 86 (.agg #[.pointer (some ⟨g1, 0, none⟩), .pointer (some ⟨g1, 1, none⟩), .pointer (some ⟨g1, 2, none⟩), .pointer (some ⟨g1, 3, none⟩)]) (.int .i64 2)).run Tryd.prog wr = .ok (.pointer (some ⟨g1, 2, none⟩)) wr := index_2 _ _ _ _ wr
        have C9 := Lib.hid (R2.out wr (some ad) cv (KX.out _ Hb.out) Hcv.out)
        clear hs hs2 hzk hk
        go_wp2_with (go_at_call 47; (with_reducible refine (C9.out).mono ?_); rintro q w7 ⟨rfl, rfl⟩)
        go_roundw
        case rel => exact ⟨3, 3, by omega, rfl, rfl, below_set Hb.out _ _ (Nat.le_refl _) _, HS.out.set2 _⟩
        case measure => simp [intOf]
      · obtain rfl : zk = 3 := by omega
        have hs2 : SupAt wr g1 v r e 0 := hs
        have HS := Lib.hid hs2
        obtain ⟨d0, d1, d2, d3⟩ := hs2.cells
        have y3 := hs2.free 3
        have hix : (Instr.index 86 (.agg #[.pointer (some ⟨g1, 0, none⟩), .pointer (some ⟨g1, 1, none⟩), .pointer (some ⟨g1, 2, none⟩), .pointer (some ⟨g1, 3, none⟩)]) (.int .i64 3)).run Tryd.prog wr = .ok (.pointer (some ⟨g1, 3, none⟩)) wr := index_3 _ _ _ _ wr
        have C9 := Lib.hid (R3.out wr (some ad) cv (KX.out _ Hb.out) Hcv.out)
        clear hs hs2 hzk hk
        go_wp2_with (go_at_call 47; (with_reducible refine (C9.out).mono ?_); rintro q w7 ⟨rfl, rfl⟩)
        go_roundw
        case rel => exact ⟨4, 4, by omega, rfl, rfl, below_set Hb.out _ _ (Nat.le_refl _) _, HS.out.set3 _⟩
        case measure => simp [intOf]
      · obtain rfl : zk = 4 := by omega
        have hs2 : SupAt wr g1 v r e p := hs
        have HS := Lib.hid hs2
        obtain ⟨d0, d1, d2, d3⟩ := hs2.cells
        have BS : Hid (g1 ≤ wr.heap.size) := Lib.hid (Nat.le_of_lt hs2.lt)
        clear hs hs2 hzk hk
        go_wp2_with (first | (go_at_call 37; (with_reducible refine (CM.out _).mono ?_); rintro q w8 ⟨rfl, hb8⟩; have B8 : Hid (Below g1 w1 w8) := Lib.hid (Hb.out.trans (hb8.mono BS.out)); have HS8 := Lib.hid (HS.out.below hb8); obtain ⟨i0, i1, i2, i3⟩ := HS8.out.cells; have BS8 : Hid (wr.heap.size ≤ w8.heap.size) := Lib.hid hb8.size; clear hb8) | (go_at_call 39; (with_reducible refine (CP.out _).mono ?_); rintro q w9 ⟨rfl, hb9⟩; have B9 : Hid (Below g1 w1 w9) := Lib.hid (B8.out.trans (hb9.mono (Nat.le_trans BS.out BS8.out))); have HS9 := Lib.hid (HS8.out.below hb9); obtain ⟨j0, j1, j2, j3⟩ := HS9.out.cells; have S9 := Lib.hid (KS.out _ B9.out); obtain ⟨k0, k1, k2, k3⟩ := S9.out.cells; have h0 := S9.out.free 0; have h1 := S9.out.free 1; have h2 := S9.out.free 2; have h3 := S9.out.free 3; clear hb9))
        refine bodyPost_ret (results_row_tmp rfl _ _ w.heap.size 30 _ (0, 0) _ rfl (S9.out.four v r e p) Tryd.underlying30 rfl (by kernel_rfl)) rfl ⟨rfl, ?_⟩
        exact below_four (KG.out _ B9.out) _ (Nat.le_refl _) _ _ _ _)

set_option maxHeartbeats 8000000 in
theorem sopen_off (A : Option Addr) (n c N : Nat) (z v r e p : Int) (X : List UInt8) (w : World) (hz : z = 0 ∨ z = 1) (hN : N = 36) (hX : X.take 4 = [67, 70, 82, 84])
    (hv : v = (unle ((X.drop 4).take 8) : Nat)) (hr : r = (unle ((X.drop 12).take 8) : Nat)) (he : e = (unle ((X.drop 20).take 8) : Nat)) (hp : p = (unle ((X.drop 28).take 8) : Nat)) (hq : v ≤ 9223372036854775807 ∧ r ≤ 9223372036854775807 ∧ e ≤ 9223372036854775807 ∧ p ≤ 9223372036854775807) (hm : supMay ⟨v, r, e, p⟩ = true) (hpl : ¬ v % 2 = z)
    (CO : Hid (∀ wx, Below w.heap.size w wx → Calls Tryd.prog 44 #[.slice A n c, .int .i64 z] wx fun r w' => ∃ Av cv, r = .returned (.tuple #[.int .i64 1, .slice Av N cv, .int .i64 0]) ∧ Bs w' Av N X ∧ N ≤ cv ∧ Below wx.heap.size wx w')) :
    Calls Tryd.prog 18 #[.slice A n c, .int .i64 z] w fun q w' => q = .returned (.tuple #[Sup.zero.val, .int .i64 140]) ∧ Below w.heap.size w w' := by
  have C1 := Lib.hid (CO.out (w.alloc (.cells #[.int .i64 0, .int .i64 0, .int .i64 0, .int .i64 0] 30)) ((Below.refl _ _).alloc (Nat.le_refl _) _))
  have S0 := Lib.hid (SupAt.new w 0 0 0 0)
  have G0 : Hid (Below w.heap.size w (w.alloc (.cells #[.int .i64 0, .int .i64 0, .int .i64 0, .int .i64 0] 30))) := Lib.hid ((Below.refl _ _).alloc (Nat.le_refl _) _)
  have C2 := Lib.hid body_zero
  clear CO
  have HN : Hid (4 ≤ N) := Lib.hid (by omega)
  have hN2 : (N : Int) = 36 := by omega
  have hXd : decide (X.take 4 = [67, 70, 82, 84]) = true := decide_eq_true hX
  have R0 : Hid (∀ wx Av cv, Bs wx Av N X → N ≤ cv → Calls Tryd.prog 47 #[.slice Av N cv, .int .i64 4, .int .i64 8] wx fun q w' => q = .returned (.tuple #[.int .i64 v, .int .i64 0]) ∧ wx = w') := Lib.hid (fun wx Av cv hb hc => by rw [hv]; exact read_at 4 X N hN (by omega) wx Av cv hb hc (by omega))
  have R1 : Hid (∀ wx Av cv, Bs wx Av N X → N ≤ cv → Calls Tryd.prog 47 #[.slice Av N cv, .int .i64 12, .int .i64 8] wx fun q w' => q = .returned (.tuple #[.int .i64 r, .int .i64 0]) ∧ wx = w') := Lib.hid (fun wx Av cv hb hc => by rw [hr]; exact read_at 12 X N hN (by omega) wx Av cv hb hc (by omega))
  have R2 : Hid (∀ wx Av cv, Bs wx Av N X → N ≤ cv → Calls Tryd.prog 47 #[.slice Av N cv, .int .i64 20, .int .i64 8] wx fun q w' => q = .returned (.tuple #[.int .i64 e, .int .i64 0]) ∧ wx = w') := Lib.hid (fun wx Av cv hb hc => by rw [he]; exact read_at 20 X N hN (by omega) wx Av cv hb hc (by omega))
  have R3 : Hid (∀ wx Av cv, Bs wx Av N X → N ≤ cv → Calls Tryd.prog 47 #[.slice Av N cv, .int .i64 28, .int .i64 8] wx fun q w' => q = .returned (.tuple #[.int .i64 p, .int .i64 0]) ∧ wx = w') := Lib.hid (fun wx Av cv hb hc => by rw [hp]; exact read_at 28 X N hN (by omega) wx Av cv hb hc (by omega))
  have CM : Hid (∀ wx, Calls Tryd.prog 37 #[.agg #[.int .i64 v, .int .i64 r, .int .i64 e, .int .i64 p]] wx fun q w' => q = .returned (.bool true) ∧ Below wx.heap.size wx w') := Lib.hid (fun wx => by have := smay_any ⟨v, r, e, p⟩ wx; rw [hm] at this; exact this)
  have CP : Hid (∀ wx, Calls Tryd.prog 39 #[.agg #[.int .i64 v, .int .i64 r, .int .i64 e, .int .i64 p]] wx fun q w' => q = .returned (.int .i64 (v % 2)) ∧ Below wx.heap.size wx w') := Lib.hid (fun wx => by
    have ez : v % 2 = (supPlace ⟨v, r, e, p⟩ : Nat) := by simp only [supPlace]; omega
    rw [ez]; exact splace_any ⟨v, r, e, p⟩ wx hm)
  obtain ⟨m2, hm2⟩ : ∃ m2, m2 = v % 2 := ⟨_, rfl⟩
  rw [← hm2] at CP hpl
  clear hm2
  clear hX hN hv hr he hp hm hq
  rcases hz with rfl | rfl
  all_goals (
    go_enter Tryd.func18, Tryd.ntmps18
    go_wp2_with (first | (go_at_call 44; (with_reducible refine C1.out.mono ?_); rintro r w1 ⟨Av, cv, rfl, hbs, hcv, hb⟩; have G1 : Hid (Below w.heap.size w w1) := Lib.hid (G0.out.trans (hb.mono G0.out.size)); have S1 : Hid (SupAt (w1.alloc (.cells #[.int .i64 0, .int .i64 0, .int .i64 0, .int .i64 0] 30)) w.heap.size 0 0 0 0) := Lib.hid ((S0.out.below hb).below ((Below.refl _ _).alloc (Nat.le_refl _) _)); have G2 : Hid (Below w.heap.size w (w1.alloc (.cells #[.int .i64 0, .int .i64 0, .int .i64 0, .int .i64 0] 30))) := Lib.hid (G1.out.alloc G1.out.size _); have SW : Hid (SupAt w1 w.heap.size 0 0 0 0) := Lib.hid (S0.out.below hb); have T1 := Lib.hid (SupAt.new w1 0 0 0 0); have X1 := Lib.hid hbs; have Hcv := Lib.hid hcv; obtain ⟨c0, c1, c2, c3⟩ := S1.out.cells; have f0 := S1.out.free 0; have f1 := S1.out.free 1; have f2 := S1.out.free 2; have f3 := S1.out.free 3; clear hb hbs hcv) | (go_at_call 40; (with_reducible refine (C2.out _).mono ?_); rintro r w3 ⟨A3, c3v, rfl, hb⟩; have G3 : Hid (Below w.heap.size w w3) := Lib.hid (G2.out.trans (hb.mono G2.out.size)); have S3 : Hid (SupAt w3 w.heap.size 0 0 0 0) := Lib.hid (S1.out.below hb); have X3 : Hid (Bs w3 Av N X) := Lib.hid ((X1.out.below ((Below.refl _ _).alloc (Nat.le_refl _) _)).below hb); obtain ⟨e0, e1, e2, e3⟩ := S3.out.cells; have g0 := S3.out.free 0; have g1 := S3.out.free 1; have g2 := S3.out.free 2; have g3 := S3.out.free 3; have T3 := Lib.hid (T1.out.below hb); have kc := Lib.run_convert_bytes_const (P := Tryd.prog) w3 31 5 #[.int .u8 67, .int .u8 70, .int .u8 82, .int .u8 84] 4 4 Tryd.underlying31 Tryd.underlying5; have L4 : Hid (Bs (w3.alloc (.cells #[.int .u8 67, .int .u8 70, .int .u8 82, .int .u8 84] 5 (4, 5))) (some ⟨w3.heap.size, 0, none⟩) 4 [67, 70, 82, 84]) := Lib.hid (lit_bytes w3 [67, 70, 82, 84] #[.int .u8 67, .int .u8 70, .int .u8 82, .int .u8 84] 4 (4, 5) rfl rfl (by omega)); have X4 : Hid (Bs (w3.alloc (.cells #[.int .u8 67, .int .u8 70, .int .u8 82, .int .u8 84] 5 (4, 5))) Av N X) := Lib.hid (X3.out.below ((Below.refl _ _).alloc (Nat.le_refl _) _)); have T4 := Lib.hid (T3.out.below ((Below.refl w3.heap.size w3).alloc (Nat.le_refl _) (.cells #[.int .u8 67, .int .u8 70, .int .u8 82, .int .u8 84] 5 (4, 5)))); have E4 : Hid (Below w1.heap.size w1 (w3.alloc (.cells #[.int .u8 67, .int .u8 70, .int .u8 82, .int .u8 84] 5 (4, 5)))) := Lib.hid ((((Below.refl w1.heap.size w1).alloc (Nat.le_refl _) (.cells #[.int .i64 0, .int .i64 0, .int .i64 0, .int .i64 0] 30)).trans (hb.mono (by simp))).alloc (Nat.le_trans (by simp) hb.size) _); have S4 : Hid (SupAt (w3.alloc (.cells #[.int .u8 67, .int .u8 70, .int .u8 82, .int .u8 84] 5 (4, 5))) w.heap.size 0 0 0 0) := Lib.hid (S3.out.below ((Below.refl _ _).alloc (Nat.le_refl _) _)); have G4 : Hid (Below w.heap.size w (w3.alloc (.cells #[.int .u8 67, .int .u8 70, .int .u8 82, .int .u8 84] 5 (4, 5)))) := Lib.hid (G3.out.alloc G3.out.size _);  clear hb) | (go_at_call 45; obtain ⟨ad, hav⟩ := some_of_bs X4.out HN.out; subst hav; (with_reducible refine (prefix_any ad _ N cv X [67, 70, 82, 84] _ X4.out L4.out HN.out Hcv.out).mono ?_); rintro r w5 ⟨rfl, hb⟩; have G5 : Hid (Below w.heap.size w w5) := Lib.hid (G4.out.trans (hb.mono G4.out.size)); have T5 := Lib.hid (T4.out.below hb); have E5 : Hid (Below w1.heap.size w1 w5) := Lib.hid (E4.out.trans (hb.mono E4.out.size)); have S5 : Hid (SupAt w5 w.heap.size 0 0 0 0) := Lib.hid (S4.out.below hb); clear hb) | (go_at_call 46; (with_reducible refine (snumbers_any _ _).mono ?_); rintro r w6 ⟨rfl, hb⟩; have T6 := Lib.hid (T5.out.below hb); have E6 : Hid (Below w1.heap.size w1 w6) := Lib.hid (E5.out.trans (hb.mono E5.out.size)); clear hb))
    obtain ⟨g1, hg1⟩ : ∃ g1, g1 = w1.heap.size := ⟨_, rfl⟩
    rw [← hg1] at E6 T6 ⊢
    have HWS : Hid (w.heap.size ≤ g1) := Lib.hid (by rw [hg1]; exact G1.out.size)
    have KX : Hid (∀ wr, Below g1 w1 wr → Bs wr (some ad) N X) := Lib.hid (fun wr h => X1.out.below (by rw [← hg1]; exact h))
    have KS : Hid (∀ wr, Below g1 w1 wr → SupAt wr w.heap.size 0 0 0 0) := Lib.hid (fun wr h => SW.out.below (by rw [← hg1]; exact h))
    have KG : Hid (∀ wr, Below g1 w1 wr → Below w.heap.size w wr) := Lib.hid (fun wr h => G1.out.trans (h.mono (by rw [hg1]; exact G1.out.size)))
    clear hg1
    go_loopw [49] (fun i wr => ∃ (k : Nat) (z : Int), k ≤ 4 ∧ i = .int .i64 z ∧ z = k ∧ Below g1 w1 wr ∧ SupAt wr g1 (if 0 < k then v else 0) (if 1 < k then r else 0) (if 2 < k then e else 0) (if 3 < k then p else 0)) (fun i _ => 4 - (intOf i).toNat)
    case atStart => exact ⟨0, 0, by omega, rfl, rfl, E6.out, T6.out⟩
    case round =>
      obtain ⟨k, zk, hk, rfl, hzk, hb, hs⟩ := hrel
      have Hb := Lib.hid hb
      clear hb
      have hcase : k = 0 ∨ k = 1 ∨ k = 2 ∨ k = 3 ∨ k = 4 := by omega
      rcases hcase with rfl | rfl | rfl | rfl | rfl
      · obtain rfl : zk = 0 := by omega
        have hs2 : SupAt wr g1 0 0 0 0 := hs
        have HS := Lib.hid hs2
        obtain ⟨d0, d1, d2, d3⟩ := hs2.cells
        have y0 := hs2.free 0
        have hix : (Instr.index 86 (.agg #[.pointer (some ⟨g1, 0, none⟩), .pointer (some ⟨g1, 1, none⟩), .pointer (some ⟨g1, 2, none⟩), .pointer (some ⟨g1, 3, none⟩)]) (.int .i64 0)).run Tryd.prog wr = .ok (.pointer (some ⟨g1, 0, none⟩)) wr := index_0 _ _ _ _ wr
        have C9 := Lib.hid (R0.out wr (some ad) cv (KX.out _ Hb.out) Hcv.out)
        clear hs hs2 hzk hk
        go_wp2_with (go_at_call 47; (with_reducible refine (C9.out).mono ?_); rintro q w7 ⟨rfl, rfl⟩)
        go_roundw
        case rel => exact ⟨1, 1, by omega, rfl, rfl, below_set Hb.out _ _ (Nat.le_refl _) _, HS.out.set0 _⟩
        case measure => simp [intOf]
      · obtain rfl : zk = 1 := by omega
        have hs2 : SupAt wr g1 v 0 0 0 := hs
        have HS := Lib.hid hs2
        obtain ⟨d0, d1, d2, d3⟩ := hs2.cells
        have y1 := hs2.free 1
        have hix : (Instr.index 86 (.agg #[.pointer (some ⟨g1, 0, none⟩), .pointer (some ⟨g1, 1, none⟩), .pointer (some ⟨g1, 2, none⟩), .pointer (some ⟨g1, 3, none⟩)]) (.int .i64 1)).run Tryd.prog wr = .ok (.pointer (some ⟨g1, 1, none⟩)) wr := index_1 _ _ _ _ wr
        have C9 := Lib.hid (R1.out wr (some ad) cv (KX.out _ Hb.out) Hcv.out)
        clear hs hs2 hzk hk
        go_wp2_with (go_at_call 47; (with_reducible refine (C9.out).mono ?_); rintro q w7 ⟨rfl, rfl⟩)
        go_roundw
        case rel => exact ⟨2, 2, by omega, rfl, rfl, below_set Hb.out _ _ (Nat.le_refl _) _, HS.out.set1 _⟩
        case measure => simp [intOf]
      · obtain rfl : zk = 2 := by omega
        have hs2 : SupAt wr g1 v r 0 0 := hs
        have HS := Lib.hid hs2
        obtain ⟨d0, d1, d2, d3⟩ := hs2.cells
        have y2 := hs2.free 2
        have hix : (Instr.index 86 (.agg #[.pointer (some ⟨g1, 0, none⟩), .pointer (some ⟨g1, 1, none⟩), .pointer (some ⟨g1, 2, none⟩), .pointer (some ⟨g1, 3, none⟩)]) (.int .i64 2)).run Tryd.prog wr = .ok (.pointer (some ⟨g1, 2, none⟩)) wr := index_2 _ _ _ _ wr
        have C9 := Lib.hid (R2.out wr (some ad) cv (KX.out _ Hb.out) Hcv.out)
        clear hs hs2 hzk hk
        go_wp2_with (go_at_call 47; (with_reducible refine (C9.out).mono ?_); rintro q w7 ⟨rfl, rfl⟩)
        go_roundw
        case rel => exact ⟨3, 3, by omega, rfl, rfl, below_set Hb.out _ _ (Nat.le_refl _) _, HS.out.set2 _⟩
        case measure => simp [intOf]
      · obtain rfl : zk = 3 := by omega
        have hs2 : SupAt wr g1 v r e 0 := hs
        have HS := Lib.hid hs2
        obtain ⟨d0, d1, d2, d3⟩ := hs2.cells
        have y3 := hs2.free 3
        have hix : (Instr.index 86 (.agg #[.pointer (some ⟨g1, 0, none⟩), .pointer (some ⟨g1, 1, none⟩), .pointer (some ⟨g1, 2, none⟩), .pointer (some ⟨g1, 3, none⟩)]) (.int .i64 3)).run Tryd.prog wr = .ok (.pointer (some ⟨g1, 3, none⟩)) wr := index_3 _ _ _ _ wr
        have C9 := Lib.hid (R3.out wr (some ad) cv (KX.out _ Hb.out) Hcv.out)
        clear hs hs2 hzk hk
        go_wp2_with (go_at_call 47; (with_reducible refine (C9.out).mono ?_); rintro q w7 ⟨rfl, rfl⟩)
        go_roundw
        case rel => exact ⟨4, 4, by omega, rfl, rfl, below_set Hb.out _ _ (Nat.le_refl _) _, HS.out.set3 _⟩
        case measure => simp [intOf]
      · obtain rfl : zk = 4 := by omega
        have hs2 : SupAt wr g1 v r e p := hs
        have HS := Lib.hid hs2
        obtain ⟨d0, d1, d2, d3⟩ := hs2.cells
        have BS : Hid (g1 ≤ wr.heap.size) := Lib.hid (Nat.le_of_lt hs2.lt)
        clear hs hs2 hzk hk
        go_wp2_with (first | (go_at_call 37; (with_reducible refine (CM.out _).mono ?_); rintro q w8 ⟨rfl, hb8⟩; have B8 : Hid (Below g1 w1 w8) := Lib.hid (Hb.out.trans (hb8.mono BS.out)); have HS8 := Lib.hid (HS.out.below hb8); obtain ⟨i0, i1, i2, i3⟩ := HS8.out.cells; have BS8 : Hid (wr.heap.size ≤ w8.heap.size) := Lib.hid hb8.size; clear hb8) | (go_at_call 39; (with_reducible refine (CP.out _).mono ?_); rintro q w9 ⟨rfl, hb9⟩; have B9 : Hid (Below g1 w1 w9) := Lib.hid (B8.out.trans (hb9.mono (Nat.le_trans BS.out BS8.out))); have HS9 := Lib.hid (HS8.out.below hb9); obtain ⟨j0, j1, j2, j3⟩ := HS9.out.cells; have S9 := Lib.hid (KS.out _ B9.out); obtain ⟨k0, k1, k2, k3⟩ := S9.out.cells; have h0 := S9.out.free 0; have h1 := S9.out.free 1; have h2 := S9.out.free 2; have h3 := S9.out.free 3; clear hb9))
        refine bodyPost_ret (results_row_tmp rfl _ _ w.heap.size 30 _ (0, 0) _ rfl (S9.out.four 0 0 0 0) Tryd.underlying30 rfl (by kernel_rfl)) rfl ⟨rfl, ?_⟩
        exact below_four (KG.out _ B9.out) _ (Nat.le_refl _) _ _ _ _)

set_option maxHeartbeats 8000000 in
theorem sopen_maynot (A : Option Addr) (n c N : Nat) (z v r e p : Int) (X : List UInt8) (w : World) (hz : z = 0 ∨ z = 1) (hN : N = 36) (hX : X.take 4 = [67, 70, 82, 84])
    (hv : v = (unle ((X.drop 4).take 8) : Nat)) (hr : r = (unle ((X.drop 12).take 8) : Nat)) (he : e = (unle ((X.drop 20).take 8) : Nat)) (hp : p = (unle ((X.drop 28).take 8) : Nat)) (hq : v ≤ 9223372036854775807 ∧ r ≤ 9223372036854775807 ∧ e ≤ 9223372036854775807 ∧ p ≤ 9223372036854775807) (hm : supMay ⟨v, r, e, p⟩ = false)
    (CO : Hid (∀ wx, Below w.heap.size w wx → Calls Tryd.prog 44 #[.slice A n c, .int .i64 z] wx fun r w' => ∃ Av cv, r = .returned (.tuple #[.int .i64 1, .slice Av N cv, .int .i64 0]) ∧ Bs w' Av N X ∧ N ≤ cv ∧ Below wx.heap.size wx w')) :
    Calls Tryd.prog 18 #[.slice A n c, .int .i64 z] w fun q w' => q = .returned (.tuple #[Sup.zero.val, .int .i64 140]) ∧ Below w.heap.size w w' := by
  have C1 := Lib.hid (CO.out (w.alloc (.cells #[.int .i64 0, .int .i64 0, .int .i64 0, .int .i64 0] 30)) ((Below.refl _ _).alloc (Nat.le_refl _) _))
  have S0 := Lib.hid (SupAt.new w 0 0 0 0)
  have G0 : Hid (Below w.heap.size w (w.alloc (.cells #[.int .i64 0, .int .i64 0, .int .i64 0, .int .i64 0] 30))) := Lib.hid ((Below.refl _ _).alloc (Nat.le_refl _) _)
  have C2 := Lib.hid body_zero
  clear CO
  have HN : Hid (4 ≤ N) := Lib.hid (by omega)
  have hN2 : (N : Int) = 36 := by omega
  have hXd : decide (X.take 4 = [67, 70, 82, 84]) = true := decide_eq_true hX
  have R0 : Hid (∀ wx Av cv, Bs wx Av N X → N ≤ cv → Calls Tryd.prog 47 #[.slice Av N cv, .int .i64 4, .int .i64 8] wx fun q w' => q = .returned (.tuple #[.int .i64 v, .int .i64 0]) ∧ wx = w') := Lib.hid (fun wx Av cv hb hc => by rw [hv]; exact read_at 4 X N hN (by omega) wx Av cv hb hc (by omega))
  have R1 : Hid (∀ wx Av cv, Bs wx Av N X → N ≤ cv → Calls Tryd.prog 47 #[.slice Av N cv, .int .i64 12, .int .i64 8] wx fun q w' => q = .returned (.tuple #[.int .i64 r, .int .i64 0]) ∧ wx = w') := Lib.hid (fun wx Av cv hb hc => by rw [hr]; exact read_at 12 X N hN (by omega) wx Av cv hb hc (by omega))
  have R2 : Hid (∀ wx Av cv, Bs wx Av N X → N ≤ cv → Calls Tryd.prog 47 #[.slice Av N cv, .int .i64 20, .int .i64 8] wx fun q w' => q = .returned (.tuple #[.int .i64 e, .int .i64 0]) ∧ wx = w') := Lib.hid (fun wx Av cv hb hc => by rw [he]; exact read_at 20 X N hN (by omega) wx Av cv hb hc (by omega))
  have R3 : Hid (∀ wx Av cv, Bs wx Av N X → N ≤ cv → Calls Tryd.prog 47 #[.slice Av N cv, .int .i64 28, .int .i64 8] wx fun q w' => q = .returned (.tuple #[.int .i64 p, .int .i64 0]) ∧ wx = w') := Lib.hid (fun wx Av cv hb hc => by rw [hp]; exact read_at 28 X N hN (by omega) wx Av cv hb hc (by omega))
  have CM : Hid (∀ wx, Calls Tryd.prog 37 #[.agg #[.int .i64 v, .int .i64 r, .int .i64 e, .int .i64 p]] wx fun q w' => q = .returned (.bool false) ∧ Below wx.heap.size wx w') := Lib.hid (fun wx => by have := smay_any ⟨v, r, e, p⟩ wx; rw [hm] at this; exact this)
  clear hX hN hv hr he hp hm hq
  rcases hz with rfl | rfl
  all_goals (
    go_enter Tryd.func18, Tryd.ntmps18
    go_wp2_with (first | (go_at_call 44; (with_reducible refine C1.out.mono ?_); rintro r w1 ⟨Av, cv, rfl, hbs, hcv, hb⟩; have G1 : Hid (Below w.heap.size w w1) := Lib.hid (G0.out.trans (hb.mono G0.out.size)); have S1 : Hid (SupAt (w1.alloc (.cells #[.int .i64 0, .int .i64 0, .int .i64 0, .int .i64 0] 30)) w.heap.size 0 0 0 0) := Lib.hid ((S0.out.below hb).below ((Below.refl _ _).alloc (Nat.le_refl _) _)); have G2 : Hid (Below w.heap.size w (w1.alloc (.cells #[.int .i64 0, .int .i64 0, .int .i64 0, .int .i64 0] 30))) := Lib.hid (G1.out.alloc G1.out.size _); have SW : Hid (SupAt w1 w.heap.size 0 0 0 0) := Lib.hid (S0.out.below hb); have T1 := Lib.hid (SupAt.new w1 0 0 0 0); have X1 := Lib.hid hbs; have Hcv := Lib.hid hcv; obtain ⟨c0, c1, c2, c3⟩ := S1.out.cells; have f0 := S1.out.free 0; have f1 := S1.out.free 1; have f2 := S1.out.free 2; have f3 := S1.out.free 3; clear hb hbs hcv) | (go_at_call 40; (with_reducible refine (C2.out _).mono ?_); rintro r w3 ⟨A3, c3v, rfl, hb⟩; have G3 : Hid (Below w.heap.size w w3) := Lib.hid (G2.out.trans (hb.mono G2.out.size)); have S3 : Hid (SupAt w3 w.heap.size 0 0 0 0) := Lib.hid (S1.out.below hb); have X3 : Hid (Bs w3 Av N X) := Lib.hid ((X1.out.below ((Below.refl _ _).alloc (Nat.le_refl _) _)).below hb); obtain ⟨e0, e1, e2, e3⟩ := S3.out.cells; have g0 := S3.out.free 0; have g1 := S3.out.free 1; have g2 := S3.out.free 2; have g3 := S3.out.free 3; have T3 := Lib.hid (T1.out.below hb); have kc := Lib.run_convert_bytes_const (P := Tryd.prog) w3 31 5 #[.int .u8 67, .int .u8 70, .int .u8 82, .int .u8 84] 4 4 Tryd.underlying31 Tryd.underlying5; have L4 : Hid (Bs (w3.alloc (.cells #[.int .u8 67, .int .u8 70, .int .u8 82, .int .u8 84] 5 (4, 5))) (some ⟨w3.heap.size, 0, none⟩) 4 [67, 70, 82, 84]) := Lib.hid (lit_bytes w3 [67, 70, 82, 84] #[.int .u8 67, .int .u8 70, .int .u8 82, .int .u8 84] 4 (4, 5) rfl rfl (by omega)); have X4 : Hid (Bs (w3.alloc (.cells #[.int .u8 67, .int .u8 70, .int .u8 82, .int .u8 84] 5 (4, 5))) Av N X) := Lib.hid (X3.out.below ((Below.refl _ _).alloc (Nat.le_refl _) _)); have T4 := Lib.hid (T3.out.below ((Below.refl w3.heap.size w3).alloc (Nat.le_refl _) (.cells #[.int .u8 67, .int .u8 70, .int .u8 82, .int .u8 84] 5 (4, 5)))); have E4 : Hid (Below w1.heap.size w1 (w3.alloc (.cells #[.int .u8 67, .int .u8 70, .int .u8 82, .int .u8 84] 5 (4, 5)))) := Lib.hid ((((Below.refl w1.heap.size w1).alloc (Nat.le_refl _) (.cells #[.int .i64 0, .int .i64 0, .int .i64 0, .int .i64 0] 30)).trans (hb.mono (by simp))).alloc (Nat.le_trans (by simp) hb.size) _); have S4 : Hid (SupAt (w3.alloc (.cells #[.int .u8 67, .int .u8 70, .int .u8 82, .int .u8 84] 5 (4, 5))) w.heap.size 0 0 0 0) := Lib.hid (S3.out.below ((Below.refl _ _).alloc (Nat.le_refl _) _)); have G4 : Hid (Below w.heap.size w (w3.alloc (.cells #[.int .u8 67, .int .u8 70, .int .u8 82, .int .u8 84] 5 (4, 5)))) := Lib.hid (G3.out.alloc G3.out.size _);  clear hb) | (go_at_call 45; obtain ⟨ad, hav⟩ := some_of_bs X4.out HN.out; subst hav; (with_reducible refine (prefix_any ad _ N cv X [67, 70, 82, 84] _ X4.out L4.out HN.out Hcv.out).mono ?_); rintro r w5 ⟨rfl, hb⟩; have G5 : Hid (Below w.heap.size w w5) := Lib.hid (G4.out.trans (hb.mono G4.out.size)); have T5 := Lib.hid (T4.out.below hb); have E5 : Hid (Below w1.heap.size w1 w5) := Lib.hid (E4.out.trans (hb.mono E4.out.size)); have S5 : Hid (SupAt w5 w.heap.size 0 0 0 0) := Lib.hid (S4.out.below hb); clear hb) | (go_at_call 46; (with_reducible refine (snumbers_any _ _).mono ?_); rintro r w6 ⟨rfl, hb⟩; have T6 := Lib.hid (T5.out.below hb); have E6 : Hid (Below w1.heap.size w1 w6) := Lib.hid (E5.out.trans (hb.mono E5.out.size)); clear hb))
    obtain ⟨g1, hg1⟩ : ∃ g1, g1 = w1.heap.size := ⟨_, rfl⟩
    rw [← hg1] at E6 T6 ⊢
    have HWS : Hid (w.heap.size ≤ g1) := Lib.hid (by rw [hg1]; exact G1.out.size)
    have KX : Hid (∀ wr, Below g1 w1 wr → Bs wr (some ad) N X) := Lib.hid (fun wr h => X1.out.below (by rw [← hg1]; exact h))
    have KS : Hid (∀ wr, Below g1 w1 wr → SupAt wr w.heap.size 0 0 0 0) := Lib.hid (fun wr h => SW.out.below (by rw [← hg1]; exact h))
    have KG : Hid (∀ wr, Below g1 w1 wr → Below w.heap.size w wr) := Lib.hid (fun wr h => G1.out.trans (h.mono (by rw [hg1]; exact G1.out.size)))
    clear hg1
    go_loopw [49] (fun i wr => ∃ (k : Nat) (z : Int), k ≤ 4 ∧ i = .int .i64 z ∧ z = k ∧ Below g1 w1 wr ∧ SupAt wr g1 (if 0 < k then v else 0) (if 1 < k then r else 0) (if 2 < k then e else 0) (if 3 < k then p else 0)) (fun i _ => 4 - (intOf i).toNat)
    case atStart => exact ⟨0, 0, by omega, rfl, rfl, E6.out, T6.out⟩
    case round =>
      obtain ⟨k, zk, hk, rfl, hzk, hb, hs⟩ := hrel
      have Hb := Lib.hid hb
      clear hb
      have hcase : k = 0 ∨ k = 1 ∨ k = 2 ∨ k = 3 ∨ k = 4 := by omega
      rcases hcase with rfl | rfl | rfl | rfl | rfl
      · obtain rfl : zk = 0 := by omega
        have hs2 : SupAt wr g1 0 0 0 0 := hs
        have HS := Lib.hid hs2
        obtain ⟨d0, d1, d2, d3⟩ := hs2.cells
        have y0 := hs2.free 0
        have hix : (Instr.index 86 (.agg #[.pointer (some ⟨g1, 0, none⟩), .pointer (some ⟨g1, 1, none⟩), .pointer (some ⟨g1, 2, none⟩), .pointer (some ⟨g1, 3, none⟩)]) (.int .i64 0)).run Tryd.prog wr = .ok (.pointer (some ⟨g1, 0, none⟩)) wr := index_0 _ _ _ _ wr
        have C9 := Lib.hid (R0.out wr (some ad) cv (KX.out _ Hb.out) Hcv.out)
        clear hs hs2 hzk hk
        go_wp2_with (go_at_call 47; (with_reducible refine (C9.out).mono ?_); rintro q w7 ⟨rfl, rfl⟩)
        go_roundw
        case rel => exact ⟨1, 1, by omega, rfl, rfl, below_set Hb.out _ _ (Nat.le_refl _) _, HS.out.set0 _⟩
        case measure => simp [intOf]
      · obtain rfl : zk = 1 := by omega
        have hs2 : SupAt wr g1 v 0 0 0 := hs
        have HS := Lib.hid hs2
        obtain ⟨d0, d1, d2, d3⟩ := hs2.cells
        have y1 := hs2.free 1
        have hix : (Instr.index 86 (.agg #[.pointer (some ⟨g1, 0, none⟩), .pointer (some ⟨g1, 1, none⟩), .pointer (some ⟨g1, 2, none⟩), .pointer (some ⟨g1, 3, none⟩)]) (.int .i64 1)).run Tryd.prog wr = .ok (.pointer (some ⟨g1, 1, none⟩)) wr := index_1 _ _ _ _ wr
        have C9 := Lib.hid (R1.out wr (some ad) cv (KX.out _ Hb.out) Hcv.out)
        clear hs hs2 hzk hk
        go_wp2_with (go_at_call 47; (with_reducible refine (C9.out).mono ?_); rintro q w7 ⟨rfl, rfl⟩)
        go_roundw
        case rel => exact ⟨2, 2, by omega, rfl, rfl, below_set Hb.out _ _ (Nat.le_refl _) _, HS.out.set1 _⟩
        case measure => simp [intOf]
      · obtain rfl : zk = 2 := by omega
        have hs2 : SupAt wr g1 v r 0 0 := hs
        have HS := Lib.hid hs2
        obtain ⟨d0, d1, d2, d3⟩ := hs2.cells
        have y2 := hs2.free 2
        have hix : (Instr.index 86 (.agg #[.pointer (some ⟨g1, 0, none⟩), .pointer (some ⟨g1, 1, none⟩), .pointer (some ⟨g1, 2, none⟩), .pointer (some ⟨g1, 3, none⟩)]) (.int .i64 2)).run Tryd.prog wr = .ok (.pointer (some ⟨g1, 2, none⟩)) wr := index_2 _ _ _ _ wr
        have C9 := Lib.hid (R2.out wr (some ad) cv (KX.out _ Hb.out) Hcv.out)
        clear hs hs2 hzk hk
        go_wp2_with (go_at_call 47; (with_reducible refine (C9.out).mono ?_); rintro q w7 ⟨rfl, rfl⟩)
        go_roundw
        case rel => exact ⟨3, 3, by omega, rfl, rfl, below_set Hb.out _ _ (Nat.le_refl _) _, HS.out.set2 _⟩
        case measure => simp [intOf]
      · obtain rfl : zk = 3 := by omega
        have hs2 : SupAt wr g1 v r e 0 := hs
        have HS := Lib.hid hs2
        obtain ⟨d0, d1, d2, d3⟩ := hs2.cells
        have y3 := hs2.free 3
        have hix : (Instr.index 86 (.agg #[.pointer (some ⟨g1, 0, none⟩), .pointer (some ⟨g1, 1, none⟩), .pointer (some ⟨g1, 2, none⟩), .pointer (some ⟨g1, 3, none⟩)]) (.int .i64 3)).run Tryd.prog wr = .ok (.pointer (some ⟨g1, 3, none⟩)) wr := index_3 _ _ _ _ wr
        have C9 := Lib.hid (R3.out wr (some ad) cv (KX.out _ Hb.out) Hcv.out)
        clear hs hs2 hzk hk
        go_wp2_with (go_at_call 47; (with_reducible refine (C9.out).mono ?_); rintro q w7 ⟨rfl, rfl⟩)
        go_roundw
        case rel => exact ⟨4, 4, by omega, rfl, rfl, below_set Hb.out _ _ (Nat.le_refl _) _, HS.out.set3 _⟩
        case measure => simp [intOf]
      · obtain rfl : zk = 4 := by omega
        have hs2 : SupAt wr g1 v r e p := hs
        have HS := Lib.hid hs2
        obtain ⟨d0, d1, d2, d3⟩ := hs2.cells
        have BS : Hid (g1 ≤ wr.heap.size) := Lib.hid (Nat.le_of_lt hs2.lt)
        clear hs hs2 hzk hk
        go_wp2_with (go_at_call 37; (with_reducible refine (CM.out _).mono ?_); rintro q w8 ⟨rfl, hb8⟩; have B8 : Hid (Below g1 w1 w8) := Lib.hid (Hb.out.trans (hb8.mono BS.out)); have HS8 := Lib.hid (HS.out.below hb8); obtain ⟨i0, i1, i2, i3⟩ := HS8.out.cells; have S8 := Lib.hid (KS.out _ B8.out); obtain ⟨k0, k1, k2, k3⟩ := S8.out.cells; have h0 := S8.out.free 0; have h1 := S8.out.free 1; have h2 := S8.out.free 2; have h3 := S8.out.free 3; clear hb8)
        refine bodyPost_ret (results_row_tmp rfl _ _ w.heap.size 30 _ (0, 0) _ rfl (S8.out.four 0 0 0 0) Tryd.underlying30 rfl (by kernel_rfl)) rfl ⟨rfl, ?_⟩
        exact below_four (KG.out _ B8.out) _ (Nat.le_refl _) _ _ _ _)

set_option maxHeartbeats 8000000 in
theorem sopen_unread (A : Option Addr) (n c N : Nat) (z v r e p : Int) (X : List UInt8) (w : World) (hz : z = 0 ∨ z = 1) (hN : N = 36) (hX : X.take 4 = [67, 70, 82, 84])
    (hv : v = (unle ((X.drop 4).take 8) : Nat)) (hr : r = (unle ((X.drop 12).take 8) : Nat)) (he : e = (unle ((X.drop 20).take 8) : Nat)) (hp : p = (unle ((X.drop 28).take 8) : Nat)) (hu : supReads X = false)
    (CO : Hid (∀ wx, Below w.heap.size w wx → Calls Tryd.prog 44 #[.slice A n c, .int .i64 z] wx fun r w' => ∃ Av cv, r = .returned (.tuple #[.int .i64 1, .slice Av N cv, .int .i64 0]) ∧ Bs w' Av N X ∧ N ≤ cv ∧ Below wx.heap.size wx w')) :
    Calls Tryd.prog 18 #[.slice A n c, .int .i64 z] w fun q w' => q = .returned (.tuple #[Sup.zero.val, .int .i64 140]) ∧ Below w.heap.size w w' := by
  have C1 := Lib.hid (CO.out (w.alloc (.cells #[.int .i64 0, .int .i64 0, .int .i64 0, .int .i64 0] 30)) ((Below.refl _ _).alloc (Nat.le_refl _) _))
  have S0 := Lib.hid (SupAt.new w 0 0 0 0)
  have G0 : Hid (Below w.heap.size w (w.alloc (.cells #[.int .i64 0, .int .i64 0, .int .i64 0, .int .i64 0] 30))) := Lib.hid ((Below.refl _ _).alloc (Nat.le_refl _) _)
  have C2 := Lib.hid body_zero
  clear CO
  have HN : Hid (4 ≤ N) := Lib.hid (by omega)
  have hN2 : (N : Int) = 36 := by omega
  have hXd : decide (X.take 4 = [67, 70, 82, 84]) = true := decide_eq_true hX
  have R0 : Hid ((v ≤ 9223372036854775807) → ∀ wx Av cv, Bs wx Av N X → N ≤ cv → Calls Tryd.prog 47 #[.slice Av N cv, .int .i64 4, .int .i64 8] wx fun q w' => q = .returned (.tuple #[.int .i64 v, .int .i64 0]) ∧ wx = w') := Lib.hid (fun hh wx Av cv hb hc => by rw [hv]; exact read_at 4 X N hN (by omega) wx Av cv hb hc (by omega))
  have Q0 : Hid (¬ (v ≤ 9223372036854775807) → ∀ wx Av cv, Bs wx Av N X → N ≤ cv → Calls Tryd.prog 47 #[.slice Av N cv, .int .i64 4, .int .i64 8] wx fun q w' => q = .returned (.tuple #[.int .i64 0, .int .i64 111]) ∧ wx = w') := Lib.hid (fun hh wx Av cv hb hc => read_not 4 X N hN (by omega) wx Av cv hb hc (by omega))
  have R1 : Hid ((r ≤ 9223372036854775807) → ∀ wx Av cv, Bs wx Av N X → N ≤ cv → Calls Tryd.prog 47 #[.slice Av N cv, .int .i64 12, .int .i64 8] wx fun q w' => q = .returned (.tuple #[.int .i64 r, .int .i64 0]) ∧ wx = w') := Lib.hid (fun hh wx Av cv hb hc => by rw [hr]; exact read_at 12 X N hN (by omega) wx Av cv hb hc (by omega))
  have Q1 : Hid (¬ (r ≤ 9223372036854775807) → ∀ wx Av cv, Bs wx Av N X → N ≤ cv → Calls Tryd.prog 47 #[.slice Av N cv, .int .i64 12, .int .i64 8] wx fun q w' => q = .returned (.tuple #[.int .i64 0, .int .i64 111]) ∧ wx = w') := Lib.hid (fun hh wx Av cv hb hc => read_not 12 X N hN (by omega) wx Av cv hb hc (by omega))
  have R2 : Hid ((e ≤ 9223372036854775807) → ∀ wx Av cv, Bs wx Av N X → N ≤ cv → Calls Tryd.prog 47 #[.slice Av N cv, .int .i64 20, .int .i64 8] wx fun q w' => q = .returned (.tuple #[.int .i64 e, .int .i64 0]) ∧ wx = w') := Lib.hid (fun hh wx Av cv hb hc => by rw [he]; exact read_at 20 X N hN (by omega) wx Av cv hb hc (by omega))
  have Q2 : Hid (¬ (e ≤ 9223372036854775807) → ∀ wx Av cv, Bs wx Av N X → N ≤ cv → Calls Tryd.prog 47 #[.slice Av N cv, .int .i64 20, .int .i64 8] wx fun q w' => q = .returned (.tuple #[.int .i64 0, .int .i64 111]) ∧ wx = w') := Lib.hid (fun hh wx Av cv hb hc => read_not 20 X N hN (by omega) wx Av cv hb hc (by omega))
  have R3 : Hid ((p ≤ 9223372036854775807) → ∀ wx Av cv, Bs wx Av N X → N ≤ cv → Calls Tryd.prog 47 #[.slice Av N cv, .int .i64 28, .int .i64 8] wx fun q w' => q = .returned (.tuple #[.int .i64 p, .int .i64 0]) ∧ wx = w') := Lib.hid (fun hh wx Av cv hb hc => by rw [hp]; exact read_at 28 X N hN (by omega) wx Av cv hb hc (by omega))
  have Q3 : Hid (¬ (p ≤ 9223372036854775807) → ∀ wx Av cv, Bs wx Av N X → N ≤ cv → Calls Tryd.prog 47 #[.slice Av N cv, .int .i64 28, .int .i64 8] wx fun q w' => q = .returned (.tuple #[.int .i64 0, .int .i64 111]) ∧ wx = w') := Lib.hid (fun hh wx Av cv hb hc => read_not 28 X N hN (by omega) wx Av cv hb hc (by omega))
  have HU := Lib.hid hu
  have HV4 : Hid (v = (unle ((X.drop 4).take 8) : Nat) ∧ r = (unle ((X.drop 12).take 8) : Nat) ∧ e = (unle ((X.drop 20).take 8) : Nat) ∧ p = (unle ((X.drop 28).take 8) : Nat)) := Lib.hid ⟨hv, hr, he, hp⟩
  clear hu
  clear hX hN hv hr he hp 
  rcases hz with rfl | rfl
  all_goals (
    go_enter Tryd.func18, Tryd.ntmps18
    go_wp2_with (first | (go_at_call 44; (with_reducible refine C1.out.mono ?_); rintro r w1 ⟨Av, cv, rfl, hbs, hcv, hb⟩; have G1 : Hid (Below w.heap.size w w1) := Lib.hid (G0.out.trans (hb.mono G0.out.size)); have S1 : Hid (SupAt (w1.alloc (.cells #[.int .i64 0, .int .i64 0, .int .i64 0, .int .i64 0] 30)) w.heap.size 0 0 0 0) := Lib.hid ((S0.out.below hb).below ((Below.refl _ _).alloc (Nat.le_refl _) _)); have G2 : Hid (Below w.heap.size w (w1.alloc (.cells #[.int .i64 0, .int .i64 0, .int .i64 0, .int .i64 0] 30))) := Lib.hid (G1.out.alloc G1.out.size _); have SW : Hid (SupAt w1 w.heap.size 0 0 0 0) := Lib.hid (S0.out.below hb); have T1 := Lib.hid (SupAt.new w1 0 0 0 0); have X1 := Lib.hid hbs; have Hcv := Lib.hid hcv; obtain ⟨c0, c1, c2, c3⟩ := S1.out.cells; have f0 := S1.out.free 0; have f1 := S1.out.free 1; have f2 := S1.out.free 2; have f3 := S1.out.free 3; clear hb hbs hcv) | (go_at_call 40; (with_reducible refine (C2.out _).mono ?_); rintro r w3 ⟨A3, c3v, rfl, hb⟩; have G3 : Hid (Below w.heap.size w w3) := Lib.hid (G2.out.trans (hb.mono G2.out.size)); have S3 : Hid (SupAt w3 w.heap.size 0 0 0 0) := Lib.hid (S1.out.below hb); have X3 : Hid (Bs w3 Av N X) := Lib.hid ((X1.out.below ((Below.refl _ _).alloc (Nat.le_refl _) _)).below hb); obtain ⟨e0, e1, e2, e3⟩ := S3.out.cells; have g0 := S3.out.free 0; have g1 := S3.out.free 1; have g2 := S3.out.free 2; have g3 := S3.out.free 3; have T3 := Lib.hid (T1.out.below hb); have kc := Lib.run_convert_bytes_const (P := Tryd.prog) w3 31 5 #[.int .u8 67, .int .u8 70, .int .u8 82, .int .u8 84] 4 4 Tryd.underlying31 Tryd.underlying5; have L4 : Hid (Bs (w3.alloc (.cells #[.int .u8 67, .int .u8 70, .int .u8 82, .int .u8 84] 5 (4, 5))) (some ⟨w3.heap.size, 0, none⟩) 4 [67, 70, 82, 84]) := Lib.hid (lit_bytes w3 [67, 70, 82, 84] #[.int .u8 67, .int .u8 70, .int .u8 82, .int .u8 84] 4 (4, 5) rfl rfl (by omega)); have X4 : Hid (Bs (w3.alloc (.cells #[.int .u8 67, .int .u8 70, .int .u8 82, .int .u8 84] 5 (4, 5))) Av N X) := Lib.hid (X3.out.below ((Below.refl _ _).alloc (Nat.le_refl _) _)); have T4 := Lib.hid (T3.out.below ((Below.refl w3.heap.size w3).alloc (Nat.le_refl _) (.cells #[.int .u8 67, .int .u8 70, .int .u8 82, .int .u8 84] 5 (4, 5)))); have E4 : Hid (Below w1.heap.size w1 (w3.alloc (.cells #[.int .u8 67, .int .u8 70, .int .u8 82, .int .u8 84] 5 (4, 5)))) := Lib.hid ((((Below.refl w1.heap.size w1).alloc (Nat.le_refl _) (.cells #[.int .i64 0, .int .i64 0, .int .i64 0, .int .i64 0] 30)).trans (hb.mono (by simp))).alloc (Nat.le_trans (by simp) hb.size) _); have S4 : Hid (SupAt (w3.alloc (.cells #[.int .u8 67, .int .u8 70, .int .u8 82, .int .u8 84] 5 (4, 5))) w.heap.size 0 0 0 0) := Lib.hid (S3.out.below ((Below.refl _ _).alloc (Nat.le_refl _) _)); have G4 : Hid (Below w.heap.size w (w3.alloc (.cells #[.int .u8 67, .int .u8 70, .int .u8 82, .int .u8 84] 5 (4, 5)))) := Lib.hid (G3.out.alloc G3.out.size _);  clear hb) | (go_at_call 45; obtain ⟨ad, hav⟩ := some_of_bs X4.out HN.out; subst hav; (with_reducible refine (prefix_any ad _ N cv X [67, 70, 82, 84] _ X4.out L4.out HN.out Hcv.out).mono ?_); rintro r w5 ⟨rfl, hb⟩; have G5 : Hid (Below w.heap.size w w5) := Lib.hid (G4.out.trans (hb.mono G4.out.size)); have T5 := Lib.hid (T4.out.below hb); have E5 : Hid (Below w1.heap.size w1 w5) := Lib.hid (E4.out.trans (hb.mono E4.out.size)); have S5 : Hid (SupAt w5 w.heap.size 0 0 0 0) := Lib.hid (S4.out.below hb); clear hb) | (go_at_call 46; (with_reducible refine (snumbers_any _ _).mono ?_); rintro r w6 ⟨rfl, hb⟩; have T6 := Lib.hid (T5.out.below hb); have E6 : Hid (Below w1.heap.size w1 w6) := Lib.hid (E5.out.trans (hb.mono E5.out.size)); clear hb))
    obtain ⟨g1, hg1⟩ : ∃ g1, g1 = w1.heap.size := ⟨_, rfl⟩
    rw [← hg1] at E6 T6 ⊢
    have HWS : Hid (w.heap.size ≤ g1) := Lib.hid (by rw [hg1]; exact G1.out.size)
    have KX : Hid (∀ wr, Below g1 w1 wr → Bs wr (some ad) N X) := Lib.hid (fun wr h => X1.out.below (by rw [← hg1]; exact h))
    have KS : Hid (∀ wr, Below g1 w1 wr → SupAt wr w.heap.size 0 0 0 0) := Lib.hid (fun wr h => SW.out.below (by rw [← hg1]; exact h))
    have KG : Hid (∀ wr, Below g1 w1 wr → Below w.heap.size w wr) := Lib.hid (fun wr h => G1.out.trans (h.mono (by rw [hg1]; exact G1.out.size)))
    clear hg1
    go_loopw [49] (fun i wr => ∃ (k : Nat) (z : Int), k ≤ 4 ∧ i = .int .i64 z ∧ z = k ∧ Below g1 w1 wr ∧ SupAt wr g1 (if 0 < k then v else 0) (if 1 < k then r else 0) (if 2 < k then e else 0) (if 3 < k then p else 0) ∧ (0 < k → v ≤ 9223372036854775807) ∧ (1 < k → r ≤ 9223372036854775807) ∧ (2 < k → e ≤ 9223372036854775807) ∧ (3 < k → p ≤ 9223372036854775807)) (fun i _ => 4 - (intOf i).toNat)
    case atStart => exact ⟨0, 0, by omega, rfl, rfl, E6.out, T6.out, by omega, by omega, by omega, by omega⟩
    case round =>
      obtain ⟨k, zk, hk, rfl, hzk, hb, hs, p0, p1, p2, p3⟩ := hrel
      have Hb := Lib.hid hb
      clear hb
      have hcase : k = 0 ∨ k = 1 ∨ k = 2 ∨ k = 3 ∨ k = 4 := by omega
      rcases hcase with rfl | rfl | rfl | rfl | rfl
      · obtain rfl : zk = 0 := by omega
        have hs2 : SupAt wr g1 0 0 0 0 := hs
        have HS := Lib.hid hs2
        obtain ⟨d0, d1, d2, d3⟩ := hs2.cells
        have y0 := hs2.free 0
        have hix : (Instr.index 86 (.agg #[.pointer (some ⟨g1, 0, none⟩), .pointer (some ⟨g1, 1, none⟩), .pointer (some ⟨g1, 2, none⟩), .pointer (some ⟨g1, 3, none⟩)]) (.int .i64 0)).run Tryd.prog wr = .ok (.pointer (some ⟨g1, 0, none⟩)) wr := index_0 _ _ _ _ wr
        by_cases hg : v ≤ 9223372036854775807
        · have P0 := Lib.hid hg
          have C9 := Lib.hid (R0.out hg wr (some ad) cv (KX.out _ Hb.out) Hcv.out)
          clear hs hs2 hzk hk p0 p1 p2 p3 hg
          go_wp2_with (go_at_call 47; (with_reducible refine (C9.out).mono ?_); rintro q w7 ⟨rfl, rfl⟩)
          go_roundw
          case rel => exact ⟨1, 1, by omega, rfl, rfl, below_set Hb.out _ _ (Nat.le_refl _) _, HS.out.set0 _, fun _ => P0.out, by omega, by omega, by omega⟩
          case measure => simp [intOf]
        · have C9 := Lib.hid (Q0.out (by omega) wr (some ad) cv (KX.out _ Hb.out) Hcv.out)
          have B9 : Hid (Below g1 w1 (wr.setCell ⟨g1, 0, none⟩ (.int .i64 0))) := Lib.hid (below_set Hb.out _ _ (Nat.le_refl _) _)
          have S9 := Lib.hid (KS.out _ B9.out)
          obtain ⟨k0, k1, k2, k3⟩ := S9.out.cells
          have h0 := S9.out.free 0; have h1 := S9.out.free 1; have h2 := S9.out.free 2; have h3 := S9.out.free 3
          clear hs hs2 hzk hk p0 p1 p2 p3 hg
          go_wp2_with (go_at_call 47; (with_reducible refine (C9.out).mono ?_); rintro q w7 ⟨rfl, rfl⟩)
          refine bodyPost_ret (results_row_tmp rfl _ _ w.heap.size 30 _ (0, 0) _ rfl (S9.out.four 0 0 0 0) Tryd.underlying30 rfl (by kernel_rfl)) rfl ⟨rfl, ?_⟩
          exact below_four (KG.out _ B9.out) _ (Nat.le_refl _) _ _ _ _
      · obtain rfl : zk = 1 := by omega
        have hs2 : SupAt wr g1 v 0 0 0 := hs
        have HS := Lib.hid hs2
        obtain ⟨d0, d1, d2, d3⟩ := hs2.cells
        have y1 := hs2.free 1
        have hix : (Instr.index 86 (.agg #[.pointer (some ⟨g1, 0, none⟩), .pointer (some ⟨g1, 1, none⟩), .pointer (some ⟨g1, 2, none⟩), .pointer (some ⟨g1, 3, none⟩)]) (.int .i64 1)).run Tryd.prog wr = .ok (.pointer (some ⟨g1, 1, none⟩)) wr := index_1 _ _ _ _ wr
        have P0 : Hid (v ≤ 9223372036854775807) := Lib.hid (p0 (by omega))
        by_cases hg : r ≤ 9223372036854775807
        · have P1 := Lib.hid hg
          have C9 := Lib.hid (R1.out hg wr (some ad) cv (KX.out _ Hb.out) Hcv.out)
          clear hs hs2 hzk hk p0 p1 p2 p3 hg
          go_wp2_with (go_at_call 47; (with_reducible refine (C9.out).mono ?_); rintro q w7 ⟨rfl, rfl⟩)
          go_roundw
          case rel => exact ⟨2, 2, by omega, rfl, rfl, below_set Hb.out _ _ (Nat.le_refl _) _, HS.out.set1 _, fun _ => P0.out, fun _ => P1.out, by omega, by omega⟩
          case measure => simp [intOf]
        · have C9 := Lib.hid (Q1.out (by omega) wr (some ad) cv (KX.out _ Hb.out) Hcv.out)
          have B9 : Hid (Below g1 w1 (wr.setCell ⟨g1, 1, none⟩ (.int .i64 0))) := Lib.hid (below_set Hb.out _ _ (Nat.le_refl _) _)
          have S9 := Lib.hid (KS.out _ B9.out)
          obtain ⟨k0, k1, k2, k3⟩ := S9.out.cells
          have h0 := S9.out.free 0; have h1 := S9.out.free 1; have h2 := S9.out.free 2; have h3 := S9.out.free 3
          clear hs hs2 hzk hk p0 p1 p2 p3 hg
          go_wp2_with (go_at_call 47; (with_reducible refine (C9.out).mono ?_); rintro q w7 ⟨rfl, rfl⟩)
          refine bodyPost_ret (results_row_tmp rfl _ _ w.heap.size 30 _ (0, 0) _ rfl (S9.out.four 0 0 0 0) Tryd.underlying30 rfl (by kernel_rfl)) rfl ⟨rfl, ?_⟩
          exact below_four (KG.out _ B9.out) _ (Nat.le_refl _) _ _ _ _
      · obtain rfl : zk = 2 := by omega
        have hs2 : SupAt wr g1 v r 0 0 := hs
        have HS := Lib.hid hs2
        obtain ⟨d0, d1, d2, d3⟩ := hs2.cells
        have y2 := hs2.free 2
        have hix : (Instr.index 86 (.agg #[.pointer (some ⟨g1, 0, none⟩), .pointer (some ⟨g1, 1, none⟩), .pointer (some ⟨g1, 2, none⟩), .pointer (some ⟨g1, 3, none⟩)]) (.int .i64 2)).run Tryd.prog wr = .ok (.pointer (some ⟨g1, 2, none⟩)) wr := index_2 _ _ _ _ wr
        have P0 : Hid (v ≤ 9223372036854775807) := Lib.hid (p0 (by omega))
        have P1 : Hid (r ≤ 9223372036854775807) := Lib.hid (p1 (by omega))
        by_cases hg : e ≤ 9223372036854775807
        · have P2 := Lib.hid hg
          have C9 := Lib.hid (R2.out hg wr (some ad) cv (KX.out _ Hb.out) Hcv.out)
          clear hs hs2 hzk hk p0 p1 p2 p3 hg
          go_wp2_with (go_at_call 47; (with_reducible refine (C9.out).mono ?_); rintro q w7 ⟨rfl, rfl⟩)
          go_roundw
          case rel => exact ⟨3, 3, by omega, rfl, rfl, below_set Hb.out _ _ (Nat.le_refl _) _, HS.out.set2 _, fun _ => P0.out, fun _ => P1.out, fun _ => P2.out, by omega⟩
          case measure => simp [intOf]
        · have C9 := Lib.hid (Q2.out (by omega) wr (some ad) cv (KX.out _ Hb.out) Hcv.out)
          have B9 : Hid (Below g1 w1 (wr.setCell ⟨g1, 2, none⟩ (.int .i64 0))) := Lib.hid (below_set Hb.out _ _ (Nat.le_refl _) _)
          have S9 := Lib.hid (KS.out _ B9.out)
          obtain ⟨k0, k1, k2, k3⟩ := S9.out.cells
          have h0 := S9.out.free 0; have h1 := S9.out.free 1; have h2 := S9.out.free 2; have h3 := S9.out.free 3
          clear hs hs2 hzk hk p0 p1 p2 p3 hg
          go_wp2_with (go_at_call 47; (with_reducible refine (C9.out).mono ?_); rintro q w7 ⟨rfl, rfl⟩)
          refine bodyPost_ret (results_row_tmp rfl _ _ w.heap.size 30 _ (0, 0) _ rfl (S9.out.four 0 0 0 0) Tryd.underlying30 rfl (by kernel_rfl)) rfl ⟨rfl, ?_⟩
          exact below_four (KG.out _ B9.out) _ (Nat.le_refl _) _ _ _ _
      · obtain rfl : zk = 3 := by omega
        have hs2 : SupAt wr g1 v r e 0 := hs
        have HS := Lib.hid hs2
        obtain ⟨d0, d1, d2, d3⟩ := hs2.cells
        have y3 := hs2.free 3
        have hix : (Instr.index 86 (.agg #[.pointer (some ⟨g1, 0, none⟩), .pointer (some ⟨g1, 1, none⟩), .pointer (some ⟨g1, 2, none⟩), .pointer (some ⟨g1, 3, none⟩)]) (.int .i64 3)).run Tryd.prog wr = .ok (.pointer (some ⟨g1, 3, none⟩)) wr := index_3 _ _ _ _ wr
        have P0 : Hid (v ≤ 9223372036854775807) := Lib.hid (p0 (by omega))
        have P1 : Hid (r ≤ 9223372036854775807) := Lib.hid (p1 (by omega))
        have P2 : Hid (e ≤ 9223372036854775807) := Lib.hid (p2 (by omega))
        by_cases hg : p ≤ 9223372036854775807
        · have P3 := Lib.hid hg
          have C9 := Lib.hid (R3.out hg wr (some ad) cv (KX.out _ Hb.out) Hcv.out)
          clear hs hs2 hzk hk p0 p1 p2 p3 hg
          go_wp2_with (go_at_call 47; (with_reducible refine (C9.out).mono ?_); rintro q w7 ⟨rfl, rfl⟩)
          go_roundw
          case rel => exact ⟨4, 4, by omega, rfl, rfl, below_set Hb.out _ _ (Nat.le_refl _) _, HS.out.set3 _, fun _ => P0.out, fun _ => P1.out, fun _ => P2.out, fun _ => P3.out⟩
          case measure => simp [intOf]
        · have C9 := Lib.hid (Q3.out (by omega) wr (some ad) cv (KX.out _ Hb.out) Hcv.out)
          have B9 : Hid (Below g1 w1 (wr.setCell ⟨g1, 3, none⟩ (.int .i64 0))) := Lib.hid (below_set Hb.out _ _ (Nat.le_refl _) _)
          have S9 := Lib.hid (KS.out _ B9.out)
          obtain ⟨k0, k1, k2, k3⟩ := S9.out.cells
          have h0 := S9.out.free 0; have h1 := S9.out.free 1; have h2 := S9.out.free 2; have h3 := S9.out.free 3
          clear hs hs2 hzk hk p0 p1 p2 p3 hg
          go_wp2_with (go_at_call 47; (with_reducible refine (C9.out).mono ?_); rintro q w7 ⟨rfl, rfl⟩)
          refine bodyPost_ret (results_row_tmp rfl _ _ w.heap.size 30 _ (0, 0) _ rfl (S9.out.four 0 0 0 0) Tryd.underlying30 rfl (by kernel_rfl)) rfl ⟨rfl, ?_⟩
          exact below_four (KG.out _ B9.out) _ (Nat.le_refl _) _ _ _ _
      · exfalso
        have p0' := p0 (by omega)
        have p1' := p1 (by omega)
        have p2' := p2 (by omega)
        have p3' := p3 (by omega)
        obtain ⟨q0, q1, q2, q3⟩ := HV4.out
        have hu := HU.out
        simp only [supReads, decide_eq_false_iff_not] at hu
        omega)

end Go.Proofs.YteljopjaolegaaaDoor
