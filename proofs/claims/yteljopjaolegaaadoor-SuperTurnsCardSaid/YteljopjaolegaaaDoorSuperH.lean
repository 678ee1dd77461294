/-
  CONTRACTS: the reference's Open (14): the numbers. (Printed by rsuperopen.py.)
-/
import Derived.Test.YteljopjaolegaaaDoorSuperG
namespace Go.Proofs.YteljopjaolegaaaDoor
open Go.RowKit
set_option maxRecDepth 100000
set_option linter.unusedVariables false
set_option linter.unusedSimpArgs false

set_option maxHeartbeats 8000000 in
theorem rsopen_unread (A : Option Addr) (n c N : Nat) (z v r e p : Int) (X : List UInt8) (w : World) (hz : z = 0 ∨ z = 1) (hN : N = 36) (hX : X.take 4 = [67, 70, 82, 84])
    (hv : v = (unle ((X.drop 4).take 8) : Nat)) (hr : r = (unle ((X.drop 12).take 8) : Nat)) (he : e = (unle ((X.drop 20).take 8) : Nat)) (hp : p = (unle ((X.drop 28).take 8) : Nat)) (hu : supReads X = false)
    (CO : Hid (∀ wx, Below w.heap.size w wx → Calls Tryd.prog 48 #[.slice A n c, .int .i64 z] wx fun r w' => ∃ Av cv, r = .returned (.tuple #[.int .i64 1, .slice Av N cv, .int .i64 0]) ∧ Bs w' Av N X ∧ N ≤ cv ∧ Below wx.heap.size wx w')) :
    Calls Tryd.prog 20 #[.slice A n c, .int .i64 z] w fun q w' => q = .returned (.tuple #[Sup.zero.val, .int .i64 140]) ∧ Below w.heap.size w w' := by
  have Hinfo := Lib.hid info_int
  have C1 := Lib.hid (CO.out (w.alloc (.cells #[.int .i64 0, .int .i64 0, .int .i64 0, .int .i64 0] 30)) ((Below.refl _ _).alloc (Nat.le_refl _) _))
  have S0 := Lib.hid (SupAt.new w 0 0 0 0)
  have G0 : Hid (Below w.heap.size w (w.alloc (.cells #[.int .i64 0, .int .i64 0, .int .i64 0, .int .i64 0] 30))) := Lib.hid ((Below.refl _ _).alloc (Nat.le_refl _) _)
  clear CO
  have HN : Hid (4 ≤ N) := Lib.hid (by omega)
  have hN2 : (N : Int) = 36 := by omega
  have hXd : ((strB (X.take 4)).toList == [67, 70, 82, 84]) = true := by rw [strB, ByteArray.toList_mk]; simpa using hX
  have Hc8 : Hid (∀ k, k ≤ 4 → k + 1 ≤ maxLen ∧ (k + 1) * 8 ≤ 140737488355328) := Lib.hid (fun k h => by simp only [maxLen]; omega)
  have R0 : Hid ((v ≤ 9223372036854775807) → ∀ wx Av cv, Bs wx Av N X → Calls Tryd.prog 49 #[.slice Av N cv, .int .i64 4, .int .i64 8] wx fun q w' => q = .returned (.tuple #[.int .i64 v, .int .i64 0]) ∧ wx = w') := Lib.hid (fun hh wx Av cv hb => by rw [hv]; exact rread_at 4 X N hN (by omega) wx Av cv hb (by omega))
  have Q0 : Hid (¬ (v ≤ 9223372036854775807) → ∀ wx Av cv, Bs wx Av N X → Calls Tryd.prog 49 #[.slice Av N cv, .int .i64 4, .int .i64 8] wx fun q w' => q = .returned (.tuple #[.int .i64 0, .int .i64 111]) ∧ wx = w') := Lib.hid (fun hh wx Av cv hb => rread_not 4 X N hN (by omega) wx Av cv hb (by omega))
  have R1 : Hid ((r ≤ 9223372036854775807) → ∀ wx Av cv, Bs wx Av N X → Calls Tryd.prog 49 #[.slice Av N cv, .int .i64 12, .int .i64 8] wx fun q w' => q = .returned (.tuple #[.int .i64 r, .int .i64 0]) ∧ wx = w') := Lib.hid (fun hh wx Av cv hb => by rw [hr]; exact rread_at 12 X N hN (by omega) wx Av cv hb (by omega))
  have Q1 : Hid (¬ (r ≤ 9223372036854775807) → ∀ wx Av cv, Bs wx Av N X → Calls Tryd.prog 49 #[.slice Av N cv, .int .i64 12, .int .i64 8] wx fun q w' => q = .returned (.tuple #[.int .i64 0, .int .i64 111]) ∧ wx = w') := Lib.hid (fun hh wx Av cv hb => rread_not 12 X N hN (by omega) wx Av cv hb (by omega))
  have R2 : Hid ((e ≤ 9223372036854775807) → ∀ wx Av cv, Bs wx Av N X → Calls Tryd.prog 49 #[.slice Av N cv, .int .i64 20, .int .i64 8] wx fun q w' => q = .returned (.tuple #[.int .i64 e, .int .i64 0]) ∧ wx = w') := Lib.hid (fun hh wx Av cv hb => by rw [he]; exact rread_at 20 X N hN (by omega) wx Av cv hb (by omega))
  have Q2 : Hid (¬ (e ≤ 9223372036854775807) → ∀ wx Av cv, Bs wx Av N X → Calls Tryd.prog 49 #[.slice Av N cv, .int .i64 20, .int .i64 8] wx fun q w' => q = .returned (.tuple #[.int .i64 0, .int .i64 111]) ∧ wx = w') := Lib.hid (fun hh wx Av cv hb => rread_not 20 X N hN (by omega) wx Av cv hb (by omega))
  have R3 : Hid ((p ≤ 9223372036854775807) → ∀ wx Av cv, Bs wx Av N X → Calls Tryd.prog 49 #[.slice Av N cv, .int .i64 28, .int .i64 8] wx fun q w' => q = .returned (.tuple #[.int .i64 p, .int .i64 0]) ∧ wx = w') := Lib.hid (fun hh wx Av cv hb => by rw [hp]; exact rread_at 28 X N hN (by omega) wx Av cv hb (by omega))
  have Q3 : Hid (¬ (p ≤ 9223372036854775807) → ∀ wx Av cv, Bs wx Av N X → Calls Tryd.prog 49 #[.slice Av N cv, .int .i64 28, .int .i64 8] wx fun q w' => q = .returned (.tuple #[.int .i64 0, .int .i64 111]) ∧ wx = w') := Lib.hid (fun hh wx Av cv hb => rread_not 28 X N hN (by omega) wx Av cv hb (by omega))
  have HU := Lib.hid hu
  have HV4 : Hid (v = (unle ((X.drop 4).take 8) : Nat) ∧ r = (unle ((X.drop 12).take 8) : Nat) ∧ e = (unle ((X.drop 20).take 8) : Nat) ∧ p = (unle ((X.drop 28).take 8) : Nat)) := Lib.hid ⟨hv, hr, he, hp⟩
  clear hu
  clear hX hN hv hr he hp 
  rcases hz with rfl | rfl
  all_goals (
    go_enter Tryd.func20, Tryd.ntmps20
    go_wp2_with (go_at_call 48; (with_reducible refine C1.out.mono ?_); rintro q w1 ⟨Av, cv, rfl, hbs, hcv, hb⟩; have G1 : Hid (Below w.heap.size w w1) := Lib.hid (G0.out.trans (hb.mono G0.out.size)); have S1 : Hid (SupAt w1 w.heap.size 0 0 0 0) := Lib.hid (S0.out.below hb); have X1 := Lib.hid hbs; have Hcv := Lib.hid hcv; obtain ⟨c0, c1, c2, c3⟩ := S1.out.cells; have f0 := S1.out.free 0; have f1 := S1.out.free 1; have f2 := S1.out.free 2; have f3 := S1.out.free 3; obtain ⟨ad, hav⟩ := some_of_bs X1.out HN.out; subst hav; have kc := run_convert_bs (X1.out.head 4 HN.out) cv; have h4c : (4 : Int) ≤ (cv : Int) := (by have := Hcv.out; have := HN.out; omega);  clear hb hbs hcv)
    obtain ⟨g1, hg1⟩ : ∃ g1, g1 = w1.heap.size := ⟨_, rfl⟩
    have HWS : Hid (w.heap.size ≤ g1) := Lib.hid (by rw [hg1]; exact G1.out.size)
    have KX : Hid (∀ wr, Below g1 w1 wr → Bs wr (some ad) N X) := Lib.hid (fun wr h => X1.out.below (by rw [← hg1]; exact h))
    have KS : Hid (∀ wr, Below g1 w1 wr → SupAt wr w.heap.size 0 0 0 0) := Lib.hid (fun wr h => S1.out.below (by rw [← hg1]; exact h))
    have KG : Hid (∀ wr, Below g1 w1 wr → Below w.heap.size w wr) := Lib.hid (fun wr h => G1.out.trans (h.mono (by rw [hg1]; exact G1.out.size)))
    have KB : Hid (∀ wr, Below g1 w1 wr → g1 ≤ wr.heap.size) := Lib.hid (fun wr h => by rw [hg1]; exact h.size)
    clear hg1 kc c0 c1 c2 c3 f0 f1 f2 f3
    go_loopw [9, 10] (fun l i wr => ∃ (k : Nat) (z : Int), k ≤ 4 ∧ i = .int .i64 z ∧ z = k ∧ Below g1 w1 wr ∧ wr.ownsRow g1 3 1 l k (intsV ([v, r, e, p].take k)) ∧ (0 < k → v ≤ 9223372036854775807) ∧ (1 < k → r ≤ 9223372036854775807) ∧ (2 < k → e ≤ 9223372036854775807) ∧ (3 < k → p ≤ 9223372036854775807)) (fun _ i _ => 4 - (intOf i).toNat)
    case atStart => exact ⟨0, 0, by omega, rfl, rfl, Below.refl _ _, ⟨rfl, .inl ⟨rfl, rfl⟩⟩, by omega, by omega, by omega, by omega⟩
    case round =>
      obtain ⟨k, zk, hk, rfl, hzk, hb, hs, p0, p1, p2, p3⟩ := hrel
      have Hb := Lib.hid hb
      clear hb
      have hcase : k = 0 ∨ k = 1 ∨ k = 2 ∨ k = 3 ∨ k = 4 := by omega
      rcases hcase with rfl | rfl | rfl | rfl | rfl
      · obtain rfl : zk = 0 := by omega
        have O := Lib.hid hs
        have Hc1 := Lib.hid (Hc8.out 0 (by omega)).1
        have Hc2 := Lib.hid (Hc8.out 0 (by omega)).2
        by_cases hg : v ≤ 9223372036854775807
        · have P0 := Lib.hid hg
          have C9 := Lib.hid (R0.out hg wr (some ad) cv (KX.out _ Hb.out))
          clear hs hzk hk p0 p1 p2 p3 hg
          go_wp2_with (first | (go_at_call 49; (with_reducible refine (C9.out).mono ?_); rintro q w7 ⟨rfl, rfl⟩) | (at_builtin; refine wpList_append_one rfl _ _ 49 rfl g1 3 (.int .i64 0) 8 Tryd.underlying49 Hinfo.out rfl u9 0 (intsV ([v, r, e, p].take 0)) (.int .i64 v) rfl O.out rfl rfl Hc1.out Hc2.out (KB.out _ Hb.out) ?_; intro v' w9 ho hg hla; have O9 : Hid (w9.ownsRow g1 3 1 v' (0 + 1) (intsV ([v, r, e, p].take (0 + 1)))) := Lib.hid ho; have G9 : Hid (Below g1 w1 w9) := Lib.hid (Hb.out.grown hg (KB.out _ Hb.out) (fun i hi => (O.out.lt i hi).1)); clear ho hg hla))
          go_roundw
          case rel => exact ⟨1, 1, by omega, rfl, rfl, G9.out, O9.out, fun _ => P0.out, by omega, by omega, by omega⟩
          case measure => simp [intOf]
        · have C9 := Lib.hid (Q0.out (by omega) wr (some ad) cv (KX.out _ Hb.out))
          have S9 := Lib.hid (KS.out _ Hb.out)
          obtain ⟨k0, k1, k2, k3⟩ := S9.out.cells
          have h0 := S9.out.free 0; have h1 := S9.out.free 1; have h2 := S9.out.free 2; have h3 := S9.out.free 3
          clear hs hzk hk p0 p1 p2 p3 hg
          go_wp2_with (go_at_call 49; (with_reducible refine (C9.out).mono ?_); rintro q w7 ⟨rfl, rfl⟩)
          refine bodyPost_ret (results_row_tmp rfl _ _ w.heap.size 30 _ (0, 0) _ rfl (S9.out.four 0 0 0 0) Tryd.underlying30 rfl (by kernel_rfl)) rfl ⟨rfl, ?_⟩
          exact below_four (KG.out _ Hb.out) _ (Nat.le_refl _) _ _ _ _
      · obtain rfl : zk = 1 := by omega
        have O := Lib.hid hs
        have Hc1 := Lib.hid (Hc8.out 1 (by omega)).1
        have Hc2 := Lib.hid (Hc8.out 1 (by omega)).2
        have P0 : Hid (v ≤ 9223372036854775807) := Lib.hid (p0 (by omega))
        by_cases hg : r ≤ 9223372036854775807
        · have P1 := Lib.hid hg
          have C9 := Lib.hid (R1.out hg wr (some ad) cv (KX.out _ Hb.out))
          clear hs hzk hk p0 p1 p2 p3 hg
          go_wp2_with (first | (go_at_call 49; (with_reducible refine (C9.out).mono ?_); rintro q w7 ⟨rfl, rfl⟩) | (at_builtin; refine wpList_append_one rfl _ _ 49 rfl g1 3 (.int .i64 0) 8 Tryd.underlying49 Hinfo.out rfl u9 1 (intsV ([v, r, e, p].take 1)) (.int .i64 r) rfl O.out rfl rfl Hc1.out Hc2.out (KB.out _ Hb.out) ?_; intro v' w9 ho hg hla; have O9 : Hid (w9.ownsRow g1 3 1 v' (1 + 1) (intsV ([v, r, e, p].take (1 + 1)))) := Lib.hid ho; have G9 : Hid (Below g1 w1 w9) := Lib.hid (Hb.out.grown hg (KB.out _ Hb.out) (fun i hi => (O.out.lt i hi).1)); clear ho hg hla))
          go_roundw
          case rel => exact ⟨2, 2, by omega, rfl, rfl, G9.out, O9.out, fun _ => P0.out, fun _ => P1.out, by omega, by omega⟩
          case measure => simp [intOf]
        · have C9 := Lib.hid (Q1.out (by omega) wr (some ad) cv (KX.out _ Hb.out))
          have S9 := Lib.hid (KS.out _ Hb.out)
          obtain ⟨k0, k1, k2, k3⟩ := S9.out.cells
          have h0 := S9.out.free 0; have h1 := S9.out.free 1; have h2 := S9.out.free 2; have h3 := S9.out.free 3
          clear hs hzk hk p0 p1 p2 p3 hg
          go_wp2_with (go_at_call 49; (with_reducible refine (C9.out).mono ?_); rintro q w7 ⟨rfl, rfl⟩)
          refine bodyPost_ret (results_row_tmp rfl _ _ w.heap.size 30 _ (0, 0) _ rfl (S9.out.four 0 0 0 0) Tryd.underlying30 rfl (by kernel_rfl)) rfl ⟨rfl, ?_⟩
          exact below_four (KG.out _ Hb.out) _ (Nat.le_refl _) _ _ _ _
      · obtain rfl : zk = 2 := by omega
        have O := Lib.hid hs
        have Hc1 := Lib.hid (Hc8.out 2 (by omega)).1
        have Hc2 := Lib.hid (Hc8.out 2 (by omega)).2
        have P0 : Hid (v ≤ 9223372036854775807) := Lib.hid (p0 (by omega))
        have P1 : Hid (r ≤ 9223372036854775807) := Lib.hid (p1 (by omega))
        by_cases hg : e ≤ 9223372036854775807
        · have P2 := Lib.hid hg
          have C9 := Lib.hid (R2.out hg wr (some ad) cv (KX.out _ Hb.out))
          clear hs hzk hk p0 p1 p2 p3 hg
          go_wp2_with (first | (go_at_call 49; (with_reducible refine (C9.out).mono ?_); rintro q w7 ⟨rfl, rfl⟩) | (at_builtin; refine wpList_append_one rfl _ _ 49 rfl g1 3 (.int .i64 0) 8 Tryd.underlying49 Hinfo.out rfl u9 2 (intsV ([v, r, e, p].take 2)) (.int .i64 e) rfl O.out rfl rfl Hc1.out Hc2.out (KB.out _ Hb.out) ?_; intro v' w9 ho hg hla; have O9 : Hid (w9.ownsRow g1 3 1 v' (2 + 1) (intsV ([v, r, e, p].take (2 + 1)))) := Lib.hid ho; have G9 : Hid (Below g1 w1 w9) := Lib.hid (Hb.out.grown hg (KB.out _ Hb.out) (fun i hi => (O.out.lt i hi).1)); clear ho hg hla))
          go_roundw
          case rel => exact ⟨3, 3, by omega, rfl, rfl, G9.out, O9.out, fun _ => P0.out, fun _ => P1.out, fun _ => P2.out, by omega⟩
          case measure => simp [intOf]
        · have C9 := Lib.hid (Q2.out (by omega) wr (some ad) cv (KX.out _ Hb.out))
          have S9 := Lib.hid (KS.out _ Hb.out)
          obtain ⟨k0, k1, k2, k3⟩ := S9.out.cells
          have h0 := S9.out.free 0; have h1 := S9.out.free 1; have h2 := S9.out.free 2; have h3 := S9.out.free 3
          clear hs hzk hk p0 p1 p2 p3 hg
          go_wp2_with (go_at_call 49; (with_reducible refine (C9.out).mono ?_); rintro q w7 ⟨rfl, rfl⟩)
          refine bodyPost_ret (results_row_tmp rfl _ _ w.heap.size 30 _ (0, 0) _ rfl (S9.out.four 0 0 0 0) Tryd.underlying30 rfl (by kernel_rfl)) rfl ⟨rfl, ?_⟩
          exact below_four (KG.out _ Hb.out) _ (Nat.le_refl _) _ _ _ _
      · obtain rfl : zk = 3 := by omega
        have O := Lib.hid hs
        have Hc1 := Lib.hid (Hc8.out 3 (by omega)).1
        have Hc2 := Lib.hid (Hc8.out 3 (by omega)).2
        have P0 : Hid (v ≤ 9223372036854775807) := Lib.hid (p0 (by omega))
        have P1 : Hid (r ≤ 9223372036854775807) := Lib.hid (p1 (by omega))
        have P2 : Hid (e ≤ 9223372036854775807) := Lib.hid (p2 (by omega))
        by_cases hg : p ≤ 9223372036854775807
        · have P3 := Lib.hid hg
          have C9 := Lib.hid (R3.out hg wr (some ad) cv (KX.out _ Hb.out))
          clear hs hzk hk p0 p1 p2 p3 hg
          go_wp2_with (first | (go_at_call 49; (with_reducible refine (C9.out).mono ?_); rintro q w7 ⟨rfl, rfl⟩) | (at_builtin; refine wpList_append_one rfl _ _ 49 rfl g1 3 (.int .i64 0) 8 Tryd.underlying49 Hinfo.out rfl u9 3 (intsV ([v, r, e, p].take 3)) (.int .i64 p) rfl O.out rfl rfl Hc1.out Hc2.out (KB.out _ Hb.out) ?_; intro v' w9 ho hg hla; have O9 : Hid (w9.ownsRow g1 3 1 v' (3 + 1) (intsV ([v, r, e, p].take (3 + 1)))) := Lib.hid ho; have G9 : Hid (Below g1 w1 w9) := Lib.hid (Hb.out.grown hg (KB.out _ Hb.out) (fun i hi => (O.out.lt i hi).1)); clear ho hg hla))
          go_roundw
          case rel => exact ⟨4, 4, by omega, rfl, rfl, G9.out, O9.out, fun _ => P0.out, fun _ => P1.out, fun _ => P2.out, fun _ => P3.out⟩
          case measure => simp [intOf]
        · have C9 := Lib.hid (Q3.out (by omega) wr (some ad) cv (KX.out _ Hb.out))
          have S9 := Lib.hid (KS.out _ Hb.out)
          obtain ⟨k0, k1, k2, k3⟩ := S9.out.cells
          have h0 := S9.out.free 0; have h1 := S9.out.free 1; have h2 := S9.out.free 2; have h3 := S9.out.free 3
          clear hs hzk hk p0 p1 p2 p3 hg
          go_wp2_with (go_at_call 49; (with_reducible refine (C9.out).mono ?_); rintro q w7 ⟨rfl, rfl⟩)
          refine bodyPost_ret (results_row_tmp rfl _ _ w.heap.size 30 _ (0, 0) _ rfl (S9.out.four 0 0 0 0) Tryd.underlying30 rfl (by kernel_rfl)) rfl ⟨rfl, ?_⟩
          exact below_four (KG.out _ Hb.out) _ (Nat.le_refl _) _ _ _ _
      · exfalso
        have p0' := p0 (by omega)
        have p1' := p1 (by omega)
        have p2' := p2 (by omega)
        have p3' := p3 (by omega)
        obtain ⟨q0, q1, q2, q3⟩ := HV4.out
        have hu := HU.out
        simp only [supReads, decide_eq_false_iff_not] at hu
        omega)

set_option maxHeartbeats 8000000 in
theorem rsopen_fine (A : Option Addr) (n c N : Nat) (z v r e p : Int) (X : List UInt8) (w : World) (hz : z = 0 ∨ z = 1) (hN : N = 36) (hX : X.take 4 = [67, 70, 82, 84])
    (hv : v = (unle ((X.drop 4).take 8) : Nat)) (hr : r = (unle ((X.drop 12).take 8) : Nat)) (he : e = (unle ((X.drop 20).take 8) : Nat)) (hp : p = (unle ((X.drop 28).take 8) : Nat)) (hq : v ≤ 9223372036854775807 ∧ r ≤ 9223372036854775807 ∧ e ≤ 9223372036854775807 ∧ p ≤ 9223372036854775807) (hm : supMay ⟨v, r, e, p⟩ = true) (hpl : v % 2 = z)
    (CO : Hid (∀ wx, Below w.heap.size w wx → Calls Tryd.prog 48 #[.slice A n c, .int .i64 z] wx fun r w' => ∃ Av cv, r = .returned (.tuple #[.int .i64 1, .slice Av N cv, .int .i64 0]) ∧ Bs w' Av N X ∧ N ≤ cv ∧ Below wx.heap.size wx w')) :
    Calls Tryd.prog 20 #[.slice A n c, .int .i64 z] w fun q w' => q = .returned (.tuple #[.agg #[.int .i64 v, .int .i64 r, .int .i64 e, .int .i64 p], .int .i64 0]) ∧ Below w.heap.size w w' := by
  have Hinfo := Lib.hid info_int
  have C1 := Lib.hid (CO.out (w.alloc (.cells #[.int .i64 0, .int .i64 0, .int .i64 0, .int .i64 0] 30)) ((Below.refl _ _).alloc (Nat.le_refl _) _))
  have S0 := Lib.hid (SupAt.new w 0 0 0 0)
  have G0 : Hid (Below w.heap.size w (w.alloc (.cells #[.int .i64 0, .int .i64 0, .int .i64 0, .int .i64 0] 30))) := Lib.hid ((Below.refl _ _).alloc (Nat.le_refl _) _)
  clear CO
  have HN : Hid (4 ≤ N) := Lib.hid (by omega)
  have hN2 : (N : Int) = 36 := by omega
  have hXd : ((strB (X.take 4)).toList == [67, 70, 82, 84]) = true := by rw [strB, ByteArray.toList_mk]; simpa using hX
  have Hc8 : Hid (∀ k, k ≤ 4 → k + 1 ≤ maxLen ∧ (k + 1) * 8 ≤ 140737488355328) := Lib.hid (fun k h => by simp only [maxLen]; omega)
  have R0 : Hid (∀ wx Av cv, Bs wx Av N X → Calls Tryd.prog 49 #[.slice Av N cv, .int .i64 4, .int .i64 8] wx fun q w' => q = .returned (.tuple #[.int .i64 v, .int .i64 0]) ∧ wx = w') := Lib.hid (fun wx Av cv hb => by rw [hv]; exact rread_at 4 X N hN (by omega) wx Av cv hb (by omega))
  have R1 : Hid (∀ wx Av cv, Bs wx Av N X → Calls Tryd.prog 49 #[.slice Av N cv, .int .i64 12, .int .i64 8] wx fun q w' => q = .returned (.tuple #[.int .i64 r, .int .i64 0]) ∧ wx = w') := Lib.hid (fun wx Av cv hb => by rw [hr]; exact rread_at 12 X N hN (by omega) wx Av cv hb (by omega))
  have R2 : Hid (∀ wx Av cv, Bs wx Av N X → Calls Tryd.prog 49 #[.slice Av N cv, .int .i64 20, .int .i64 8] wx fun q w' => q = .returned (.tuple #[.int .i64 e, .int .i64 0]) ∧ wx = w') := Lib.hid (fun wx Av cv hb => by rw [he]; exact rread_at 20 X N hN (by omega) wx Av cv hb (by omega))
  have R3 : Hid (∀ wx Av cv, Bs wx Av N X → Calls Tryd.prog 49 #[.slice Av N cv, .int .i64 28, .int .i64 8] wx fun q w' => q = .returned (.tuple #[.int .i64 p, .int .i64 0]) ∧ wx = w') := Lib.hid (fun wx Av cv hb => by rw [hp]; exact rread_at 28 X N hN (by omega) wx Av cv hb (by omega))
  have CM : Hid (∀ wx, Calls Tryd.prog 41 #[.agg #[.int .i64 v, .int .i64 r, .int .i64 e, .int .i64 p]] wx fun q w' => q = .returned (.bool true) ∧ Below wx.heap.size wx w') := Lib.hid (fun wx => by have := rsmay_any ⟨v, r, e, p⟩ wx; rw [hm] at this; exact this)
  have hv0 : 0 ≤ v := by omega
  have hpl2 : v.tmod 2 = v % 2 := Int.tmod_eq_emod_of_nonneg hv0
  have hpl3 : (v.tmod 2 != z) = false := by rw [hpl2]; simp [hpl]
  have hpl4 : (v % 2 != z) = false := by simp [hpl]
  have hpl5 : (v.tmod 2 = z) := by rw [hpl2]; exact hpl
  clear hpl2
  clear hX hN hv hr he hp hm hq
  rcases hz with rfl | rfl
  all_goals (
    go_enter Tryd.func20, Tryd.ntmps20
    go_wp2_with (go_at_call 48; (with_reducible refine C1.out.mono ?_); rintro q w1 ⟨Av, cv, rfl, hbs, hcv, hb⟩; have G1 : Hid (Below w.heap.size w w1) := Lib.hid (G0.out.trans (hb.mono G0.out.size)); have S1 : Hid (SupAt w1 w.heap.size 0 0 0 0) := Lib.hid (S0.out.below hb); have X1 := Lib.hid hbs; have Hcv := Lib.hid hcv; obtain ⟨c0, c1, c2, c3⟩ := S1.out.cells; have f0 := S1.out.free 0; have f1 := S1.out.free 1; have f2 := S1.out.free 2; have f3 := S1.out.free 3; obtain ⟨ad, hav⟩ := some_of_bs X1.out HN.out; subst hav; have kc := run_convert_bs (X1.out.head 4 HN.out) cv; have h4c : (4 : Int) ≤ (cv : Int) := (by have := Hcv.out; have := HN.out; omega);  clear hb hbs hcv)
    obtain ⟨g1, hg1⟩ : ∃ g1, g1 = w1.heap.size := ⟨_, rfl⟩
    have HWS : Hid (w.heap.size ≤ g1) := Lib.hid (by rw [hg1]; exact G1.out.size)
    have KX : Hid (∀ wr, Below g1 w1 wr → Bs wr (some ad) N X) := Lib.hid (fun wr h => X1.out.below (by rw [← hg1]; exact h))
    have KS : Hid (∀ wr, Below g1 w1 wr → SupAt wr w.heap.size 0 0 0 0) := Lib.hid (fun wr h => S1.out.below (by rw [← hg1]; exact h))
    have KG : Hid (∀ wr, Below g1 w1 wr → Below w.heap.size w wr) := Lib.hid (fun wr h => G1.out.trans (h.mono (by rw [hg1]; exact G1.out.size)))
    have KB : Hid (∀ wr, Below g1 w1 wr → g1 ≤ wr.heap.size) := Lib.hid (fun wr h => by rw [hg1]; exact h.size)
    clear hg1 kc c0 c1 c2 c3 f0 f1 f2 f3
    go_loopw [9, 10] (fun l i wr => ∃ (k : Nat) (z : Int), k ≤ 4 ∧ i = .int .i64 z ∧ z = k ∧ Below g1 w1 wr ∧ wr.ownsRow g1 3 1 l k (intsV ([v, r, e, p].take k))) (fun _ i _ => 4 - (intOf i).toNat)
    case atStart => exact ⟨0, 0, by omega, rfl, rfl, Below.refl _ _, ⟨rfl, .inl ⟨rfl, rfl⟩⟩⟩
    case round =>
      obtain ⟨k, zk, hk, rfl, hzk, hb, hs⟩ := hrel
      have Hb := Lib.hid hb
      clear hb
      have hcase : k = 0 ∨ k = 1 ∨ k = 2 ∨ k = 3 ∨ k = 4 := by omega
      rcases hcase with rfl | rfl | rfl | rfl | rfl
      · obtain rfl : zk = 0 := by omega
        have O := Lib.hid hs
        have Hc1 := Lib.hid (Hc8.out 0 (by omega)).1
        have Hc2 := Lib.hid (Hc8.out 0 (by omega)).2
        have C9 := Lib.hid (R0.out wr (some ad) cv (KX.out _ Hb.out))
        clear hs hzk hk
        go_wp2_with (first | (go_at_call 49; (with_reducible refine (C9.out).mono ?_); rintro q w7 ⟨rfl, rfl⟩) | (at_builtin; refine wpList_append_one rfl _ _ 49 rfl g1 3 (.int .i64 0) 8 Tryd.underlying49 Hinfo.out rfl u9 0 (intsV ([v, r, e, p].take 0)) (.int .i64 v) rfl O.out rfl rfl Hc1.out Hc2.out (KB.out _ Hb.out) ?_; intro v' w9 ho hg hla; have O9 : Hid (w9.ownsRow g1 3 1 v' (0 + 1) (intsV ([v, r, e, p].take (0 + 1)))) := Lib.hid ho; have G9 : Hid (Below g1 w1 w9) := Lib.hid (Hb.out.grown hg (KB.out _ Hb.out) (fun i hi => (O.out.lt i hi).1)); clear ho hg hla))
        go_roundw
        case rel => exact ⟨1, 1, by omega, rfl, rfl, G9.out, O9.out⟩
        case measure => simp [intOf]
      · obtain rfl : zk = 1 := by omega
        have O := Lib.hid hs
        have Hc1 := Lib.hid (Hc8.out 1 (by omega)).1
        have Hc2 := Lib.hid (Hc8.out 1 (by omega)).2
        have C9 := Lib.hid (R1.out wr (some ad) cv (KX.out _ Hb.out))
        clear hs hzk hk
        go_wp2_with (first | (go_at_call 49; (with_reducible refine (C9.out).mono ?_); rintro q w7 ⟨rfl, rfl⟩) | (at_builtin; refine wpList_append_one rfl _ _ 49 rfl g1 3 (.int .i64 0) 8 Tryd.underlying49 Hinfo.out rfl u9 1 (intsV ([v, r, e, p].take 1)) (.int .i64 r) rfl O.out rfl rfl Hc1.out Hc2.out (KB.out _ Hb.out) ?_; intro v' w9 ho hg hla; have O9 : Hid (w9.ownsRow g1 3 1 v' (1 + 1) (intsV ([v, r, e, p].take (1 + 1)))) := Lib.hid ho; have G9 : Hid (Below g1 w1 w9) := Lib.hid (Hb.out.grown hg (KB.out _ Hb.out) (fun i hi => (O.out.lt i hi).1)); clear ho hg hla))
        go_roundw
        case rel => exact ⟨2, 2, by omega, rfl, rfl, G9.out, O9.out⟩
        case measure => simp [intOf]
      · obtain rfl : zk = 2 := by omega
        have O := Lib.hid hs
        have Hc1 := Lib.hid (Hc8.out 2 (by omega)).1
        have Hc2 := Lib.hid (Hc8.out 2 (by omega)).2
        have C9 := Lib.hid (R2.out wr (some ad) cv (KX.out _ Hb.out))
        clear hs hzk hk
        go_wp2_with (first | (go_at_call 49; (with_reducible refine (C9.out).mono ?_); rintro q w7 ⟨rfl, rfl⟩) | (at_builtin; refine wpList_append_one rfl _ _ 49 rfl g1 3 (.int .i64 0) 8 Tryd.underlying49 Hinfo.out rfl u9 2 (intsV ([v, r, e, p].take 2)) (.int .i64 e) rfl O.out rfl rfl Hc1.out Hc2.out (KB.out _ Hb.out) ?_; intro v' w9 ho hg hla; have O9 : Hid (w9.ownsRow g1 3 1 v' (2 + 1) (intsV ([v, r, e, p].take (2 + 1)))) := Lib.hid ho; have G9 : Hid (Below g1 w1 w9) := Lib.hid (Hb.out.grown hg (KB.out _ Hb.out) (fun i hi => (O.out.lt i hi).1)); clear ho hg hla))
        go_roundw
        case rel => exact ⟨3, 3, by omega, rfl, rfl, G9.out, O9.out⟩
        case measure => simp [intOf]
      · obtain rfl : zk = 3 := by omega
        have O := Lib.hid hs
        have Hc1 := Lib.hid (Hc8.out 3 (by omega)).1
        have Hc2 := Lib.hid (Hc8.out 3 (by omega)).2
        have C9 := Lib.hid (R3.out wr (some ad) cv (KX.out _ Hb.out))
        clear hs hzk hk
        go_wp2_with (first | (go_at_call 49; (with_reducible refine (C9.out).mono ?_); rintro q w7 ⟨rfl, rfl⟩) | (at_builtin; refine wpList_append_one rfl _ _ 49 rfl g1 3 (.int .i64 0) 8 Tryd.underlying49 Hinfo.out rfl u9 3 (intsV ([v, r, e, p].take 3)) (.int .i64 p) rfl O.out rfl rfl Hc1.out Hc2.out (KB.out _ Hb.out) ?_; intro v' w9 ho hg hla; have O9 : Hid (w9.ownsRow g1 3 1 v' (3 + 1) (intsV ([v, r, e, p].take (3 + 1)))) := Lib.hid ho; have G9 : Hid (Below g1 w1 w9) := Lib.hid (Hb.out.grown hg (KB.out _ Hb.out) (fun i hi => (O.out.lt i hi).1)); clear ho hg hla))
        go_roundw
        case rel => exact ⟨4, 4, by omega, rfl, rfl, G9.out, O9.out⟩
        case measure => simp [intOf]
      · obtain rfl : zk = 4 := by omega
        obtain ⟨_, h⟩ := hs
        rcases h with ⟨-, h⟩ | ⟨gl, cap, cur, rfl, hgb, hgc, hnc, hcm, hsz, htk⟩
        · omega
        have d0 : wr.cell? ⟨gl, 0, none⟩ = some (.int .i64 v) := by rw [cell_of_row _ _ 0 _ _ _ hgc, ← Array.getElem?_toList]; exact get_take htk 0 _ rfl
        have d1 : wr.cell? ⟨gl, 1, none⟩ = some (.int .i64 r) := by rw [cell_of_row _ _ 1 _ _ _ hgc, ← Array.getElem?_toList]; exact get_take htk 1 _ rfl
        have d2 : wr.cell? ⟨gl, 2, none⟩ = some (.int .i64 e) := by rw [cell_of_row _ _ 2 _ _ _ hgc, ← Array.getElem?_toList]; exact get_take htk 2 _ rfl
        have d3 : wr.cell? ⟨gl, 3, none⟩ = some (.int .i64 p) := by rw [cell_of_row _ _ 3 _ _ _ hgc, ← Array.getElem?_toList]; exact get_take htk 3 _ rfl
        have D := Lib.hid (And.intro d0 (And.intro d1 (And.intro d2 d3)))
        have HBw := Lib.hid (KB.out _ Hb.out)
        have DA : Hid (∀ o, (wr.alloc o).cell? ⟨gl, 0, none⟩ = some (.int .i64 v) ∧ (wr.alloc o).cell? ⟨gl, 1, none⟩ = some (.int .i64 r) ∧ (wr.alloc o).cell? ⟨gl, 2, none⟩ = some (.int .i64 e) ∧ (wr.alloc o).cell? ⟨gl, 3, none⟩ = some (.int .i64 p)) := Lib.hid (fun o => by
          have hb := (Below.refl wr.heap.size wr).alloc (Nat.le_refl _) o
          exact ⟨cell_below hb d0, cell_below hb d1, cell_below hb d2, cell_below hb d3⟩)
        have T9 := Lib.hid (SupAt.new wr v r e p)
        have BA : Hid (Below g1 w1 (wr.alloc (.cells #[.int .i64 v, .int .i64 r, .int .i64 e, .int .i64 p] 30))) := Lib.hid (Hb.out.alloc HBw.out _)
        have BZ : Hid (g1 ≤ (wr.alloc (.cells #[.int .i64 v, .int .i64 r, .int .i64 e, .int .i64 p] 30)).heap.size) := Lib.hid (KB.out _ BA.out)
        clear hgc hnc hcm hsz htk hgb hzk hk
        go_wp2
        go_region_held3 (fun w' => w'.cell? ⟨gl, 0, none⟩ = some (.int .i64 v) ∧ w'.cell? ⟨gl, 1, none⟩ = some (.int .i64 r) ∧ w'.cell? ⟨gl, 2, none⟩ = some (.int .i64 e) ∧ w'.cell? ⟨gl, 3, none⟩ = some (.int .i64 p)) (first | exact D.out | exact DA.out _) (fail)
        go_wp2_with (go_at_call 41; (with_reducible refine (CM.out _).mono ?_); rintro q w8 ⟨rfl, hb8⟩; replace hb8 := undrew hb8; have HS8 := Lib.hid (T9.out.below hb8); have B8 : Hid (Below g1 w1 w8) := Lib.hid ((BA.out).trans (hb8.mono BZ.out)); obtain ⟨i0, i1, i2, i3⟩ := HS8.out.cells; have S8 := Lib.hid (KS.out _ B8.out); obtain ⟨k0, k1, k2, k3⟩ := S8.out.cells; have h0 := S8.out.free 0; have h1 := S8.out.free 1; have h2 := S8.out.free 2; have h3 := S8.out.free 3; clear hb8)
        refine bodyPost_ret (results_row_tmp rfl _ _ w.heap.size 30 _ (0, 0) _ rfl (S8.out.four v r e p) Tryd.underlying30 rfl (by kernel_rfl)) rfl ⟨rfl, ?_⟩
        exact below_four (KG.out _ B8.out) _ (Nat.le_refl _) _ _ _ _)

set_option maxHeartbeats 8000000 in
theorem rsopen_off (A : Option Addr) (n c N : Nat) (z v r e p : Int) (X : List UInt8) (w : World) (hz : z = 0 ∨ z = 1) (hN : N = 36) (hX : X.take 4 = [67, 70, 82, 84])
    (hv : v = (unle ((X.drop 4).take 8) : Nat)) (hr : r = (unle ((X.drop 12).take 8) : Nat)) (he : e = (unle ((X.drop 20).take 8) : Nat)) (hp : p = (unle ((X.drop 28).take 8) : Nat)) (hq : v ≤ 9223372036854775807 ∧ r ≤ 9223372036854775807 ∧ e ≤ 9223372036854775807 ∧ p ≤ 9223372036854775807) (hm : supMay ⟨v, r, e, p⟩ = true) (hpl : ¬ v % 2 = z)
    (CO : Hid (∀ wx, Below w.heap.size w wx → Calls Tryd.prog 48 #[.slice A n c, .int .i64 z] wx fun r w' => ∃ Av cv, r = .returned (.tuple #[.int .i64 1, .slice Av N cv, .int .i64 0]) ∧ Bs w' Av N X ∧ N ≤ cv ∧ Below wx.heap.size wx w')) :
    Calls Tryd.prog 20 #[.slice A n c, .int .i64 z] w fun q w' => q = .returned (.tuple #[Sup.zero.val, .int .i64 140]) ∧ Below w.heap.size w w' := by
  have Hinfo := Lib.hid info_int
  have C1 := Lib.hid (CO.out (w.alloc (.cells #[.int .i64 0, .int .i64 0, .int .i64 0, .int .i64 0] 30)) ((Below.refl _ _).alloc (Nat.le_refl _) _))
  have S0 := Lib.hid (SupAt.new w 0 0 0 0)
  have G0 : Hid (Below w.heap.size w (w.alloc (.cells #[.int .i64 0, .int .i64 0, .int .i64 0, .int .i64 0] 30))) := Lib.hid ((Below.refl _ _).alloc (Nat.le_refl _) _)
  clear CO
  have HN : Hid (4 ≤ N) := Lib.hid (by omega)
  have hN2 : (N : Int) = 36 := by omega
  have hXd : ((strB (X.take 4)).toList == [67, 70, 82, 84]) = true := by rw [strB, ByteArray.toList_mk]; simpa using hX
  have Hc8 : Hid (∀ k, k ≤ 4 → k + 1 ≤ maxLen ∧ (k + 1) * 8 ≤ 140737488355328) := Lib.hid (fun k h => by simp only [maxLen]; omega)
  have R0 : Hid (∀ wx Av cv, Bs wx Av N X → Calls Tryd.prog 49 #[.slice Av N cv, .int .i64 4, .int .i64 8] wx fun q w' => q = .returned (.tuple #[.int .i64 v, .int .i64 0]) ∧ wx = w') := Lib.hid (fun wx Av cv hb => by rw [hv]; exact rread_at 4 X N hN (by omega) wx Av cv hb (by omega))
  have R1 : Hid (∀ wx Av cv, Bs wx Av N X → Calls Tryd.prog 49 #[.slice Av N cv, .int .i64 12, .int .i64 8] wx fun q w' => q = .returned (.tuple #[.int .i64 r, .int .i64 0]) ∧ wx = w') := Lib.hid (fun wx Av cv hb => by rw [hr]; exact rread_at 12 X N hN (by omega) wx Av cv hb (by omega))
  have R2 : Hid (∀ wx Av cv, Bs wx Av N X → Calls Tryd.prog 49 #[.slice Av N cv, .int .i64 20, .int .i64 8] wx fun q w' => q = .returned (.tuple #[.int .i64 e, .int .i64 0]) ∧ wx = w') := Lib.hid (fun wx Av cv hb => by rw [he]; exact rread_at 20 X N hN (by omega) wx Av cv hb (by omega))
  have R3 : Hid (∀ wx Av cv, Bs wx Av N X → Calls Tryd.prog 49 #[.slice Av N cv, .int .i64 28, .int .i64 8] wx fun q w' => q = .returned (.tuple #[.int .i64 p, .int .i64 0]) ∧ wx = w') := Lib.hid (fun wx Av cv hb => by rw [hp]; exact rread_at 28 X N hN (by omega) wx Av cv hb (by omega))
  have CM : Hid (∀ wx, Calls Tryd.prog 41 #[.agg #[.int .i64 v, .int .i64 r, .int .i64 e, .int .i64 p]] wx fun q w' => q = .returned (.bool true) ∧ Below wx.heap.size wx w') := Lib.hid (fun wx => by have := rsmay_any ⟨v, r, e, p⟩ wx; rw [hm] at this; exact this)
  have hv0 : 0 ≤ v := by omega
  have hpl2 : v.tmod 2 = v % 2 := Int.tmod_eq_emod_of_nonneg hv0
  have hpl3 : (v.tmod 2 != z) = true := by rw [hpl2]; simp [hpl]
  have hpl4 : (v % 2 != z) = true := by simp [hpl]
  have hpl5 : ¬ (v.tmod 2 = z) := by rw [hpl2]; exact hpl
  clear hpl2
  clear hX hN hv hr he hp hm hq
  rcases hz with rfl | rfl
  all_goals (
    go_enter Tryd.func20, Tryd.ntmps20
    go_wp2_with (go_at_call 48; (with_reducible refine C1.out.mono ?_); rintro q w1 ⟨Av, cv, rfl, hbs, hcv, hb⟩; have G1 : Hid (Below w.heap.size w w1) := Lib.hid (G0.out.trans (hb.mono G0.out.size)); have S1 : Hid (SupAt w1 w.heap.size 0 0 0 0) := Lib.hid (S0.out.below hb); have X1 := Lib.hid hbs; have Hcv := Lib.hid hcv; obtain ⟨c0, c1, c2, c3⟩ := S1.out.cells; have f0 := S1.out.free 0; have f1 := S1.out.free 1; have f2 := S1.out.free 2; have f3 := S1.out.free 3; obtain ⟨ad, hav⟩ := some_of_bs X1.out HN.out; subst hav; have kc := run_convert_bs (X1.out.head 4 HN.out) cv; have h4c : (4 : Int) ≤ (cv : Int) := (by have := Hcv.out; have := HN.out; omega);  clear hb hbs hcv)
    obtain ⟨g1, hg1⟩ : ∃ g1, g1 = w1.heap.size := ⟨_, rfl⟩
    have HWS : Hid (w.heap.size ≤ g1) := Lib.hid (by rw [hg1]; exact G1.out.size)
    have KX : Hid (∀ wr, Below g1 w1 wr → Bs wr (some ad) N X) := Lib.hid (fun wr h => X1.out.below (by rw [← hg1]; exact h))
    have KS : Hid (∀ wr, Below g1 w1 wr → SupAt wr w.heap.size 0 0 0 0) := Lib.hid (fun wr h => S1.out.below (by rw [← hg1]; exact h))
    have KG : Hid (∀ wr, Below g1 w1 wr → Below w.heap.size w wr) := Lib.hid (fun wr h => G1.out.trans (h.mono (by rw [hg1]; exact G1.out.size)))
    have KB : Hid (∀ wr, Below g1 w1 wr → g1 ≤ wr.heap.size) := Lib.hid (fun wr h => by rw [hg1]; exact h.size)
    clear hg1 kc c0 c1 c2 c3 f0 f1 f2 f3
    go_loopw [9, 10] (fun l i wr => ∃ (k : Nat) (z : Int), k ≤ 4 ∧ i = .int .i64 z ∧ z = k ∧ Below g1 w1 wr ∧ wr.ownsRow g1 3 1 l k (intsV ([v, r, e, p].take k))) (fun _ i _ => 4 - (intOf i).toNat)
    case atStart => exact ⟨0, 0, by omega, rfl, rfl, Below.refl _ _, ⟨rfl, .inl ⟨rfl, rfl⟩⟩⟩
    case round =>
      obtain ⟨k, zk, hk, rfl, hzk, hb, hs⟩ := hrel
      have Hb := Lib.hid hb
      clear hb
      have hcase : k = 0 ∨ k = 1 ∨ k = 2 ∨ k = 3 ∨ k = 4 := by omega
      rcases hcase with rfl | rfl | rfl | rfl | rfl
      · obtain rfl : zk = 0 := by omega
        have O := Lib.hid hs
        have Hc1 := Lib.hid (Hc8.out 0 (by omega)).1
        have Hc2 := Lib.hid (Hc8.out 0 (by omega)).2
        have C9 := Lib.hid (R0.out wr (some ad) cv (KX.out _ Hb.out))
        clear hs hzk hk
        go_wp2_with (first | (go_at_call 49; (with_reducible refine (C9.out).mono ?_); rintro q w7 ⟨rfl, rfl⟩) | (at_builtin; refine wpList_append_one rfl _ _ 49 rfl g1 3 (.int .i64 0) 8 Tryd.underlying49 Hinfo.out rfl u9 0 (intsV ([v, r, e, p].take 0)) (.int .i64 v) rfl O.out rfl rfl Hc1.out Hc2.out (KB.out _ Hb.out) ?_; intro v' w9 ho hg hla; have O9 : Hid (w9.ownsRow g1 3 1 v' (0 + 1) (intsV ([v, r, e, p].take (0 + 1)))) := Lib.hid ho; have G9 : Hid (Below g1 w1 w9) := Lib.hid (Hb.out.grown hg (KB.out _ Hb.out) (fun i hi => (O.out.lt i hi).1)); clear ho hg hla))
        go_roundw
        case rel => exact ⟨1, 1, by omega, rfl, rfl, G9.out, O9.out⟩
        case measure => simp [intOf]
      · obtain rfl : zk = 1 := by omega
        have O := Lib.hid hs
        have Hc1 := Lib.hid (Hc8.out 1 (by omega)).1
        have Hc2 := Lib.hid (Hc8.out 1 (by omega)).2
        have C9 := Lib.hid (R1.out wr (some ad) cv (KX.out _ Hb.out))
        clear hs hzk hk
        go_wp2_with (first | (go_at_call 49; (with_reducible refine (C9.out).mono ?_); rintro q w7 ⟨rfl, rfl⟩) | (at_builtin; refine wpList_append_one rfl _ _ 49 rfl g1 3 (.int .i64 0) 8 Tryd.underlying49 Hinfo.out rfl u9 1 (intsV ([v, r, e, p].take 1)) (.int .i64 r) rfl O.out rfl rfl Hc1.out Hc2.out (KB.out _ Hb.out) ?_; intro v' w9 ho hg hla; have O9 : Hid (w9.ownsRow g1 3 1 v' (1 + 1) (intsV ([v, r, e, p].take (1 + 1)))) := Lib.hid ho; have G9 : Hid (Below g1 w1 w9) := Lib.hid (Hb.out.grown hg (KB.out _ Hb.out) (fun i hi => (O.out.lt i hi).1)); clear ho hg hla))
        go_roundw
        case rel => exact ⟨2, 2, by omega, rfl, rfl, G9.out, O9.out⟩
        case measure => simp [intOf]
      · obtain rfl : zk = 2 := by omega
        have O := Lib.hid hs
        have Hc1 := Lib.hid (Hc8.out 2 (by omega)).1
        have Hc2 := Lib.hid (Hc8.out 2 (by omega)).2
        have C9 := Lib.hid (R2.out wr (some ad) cv (KX.out _ Hb.out))
        clear hs hzk hk
        go_wp2_with (first | (go_at_call 49; (with_reducible refine (C9.out).mono ?_); rintro q w7 ⟨rfl, rfl⟩) | (at_builtin; refine wpList_append_one rfl _ _ 49 rfl g1 3 (.int .i64 0) 8 Tryd.underlying49 Hinfo.out rfl u9 2 (intsV ([v, r, e, p].take 2)) (.int .i64 e) rfl O.out rfl rfl Hc1.out Hc2.out (KB.out _ Hb.out) ?_; intro v' w9 ho hg hla; have O9 : Hid (w9.ownsRow g1 3 1 v' (2 + 1) (intsV ([v, r, e, p].take (2 + 1)))) := Lib.hid ho; have G9 : Hid (Below g1 w1 w9) := Lib.hid (Hb.out.grown hg (KB.out _ Hb.out) (fun i hi => (O.out.lt i hi).1)); clear ho hg hla))
        go_roundw
        case rel => exact ⟨3, 3, by omega, rfl, rfl, G9.out, O9.out⟩
        case measure => simp [intOf]
      · obtain rfl : zk = 3 := by omega
        have O := Lib.hid hs
        have Hc1 := Lib.hid (Hc8.out 3 (by omega)).1
        have Hc2 := Lib.hid (Hc8.out 3 (by omega)).2
        have C9 := Lib.hid (R3.out wr (some ad) cv (KX.out _ Hb.out))
        clear hs hzk hk
        go_wp2_with (first | (go_at_call 49; (with_reducible refine (C9.out).mono ?_); rintro q w7 ⟨rfl, rfl⟩) | (at_builtin; refine wpList_append_one rfl _ _ 49 rfl g1 3 (.int .i64 0) 8 Tryd.underlying49 Hinfo.out rfl u9 3 (intsV ([v, r, e, p].take 3)) (.int .i64 p) rfl O.out rfl rfl Hc1.out Hc2.out (KB.out _ Hb.out) ?_; intro v' w9 ho hg hla; have O9 : Hid (w9.ownsRow g1 3 1 v' (3 + 1) (intsV ([v, r, e, p].take (3 + 1)))) := Lib.hid ho; have G9 : Hid (Below g1 w1 w9) := Lib.hid (Hb.out.grown hg (KB.out _ Hb.out) (fun i hi => (O.out.lt i hi).1)); clear ho hg hla))
        go_roundw
        case rel => exact ⟨4, 4, by omega, rfl, rfl, G9.out, O9.out⟩
        case measure => simp [intOf]
      · obtain rfl : zk = 4 := by omega
        obtain ⟨_, h⟩ := hs
        rcases h with ⟨-, h⟩ | ⟨gl, cap, cur, rfl, hgb, hgc, hnc, hcm, hsz, htk⟩
        · omega
        have d0 : wr.cell? ⟨gl, 0, none⟩ = some (.int .i64 v) := by rw [cell_of_row _ _ 0 _ _ _ hgc, ← Array.getElem?_toList]; exact get_take htk 0 _ rfl
        have d1 : wr.cell? ⟨gl, 1, none⟩ = some (.int .i64 r) := by rw [cell_of_row _ _ 1 _ _ _ hgc, ← Array.getElem?_toList]; exact get_take htk 1 _ rfl
        have d2 : wr.cell? ⟨gl, 2, none⟩ = some (.int .i64 e) := by rw [cell_of_row _ _ 2 _ _ _ hgc, ← Array.getElem?_toList]; exact get_take htk 2 _ rfl
        have d3 : wr.cell? ⟨gl, 3, none⟩ = some (.int .i64 p) := by rw [cell_of_row _ _ 3 _ _ _ hgc, ← Array.getElem?_toList]; exact get_take htk 3 _ rfl
        have D := Lib.hid (And.intro d0 (And.intro d1 (And.intro d2 d3)))
        have HBw := Lib.hid (KB.out _ Hb.out)
        have DA : Hid (∀ o, (wr.alloc o).cell? ⟨gl, 0, none⟩ = some (.int .i64 v) ∧ (wr.alloc o).cell? ⟨gl, 1, none⟩ = some (.int .i64 r) ∧ (wr.alloc o).cell? ⟨gl, 2, none⟩ = some (.int .i64 e) ∧ (wr.alloc o).cell? ⟨gl, 3, none⟩ = some (.int .i64 p)) := Lib.hid (fun o => by
          have hb := (Below.refl wr.heap.size wr).alloc (Nat.le_refl _) o
          exact ⟨cell_below hb d0, cell_below hb d1, cell_below hb d2, cell_below hb d3⟩)
        have T9 := Lib.hid (SupAt.new wr v r e p)
        have BA : Hid (Below g1 w1 (wr.alloc (.cells #[.int .i64 v, .int .i64 r, .int .i64 e, .int .i64 p] 30))) := Lib.hid (Hb.out.alloc HBw.out _)
        have BZ : Hid (g1 ≤ (wr.alloc (.cells #[.int .i64 v, .int .i64 r, .int .i64 e, .int .i64 p] 30)).heap.size) := Lib.hid (KB.out _ BA.out)
        clear hgc hnc hcm hsz htk hgb hzk hk
        go_wp2
        go_region_held3 (fun w' => w'.cell? ⟨gl, 0, none⟩ = some (.int .i64 v) ∧ w'.cell? ⟨gl, 1, none⟩ = some (.int .i64 r) ∧ w'.cell? ⟨gl, 2, none⟩ = some (.int .i64 e) ∧ w'.cell? ⟨gl, 3, none⟩ = some (.int .i64 p)) (first | exact D.out | exact DA.out _) (fail)
        go_wp2_with (go_at_call 41; (with_reducible refine (CM.out _).mono ?_); rintro q w8 ⟨rfl, hb8⟩; replace hb8 := undrew hb8; have HS8 := Lib.hid (T9.out.below hb8); have B8 : Hid (Below g1 w1 w8) := Lib.hid ((BA.out).trans (hb8.mono BZ.out)); obtain ⟨i0, i1, i2, i3⟩ := HS8.out.cells; have S8 := Lib.hid (KS.out _ B8.out); obtain ⟨k0, k1, k2, k3⟩ := S8.out.cells; have h0 := S8.out.free 0; have h1 := S8.out.free 1; have h2 := S8.out.free 2; have h3 := S8.out.free 3; clear hb8)
        refine bodyPost_ret (results_row_tmp rfl _ _ w.heap.size 30 _ (0, 0) _ rfl (S8.out.four 0 0 0 0) Tryd.underlying30 rfl (by kernel_rfl)) rfl ⟨rfl, ?_⟩
        exact below_four (KG.out _ B8.out) _ (Nat.le_refl _) _ _ _ _)

set_option maxHeartbeats 8000000 in
theorem rsopen_maynot (A : Option Addr) (n c N : Nat) (z v r e p : Int) (X : List UInt8) (w : World) (hz : z = 0 ∨ z = 1) (hN : N = 36) (hX : X.take 4 = [67, 70, 82, 84])
    (hv : v = (unle ((X.drop 4).take 8) : Nat)) (hr : r = (unle ((X.drop 12).take 8) : Nat)) (he : e = (unle ((X.drop 20).take 8) : Nat)) (hp : p = (unle ((X.drop 28).take 8) : Nat)) (hq : v ≤ 9223372036854775807 ∧ r ≤ 9223372036854775807 ∧ e ≤ 9223372036854775807 ∧ p ≤ 9223372036854775807) (hm : supMay ⟨v, r, e, p⟩ = false)
    (CO : Hid (∀ wx, Below w.heap.size w wx → Calls Tryd.prog 48 #[.slice A n c, .int .i64 z] wx fun r w' => ∃ Av cv, r = .returned (.tuple #[.int .i64 1, .slice Av N cv, .int .i64 0]) ∧ Bs w' Av N X ∧ N ≤ cv ∧ Below wx.heap.size wx w')) :
    Calls Tryd.prog 20 #[.slice A n c, .int .i64 z] w fun q w' => q = .returned (.tuple #[Sup.zero.val, .int .i64 140]) ∧ Below w.heap.size w w' := by
  have Hinfo := Lib.hid info_int
  have C1 := Lib.hid (CO.out (w.alloc (.cells #[.int .i64 0, .int .i64 0, .int .i64 0, .int .i64 0] 30)) ((Below.refl _ _).alloc (Nat.le_refl _) _))
  have S0 := Lib.hid (SupAt.new w 0 0 0 0)
  have G0 : Hid (Below w.heap.size w (w.alloc (.cells #[.int .i64 0, .int .i64 0, .int .i64 0, .int .i64 0] 30))) := Lib.hid ((Below.refl _ _).alloc (Nat.le_refl _) _)
  clear CO
  have HN : Hid (4 ≤ N) := Lib.hid (by omega)
  have hN2 : (N : Int) = 36 := by omega
  have hXd : ((strB (X.take 4)).toList == [67, 70, 82, 84]) = true := by rw [strB, ByteArray.toList_mk]; simpa using hX
  have Hc8 : Hid (∀ k, k ≤ 4 → k + 1 ≤ maxLen ∧ (k + 1) * 8 ≤ 140737488355328) := Lib.hid (fun k h => by simp only [maxLen]; omega)
  have R0 : Hid (∀ wx Av cv, Bs wx Av N X → Calls Tryd.prog 49 #[.slice Av N cv, .int .i64 4, .int .i64 8] wx fun q w' => q = .returned (.tuple #[.int .i64 v, .int .i64 0]) ∧ wx = w') := Lib.hid (fun wx Av cv hb => by rw [hv]; exact rread_at 4 X N hN (by omega) wx Av cv hb (by omega))
  have R1 : Hid (∀ wx Av cv, Bs wx Av N X → Calls Tryd.prog 49 #[.slice Av N cv, .int .i64 12, .int .i64 8] wx fun q w' => q = .returned (.tuple #[.int .i64 r, .int .i64 0]) ∧ wx = w') := Lib.hid (fun wx Av cv hb => by rw [hr]; exact rread_at 12 X N hN (by omega) wx Av cv hb (by omega))
  have R2 : Hid (∀ wx Av cv, Bs wx Av N X → Calls Tryd.prog 49 #[.slice Av N cv, .int .i64 20, .int .i64 8] wx fun q w' => q = .returned (.tuple #[.int .i64 e, .int .i64 0]) ∧ wx = w') := Lib.hid (fun wx Av cv hb => by rw [he]; exact rread_at 20 X N hN (by omega) wx Av cv hb (by omega))
  have R3 : Hid (∀ wx Av cv, Bs wx Av N X → Calls Tryd.prog 49 #[.slice Av N cv, .int .i64 28, .int .i64 8] wx fun q w' => q = .returned (.tuple #[.int .i64 p, .int .i64 0]) ∧ wx = w') := Lib.hid (fun wx Av cv hb => by rw [hp]; exact rread_at 28 X N hN (by omega) wx Av cv hb (by omega))
  have CM : Hid (∀ wx, Calls Tryd.prog 41 #[.agg #[.int .i64 v, .int .i64 r, .int .i64 e, .int .i64 p]] wx fun q w' => q = .returned (.bool false) ∧ Below wx.heap.size wx w') := Lib.hid (fun wx => by have := rsmay_any ⟨v, r, e, p⟩ wx; rw [hm] at this; exact this)
  clear hX hN hv hr he hp hm hq
  rcases hz with rfl | rfl
  all_goals (
    go_enter Tryd.func20, Tryd.ntmps20
    go_wp2_with (go_at_call 48; (with_reducible refine C1.out.mono ?_); rintro q w1 ⟨Av, cv, rfl, hbs, hcv, hb⟩; have G1 : Hid (Below w.heap.size w w1) := Lib.hid (G0.out.trans (hb.mono G0.out.size)); have S1 : Hid (SupAt w1 w.heap.size 0 0 0 0) := Lib.hid (S0.out.below hb); have X1 := Lib.hid hbs; have Hcv := Lib.hid hcv; obtain ⟨c0, c1, c2, c3⟩ := S1.out.cells; have f0 := S1.out.free 0; have f1 := S1.out.free 1; have f2 := S1.out.free 2; have f3 := S1.out.free 3; obtain ⟨ad, hav⟩ := some_of_bs X1.out HN.out; subst hav; have kc := run_convert_bs (X1.out.head 4 HN.out) cv; have h4c : (4 : Int) ≤ (cv : Int) := (by have := Hcv.out; have := HN.out; omega);  clear hb hbs hcv)
    obtain ⟨g1, hg1⟩ : ∃ g1, g1 = w1.heap.size := ⟨_, rfl⟩
    have HWS : Hid (w.heap.size ≤ g1) := Lib.hid (by rw [hg1]; exact G1.out.size)
    have KX : Hid (∀ wr, Below g1 w1 wr → Bs wr (some ad) N X) := Lib.hid (fun wr h => X1.out.below (by rw [← hg1]; exact h))
    have KS : Hid (∀ wr, Below g1 w1 wr → SupAt wr w.heap.size 0 0 0 0) := Lib.hid (fun wr h => S1.out.below (by rw [← hg1]; exact h))
    have KG : Hid (∀ wr, Below g1 w1 wr → Below w.heap.size w wr) := Lib.hid (fun wr h => G1.out.trans (h.mono (by rw [hg1]; exact G1.out.size)))
    have KB : Hid (∀ wr, Below g1 w1 wr → g1 ≤ wr.heap.size) := Lib.hid (fun wr h => by rw [hg1]; exact h.size)
    clear hg1 kc c0 c1 c2 c3 f0 f1 f2 f3
    go_loopw [9, 10] (fun l i wr => ∃ (k : Nat) (z : Int), k ≤ 4 ∧ i = .int .i64 z ∧ z = k ∧ Below g1 w1 wr ∧ wr.ownsRow g1 3 1 l k (intsV ([v, r, e, p].take k))) (fun _ i _ => 4 - (intOf i).toNat)
    case atStart => exact ⟨0, 0, by omega, rfl, rfl, Below.refl _ _, ⟨rfl, .inl ⟨rfl, rfl⟩⟩⟩
    case round =>
      obtain ⟨k, zk, hk, rfl, hzk, hb, hs⟩ := hrel
      have Hb := Lib.hid hb
      clear hb
      have hcase : k = 0 ∨ k = 1 ∨ k = 2 ∨ k = 3 ∨ k = 4 := by omega
      rcases hcase with rfl | rfl | rfl | rfl | rfl
      · obtain rfl : zk = 0 := by omega
        have O := Lib.hid hs
        have Hc1 := Lib.hid (Hc8.out 0 (by omega)).1
        have Hc2 := Lib.hid (Hc8.out 0 (by omega)).2
        have C9 := Lib.hid (R0.out wr (some ad) cv (KX.out _ Hb.out))
        clear hs hzk hk
        go_wp2_with (first | (go_at_call 49; (with_reducible refine (C9.out).mono ?_); rintro q w7 ⟨rfl, rfl⟩) | (at_builtin; refine wpList_append_one rfl _ _ 49 rfl g1 3 (.int .i64 0) 8 Tryd.underlying49 Hinfo.out rfl u9 0 (intsV ([v, r, e, p].take 0)) (.int .i64 v) rfl O.out rfl rfl Hc1.out Hc2.out (KB.out _ Hb.out) ?_; intro v' w9 ho hg hla; have O9 : Hid (w9.ownsRow g1 3 1 v' (0 + 1) (intsV ([v, r, e, p].take (0 + 1)))) := Lib.hid ho; have G9 : Hid (Below g1 w1 w9) := Lib.hid (Hb.out.grown hg (KB.out _ Hb.out) (fun i hi => (O.out.lt i hi).1)); clear ho hg hla))
        go_roundw
        case rel => exact ⟨1, 1, by omega, rfl, rfl, G9.out, O9.out⟩
        case measure => simp [intOf]
      · obtain rfl : zk = 1 := by omega
        have O := Lib.hid hs
        have Hc1 := Lib.hid (Hc8.out 1 (by omega)).1
        have Hc2 := Lib.hid (Hc8.out 1 (by omega)).2
        have C9 := Lib.hid (R1.out wr (some ad) cv (KX.out _ Hb.out))
        clear hs hzk hk
        go_wp2_with (first | (go_at_call 49; (with_reducible refine (C9.out).mono ?_); rintro q w7 ⟨rfl, rfl⟩) | (at_builtin; refine wpList_append_one rfl _ _ 49 rfl g1 3 (.int .i64 0) 8 Tryd.underlying49 Hinfo.out rfl u9 1 (intsV ([v, r, e, p].take 1)) (.int .i64 r) rfl O.out rfl rfl Hc1.out Hc2.out (KB.out _ Hb.out) ?_; intro v' w9 ho hg hla; have O9 : Hid (w9.ownsRow g1 3 1 v' (1 + 1) (intsV ([v, r, e, p].take (1 + 1)))) := Lib.hid ho; have G9 : Hid (Below g1 w1 w9) := Lib.hid (Hb.out.grown hg (KB.out _ Hb.out) (fun i hi => (O.out.lt i hi).1)); clear ho hg hla))
        go_roundw
        case rel => exact ⟨2, 2, by omega, rfl, rfl, G9.out, O9.out⟩
        case measure => simp [intOf]
      · obtain rfl : zk = 2 := by omega
        have O := Lib.hid hs
        have Hc1 := Lib.hid (Hc8.out 2 (by omega)).1
        have Hc2 := Lib.hid (Hc8.out 2 (by omega)).2
        have C9 := Lib.hid (R2.out wr (some ad) cv (KX.out _ Hb.out))
        clear hs hzk hk
        go_wp2_with (first | (go_at_call 49; (with_reducible refine (C9.out).mono ?_); rintro q w7 ⟨rfl, rfl⟩) | (at_builtin; refine wpList_append_one rfl _ _ 49 rfl g1 3 (.int .i64 0) 8 Tryd.underlying49 Hinfo.out rfl u9 2 (intsV ([v, r, e, p].take 2)) (.int .i64 e) rfl O.out rfl rfl Hc1.out Hc2.out (KB.out _ Hb.out) ?_; intro v' w9 ho hg hla; have O9 : Hid (w9.ownsRow g1 3 1 v' (2 + 1) (intsV ([v, r, e, p].take (2 + 1)))) := Lib.hid ho; have G9 : Hid (Below g1 w1 w9) := Lib.hid (Hb.out.grown hg (KB.out _ Hb.out) (fun i hi => (O.out.lt i hi).1)); clear ho hg hla))
        go_roundw
        case rel => exact ⟨3, 3, by omega, rfl, rfl, G9.out, O9.out⟩
        case measure => simp [intOf]
      · obtain rfl : zk = 3 := by omega
        have O := Lib.hid hs
        have Hc1 := Lib.hid (Hc8.out 3 (by omega)).1
        have Hc2 := Lib.hid (Hc8.out 3 (by omega)).2
        have C9 := Lib.hid (R3.out wr (some ad) cv (KX.out _ Hb.out))
        clear hs hzk hk
        go_wp2_with (first | (go_at_call 49; (with_reducible refine (C9.out).mono ?_); rintro q w7 ⟨rfl, rfl⟩) | (at_builtin; refine wpList_append_one rfl _ _ 49 rfl g1 3 (.int .i64 0) 8 Tryd.underlying49 Hinfo.out rfl u9 3 (intsV ([v, r, e, p].take 3)) (.int .i64 p) rfl O.out rfl rfl Hc1.out Hc2.out (KB.out _ Hb.out) ?_; intro v' w9 ho hg hla; have O9 : Hid (w9.ownsRow g1 3 1 v' (3 + 1) (intsV ([v, r, e, p].take (3 + 1)))) := Lib.hid ho; have G9 : Hid (Below g1 w1 w9) := Lib.hid (Hb.out.grown hg (KB.out _ Hb.out) (fun i hi => (O.out.lt i hi).1)); clear ho hg hla))
        go_roundw
        case rel => exact ⟨4, 4, by omega, rfl, rfl, G9.out, O9.out⟩
        case measure => simp [intOf]
      · obtain rfl : zk = 4 := by omega
        obtain ⟨_, h⟩ := hs
        rcases h with ⟨-, h⟩ | ⟨gl, cap, cur, rfl, hgb, hgc, hnc, hcm, hsz, htk⟩
        · omega
        have d0 : wr.cell? ⟨gl, 0, none⟩ = some (.int .i64 v) := by rw [cell_of_row _ _ 0 _ _ _ hgc, ← Array.getElem?_toList]; exact get_take htk 0 _ rfl
        have d1 : wr.cell? ⟨gl, 1, none⟩ = some (.int .i64 r) := by rw [cell_of_row _ _ 1 _ _ _ hgc, ← Array.getElem?_toList]; exact get_take htk 1 _ rfl
        have d2 : wr.cell? ⟨gl, 2, none⟩ = some (.int .i64 e) := by rw [cell_of_row _ _ 2 _ _ _ hgc, ← Array.getElem?_toList]; exact get_take htk 2 _ rfl
        have d3 : wr.cell? ⟨gl, 3, none⟩ = some (.int .i64 p) := by rw [cell_of_row _ _ 3 _ _ _ hgc, ← Array.getElem?_toList]; exact get_take htk 3 _ rfl
        have D := Lib.hid (And.intro d0 (And.intro d1 (And.intro d2 d3)))
        have HBw := Lib.hid (KB.out _ Hb.out)
        have DA : Hid (∀ o, (wr.alloc o).cell? ⟨gl, 0, none⟩ = some (.int .i64 v) ∧ (wr.alloc o).cell? ⟨gl, 1, none⟩ = some (.int .i64 r) ∧ (wr.alloc o).cell? ⟨gl, 2, none⟩ = some (.int .i64 e) ∧ (wr.alloc o).cell? ⟨gl, 3, none⟩ = some (.int .i64 p)) := Lib.hid (fun o => by
          have hb := (Below.refl wr.heap.size wr).alloc (Nat.le_refl _) o
          exact ⟨cell_below hb d0, cell_below hb d1, cell_below hb d2, cell_below hb d3⟩)
        have T9 := Lib.hid (SupAt.new wr v r e p)
        have BA : Hid (Below g1 w1 (wr.alloc (.cells #[.int .i64 v, .int .i64 r, .int .i64 e, .int .i64 p] 30))) := Lib.hid (Hb.out.alloc HBw.out _)
        have BZ : Hid (g1 ≤ (wr.alloc (.cells #[.int .i64 v, .int .i64 r, .int .i64 e, .int .i64 p] 30)).heap.size) := Lib.hid (KB.out _ BA.out)
        clear hgc hnc hcm hsz htk hgb hzk hk
        go_wp2
        go_region_held3 (fun w' => w'.cell? ⟨gl, 0, none⟩ = some (.int .i64 v) ∧ w'.cell? ⟨gl, 1, none⟩ = some (.int .i64 r) ∧ w'.cell? ⟨gl, 2, none⟩ = some (.int .i64 e) ∧ w'.cell? ⟨gl, 3, none⟩ = some (.int .i64 p)) (first | exact D.out | exact DA.out _) (fail)
        go_wp2_with (go_at_call 41; (with_reducible refine (CM.out _).mono ?_); rintro q w8 ⟨rfl, hb8⟩; replace hb8 := undrew hb8; have HS8 := Lib.hid (T9.out.below hb8); have B8 : Hid (Below g1 w1 w8) := Lib.hid ((BA.out).trans (hb8.mono BZ.out)); obtain ⟨i0, i1, i2, i3⟩ := HS8.out.cells; have S8 := Lib.hid (KS.out _ B8.out); obtain ⟨k0, k1, k2, k3⟩ := S8.out.cells; have h0 := S8.out.free 0; have h1 := S8.out.free 1; have h2 := S8.out.free 2; have h3 := S8.out.free 3; clear hb8)
        refine bodyPost_ret (results_row_tmp rfl _ _ w.heap.size 30 _ (0, 0) _ rfl (S8.out.four 0 0 0 0) Tryd.underlying30 rfl (by kernel_rfl)) rfl ⟨rfl, ?_⟩
        exact below_four (KG.out _ B8.out) _ (Nat.le_refl _) _ _ _ _)

end Go.Proofs.YteljopjaolegaaaDoor
