/-
  THE WALK of coffretlaw14.SuperBack. (Printed by superback.py.)
-/
import Derived.Test.YteljopjaolegaaaDoorLawChooses
namespace Go.Proofs.YteljopjaolegaaaDoor
open Go.RowKit
set_option maxRecDepth 100000
set_option linter.unusedVariables false
set_option linter.unusedSimpArgs false

theorem low_one (v : Int) (h0 : 0 ≤ v) (h1 : v ≤ 1099511627776) : bits .and .i64 v 1 = v % 2 := by
  obtain ⟨k, rfl⟩ : ∃ k : Nat, v = k := ⟨v.toNat, by omega⟩
  have hp : (2 : Nat) ^ 63 = 9223372036854775808 := by decide
  have e : bits .and .i64 (k : Int) ((1 : Nat) : Int) = ((k &&& 1 : Nat) : Int) := (bits_nat .i64 63 (by decide) (fun n h0 h1 => by
    rw [IntKind.wrap_i64]
    have : (2 : Int) ^ 63 = 9223372036854775808 := by decide
    omega) k 1 (by omega) (by decide)).1
  have e1 : bits .and .i64 (k : Int) 1 = ((k % 2 : Nat) : Int) := by rw [← Nat.and_one_is_mod]; exact e
  rw [e1]; omega

set_option maxHeartbeats 8000000 in
theorem superBack_ok (v r e p : Int) (A : Option Addr) (n c : Nat) (l : List UInt8) (w : World) (hN : Nib w) (h : Bs w A n l) (hc : n ≤ c) (hs : supMay ⟨v, r, e, p⟩ = true) :
    Calls Tryd.prog 6 #[.agg #[.int .i64 v, .int .i64 r, .int .i64 e, .int .i64 p], .slice A n c] w fun q w' => q = .returned (.bool true) ∧ Below w.heap.size w w' := by
  obtain ⟨B0, hB⟩ : ∃ B, B = w.heap.size := ⟨_, rfl⟩
  have HBl : Hid (∀ wx, Below B0 w wx → B0 ≤ wx.heap.size) := Lib.hid (fun wx h => by rw [hB]; exact h.size)
  have Hlow : Hid (∀ wx, Below B0 w wx → Below w.heap.size w wx) := Lib.hid (fun wx h => by rw [← hB]; exact h)
  have KT : Hid (∀ wx wy, Below B0 w wx → Below wx.heap.size wx wy → Below B0 w wy) := Lib.hid (fun wx wy h1 h2 => h1.trans (h2.mono (HBl.out _ h1)))
  have KA : Hid (∀ wx o, Below B0 w wx → Below B0 w (wx.alloc o)) := Lib.hid (fun wx o h => h.alloc (HBl.out _ h) _)
  have Ka : Hid (∀ wx, Below B0 w wx → Bs wx A n l) := Lib.hid (fun wx hx => h.below (Hlow.out _ hx))
  have KN : Hid (∀ wx, Below B0 w wx → Nib wx) := Lib.hid (fun wx hx => hN.below (Hlow.out _ hx))
  have G0 : Hid (Below B0 w (w.alloc (.cells #[.int .i64 v, .int .i64 r, .int .i64 e, .int .i64 p] 30))) := Lib.hid (KA.out _ _ (Below.refl _ _))
  have S0 : Hid (SupAt (w.alloc (.cells #[.int .i64 v, .int .i64 r, .int .i64 e, .int .i64 p] 30)) w.heap.size v r e p) := Lib.hid (SupAt.new w v r e p)
  have Ha : Hid (∀ wx, Below B0 w wx → Calls Tryd.prog 9 #[] wx fun q w' => q = .returned (.bool true) ∧ Below wx.heap.size wx w') := Lib.hid (fun wx hx => awake14 wx (KN.out _ hx))
  obtain ⟨N4, hN4⟩ : ∃ N : Nat, N = 4096 := ⟨_, rfl⟩
  obtain ⟨a0, a1, a2, a3, ht0⟩ : ∃ t0 t1 t2 t3, supOpen l 0 = ⟨t0, t1, t2, t3⟩ := ⟨_, _, _, _, rfl⟩
  obtain ⟨k0, hk0⟩ : ∃ k, k = supCode l 0 := ⟨_, rfl⟩
  have CO0 : Hid (∀ wx, Below B0 w wx → Calls Tryd.prog 18 #[.slice A n c, .int .i64 0] wx fun q w' => q = .returned (.tuple #[.agg #[.int .i64 a0, .int .i64 a1, .int .i64 a2, .int .i64 a3], .int .i64 k0]) ∧ Below wx.heap.size wx w') := Lib.hid (fun wx hx => by
    have h := sopen_any A n c l 0 wx (KN.out _ hx) (Ka.out _ hx) hc
    rw [ht0, ← hk0] at h
    exact h)
  have CM0 : Hid (k0 = 0 → ∀ wx, Below B0 w wx → Calls Tryd.prog 15 #[.agg #[.int .i64 a0, .int .i64 a1, .int .i64 a2, .int .i64 a3]] wx fun q w' => ∃ x, q = .returned (.tuple #[x, .int .i64 0]) ∧ w'.ownsRow wx.heap.size 5 1 x N4 (bs l) ∧ Below wx.heap.size wx w') := Lib.hid (fun hz wx hx => by
    obtain ⟨g1, g2, g3⟩ := sup_page l 0 (by rw [← hk0]; exact hz)
    rw [ht0] at g1 g2
    have h := smake_ok ⟨a0, a1, a2, a3⟩ wx (KN.out _ hx) g1
    rw [g2] at h
    rw [hN4]; exact h)
  have HV0 : Hid (k0 = 0 → bits .and .i64 a0 1 = 0) := Lib.hid (fun hz => by
    obtain ⟨g1, g2, g3⟩ := sup_page l 0 (by rw [← hk0]; exact hz)
    rw [ht0] at g1 g3
    have g4 := of_decide_eq_true (show decide _ = true from g1)
    simp only at g4 g3
    rw [low_one _ (by omega) (by omega)]; exact g3)
  obtain ⟨b0, b1, b2, b3, ht1⟩ : ∃ t0 t1 t2 t3, supOpen l 1 = ⟨t0, t1, t2, t3⟩ := ⟨_, _, _, _, rfl⟩
  obtain ⟨k1, hk1⟩ : ∃ k, k = supCode l 1 := ⟨_, rfl⟩
  have CO1 : Hid (∀ wx, Below B0 w wx → Calls Tryd.prog 18 #[.slice A n c, .int .i64 1] wx fun q w' => q = .returned (.tuple #[.agg #[.int .i64 b0, .int .i64 b1, .int .i64 b2, .int .i64 b3], .int .i64 k1]) ∧ Below wx.heap.size wx w') := Lib.hid (fun wx hx => by
    have h := sopen_any A n c l 1 wx (KN.out _ hx) (Ka.out _ hx) hc
    rw [ht1, ← hk1] at h
    exact h)
  have CM1 : Hid (k1 = 0 → ∀ wx, Below B0 w wx → Calls Tryd.prog 15 #[.agg #[.int .i64 b0, .int .i64 b1, .int .i64 b2, .int .i64 b3]] wx fun q w' => ∃ x, q = .returned (.tuple #[x, .int .i64 0]) ∧ w'.ownsRow wx.heap.size 5 1 x N4 (bs l) ∧ Below wx.heap.size wx w') := Lib.hid (fun hz wx hx => by
    obtain ⟨g1, g2, g3⟩ := sup_page l 1 (by rw [← hk1]; exact hz)
    rw [ht1] at g1 g2
    have h := smake_ok ⟨b0, b1, b2, b3⟩ wx (KN.out _ hx) g1
    rw [g2] at h
    rw [hN4]; exact h)
  have HV1 : Hid (k1 = 0 → bits .and .i64 b0 1 = 1) := Lib.hid (fun hz => by
    obtain ⟨g1, g2, g3⟩ := sup_page l 1 (by rw [← hk1]; exact hz)
    rw [ht1] at g1 g3
    have g4 := of_decide_eq_true (show decide _ = true from g1)
    simp only at g4 g3
    rw [low_one _ (by omega) (by omega)]; exact g3)
  obtain ⟨P, hP⟩ : ∃ P, P = supPage ⟨v, r, e, p⟩ := ⟨_, rfl⟩
  have hv := of_decide_eq_true (show decide _ = true from hs)
  simp only at hv
  have CM : Hid (∀ wx, Below B0 w wx → Calls Tryd.prog 15 #[.agg #[.int .i64 v, .int .i64 r, .int .i64 e, .int .i64 p]] wx fun q w' => ∃ Ax cx, q = .returned (.tuple #[.slice Ax N4 cx, .int .i64 0]) ∧ Bs w' Ax N4 P ∧ N4 ≤ cx ∧ Below wx.heap.size wx w') := Lib.hid (fun wx hx => (smake_ok ⟨v, r, e, p⟩ wx (KN.out _ hx) hs).mono fun q w' ⟨x, he, ho, hb⟩ => by
    obtain ⟨Ax, cx, rfl, hbs, hcx⟩ := own_bytes_cap ho
    rw [hN4, hP]
    exact ⟨Ax, cx, he, hbs, hcx, hb⟩)
  obtain ⟨vz, hvz⟩ : ∃ z, z = bits .and .i64 v 1 := ⟨_, rfl⟩
  have hvz2 : vz = v % 2 := by rw [hvz]; exact low_one v (by omega) (by omega)
  have CX : Hid (∀ wx Ax cx, Below B0 w wx → Bs wx Ax N4 P → N4 ≤ cx → Calls Tryd.prog 18 #[.slice Ax N4 cx, .int .i64 vz] wx fun q w' => q = .returned (.tuple #[.agg #[.int .i64 v, .int .i64 r, .int .i64 e, .int .i64 p], .int .i64 0]) ∧ Below wx.heap.size wx w') := Lib.hid (fun wx Ax cx hx hb hcx => by
    have h := sopen_any Ax N4 cx P vz wx (KN.out _ hx) hb hcx
    obtain ⟨h1, h2⟩ := sup_back ⟨v, r, e, p⟩ hs vz (by omega)
    rw [hP, h1, h2, if_pos hvz2.symm, if_pos hvz2.symm] at h
    exact h)
  have Hvz : Hid (bits .and .i64 v 1 = vz) := Lib.hid hvz.symm
  clear hP hv hvz hvz2
  clear hN h hc hs hB hN4 ht0 hk0 ht1 hk1
  go_enter Tryd.func6, Tryd.ntmps6
  go_wp2_with (go_at_call 9; (with_reducible refine (Ha.out _ G0.out).mono ?_); rintro q w1 ⟨rfl, hb⟩; have G1 := Lib.hid (KT.out _ _ G0.out hb); have S1 := Lib.hid (S0.out.below hb); clear hb)
  go_loopw [6] (fun i wr => ∃ (k : Nat) (z : Int), k ≤ 2 ∧ i = .int .i64 z ∧ z = k ∧ Below B0 w wr ∧ SupAt wr w.heap.size v r e p) (fun i _ => 2 - (intOf i).toNat)
  case atStart => exact ⟨0, 0, by omega, rfl, rfl, G1.out, S1.out⟩
  case round =>
    obtain ⟨k, zk, hk, rfl, hzk, hb, hsr⟩ := hrel
    have Hb := Lib.hid hb
    have Sr := Lib.hid hsr
    clear hb hsr
    have hcase : k = 0 ∨ k = 1 ∨ k = 2 := by omega
    rcases hcase with rfl | rfl | rfl
    · obtain rfl : zk = 0 := by omega
      clear hzk hk
      by_cases hz : k0 = 0
      · have CZ := Lib.hid (CM0.out hz)
        have hv1 := HV0.out hz
        go_wp2_with (first | (go_at_call 18; (with_reducible refine (CO0.out _ Hb.out).mono ?_); rintro q w2 ⟨rfl, hb⟩; have G2 := Lib.hid (KA.out _ (.cells #[.int .i64 a0, .int .i64 a1, .int .i64 a2, .int .i64 a3] 30) (KT.out _ _ Hb.out hb)); have S2 := Lib.hid ((Sr.out.below hb).below ((Below.refl w2.heap.size w2).alloc (Nat.le_refl _) (.cells #[.int .i64 a0, .int .i64 a1, .int .i64 a2, .int .i64 a3] 30))); have T2 := Lib.hid (SupAt.new w2 a0 a1 a2 a3); clear hb) | (go_at_call 15; (with_reducible refine (CZ.out _ G2.out).mono ?_); rintro q w3 ⟨x, rfl, ho, hb⟩; have G3 := Lib.hid (KT.out _ _ G2.out hb); have S3 := Lib.hid (S2.out.below hb); have T3 := Lib.hid (T2.out.below hb); obtain ⟨c0, c1, c2, c3⟩ := T3.out.cells; obtain ⟨Ax, cx, rfl, -, -, -⟩ := own_addr ho; have hcx := conv_own ho; have hcl := run_convert_bs (Ka.out _ G3.out) c; clear ho hb))
        go_roundw
        case rel => exact ⟨1, 1, by omega, rfl, rfl, G3.out, S3.out⟩
        case measure => simp [intOf]
      · go_wp2_with (go_at_call 18; (with_reducible refine (CO0.out _ Hb.out).mono ?_); rintro q w2 ⟨rfl, hb⟩; have G2 := Lib.hid (KA.out _ (.cells #[.int .i64 a0, .int .i64 a1, .int .i64 a2, .int .i64 a3] 30) (KT.out _ _ Hb.out hb)); have S2 := Lib.hid ((Sr.out.below hb).below ((Below.refl w2.heap.size w2).alloc (Nat.le_refl _) (.cells #[.int .i64 a0, .int .i64 a1, .int .i64 a2, .int .i64 a3] 30))); have T2 := Lib.hid (SupAt.new w2 a0 a1 a2 a3); clear hb)
        go_roundw
        case rel => exact ⟨1, 1, by omega, rfl, rfl, G2.out, S2.out⟩
        case measure => simp [intOf]
    · obtain rfl : zk = 1 := by omega
      clear hzk hk
      by_cases hz : k1 = 0
      · have CZ := Lib.hid (CM1.out hz)
        have hv1 := HV1.out hz
        go_wp2_with (first | (go_at_call 18; (with_reducible refine (CO1.out _ Hb.out).mono ?_); rintro q w2 ⟨rfl, hb⟩; have G2 := Lib.hid (KA.out _ (.cells #[.int .i64 b0, .int .i64 b1, .int .i64 b2, .int .i64 b3] 30) (KT.out _ _ Hb.out hb)); have S2 := Lib.hid ((Sr.out.below hb).below ((Below.refl w2.heap.size w2).alloc (Nat.le_refl _) (.cells #[.int .i64 b0, .int .i64 b1, .int .i64 b2, .int .i64 b3] 30))); have T2 := Lib.hid (SupAt.new w2 b0 b1 b2 b3); clear hb) | (go_at_call 15; (with_reducible refine (CZ.out _ G2.out).mono ?_); rintro q w3 ⟨x, rfl, ho, hb⟩; have G3 := Lib.hid (KT.out _ _ G2.out hb); have S3 := Lib.hid (S2.out.below hb); have T3 := Lib.hid (T2.out.below hb); obtain ⟨c0, c1, c2, c3⟩ := T3.out.cells; obtain ⟨Ax, cx, rfl, -, -, -⟩ := own_addr ho; have hcx := conv_own ho; have hcl := run_convert_bs (Ka.out _ G3.out) c; clear ho hb))
        go_roundw
        case rel => exact ⟨2, 2, by omega, rfl, rfl, G3.out, S3.out⟩
        case measure => simp [intOf]
      · go_wp2_with (go_at_call 18; (with_reducible refine (CO1.out _ Hb.out).mono ?_); rintro q w2 ⟨rfl, hb⟩; have G2 := Lib.hid (KA.out _ (.cells #[.int .i64 b0, .int .i64 b1, .int .i64 b2, .int .i64 b3] 30) (KT.out _ _ Hb.out hb)); have S2 := Lib.hid ((Sr.out.below hb).below ((Below.refl w2.heap.size w2).alloc (Nat.le_refl _) (.cells #[.int .i64 b0, .int .i64 b1, .int .i64 b2, .int .i64 b3] 30))); have T2 := Lib.hid (SupAt.new w2 b0 b1 b2 b3); clear hb)
        go_roundw
        case rel => exact ⟨2, 2, by omega, rfl, rfl, G2.out, S2.out⟩
        case measure => simp [intOf]
    · obtain rfl : zk = 2 := by omega
      clear hzk hk
      obtain ⟨d0, d1, d2, d3⟩ := Sr.out.cells
      go_wp2_with (first | (go_at_call 15; (with_reducible refine (CM.out _ Hb.out).mono ?_); rintro q w4 ⟨Ax, cx, rfl, hbs, hcx, hb⟩; have G4 := Lib.hid (KT.out _ _ Hb.out hb); have S4 := Lib.hid (Sr.out.below hb); have X4 := Lib.hid hbs; have Hcx := Lib.hid hcx; obtain ⟨c0, c1, c2, c3⟩ := S4.out.cells; have hvz := Hvz.out; clear hbs hcx hb) | (go_at_call 18; (with_reducible refine (CX.out _ _ _ G4.out X4.out Hcx.out).mono ?_); rintro q w5 ⟨rfl, hb⟩; have G5 := Lib.hid (KA.out _ (.cells #[.int .i64 v, .int .i64 r, .int .i64 e, .int .i64 p] 30) (KT.out _ _ G4.out hb)); have S5 := Lib.hid ((S4.out.below hb).below ((Below.refl w5.heap.size w5).alloc (Nat.le_refl _) (.cells #[.int .i64 v, .int .i64 r, .int .i64 e, .int .i64 p] 30))); obtain ⟨f0, f1, f2, f3⟩ := S5.out.cells; clear hb))
      go_ret
      exact ⟨rfl, Hlow.out _ G5.out⟩

set_option maxHeartbeats 8000000 in
theorem superBack_bad (v r e p : Int) (A : Option Addr) (n c : Nat) (l : List UInt8) (w : World) (hN : Nib w) (h : Bs w A n l) (hc : n ≤ c) (hs : supMay ⟨v, r, e, p⟩ = false) :
    Calls Tryd.prog 6 #[.agg #[.int .i64 v, .int .i64 r, .int .i64 e, .int .i64 p], .slice A n c] w fun q w' => q = .returned (.bool true) ∧ Below w.heap.size w w' := by
  obtain ⟨B0, hB⟩ : ∃ B, B = w.heap.size := ⟨_, rfl⟩
  have HBl : Hid (∀ wx, Below B0 w wx → B0 ≤ wx.heap.size) := Lib.hid (fun wx h => by rw [hB]; exact h.size)
  have Hlow : Hid (∀ wx, Below B0 w wx → Below w.heap.size w wx) := Lib.hid (fun wx h => by rw [← hB]; exact h)
  have KT : Hid (∀ wx wy, Below B0 w wx → Below wx.heap.size wx wy → Below B0 w wy) := Lib.hid (fun wx wy h1 h2 => h1.trans (h2.mono (HBl.out _ h1)))
  have KA : Hid (∀ wx o, Below B0 w wx → Below B0 w (wx.alloc o)) := Lib.hid (fun wx o h => h.alloc (HBl.out _ h) _)
  have Ka : Hid (∀ wx, Below B0 w wx → Bs wx A n l) := Lib.hid (fun wx hx => h.below (Hlow.out _ hx))
  have KN : Hid (∀ wx, Below B0 w wx → Nib wx) := Lib.hid (fun wx hx => hN.below (Hlow.out _ hx))
  have G0 : Hid (Below B0 w (w.alloc (.cells #[.int .i64 v, .int .i64 r, .int .i64 e, .int .i64 p] 30))) := Lib.hid (KA.out _ _ (Below.refl _ _))
  have S0 : Hid (SupAt (w.alloc (.cells #[.int .i64 v, .int .i64 r, .int .i64 e, .int .i64 p] 30)) w.heap.size v r e p) := Lib.hid (SupAt.new w v r e p)
  have Ha : Hid (∀ wx, Below B0 w wx → Calls Tryd.prog 9 #[] wx fun q w' => q = .returned (.bool true) ∧ Below wx.heap.size wx w') := Lib.hid (fun wx hx => awake14 wx (KN.out _ hx))
  obtain ⟨N4, hN4⟩ : ∃ N : Nat, N = 4096 := ⟨_, rfl⟩
  obtain ⟨a0, a1, a2, a3, ht0⟩ : ∃ t0 t1 t2 t3, supOpen l 0 = ⟨t0, t1, t2, t3⟩ := ⟨_, _, _, _, rfl⟩
  obtain ⟨k0, hk0⟩ : ∃ k, k = supCode l 0 := ⟨_, rfl⟩
  have CO0 : Hid (∀ wx, Below B0 w wx → Calls Tryd.prog 18 #[.slice A n c, .int .i64 0] wx fun q w' => q = .returned (.tuple #[.agg #[.int .i64 a0, .int .i64 a1, .int .i64 a2, .int .i64 a3], .int .i64 k0]) ∧ Below wx.heap.size wx w') := Lib.hid (fun wx hx => by
    have h := sopen_any A n c l 0 wx (KN.out _ hx) (Ka.out _ hx) hc
    rw [ht0, ← hk0] at h
    exact h)
  have CM0 : Hid (k0 = 0 → ∀ wx, Below B0 w wx → Calls Tryd.prog 15 #[.agg #[.int .i64 a0, .int .i64 a1, .int .i64 a2, .int .i64 a3]] wx fun q w' => ∃ x, q = .returned (.tuple #[x, .int .i64 0]) ∧ w'.ownsRow wx.heap.size 5 1 x N4 (bs l) ∧ Below wx.heap.size wx w') := Lib.hid (fun hz wx hx => by
    obtain ⟨g1, g2, g3⟩ := sup_page l 0 (by rw [← hk0]; exact hz)
    rw [ht0] at g1 g2
    have h := smake_ok ⟨a0, a1, a2, a3⟩ wx (KN.out _ hx) g1
    rw [g2] at h
    rw [hN4]; exact h)
  have HV0 : Hid (k0 = 0 → bits .and .i64 a0 1 = 0) := Lib.hid (fun hz => by
    obtain ⟨g1, g2, g3⟩ := sup_page l 0 (by rw [← hk0]; exact hz)
    rw [ht0] at g1 g3
    have g4 := of_decide_eq_true (show decide _ = true from g1)
    simp only at g4 g3
    rw [low_one _ (by omega) (by omega)]; exact g3)
  obtain ⟨b0, b1, b2, b3, ht1⟩ : ∃ t0 t1 t2 t3, supOpen l 1 = ⟨t0, t1, t2, t3⟩ := ⟨_, _, _, _, rfl⟩
  obtain ⟨k1, hk1⟩ : ∃ k, k = supCode l 1 := ⟨_, rfl⟩
  have CO1 : Hid (∀ wx, Below B0 w wx → Calls Tryd.prog 18 #[.slice A n c, .int .i64 1] wx fun q w' => q = .returned (.tuple #[.agg #[.int .i64 b0, .int .i64 b1, .int .i64 b2, .int .i64 b3], .int .i64 k1]) ∧ Below wx.heap.size wx w') := Lib.hid (fun wx hx => by
    have h := sopen_any A n c l 1 wx (KN.out _ hx) (Ka.out _ hx) hc
    rw [ht1, ← hk1] at h
    exact h)
  have CM1 : Hid (k1 = 0 → ∀ wx, Below B0 w wx → Calls Tryd.prog 15 #[.agg #[.int .i64 b0, .int .i64 b1, .int .i64 b2, .int .i64 b3]] wx fun q w' => ∃ x, q = .returned (.tuple #[x, .int .i64 0]) ∧ w'.ownsRow wx.heap.size 5 1 x N4 (bs l) ∧ Below wx.heap.size wx w') := Lib.hid (fun hz wx hx => by
    obtain ⟨g1, g2, g3⟩ := sup_page l 1 (by rw [← hk1]; exact hz)
    rw [ht1] at g1 g2
    have h := smake_ok ⟨b0, b1, b2, b3⟩ wx (KN.out _ hx) g1
    rw [g2] at h
    rw [hN4]; exact h)
  have HV1 : Hid (k1 = 0 → bits .and .i64 b0 1 = 1) := Lib.hid (fun hz => by
    obtain ⟨g1, g2, g3⟩ := sup_page l 1 (by rw [← hk1]; exact hz)
    rw [ht1] at g1 g3
    have g4 := of_decide_eq_true (show decide _ = true from g1)
    simp only at g4 g3
    rw [low_one _ (by omega) (by omega)]; exact g3)
  have CM : Hid (∀ wx, Calls Tryd.prog 15 #[.agg #[.int .i64 v, .int .i64 r, .int .i64 e, .int .i64 p]] wx fun q w' => q = .returned (.tuple #[.slice none 0 0, .int .i64 1]) ∧ Below wx.heap.size wx w') := Lib.hid (fun wx => smake_bad ⟨v, r, e, p⟩ wx hs)
  clear hN h hc hs hB hN4 ht0 hk0 ht1 hk1
  go_enter Tryd.func6, Tryd.ntmps6
  go_wp2_with (go_at_call 9; (with_reducible refine (Ha.out _ G0.out).mono ?_); rintro q w1 ⟨rfl, hb⟩; have G1 := Lib.hid (KT.out _ _ G0.out hb); have S1 := Lib.hid (S0.out.below hb); clear hb)
  go_loopw [6] (fun i wr => ∃ (k : Nat) (z : Int), k ≤ 2 ∧ i = .int .i64 z ∧ z = k ∧ Below B0 w wr ∧ SupAt wr w.heap.size v r e p) (fun i _ => 2 - (intOf i).toNat)
  case atStart => exact ⟨0, 0, by omega, rfl, rfl, G1.out, S1.out⟩
  case round =>
    obtain ⟨k, zk, hk, rfl, hzk, hb, hsr⟩ := hrel
    have Hb := Lib.hid hb
    have Sr := Lib.hid hsr
    clear hb hsr
    have hcase : k = 0 ∨ k = 1 ∨ k = 2 := by omega
    rcases hcase with rfl | rfl | rfl
    · obtain rfl : zk = 0 := by omega
      clear hzk hk
      by_cases hz : k0 = 0
      · have CZ := Lib.hid (CM0.out hz)
        have hv1 := HV0.out hz
        go_wp2_with (first | (go_at_call 18; (with_reducible refine (CO0.out _ Hb.out).mono ?_); rintro q w2 ⟨rfl, hb⟩; have G2 := Lib.hid (KA.out _ (.cells #[.int .i64 a0, .int .i64 a1, .int .i64 a2, .int .i64 a3] 30) (KT.out _ _ Hb.out hb)); have S2 := Lib.hid ((Sr.out.below hb).below ((Below.refl w2.heap.size w2).alloc (Nat.le_refl _) (.cells #[.int .i64 a0, .int .i64 a1, .int .i64 a2, .int .i64 a3] 30))); have T2 := Lib.hid (SupAt.new w2 a0 a1 a2 a3); clear hb) | (go_at_call 15; (with_reducible refine (CZ.out _ G2.out).mono ?_); rintro q w3 ⟨x, rfl, ho, hb⟩; have G3 := Lib.hid (KT.out _ _ G2.out hb); have S3 := Lib.hid (S2.out.below hb); have T3 := Lib.hid (T2.out.below hb); obtain ⟨c0, c1, c2, c3⟩ := T3.out.cells; obtain ⟨Ax, cx, rfl, -, -, -⟩ := own_addr ho; have hcx := conv_own ho; have hcl := run_convert_bs (Ka.out _ G3.out) c; clear ho hb))
        go_roundw
        case rel => exact ⟨1, 1, by omega, rfl, rfl, G3.out, S3.out⟩
        case measure => simp [intOf]
      · go_wp2_with (go_at_call 18; (with_reducible refine (CO0.out _ Hb.out).mono ?_); rintro q w2 ⟨rfl, hb⟩; have G2 := Lib.hid (KA.out _ (.cells #[.int .i64 a0, .int .i64 a1, .int .i64 a2, .int .i64 a3] 30) (KT.out _ _ Hb.out hb)); have S2 := Lib.hid ((Sr.out.below hb).below ((Below.refl w2.heap.size w2).alloc (Nat.le_refl _) (.cells #[.int .i64 a0, .int .i64 a1, .int .i64 a2, .int .i64 a3] 30))); have T2 := Lib.hid (SupAt.new w2 a0 a1 a2 a3); clear hb)
        go_roundw
        case rel => exact ⟨1, 1, by omega, rfl, rfl, G2.out, S2.out⟩
        case measure => simp [intOf]
    · obtain rfl : zk = 1 := by omega
      clear hzk hk
      by_cases hz : k1 = 0
      · have CZ := Lib.hid (CM1.out hz)
        have hv1 := HV1.out hz
        go_wp2_with (first | (go_at_call 18; (with_reducible refine (CO1.out _ Hb.out).mono ?_); rintro q w2 ⟨rfl, hb⟩; have G2 := Lib.hid (KA.out _ (.cells #[.int .i64 b0, .int .i64 b1, .int .i64 b2, .int .i64 b3] 30) (KT.out _ _ Hb.out hb)); have S2 := Lib.hid ((Sr.out.below hb).below ((Below.refl w2.heap.size w2).alloc (Nat.le_refl _) (.cells #[.int .i64 b0, .int .i64 b1, .int .i64 b2, .int .i64 b3] 30))); have T2 := Lib.hid (SupAt.new w2 b0 b1 b2 b3); clear hb) | (go_at_call 15; (with_reducible refine (CZ.out _ G2.out).mono ?_); rintro q w3 ⟨x, rfl, ho, hb⟩; have G3 := Lib.hid (KT.out _ _ G2.out hb); have S3 := Lib.hid (S2.out.below hb); have T3 := Lib.hid (T2.out.below hb); obtain ⟨c0, c1, c2, c3⟩ := T3.out.cells; obtain ⟨Ax, cx, rfl, -, -, -⟩ := own_addr ho; have hcx := conv_own ho; have hcl := run_convert_bs (Ka.out _ G3.out) c; clear ho hb))
        go_roundw
        case rel => exact ⟨2, 2, by omega, rfl, rfl, G3.out, S3.out⟩
        case measure => simp [intOf]
      · go_wp2_with (go_at_call 18; (with_reducible refine (CO1.out _ Hb.out).mono ?_); rintro q w2 ⟨rfl, hb⟩; have G2 := Lib.hid (KA.out _ (.cells #[.int .i64 b0, .int .i64 b1, .int .i64 b2, .int .i64 b3] 30) (KT.out _ _ Hb.out hb)); have S2 := Lib.hid ((Sr.out.below hb).below ((Below.refl w2.heap.size w2).alloc (Nat.le_refl _) (.cells #[.int .i64 b0, .int .i64 b1, .int .i64 b2, .int .i64 b3] 30))); have T2 := Lib.hid (SupAt.new w2 b0 b1 b2 b3); clear hb)
        go_roundw
        case rel => exact ⟨2, 2, by omega, rfl, rfl, G2.out, S2.out⟩
        case measure => simp [intOf]
    · obtain rfl : zk = 2 := by omega
      clear hzk hk
      obtain ⟨d0, d1, d2, d3⟩ := Sr.out.cells
      go_wp2_with (go_at_call 15; (with_reducible refine (CM.out _).mono ?_); rintro q w4 ⟨rfl, hb⟩; have G4 := Lib.hid (KT.out _ _ Hb.out hb); clear hb)
      go_ret
      exact ⟨rfl, Hlow.out _ G4.out⟩

theorem superBack_any (v r e p : Int) (A : Option Addr) (n c : Nat) (l : List UInt8) (w : World) (hN : Nib w) (h : Bs w A n l) (hc : n ≤ c) :
    Calls Tryd.prog 6 #[.agg #[.int .i64 v, .int .i64 r, .int .i64 e, .int .i64 p], .slice A n c] w fun q w' => q = .returned (.bool true) ∧ Below w.heap.size w w' := by
  by_cases hs : supMay ⟨v, r, e, p⟩ = true
  · exact superBack_ok v r e p A n c l w hN h hc hs
  · exact superBack_bad v r e p A n c l w hN h hc (by simpa using hs)

end Go.Proofs.YteljopjaolegaaaDoor
