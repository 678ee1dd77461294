/-
  CONTRACT: journal.Frame, where there is a frame.
-/
import Derived.Test.YtaaimonnpmfnlaaDoorJourA
namespace Go.Proofs.YtaaimonnpmfnlaaDoor
open Go.RowKit
set_option maxRecDepth 100000
set_option linter.unusedVariables false

theorem epochs_any (e : Int) (w : World) : Calls Tryd.prog 34 #[.int .i64 e] w fun r w' => r = .returned (.bool (EpOk e)) ∧ w = w' := by
  by_cases h1 : 1 ≤ e
  · by_cases h2 : e ≤ 1099511627776
    · have hk : EpOk e = true := by simp [EpOk, h1, h2]
      rw [hk]
      go_enter Tryd.func34, Tryd.ntmps34
      go_wp2
      go_ret
      exact ⟨rfl, rfl⟩
    · have hk : EpOk e = false := by simp [EpOk, h2]
      rw [hk]
      go_enter Tryd.func34, Tryd.ntmps34
      go_wp2
      go_ret
      exact ⟨rfl, rfl⟩
  · have hk : EpOk e = false := by simp [EpOk, h1]
    rw [hk]
    go_enter Tryd.func34, Tryd.ntmps34
    go_wp2
    go_ret
    exact ⟨rfl, rfl⟩

set_option maxHeartbeats 2000000 in
theorem frame_ok (e number n c : Nat) (A : Option Addr) (b : List UInt8) (w : World) (hN : Nib w) (hb : Bs w A n b) (h1 : 1 ≤ e) (h2 : e ≤ 1099511627776) (h3 : number < 2147483648) (h4 : n ≤ 268435456) :
    Calls Tryd.prog 11 #[.int .i64 e, .int .i64 number, .slice A n c] w fun r w' => ∃ v, r = .returned (.tuple #[v, .int .i64 0]) ∧ w'.ownsRow w.heap.size 5 1 v (20 + n) (bs (frameOf e number b)) ∧ Below w.heap.size w w' := by
  have Hinfo := Lib.hid info_u8
  have hl := hb.len
  obtain ⟨B, hB⟩ : ∃ B, B = w.heap.size := ⟨_, rfl⟩
  have HBl : Hid (∀ wx, Below B w wx → B ≤ wx.heap.size) := Lib.hid (fun wx h => by rw [hB]; exact h.size)
  have Hlow : Hid (∀ wx, Below B w wx → Below w.heap.size w wx) := Lib.hid (fun wx h => by rw [← hB]; exact h)
  have K : Hid (∀ wx, Below B w wx → Bs wx A n b) := Lib.hid (fun wx h => hb.below (Hlow.out _ h))
  have KN : Hid (∀ wx, Below B w wx → Nib wx) := Lib.hid (fun wx h => hN.below (Hlow.out _ h))
  obtain ⟨ei, hei⟩ : ∃ z : Int, z = (e : Int) := ⟨_, rfl⟩
  obtain ⟨ni, hni⟩ : ∃ z : Int, z = (number : Int) := ⟨_, rfl⟩
  obtain ⟨M, hM⟩ : ∃ M, M = 20 + n := ⟨_, rfl⟩
  obtain ⟨Z, hZ⟩ : ∃ Z, Z = bs (List.replicate n 0) := ⟨_, rfl⟩
  have HZl : Hid (Z.length = n) := Lib.hid (by rw [hZ]; simp [bs_length])
  have CE : Hid (∀ wx, Calls Tryd.prog 34 #[.int .i64 ei] wx fun r w' => r = .returned (.bool true) ∧ wx = w') := Lib.hid (fun wx => by
    have hk : EpOk ei = true := by simp only [EpOk, decide_eq_true_eq]; omega
    have := epochs_any ei wx
    rw [hk] at this; exact this)
  have C1 : Hid (∀ wx, wx.heap[B]? = some (.cells (bs jL0 ++ Z).toArray 5 (0, 0)) → Calls Tryd.prog 35 #[.slice (some ⟨B, 0, none⟩) 20 M, .int .i64 0, .int .i64 n, .int .i64 4] wx fun r w' => r = .returned (.tuple #[]) ∧ w'.heap[B]? = some (.cells (bs (jL1 n) ++ Z).toArray 5 (0, 0)) ∧ wx.grownBy w' (some B)) := Lib.hid (fun wx h =>
    jput_any B 0 n 4 20 M jL0 Z wx (by rw [jL0, List.length_replicate]) (by omega) h (by omega) (by omega) (by omega) (by omega) (by omega) (by omega))
  have C2 : Hid (∀ wx, wx.heap[B]? = some (.cells (bs (jL1 n) ++ Z).toArray 5 (0, 0)) → Calls Tryd.prog 35 #[.slice (some ⟨B, 0, none⟩) 20 M, .int .i64 4, .int .i64 ei, .int .i64 8] wx fun r w' => r = .returned (.tuple #[]) ∧ w'.heap[B]? = some (.cells (bs (jL2 e n) ++ Z).toArray 5 (0, 0)) ∧ wx.grownBy w' (some B)) := Lib.hid (fun wx h => by
    rw [hei]; exact jput_any B 4 e 8 20 M _ Z wx (jL1_length n) (by omega) h (by omega) (by omega) (by omega) (by omega) (by omega) (by omega))
  have C3 : Hid (∀ wx, wx.heap[B]? = some (.cells (bs (jL2 e n) ++ Z).toArray 5 (0, 0)) → Calls Tryd.prog 35 #[.slice (some ⟨B, 0, none⟩) 20 M, .int .i64 12, .int .i64 ni, .int .i64 4] wx fun r w' => r = .returned (.tuple #[]) ∧ w'.heap[B]? = some (.cells (bs (jL3 e number n) ++ Z).toArray 5 (0, 0)) ∧ wx.grownBy w' (some B)) := Lib.hid (fun wx h => by
    rw [hni]; exact jput_any B 12 number 4 20 M _ Z wx (jL2_length e n) (by omega) h (by omega) (by omega) (by omega) (by omega) (by omega) (by omega))
  obtain ⟨Y, hY⟩ : ∃ Y, Y = jL3 e number n ++ b := ⟨_, rfl⟩
  have HYl : Hid (Y.length = M) := Lib.hid (by rw [hY, List.length_append, jL3_length, hl, hM])
  obtain ⟨ss, hss⟩ : ∃ s : BitVec 32, s = jSum e number b := ⟨_, rfl⟩
  have C4 : Hid (∀ wx g cap, Below B w wx → Bs wx (some ⟨g, 0, none⟩) M Y → M ≤ cap → Calls Tryd.prog 36 #[.slice (some ⟨g, 0, none⟩) M cap] wx fun r w' => r = .returned (.int .i64 (ui ss)) ∧ ∃ k, w' = wx.drewN k) := Lib.hid (fun wx g cap hw hy hc => by
    have := checked_any (some ⟨g, 0, none⟩) M cap Y wx (KN.out _ hw) hy (by omega) hc
    rw [show Y.take 16 ++ Y.drop 20 = jHead e number b.length ++ b by rw [hY, ← hl, jL3_take, jL3_drop]] at this
    rw [hss]
    exact this)
  have C5 : Hid (∀ wx g cap rest, wx.heap[g]? = some (.cells (bs Y ++ rest).toArray 5 (0, 0)) → M ≤ cap → Calls Tryd.prog 35 #[.slice (some ⟨g, 0, none⟩) M cap, .int .i64 16, .int .i64 (ui ss), .int .i64 4] wx fun r w' => r = .returned (.tuple #[]) ∧ w'.heap[g]? = some (.cells (bs (frameOf e number b) ++ rest).toArray 5 (0, 0)) ∧ wx.grownBy w' (some g)) := Lib.hid (fun wx g cap rest h hc => by
    have hlt : ss.toNat < 4294967296 := ss.isLt
    rw [← jL4_is, hl, ← hY, ← hss]; exact jput_any g 16 ss.toNat 4 M cap Y rest wx HYl.out hc h (by omega) (by omega) (by omega) (by omega) (by omega) (by omega))
  have HFl : Hid ((frameOf e number b).length = M) := Lib.hid (by rw [frameOf_length, hl, hM])
  have Hmk : Hid (20 + n ≤ 281474976710656) := Lib.hid (by omega)
  have Hap : Hid (20 + n ≤ 140737488355328) := Lib.hid (by omega)
  have HM0 : Hid (¬ M = 0) := Lib.hid (by omega)
  have HMx : Hid (M ≤ maxLen) := Lib.hid (by simp only [maxLen]; omega)
  have HMn : Hid (M = 20 + n) := Lib.hid hM
  have HYe : Hid (bs (jL3 e number n) ++ bs b = bs Y) := Lib.hid (by rw [hY, bs_append])
  have i1 : 1 ≤ ei := by omega
  have i2 : ei ≤ 1099511627776 := by omega
  have i3 : 0 ≤ ni := by omega
  have i4 : ni < 2147483648 := by omega
  have i5 : (n : Int) ≤ 268435456 := by omega
  have HBw : Hid (B = w.heap.size) := Lib.hid hB
  have HZ := Lib.hid hZ
  rw [← hei, ← hni, ← hM]
  clear hN hb hl hB hei hni h1 h2 h3 h4 hY hss hM hZ
  go_enter Tryd.func11, Tryd.ntmps11
  go_wp2_with (first
    | (go_at_call 34; (with_reducible refine (CE.out w).mono ?_); rintro r w' ⟨rfl, rfl⟩)
    | (at_make; refine wpList_make_cap rfl _ _ 22 rfl 5 Tryd.underlying22 Hinfo.out _ _ 20 n rfl rfl (by decide) (by omega) Hmk.out ?_; intro hq; have Z1 : Hid ((w.alloc (.cells (bs (List.replicate 20 0) ++ bs (List.replicate n 0)).toArray 5)).heap[B]? = some (.cells (bs jL0 ++ Z).toArray 5 (0, 0))) := Lib.hid (by rw [HBw.out, HZ.out]; exact hq.out); have G1 : Hid (Below B w (w.alloc (.cells (bs (List.replicate 20 0) ++ bs (List.replicate n 0)).toArray 5))) := Lib.hid ((Below.refl _ _).alloc (HBl.out _ (Below.refl _ _)) _); generalize (w.alloc (.cells (bs (List.replicate 20 0) ++ bs (List.replicate n 0)).toArray 5)) = w1 at *; rw [← HBw.out, ← HMn.out]; clear hq)
    | (go_at_call 35; (with_reducible refine (C1.out w1 Z1.out).mono ?_); rintro r w2 ⟨rfl, hg, hgr⟩; have Z2 := Lib.hid hg; have G2 : Hid (Below B w w2) := Lib.hid (G1.out.grown hgr (HBl.out _ G1.out) (fun k hk => by cases hk; exact Nat.le_refl _)); clear hg hgr)
    | (go_at_call 35; (with_reducible refine (C2.out w2 Z2.out).mono ?_); rintro r w3 ⟨rfl, hg, hgr⟩; have Z3 := Lib.hid hg; have G3 : Hid (Below B w w3) := Lib.hid (G2.out.grown hgr (HBl.out _ G2.out) (fun k hk => by cases hk; exact Nat.le_refl _)); clear hg hgr)
    | (go_at_call 35; (with_reducible refine (C3.out w3 Z3.out).mono ?_); rintro r w4 ⟨rfl, hg, hgr⟩; have Z4 := Lib.hid hg; have G4 : Hid (Below B w w4) := Lib.hid (G3.out.grown hgr (HBl.out _ G3.out) (fun k hk => by cases hk; exact Nat.le_refl _)); have O4 : Hid (w4.ownsRow B 5 1 (.slice (some ⟨B, 0, none⟩) 20 M) 20 (bs (jL3 e number n))) := Lib.hid (own_of_cells hg (Nat.le_refl _) (jL3_length _ _ _) HMx.out (by rw [jL3_length, HZl.out, HMn.out])); clear hg hgr)
    | (at_builtin; refine wpList_append_bytes rfl _ _ 22 rfl B 5 (.int .u8 0) Tryd.underlying22 Hinfo.out rfl (.slice (some ⟨B, 0, none⟩) 20 M) 20 (bs (jL3 e number n)) rfl O4.out A n c b rfl (K.out _ G4.out) Hap.out (HBl.out _ G4.out) ?_; intro va w5 ho hg hla; rw [HYe.out, ← HMn.out] at ho; have G5 : Hid (Below B w w5) := Lib.hid (G4.out.grown hg (HBl.out _ G4.out) (fun i hi => by cases hi; exact Nat.le_refl _)); obtain ⟨g, cap, rest, rfl, hbg, hgc, hMc, hcm, hrl⟩ := own_row_full ho HM0.out; have Hbg := Lib.hid hbg; have Hgc := Lib.hid hgc; have HMc := Lib.hid hMc; have Hcm := Lib.hid hcm; have Hrl := Lib.hid hrl; have HYb := Lib.hid (bs_row hgc HYl.out (by have := HMx.out; simp only [maxLen] at this; omega)); clear ho hg hla hbg hgc hMc hcm hrl)
    | (go_at_call 36; (with_reducible refine (C4.out w5 g cap G5.out HYb.out HMc.out).mono ?_); rintro r w5b ⟨rfl, k, hk⟩; have Hgc5 : Hid (w5b.heap[g]? = some (.cells (bs Y ++ rest).toArray 5 (0, 0))) := Lib.hid (by rw [hk]; exact Hgc.out); have G5b : Hid (Below B w w5b) := Lib.hid (by rw [hk]; exact below_drewN G5.out k); clear hk)
    | (go_at_call 35; (with_reducible refine (C5.out w5b g cap rest Hgc5.out HMc.out).mono ?_); rintro r w6 ⟨rfl, hg, hgr⟩; have Z6 := Lib.hid hg; have G6 : Hid (Below B w w6) := Lib.hid (G5b.out.grown hgr (HBl.out _ G5b.out) (fun k hk => by cases hk; exact Hbg.out)); clear hg hgr))
  go_ret2
  have hB := HBw.out
  subst hB
  refine ⟨_, rfl, ?_, G6.out⟩
  exact own_of_cells Z6.out Hbg.out HFl.out Hcm.out (by rw [HFl.out, ← HYl.out]; exact Hrl.out)

end Go.Proofs.YtaaimonnpmfnlaaDoor
