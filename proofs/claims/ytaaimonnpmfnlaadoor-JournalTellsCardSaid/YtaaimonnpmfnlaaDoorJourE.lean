/-
  CONTRACT: the laws' own first small case (layer 15).
-/
import Derived.Test.YtaaimonnpmfnlaaDoorJourD
namespace Go.Proofs.YtaaimonnpmfnlaaDoor
open Go.RowKit
set_option maxRecDepth 100000
set_option linter.unusedVariables false

/-- Scan, whatever the epoch. -/
def scanZ (l : List UInt8) (e : Int) : List (List UInt8) × Nat := if EpOk e = true then scanOf l e.toNat else ([], 0)

theorem scan_any (A : Option Addr) (n c : Nat) (e : Int) (l : List UInt8) (w : World) (hN : Nib w) (hb : Bs w A n l) (hc : n ≤ c) (hn : n ≤ 140737488355328) :
    Calls Tryd.prog 15 #[.slice A n c, .int .i64 e] w fun r w' => ∃ v vs, r = .returned (.tuple #[v, .int .i64 ((scanZ l e).2 : Nat)]) ∧ Recs w' w.heap.size v vs (scanZ l e).1 ∧ Hid (vs.length ≤ 2147483648) ∧ Below w.heap.size w w' := by
  by_cases h : EpOk e = true
  · have hz : scanZ l e = scanOf l e.toNat := if_pos h
    simp only [EpOk, decide_eq_true_eq] at h
    rw [hz]
    obtain ⟨k, rfl⟩ : ∃ k : Nat, e = k := ⟨e.toNat, by omega⟩
    exact scan_ok A n c k l w hN hb hc (by omega) (by omega) hn
  · have hz : scanZ l e = ([], 0) := if_neg h
    rw [hz]
    exact (scan_bad A n c e w (by simpa using h)).mono fun r w' ⟨h1, h2⟩ => ⟨_, [], h1, Recs.nil _ _, Lib.hid (by simp), by rw [← h2]; exact Below.refl _ _⟩
theorem rscan_any (A : Option Addr) (n c : Nat) (e : Int) (l : List UInt8) (w : World) (hb : Bs w A n l) (hc : n ≤ c) (hn : n ≤ 140737488355328) :
    Calls Tryd.prog 16 #[.slice A n c, .int .i64 e] w fun r w' => ∃ v vs, r = .returned (.tuple #[v, .int .i64 ((scanZ l e).2 : Nat)]) ∧ Recs w' w.heap.size v vs (scanZ l e).1 ∧ Hid (vs.length ≤ 2147483648) ∧ Below w.heap.size w w' := by
  by_cases h : EpOk e = true
  · have hz : scanZ l e = scanOf l e.toNat := if_pos h
    simp only [EpOk, decide_eq_true_eq] at h
    rw [hz]
    obtain ⟨k, rfl⟩ : ∃ k : Nat, e = k := ⟨e.toNat, by omega⟩
    exact rscan_ok A n c k l w hb hc (by omega) (by omega) hn
  · have hz : scanZ l e = ([], 0) := if_neg h
    rw [hz]
    exact (rscan_bad A n c e w (by simpa using h)).mono fun r w' ⟨h1, h2⟩ => ⟨_, [], h1, Recs.nil _ _, Lib.hid (by simp), by rw [← h2]; exact Below.refl _ _⟩

def awakeF : List UInt8 := frameOf 1 0 [7, 8]
theorem awakeF_length : awakeF.length = 22 := frameOf_length 1 0 [7, 8]
theorem awake_bytes : splice ((List.replicate 512 (0 : UInt8)).set 0 1) 8 awakeF = stampedL (le 8 1) awakeF := by
  have hl := awakeF_length
  have hn : ¬ awakeF = [] := fun h => by rw [h] at hl; simp at hl
  rw [stampedL_yes hn, List.drop_of_length_le (by omega), stampedL_nil, List.append_nil, List.take_of_length_le (by omega), sectorL, le_length, hl, splice, hl]
  have h1 : (List.replicate 512 (0 : UInt8)).set 0 1 = [1] ++ List.replicate 511 0 := rfl
  have h2 : List.take 8 ([(1 : UInt8)] ++ List.replicate 511 0) = le 8 1 := by decide
  have h3 : List.drop (8 + 22) ([(1 : UInt8)] ++ List.replicate 511 0) = List.replicate (512 - (8 + 22)) 0 := by
    rw [List.drop_append, List.drop_of_length_le (by simp), List.nil_append, List.drop_replicate]
    rfl
  rw [h1, h2, h3, List.append_assoc]
theorem awake_one : scanZ (stampedL (le 8 1) awakeF) 1 = ([[7, 8]], 22) := by
  have hz : scanZ (stampedL (le 8 1) awakeF) 1 = scanOf (stampedL (le 8 1) awakeF) 1 := rfl
  obtain ⟨k, hk⟩ := stream_stamped 1 (by omega) 22 awakeF (by rw [awakeF_length]; exact Nat.le_refl _)
  rw [hz, scanOf, hk]
  exact scan_one 1 [7, 8] k (by omega) (by omega) (by decide)
theorem awake_two : scanZ (stampedL (le 8 1) awakeF) 2 = ([], 0) := by
  have hz : scanZ (stampedL (le 8 1) awakeF) 2 = scanOf (stampedL (le 8 1) awakeF) 2 := rfl
  rw [hz, scanOf, stamp_stamped 1 2 awakeF (by omega) (by omega)]
  exact scan_none [] 2 (next_nil _ _)

set_option maxHeartbeats 4000000 in
theorem awake15 (w : World) (hN : Nib w) :
    Calls Tryd.prog 9 #[] w fun e w' => e = .returned (.bool true) ∧ Below w.heap.size w w' := by
  have Hinfo := Lib.hid info_u8
  have Hsz := Lib.hid size_u8
  obtain ⟨B, hB⟩ : ∃ B, B = w.heap.size := ⟨_, rfl⟩
  have HBl : Hid (∀ wx, Below B w wx → B ≤ wx.heap.size) := Lib.hid (fun wx h => by rw [hB]; exact h.size)
  have Hlow : Hid (∀ wx, Below B w wx → Below w.heap.size w wx) := Lib.hid (fun wx h => by rw [← hB]; exact h)
  have KN : Hid (∀ wx, Below B w wx → Nib wx) := Lib.hid (fun wx h => hN.below (Hlow.out _ h))
  obtain ⟨F, hF⟩ : ∃ F, F = awakeF := ⟨_, rfl⟩
  have HFl : Hid (F.length = 22) := Lib.hid (by rw [hF]; exact awakeF_length)
  have CF : Hid (∀ wx Ax cx, Nib wx → Bs wx Ax 2 [7, 8] → Calls Tryd.prog 11 #[.int .i64 1, .int .i64 0, .slice Ax 2 cx] wx fun r w' => ∃ v, r = .returned (.tuple #[v, .int .i64 0]) ∧ w'.ownsRow wx.heap.size 5 1 v 22 (bs F) ∧ Below wx.heap.size wx w') := Lib.hid (fun wx Ax cx hn hb => by
    rw [hF]; exact frame_ok 1 0 2 cx Ax [7, 8] wx hn hb (by omega) (by omega) (by omega) (by omega))
  have CZ : Hid (∀ wx, Calls Tryd.prog 11 #[.int .i64 0, .int .i64 0, .slice none 0 0] wx fun r w' => r = .returned (.tuple #[.slice none 0 0, .int .i64 1]) ∧ wx = w') := Lib.hid (fun wx => frame_bad 0 0 0 0 none wx (by decide))
  obtain ⟨L, hL⟩ : ∃ L, L = stampedL (le 8 1) awakeF := ⟨_, rfl⟩
  have HLs : Hid (splice ((List.replicate 512 (0 : UInt8)).set 0 1) 8 F = L) := Lib.hid (by rw [hF, hL]; exact awake_bytes)
  have HLl : Hid (L.length = 512) := Lib.hid (by
    rw [← HLs.out, length_splice _ _ _ (by rw [HFl.out]; simp)]; simp)
  have C1 : Hid (∀ wx g, Nib wx → Bs wx (some ⟨g, 0, none⟩) 512 L → Calls Tryd.prog 15 #[.slice (some ⟨g, 0, none⟩) 512 512, .int .i64 1] wx fun r w' => ∃ A1 c1 u cu, r = .returned (.tuple #[.slice (some A1) 1 c1, .int .i64 22]) ∧ w'.cell? A1 = some (.slice u 2 cu) ∧ Bs w' u 2 [7, 8] ∧ Below wx.heap.size wx w') := Lib.hid (fun wx g hn hb => by
    refine (scan_any (some ⟨g, 0, none⟩) 512 512 1 L wx hn hb (Nat.le_refl _) (by omega)).mono ?_
    rintro r w' ⟨v, vs, rfl, hr, _, hb2⟩
    rw [hL, awake_one] at hr
    rw [hL, awake_one]
    obtain ⟨A, c, rfl, hc, hrr⟩ := hr.rows
    have hl : vs.length = 1 := by rw [← hr.len]; rfl
    rw [hl]
    obtain ⟨ad, Aj, cj, rfl, h2, h3, _⟩ := hrr.get 0 [7, 8] rfl
    rw [Addr.add_zero'] at h2
    exact ⟨ad, c, Aj, cj, rfl, h2, h3, hb2⟩)
  have C2 : Hid (∀ wx g, Nib wx → Bs wx (some ⟨g, 0, none⟩) 512 L → Calls Tryd.prog 15 #[.slice (some ⟨g, 0, none⟩) 512 512, .int .i64 2] wx fun r w' => ∃ A1 c1, r = .returned (.tuple #[.slice A1 0 c1, .int .i64 0]) ∧ Below wx.heap.size wx w') := Lib.hid (fun wx g hn hb => by
    refine (scan_any (some ⟨g, 0, none⟩) 512 512 2 L wx hn hb (Nat.le_refl _) (by omega)).mono ?_
    rintro r w' ⟨v, vs, rfl, hr, _, hb2⟩
    rw [hL, awake_two] at hr
    rw [hL, awake_two]
    obtain ⟨A, c, rfl, hc, hrr⟩ := hr.rows
    have hl : vs.length = 0 := by rw [← hr.len]; rfl
    rw [hl]
    exact ⟨A, c, rfl, hb2⟩)
  have HF3 : Hid (F[0]? = some 2 ∧ F[4]? = some 1 ∧ F[20]? = some 7) := Lib.hid (by
    have h4 : (F.drop 4)[0]? = F[4]? := by rw [List.getElem?_drop]
    have h20 : (F.drop 20)[0]? = F[20]? := by rw [List.getElem?_drop]
    have h0 : (F.take 4)[0]? = F[0]? := by rw [List.getElem?_take]; rfl
    rw [← h0, ← h4, ← h20, hF, awakeF, frame_take4, frame_drop4, frame_drop20]
    exact ⟨rfl, rfl, rfl⟩)
  clear hN hB hF hL
  have G0 : Hid (Below B w (w.alloc (.cells #[.int .u8 7, .int .u8 8] 5))) := Lib.hid ((Below.refl _ _).alloc (HBl.out _ (Below.refl _ _)) _)
  have HLb : Hid (Bs (w.alloc (.cells #[.int .u8 7, .int .u8 8] 5)) (some ⟨w.heap.size, 0, none⟩) 2 [7, 8]) := Lib.hid (lit_bytes _ _ _ 2 _ rfl rfl (by omega))
  go_enter Tryd.func9, Tryd.ntmps9
  go_wp2_with (first
    | (go_at_call 11; (with_reducible refine (CF.out _ _ 2 (KN.out _ G0.out) HLb.out).mono ?_); rintro e w1 ⟨v, rfl, ho, hb⟩; have G1 : Hid (Below B w w1) := Lib.hid (G0.out.trans (hb.mono (HBl.out _ G0.out))); obtain ⟨Ax, cx, rfl, -, hbx, -⟩ := own_addr ho; obtain ⟨ad, x0, rfl, -, -⟩ := hbx.get (k := 0) (by omega); obtain ⟨a0, e0, d0⟩ := hbx.2.2 0 2 HF3.out.1; cases e0; obtain ⟨a4, e4, d4⟩ := hbx.2.2 4 1 HF3.out.2.1; cases e4; obtain ⟨a20, e20, d20⟩ := hbx.2.2 20 7 HF3.out.2.2; cases e20; have f0 : w1.cell? ad = some (.int .u8 2) := (by rw [Addr.add_zero'] at d0; exact d0); have f4 : w1.cell? ⟨ad.block, ad.off + 4, none⟩ = some (.int .u8 1) := d4; have f20 : w1.cell? ⟨ad.block, ad.off + 20, none⟩ = some (.int .u8 7) := d20; have X1 := Lib.hid hbx; clear ho hb hbx d0 d4 d20 G0 HLb CF)
    | (at_make; refine wpList_make_zeros rfl _ _ 22 rfl B 5 (.int .u8 0) 1 Tryd.underlying22 Hinfo.out rfl _ _ 512 rfl rfl rfl rfl (by omega) (by simp only [maxLen]; omega) (HBl.out _ G1.out) ?_; intro w2 Ho2 hb2; obtain ⟨g, hgd⟩ : ∃ g, g = w1.heap.size := ⟨_, rfl⟩; rw [← hgd] at Ho2 ⊢; have hz2 := (zero_block Ho2).out; have Hbg : Hid (B ≤ g) := Lib.hid (by rw [hgd]; exact HBl.out _ G1.out); have G2 : Hid (Below B w w2) := Lib.hid (G1.out.trans (hb2.mono (HBl.out _ G1.out))); have X2 := Lib.hid (X1.out.below hb2); have hc0 : w2.cell? ⟨g, 0, none⟩ = some (.int .u8 0) := cell_block hz2 (by simp [bs]; rfl); have hf0 : w2.frozen? ⟨g, 0, none⟩ = false := free_block hz2 0; obtain ⟨w3, hw3⟩ : ∃ w3, w3 = w2.setCell ⟨g, 0, none⟩ (.int .u8 1) := ⟨_, rfl⟩; have hs3 := set_block hz2 0 (.int .u8 (ub 1)); have Z3 : Hid (w3.heap[g]? = some (.cells (bs ((List.replicate 512 0).set 0 1)).toArray 5 (0, 0))) := Lib.hid (by rw [hw3]; have e := bs_set (rest := []) (l := List.replicate 512 (0 : UInt8)) (j := 0) (c := 1) (by simp); rw [List.append_nil, List.append_nil] at e; rw [← e]; exact hs3); have G3 : Hid (Below B w w3) := Lib.hid (by rw [hw3]; exact G2.out.setCell Hbg.out _); have X3 : Hid (Bs w3 (some ad) 22 F) := Lib.hid (by rw [hw3]; exact X1.out.below (hb2.setCell (by rw [hgd]; exact Nat.le_refl _) _)); have Hw3 := hw3.symm; clear Ho2 hb2 hz2 hs3 hgd hw3 f0 f4 f20)
    | (refine wpList_copy_bytes rfl _ _ 22 22 rfl 5 Tryd.underlying22 Hsz.out (some ⟨g, 8, none⟩) 504 504 (some ad) 22 cx rfl rfl g 8 ((List.replicate 512 0).set 0 1) 5 Z3.out F X3.out 22 rfl (fun _ => rfl) (by simp) ?_; intro w4 hw4 hg4; have Z4 : Hid (w4.heap[g]? = some (.cells (bs L).toArray 5 (0, 0))) := Lib.hid (by have := hw4.out; rw [List.take_of_length_le (by rw [HFl.out]; exact Nat.le_refl _), HLs.out] at this; exact this); have G4 : Hid (Below B w w4) := Lib.hid (G3.out.grown hg4 (HBl.out _ G3.out) (fun k hk => by cases hk; exact Hbg.out)); have HL4 : Hid (Bs w4 (some ⟨g, 0, none⟩) 512 L) := Lib.hid (bs_row (rest := []) (by rw [List.append_nil]; exact Z4.out) HLl.out (by omega)); clear hw4 hg4 Hw3 hc0 hf0)
    | (go_at_call 15; (with_reducible refine (C1.out w4 g (KN.out _ G4.out) HL4.out).mono ?_); rintro r w5 ⟨A1, c1, u, cu, rfl, hc5, hb5, hb⟩; have G5 : Hid (Below B w w5) := Lib.hid (G4.out.trans (hb.mono (HBl.out _ G4.out))); have HL5 := Lib.hid (HL4.out.below hb); have Hc5 := Lib.hid hc5; have Hb5 := Lib.hid hb5; clear hc5 hb5 hb)
    | (go_at_call 15; (with_reducible refine (C2.out w5 g (KN.out _ G5.out) HL5.out).mono ?_); rintro r w6 ⟨A2, c2, rfl, hb⟩; have G6 : Hid (Below B w w6) := Lib.hid (G5.out.trans (hb.mono (HBl.out _ G5.out))); have hcl : w6.cell? A1 = some (.slice u 2 cu) := cell_below hb Hc5.out; have Hb6 := Lib.hid (Hb5.out.below hb); clear hb)
    | (go_at_call 11; (with_reducible refine (CZ.out w6).mono ?_); rintro r w' ⟨rfl, rfl⟩; have hcv := run_convert_bs Hb6.out cu; have hsl := strB_list [7, 8]))
  go_ret
  exact ⟨rfl, Hlow.out _ G6.out⟩

end Go.Proofs.YtaaimonnpmfnlaaDoor
