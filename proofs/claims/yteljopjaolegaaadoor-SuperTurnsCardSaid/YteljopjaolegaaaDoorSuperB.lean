/-
  CONTRACTS: super.Make; the reference's Body and Make.
-/
import Derived.Test.YteljopjaolegaaaDoorSuperA
import Derived.Deep.RegionHeld3
namespace Go.Proofs.YteljopjaolegaaaDoor
open Go.RowKit
set_option maxRecDepth 100000
set_option linter.unusedVariables false
set_option linter.unusedSimpArgs false

/-- A superblock's four cells in a block of their own. -/
def Sup4 (w : World) (b : Nat) (v r e p : Int) : Prop := w.cell? ⟨b, 0, none⟩ = some (.int .i64 v) ∧ w.cell? ⟨b, 1, none⟩ = some (.int .i64 r) ∧ w.cell? ⟨b, 2, none⟩ = some (.int .i64 e) ∧ w.cell? ⟨b, 3, none⟩ = some (.int .i64 p)
theorem Sup4.below {w w1 : World} {b : Nat} {v r e p : Int} (hb : Below w.heap.size w w1) (h : Sup4 w b v r e p) : Sup4 w1 b v r e p := ⟨cell_below hb h.1, cell_below hb h.2.1, cell_below hb h.2.2.1, cell_below hb h.2.2.2⟩
theorem sup4_new (w : World) (v r e p : Int) (t : TypeId) : Sup4 (w.alloc (.cells #[.int .i64 v, .int .i64 r, .int .i64 e, .int .i64 p] t)) w.heap.size v r e p :=
  have hr := heap_alloc_new w (.cells #[.int .i64 v, .int .i64 r, .int .i64 e, .int .i64 p] t)
  ⟨cell_of_row _ _ 0 _ _ _ hr, cell_of_row _ _ 1 _ _ _ hr, cell_of_row _ _ 2 _ _ _ hr, cell_of_row _ _ 3 _ _ _ hr⟩
theorem supPlace_lt (s : Sup) : supPlace s < 2 := by rw [supPlace]; omega

set_option maxHeartbeats 1000000 in
theorem smake_bad (s : Sup) (w : World) (h : supMay s = false) : Calls Tryd.prog 15 #[s.val] w fun r w' => r = .returned (.tuple #[.slice none 0 0, .int .i64 1]) ∧ Below w.heap.size w w' := by
  obtain ⟨v, r, e, p⟩ := s
  have CM : Hid (∀ wx, Calls Tryd.prog 37 #[.agg #[.int .i64 v, .int .i64 r, .int .i64 e, .int .i64 p]] wx fun q w' => q = .returned (.bool false) ∧ Below wx.heap.size wx w') := Lib.hid (fun wx => by have := smay_any ⟨v, r, e, p⟩ wx; rw [h] at this; exact this)
  simp only [Sup.val]
  clear h
  go_enter Tryd.func15, Tryd.ntmps15
  go_wp2_with (go_at_call 37; (with_reducible refine (CM.out _).mono ?_); rintro q w1 ⟨rfl, hb⟩; have G1 := Lib.hid hb; clear hb)
  go_ret2
  exact ⟨rfl, ((Below.refl _ _).alloc (Nat.le_refl _) _).trans (G1.out.mono (by simp))⟩

set_option maxHeartbeats 2000000 in
theorem smake_ok (s : Sup) (w : World) (hN : Nib w) (h : supMay s = true) : Calls Tryd.prog 15 #[s.val] w fun r w' => ∃ v, r = .returned (.tuple #[v, .int .i64 0]) ∧ w'.ownsRow w.heap.size 5 1 v 4096 (bs (supPage s)) ∧ Below w.heap.size w w' := by
  obtain ⟨v, r, e, p⟩ := s
  have CM : Hid (∀ wx, Calls Tryd.prog 37 #[.agg #[.int .i64 v, .int .i64 r, .int .i64 e, .int .i64 p]] wx fun q w' => q = .returned (.bool true) ∧ Below wx.heap.size wx w') := Lib.hid (fun wx => by have := smay_any ⟨v, r, e, p⟩ wx; rw [h] at this; exact this)
  obtain ⟨pz, hpz⟩ : ∃ z : Int, z = (supPlace ⟨v, r, e, p⟩ : Nat) := ⟨_, rfl⟩
  obtain ⟨N4, hN4⟩ : ∃ N : Nat, N = 4096 := ⟨_, rfl⟩
  obtain ⟨BB, hBB⟩ : ∃ l, l = supBody ⟨v, r, e, p⟩ := ⟨_, rfl⟩
  obtain ⟨PP, hPP⟩ : ∃ l, l = supPage ⟨v, r, e, p⟩ := ⟨_, rfl⟩
  have CP : Hid (∀ wx, Calls Tryd.prog 39 #[.agg #[.int .i64 v, .int .i64 r, .int .i64 e, .int .i64 p]] wx fun q w' => q = .returned (.int .i64 pz) ∧ Below wx.heap.size wx w') := Lib.hid (fun wx => by rw [hpz]; exact splace_any ⟨v, r, e, p⟩ wx h)
  have CB : Hid (∀ wx, Calls Tryd.prog 40 #[.agg #[.int .i64 v, .int .i64 r, .int .i64 e, .int .i64 p]] wx fun q w' => ∃ A c, q = .returned (.slice A 36 c) ∧ Bs w' A 36 BB ∧ Below wx.heap.size wx w') := Lib.hid (fun wx => (sbody_any ⟨v, r, e, p⟩ wx h).mono fun q w' ⟨x, h1, ho, hb⟩ => by
    obtain ⟨A, c, rfl, hbs⟩ := own_bytes ho
    exact ⟨A, c, h1, by rw [hBB]; exact hbs, hb⟩)
  have CK : Hid (∀ wx A c, Nib wx → Bs wx A 36 BB → Calls Tryd.prog 38 #[.int .i64 pz, .int .i64 1, .slice A 36 c] wx fun q w' => ∃ x, q = .returned (.tuple #[x, .int .i64 0]) ∧ w'.ownsRow wx.heap.size 5 1 x N4 (bs PP) ∧ Below wx.heap.size wx w') := Lib.hid (fun wx A c hn hb => by
    have := supPlace_lt ⟨v, r, e, p⟩
    rw [hpz, hN4, hPP]
    rw [hBB] at hb
    exact make_own (supPlace ⟨v, r, e, p⟩) 1 36 c A (supBody ⟨v, r, e, p⟩) wx hn hb (by omega) (by omega) (by omega) (by omega))
  rw [← hN4, ← hPP]
  simp only [Sup.val]
  obtain ⟨B, hB⟩ : ∃ B, B = w.heap.size := ⟨_, rfl⟩
  have HB := Lib.hid hB
  have HBl : Hid (∀ wx, Below B w wx → B ≤ wx.heap.size) := Lib.hid (fun wx h => by rw [hB]; exact h.size)
  have Hlow : Hid (∀ wx, Below B w wx → Below w.heap.size w wx) := Lib.hid (fun wx h => by rw [← hB]; exact h)
  have KN : Hid (∀ wx, Below B w wx → Nib wx) := Lib.hid (fun wx hx => hN.below (Hlow.out _ hx))
  have KA : Hid (∀ o, Below B w (w.alloc o)) := Lib.hid (fun o => by rw [hB]; exact (Below.refl _ _).alloc (Nat.le_refl _) _)
  have KT : Hid (∀ wx wy, Below B w wx → Below wx.heap.size wx wy → Below B w wy) := Lib.hid (fun wx wy h1 h2 => h1.trans (h2.mono (by rw [hB]; exact h1.size)))
  have HR : Hid (Sup4 (w.alloc (.cells #[.int .i64 v, .int .i64 r, .int .i64 e, .int .i64 p] 30)) B v r e p) := Lib.hid (by rw [hB]; exact sup4_new w v r e p _)
  clear h hN hpz hN4 hB hBB hPP
  go_enter Tryd.func15, Tryd.ntmps15
  go_wp2_with (go_at_call 37; (with_reducible refine (CM.out _).mono ?_); rintro q w1 ⟨rfl, hb⟩; have hr1 := HR.out.below hb; have G1 : Hid (Below B w w1) := Lib.hid (KT.out _ _ (KA.out _) hb); clear hb)
  have HR1 := Lib.hid hr1
  clear hr1
  have hB := HB.out
  rw [← hB]
  clear hB
  go_region_held3 (fun w' => w'.cell? ⟨B, 0, none⟩ = some (.int .i64 v) ∧ w'.cell? ⟨B, 1, none⟩ = some (.int .i64 r) ∧ w'.cell? ⟨B, 2, none⟩ = some (.int .i64 e) ∧ w'.cell? ⟨B, 3, none⟩ = some (.int .i64 p)) (first | exact HR1.out | exact HR2.out | exact HR3.out | exact HR4.out) (first
    | (go_at_call 39; (with_reducible refine (CP.out _).mono ?_); rintro q w2 ⟨rfl, hb⟩; (try replace hb := undrew hb); have HR2 := Lib.hid (HR1.out.below hb); have G2 : Hid (Below B w w2) := Lib.hid (KT.out _ _ G1.out hb); clear hb)
    | (go_at_call 40; (with_reducible refine (CB.out _).mono ?_); rintro q w3 ⟨A, c, rfl, hbs, hb⟩; (try replace hb := undrew hb); have HR3 := Lib.hid (HR2.out.below hb); have G3 : Hid (Below B w w3) := Lib.hid (KT.out _ _ G2.out hb); have X3 := Lib.hid hbs; clear hb hbs)
    | (go_at_call 38; (with_reducible refine (CK.out _ A c (KN.out _ G3.out) X3.out).mono ?_); rintro q w4 ⟨x, rfl, ho, hb⟩; (try replace hb := undrew hb); have HR4 := Lib.hid (HR3.out.below hb); have G4 : Hid (Below B w w4) := Lib.hid (KT.out _ _ G3.out hb); have O4 := Lib.hid (own_mono ho (HBl.out _ G3.out)); clear ho hb))
  go_wp2
  go_ret2
  have hB := HB.out
  subst hB
  exact ⟨x, rfl, O4.out, G4.out⟩

theorem rsmake_bad (s : Sup) (w : World) (h : supMay s = false) : Calls Tryd.prog 16 #[s.val] w fun r w' => r = .returned (.tuple #[.slice none 0 0, .int .i64 1]) ∧ Below w.heap.size w w' := by
  obtain ⟨v, r, e, p⟩ := s
  have CM : Hid (∀ wx, Calls Tryd.prog 41 #[.agg #[.int .i64 v, .int .i64 r, .int .i64 e, .int .i64 p]] wx fun q w' => q = .returned (.bool false) ∧ Below wx.heap.size wx w') := Lib.hid (fun wx => by have := rsmay_any ⟨v, r, e, p⟩ wx; rw [h] at this; exact this)
  simp only [Sup.val]
  clear h
  go_enter Tryd.func16, Tryd.ntmps16
  go_wp2_with (go_at_call 41; (with_reducible refine (CM.out _).mono ?_); rintro q w1 ⟨rfl, hb⟩; have G1 := Lib.hid hb; clear hb)
  go_ret2
  exact ⟨rfl, ((Below.refl _ _).alloc (Nat.le_refl _) _).trans (G1.out.mono (by simp))⟩

set_option maxHeartbeats 2000000 in
theorem rsbody_any (s : Sup) (w : World) (h : supMay s = true) : Calls Tryd.prog 43 #[s.val] w fun r w' => ∃ v, r = .returned v ∧ w'.ownsRow w.heap.size 5 1 v 36 (bs (supBody s)) ∧ Below w.heap.size w w' := by
  have Hinfo := Lib.hid info_u8
  obtain ⟨v, r, e, p⟩ := s
  simp only [supMay, decide_eq_true_eq] at h
  obtain ⟨BB, hBB⟩ : ∃ l, l = supBody ⟨v, r, e, p⟩ := ⟨_, rfl⟩
  have HBB : Hid (BB = [67, 70, 82, 84] ++ le 8 v.toNat ++ le 8 r.toNat ++ le 8 e.toNat ++ le 8 p.toNat) := Lib.hid (by rw [hBB, supBody])
  rw [← hBB]
  simp only [Sup.val]
  have CN : Hid (∀ (z : Int) wx, 0 ≤ z → z ≤ 1099511627776 → Calls Tryd.prog 66 #[.int .i64 z, .int .i64 8] wx fun e w' => ∃ A c, e = .returned (.tuple #[.slice A 8 c, .int .i64 0]) ∧ Bs w' A 8 (le 8 z.toNat) ∧ Below wx.heap.size wx w') := Lib.hid (fun z wx h0 h1 => by
    obtain ⟨n, rfl⟩ : ∃ n : Nat, z = n := ⟨z.toNat, by omega⟩
    have e8 : (256 : Nat) ^ 8 = 18446744073709551616 := by decide
    refine (rnumber_ok n 8 wx (by omega) (by omega) (by omega) (by omega)).mono ?_
    rintro r w' ⟨x, rfl, ho, hb⟩
    obtain ⟨A, c, rfl, hbs⟩ := own_bytes ho
    exact ⟨A, c, rfl, hbs, hb⟩)
  have v0 : Hid (0 ≤ v ∧ v ≤ 1099511627776) := Lib.hid (by omega)
  have r0 : Hid (0 ≤ r ∧ r ≤ 1099511627776) := Lib.hid (by omega)
  have e0 : Hid (0 ≤ e ∧ e ≤ 1099511627776) := Lib.hid (by omega)
  have p0 : Hid (0 ≤ p ∧ p ≤ 1099511627776) := Lib.hid (by omega)
  obtain ⟨g, hg⟩ : ∃ g, g = w.heap.size := ⟨_, rfl⟩
  obtain ⟨w2, hw2⟩ : ∃ w2, w2 = (((w.alloc (.cells #[.int .i64 v, .int .i64 r, .int .i64 e, .int .i64 p] 30)).alloc (.cells #[.int .u8 67, .int .u8 70, .int .u8 82, .int .u8 84] 5)).alloc (.cells #[.int .i64 v, .int .i64 r, .int .i64 e, .int .i64 p] 3)) := ⟨_, rfl⟩
  have hs2 : w2.heap.size = g + 1 + 1 + 1 := by rw [hw2, hg]; simp
  have e1 : (w.alloc (.cells #[.int .i64 v, .int .i64 r, .int .i64 e, .int .i64 p] 30)).heap.size = g + 1 := by rw [hg]; simp
  have e2 : ((w.alloc (.cells #[.int .i64 v, .int .i64 r, .int .i64 e, .int .i64 p] 30)).alloc (.cells #[.int .u8 67, .int .u8 70, .int .u8 82, .int .u8 84] 5)).heap.size = g + 1 + 1 := by rw [hg]; simp
  have hrow : w2.heap[g + 1 + 1]? = some (.cells #[.int .i64 v, .int .i64 r, .int .i64 e, .int .i64 p] 3 (0, 0)) := by
    have := heap_alloc_new ((w.alloc (.cells #[.int .i64 v, .int .i64 r, .int .i64 e, .int .i64 p] 30)).alloc (.cells #[.int .u8 67, .int .u8 70, .int .u8 82, .int .u8 84] 5)) (.cells #[.int .i64 v, .int .i64 r, .int .i64 e, .int .i64 p] 3)
    rw [e2, ← hw2] at this
    exact this
  have G2 : Hid (Below g w w2) := Lib.hid (by
    rw [hw2, hg]; exact (((Below.refl _ _).alloc (Nat.le_refl _) _).alloc (by simp) _).alloc (by simp; omega) _)
  have HL2 : Hid (Bs w2 (some ⟨g + 1, 0, none⟩) 4 [67, 70, 82, 84]) := Lib.hid (by
    have := lit_bytes (w.alloc (.cells #[.int .i64 v, .int .i64 r, .int .i64 e, .int .i64 p] 30)) [67, 70, 82, 84] #[.int .u8 67, .int .u8 70, .int .u8 82, .int .u8 84] 4 (0, 0) rfl rfl (by omega)
    rw [e1] at this
    have hbw : Below (g + 1 + 1) ((w.alloc (.cells #[.int .i64 v, .int .i64 r, .int .i64 e, .int .i64 p] 30)).alloc (.cells #[.int .u8 67, .int .u8 70, .int .u8 82, .int .u8 84] 5)) w2 := by
      rw [hw2]; exact (Below.refl _ _).alloc (by rw [e2]; exact Nat.le_refl _) _
    rw [← e2] at hbw
    exact this.below hbw)
  have KC : Hid (∀ wx, Below w2.heap.size w2 wx → wx.cell? ⟨g + 1 + 1, 0, none⟩ = some (.int .i64 v) ∧ wx.cell? ⟨g + 1 + 1, 1, none⟩ = some (.int .i64 r) ∧ wx.cell? ⟨g + 1 + 1, 2, none⟩ = some (.int .i64 e) ∧ wx.cell? ⟨g + 1 + 1, 3, none⟩ = some (.int .i64 p)) := Lib.hid (fun wx hx => by
    have hr : wx.heap[g + 1 + 1]? = some (.cells #[.int .i64 v, .int .i64 r, .int .i64 e, .int .i64 p] 3 (0, 0)) := by rw [hx.block (g + 1 + 1) (by omega)]; exact hrow
    exact ⟨cell_of_row wx _ 0 _ _ _ hr, cell_of_row wx _ 1 _ _ _ hr, cell_of_row wx _ 2 _ _ _ hr, cell_of_row wx _ 3 _ _ _ hr⟩)
  have Hg := Lib.hid hg
  have HW2 := Lib.hid hw2
  have HB2 : Hid (g ≤ w2.heap.size) := Lib.hid (by omega)
  clear h hBB hrow e1 e2
  go_enter Tryd.func43, Tryd.ntmps43
  go_wp2_with fail
  have hgg := Hg.out
  rw [← HW2.out]
  subst hgg
  clear hw2 hs2
  have Hc47 : Hid (∀ k, k ≤ 4 → 4 + 8 * k + 8 ≤ 140737488355328) := Lib.hid (fun k h => by omega)
  go_loopw [3, 5] (fun o i wr => ∃ (k : Nat) (z : Int), k ≤ 4 ∧ i = .int .i64 z ∧ z = k ∧ Below w2.heap.size w2 wr ∧ ((k = 0 ∧ o = .slice (some ⟨w.heap.size + 1, 0, none⟩) 4 4) ∨ (1 ≤ k ∧ wr.ownsRow w2.heap.size 5 1 o (4 + 8 * k) (bs (BB.take (4 + 8 * k)))))) (fun _ i _ => 4 - (intOf i).toNat)
  case atStart => exact ⟨0, 0, by omega, rfl, rfl, Below.refl _ _, .inl ⟨rfl, rfl⟩⟩
  case round =>
    obtain ⟨k, z, hk, rfl, hz, hb, ho⟩ := hrel
    have Hb := Lib.hid hb
    obtain ⟨c0, c1, c2, c3⟩ := KC.out _ hb
    clear hb
    have hcase : k = 0 ∨ k = 1 ∨ k = 2 ∨ k = 3 ∨ k = 4 := by omega
    rcases hcase with rfl | rfl | rfl | rfl | rfl
    · obtain rfl : z = 0 := by omega
      have C9 : Hid (Calls Tryd.prog 66 #[.int .i64 v, .int .i64 8] wr fun q9 w' => ∃ A c, q9 = .returned (.tuple #[.slice A 8 c, .int .i64 0]) ∧ Bs w' A 8 (le 8 v.toNat) ∧ Below wr.heap.size wr w') := Lib.hid (CN.out v wr v0.out.1 v0.out.2)
      have hbt : BB.take 12 = [67, 70, 82, 84] ++ le 8 v.toNat := by
        rw [HBB.out]
        simp [le_length, List.take_of_length_le, List.take_append]
      have hu3 : u3 = .slice (some ⟨w.heap.size + 1, 0, none⟩) 4 4 := by
        rcases ho with ⟨_, h⟩ | ⟨h, _⟩
        · exact h
        · omega
      subst hu3
      have HL := Lib.hid (HL2.out.below Hb.out)
      have Hbt := Lib.hid hbt
      clear ho hk hbt hz
      go_wp2_with (first
        | (go_at_call 66; (with_reducible refine C9.out.mono ?_); rintro q w4 ⟨A, c, rfl, hbs, hb⟩; have HX := Lib.hid hbs; have E4 : Hid (Below w2.heap.size w2 w4) := Lib.hid (Hb.out.trans (hb.mono Hb.out.size)); have HL4 := Lib.hid (HL.out.below hb); clear hbs hb)
        | (at_builtin; refine wpList_append_full rfl _ _ 31 rfl w2.heap.size 5 (.int .u8 0) Tryd.underlying31 Hinfo.out rfl ⟨w.heap.size + 1, 0, none⟩ 4 [67, 70, 82, 84] rfl HL4.out A 8 c (le 8 v.toNat) rfl HX.out (by omega) (by omega) E4.out.size ?_; intro va w5 ho hb; have O5 : Hid (w5.ownsRow w2.heap.size 5 1 va (4 + 8 * 1) (bs (BB.take (4 + 8 * 1)))) := Lib.hid (by rw [Hbt.out]; exact ho); have E5 : Hid (Below w2.heap.size w2 w5) := Lib.hid (E4.out.trans (hb.mono E4.out.size)); clear ho hb))
      go_roundw
      case rel => exact ⟨1, 1, by omega, rfl, rfl, E5.out, .inr ⟨by omega, O5.out⟩⟩
      case measure => simp [intOf]
    · obtain rfl : z = 1 := by omega
      have C9 : Hid (Calls Tryd.prog 66 #[.int .i64 r, .int .i64 8] wr fun q9 w' => ∃ A c, q9 = .returned (.tuple #[.slice A 8 c, .int .i64 0]) ∧ Bs w' A 8 (le 8 r.toNat) ∧ Below wr.heap.size wr w') := Lib.hid (CN.out r wr r0.out.1 r0.out.2)
      have hbt : BB.take 20 = [67, 70, 82, 84] ++ le 8 v.toNat ++ le 8 r.toNat := by
        rw [HBB.out]
        simp [le_length, List.take_of_length_le, List.take_append]
      have ho2 : wr.ownsRow w2.heap.size 5 1 u3 12 (bs (BB.take 12)) := by
        rcases ho with ⟨h, _⟩ | ⟨_, h⟩
        · omega
        · exact h
      have hbp : BB.take 12 = [67, 70, 82, 84] ++ le 8 v.toNat := by
        rw [HBB.out]
        simp [le_length, List.take_of_length_le, List.take_append]
      rw [hbp] at ho2
      have O := Lib.hid ho2
      have Hbt := Lib.hid hbt
      clear ho ho2 hk hbt hbp hz
      go_wp2_with (first
        | (go_at_call 66; (with_reducible refine C9.out.mono ?_); rintro q w4 ⟨A, c, rfl, hbs, hb⟩; have HX := Lib.hid hbs; have E4 : Hid (Below w2.heap.size w2 w4) := Lib.hid (Hb.out.trans (hb.mono Hb.out.size)); have O4 := Lib.hid (own_below O.out hb); clear hbs hb)
        | (at_builtin; refine wpList_append_bytes rfl _ _ 31 rfl w2.heap.size 5 (.int .u8 0) Tryd.underlying31 Hinfo.out rfl u3 12 (bs ([67, 70, 82, 84] ++ le 8 v.toNat)) rfl O4.out A 8 c (le 8 r.toNat) rfl HX.out (by omega) E4.out.size ?_; intro va w5 ho hg hla; rw [← bs_append] at ho; have O5 : Hid (w5.ownsRow w2.heap.size 5 1 va (4 + 8 * 2) (bs (BB.take (4 + 8 * 2)))) := Lib.hid (by rw [Hbt.out]; exact ho); have E5 : Hid (Below w2.heap.size w2 w5) := Lib.hid (E4.out.grown hg E4.out.size (fun i hi => (O4.out.lt i hi).1)); clear ho hg hla))
      go_roundw
      case rel => exact ⟨2, 2, by omega, rfl, rfl, E5.out, .inr ⟨by omega, O5.out⟩⟩
      case measure => simp [intOf]
    · obtain rfl : z = 2 := by omega
      have C9 : Hid (Calls Tryd.prog 66 #[.int .i64 e, .int .i64 8] wr fun q9 w' => ∃ A c, q9 = .returned (.tuple #[.slice A 8 c, .int .i64 0]) ∧ Bs w' A 8 (le 8 e.toNat) ∧ Below wr.heap.size wr w') := Lib.hid (CN.out e wr e0.out.1 e0.out.2)
      have hbt : BB.take 28 = [67, 70, 82, 84] ++ le 8 v.toNat ++ le 8 r.toNat ++ le 8 e.toNat := by
        rw [HBB.out]
        simp [le_length, List.take_of_length_le, List.take_append]
      have ho2 : wr.ownsRow w2.heap.size 5 1 u3 20 (bs (BB.take 20)) := by
        rcases ho with ⟨h, _⟩ | ⟨_, h⟩
        · omega
        · exact h
      have hbp : BB.take 20 = [67, 70, 82, 84] ++ le 8 v.toNat ++ le 8 r.toNat := by
        rw [HBB.out]
        simp [le_length, List.take_of_length_le, List.take_append]
      rw [hbp] at ho2
      have O := Lib.hid ho2
      have Hbt := Lib.hid hbt
      clear ho ho2 hk hbt hbp hz
      go_wp2_with (first
        | (go_at_call 66; (with_reducible refine C9.out.mono ?_); rintro q w4 ⟨A, c, rfl, hbs, hb⟩; have HX := Lib.hid hbs; have E4 : Hid (Below w2.heap.size w2 w4) := Lib.hid (Hb.out.trans (hb.mono Hb.out.size)); have O4 := Lib.hid (own_below O.out hb); clear hbs hb)
        | (at_builtin; refine wpList_append_bytes rfl _ _ 31 rfl w2.heap.size 5 (.int .u8 0) Tryd.underlying31 Hinfo.out rfl u3 20 (bs ([67, 70, 82, 84] ++ le 8 v.toNat ++ le 8 r.toNat)) rfl O4.out A 8 c (le 8 e.toNat) rfl HX.out (by omega) E4.out.size ?_; intro va w5 ho hg hla; rw [← bs_append] at ho; have O5 : Hid (w5.ownsRow w2.heap.size 5 1 va (4 + 8 * 3) (bs (BB.take (4 + 8 * 3)))) := Lib.hid (by rw [Hbt.out]; exact ho); have E5 : Hid (Below w2.heap.size w2 w5) := Lib.hid (E4.out.grown hg E4.out.size (fun i hi => (O4.out.lt i hi).1)); clear ho hg hla))
      go_roundw
      case rel => exact ⟨3, 3, by omega, rfl, rfl, E5.out, .inr ⟨by omega, O5.out⟩⟩
      case measure => simp [intOf]
    · obtain rfl : z = 3 := by omega
      have C9 : Hid (Calls Tryd.prog 66 #[.int .i64 p, .int .i64 8] wr fun q9 w' => ∃ A c, q9 = .returned (.tuple #[.slice A 8 c, .int .i64 0]) ∧ Bs w' A 8 (le 8 p.toNat) ∧ Below wr.heap.size wr w') := Lib.hid (CN.out p wr p0.out.1 p0.out.2)
      have hbt : BB.take 36 = [67, 70, 82, 84] ++ le 8 v.toNat ++ le 8 r.toNat ++ le 8 e.toNat ++ le 8 p.toNat := by
        rw [HBB.out]
        simp [le_length, List.take_of_length_le, List.take_append]
      have ho2 : wr.ownsRow w2.heap.size 5 1 u3 28 (bs (BB.take 28)) := by
        rcases ho with ⟨h, _⟩ | ⟨_, h⟩
        · omega
        · exact h
      have hbp : BB.take 28 = [67, 70, 82, 84] ++ le 8 v.toNat ++ le 8 r.toNat ++ le 8 e.toNat := by
        rw [HBB.out]
        simp [le_length, List.take_of_length_le, List.take_append]
      rw [hbp] at ho2
      have O := Lib.hid ho2
      have Hbt := Lib.hid hbt
      clear ho ho2 hk hbt hbp hz
      go_wp2_with (first
        | (go_at_call 66; (with_reducible refine C9.out.mono ?_); rintro q w4 ⟨A, c, rfl, hbs, hb⟩; have HX := Lib.hid hbs; have E4 : Hid (Below w2.heap.size w2 w4) := Lib.hid (Hb.out.trans (hb.mono Hb.out.size)); have O4 := Lib.hid (own_below O.out hb); clear hbs hb)
        | (at_builtin; refine wpList_append_bytes rfl _ _ 31 rfl w2.heap.size 5 (.int .u8 0) Tryd.underlying31 Hinfo.out rfl u3 28 (bs ([67, 70, 82, 84] ++ le 8 v.toNat ++ le 8 r.toNat ++ le 8 e.toNat)) rfl O4.out A 8 c (le 8 p.toNat) rfl HX.out (by omega) E4.out.size ?_; intro va w5 ho hg hla; rw [← bs_append] at ho; have O5 : Hid (w5.ownsRow w2.heap.size 5 1 va (4 + 8 * 4) (bs (BB.take (4 + 8 * 4)))) := Lib.hid (by rw [Hbt.out]; exact ho); have E5 : Hid (Below w2.heap.size w2 w5) := Lib.hid (E4.out.grown hg E4.out.size (fun i hi => (O4.out.lt i hi).1)); clear ho hg hla))
      go_roundw
      case rel => exact ⟨4, 4, by omega, rfl, rfl, E5.out, .inr ⟨by omega, O5.out⟩⟩
      case measure => simp [intOf]
    · obtain rfl : z = 4 := by omega
      have ho2 : wr.ownsRow w2.heap.size 5 1 u3 36 (bs BB) := by
        rcases ho with ⟨h, _⟩ | ⟨_, h⟩
        · omega
        · have e : BB.take (4 + 8 * 4) = BB := List.take_of_length_le (by rw [HBB.out]; simp [le_length])
          rw [e] at h
          exact h
      have O := Lib.hid ho2
      clear ho ho2 hk hz
      go_wp2_with fail
      go_ret
      exact ⟨u3, rfl, own_mono O.out HB2.out, G2.out.trans (Hb.out.mono HB2.out)⟩

set_option maxHeartbeats 2000000 in
theorem rsmake_ok (s : Sup) (w : World) (h : supMay s = true) : Calls Tryd.prog 16 #[s.val] w fun r w' => ∃ v, r = .returned (.tuple #[v, .int .i64 0]) ∧ w'.ownsRow w.heap.size 5 1 v 4096 (bs (supPage s)) ∧ Below w.heap.size w w' := by
  obtain ⟨v, r, e, p⟩ := s
  have CM : Hid (∀ wx, Calls Tryd.prog 41 #[.agg #[.int .i64 v, .int .i64 r, .int .i64 e, .int .i64 p]] wx fun q w' => q = .returned (.bool true) ∧ Below wx.heap.size wx w') := Lib.hid (fun wx => by have := rsmay_any ⟨v, r, e, p⟩ wx; rw [h] at this; exact this)
  obtain ⟨N4, hN4⟩ : ∃ N : Nat, N = 4096 := ⟨_, rfl⟩
  obtain ⟨BB, hBB⟩ : ∃ l, l = supBody ⟨v, r, e, p⟩ := ⟨_, rfl⟩
  obtain ⟨PP, hPP⟩ : ∃ l, l = supPage ⟨v, r, e, p⟩ := ⟨_, rfl⟩
  have CB : Hid (∀ wx, Calls Tryd.prog 43 #[.agg #[.int .i64 v, .int .i64 r, .int .i64 e, .int .i64 p]] wx fun q w' => ∃ A c, q = .returned (.slice A 36 c) ∧ Bs w' A 36 BB ∧ Below wx.heap.size wx w') := Lib.hid (fun wx => (rsbody_any ⟨v, r, e, p⟩ wx h).mono fun q w' ⟨x, h1, ho, hb⟩ => by
    obtain ⟨A, c, rfl, hbs⟩ := own_bytes ho
    exact ⟨A, c, h1, by rw [hBB]; exact hbs, hb⟩)
  have hv := h
  simp only [supMay, decide_eq_true_eq] at hv
  have hv0 : 0 ≤ v := by omega
  have CK : Hid (∀ wx A c, Bs wx A 36 BB → Calls Tryd.prog 42 #[.int .i64 (v.tmod 2), .int .i64 1, .slice A 36 c] wx fun q w' => ∃ x, q = .returned (.tuple #[x, .int .i64 0]) ∧ w'.ownsRow wx.heap.size 5 1 x N4 (bs PP) ∧ Below wx.heap.size wx w') := Lib.hid (fun wx A c hb => by
    have := supPlace_lt ⟨v, r, e, p⟩
    have ez : v.tmod 2 = (supPlace ⟨v, r, e, p⟩ : Nat) := by rw [Int.tmod_eq_emod_of_nonneg hv0]; simp only [supPlace]; omega
    rw [hN4, hPP, ez]
    rw [hBB] at hb
    exact rmake_ok (supPlace ⟨v, r, e, p⟩) 1 36 c A (supBody ⟨v, r, e, p⟩) wx hb (by omega) (by omega) (by omega) (by omega))
  rw [← hN4, ← hPP]
  simp only [Sup.val]
  obtain ⟨B, hB⟩ : ∃ B, B = w.heap.size := ⟨_, rfl⟩
  have HB := Lib.hid hB
  have HBl : Hid (∀ wx, Below B w wx → B ≤ wx.heap.size) := Lib.hid (fun wx h => by rw [hB]; exact h.size)
  have KA : Hid (∀ o, Below B w (w.alloc o)) := Lib.hid (fun o => by rw [hB]; exact (Below.refl _ _).alloc (Nat.le_refl _) _)
  have KT : Hid (∀ wx wy, Below B w wx → Below wx.heap.size wx wy → Below B w wy) := Lib.hid (fun wx wy h1 h2 => h1.trans (h2.mono (by rw [hB]; exact h1.size)))
  have HR : Hid (Sup4 (w.alloc (.cells #[.int .i64 v, .int .i64 r, .int .i64 e, .int .i64 p] 30)) B v r e p) := Lib.hid (by rw [hB]; exact sup4_new w v r e p _)
  clear h hv hN4 hB hBB hPP
  go_enter Tryd.func16, Tryd.ntmps16
  go_wp2_with (go_at_call 41; (with_reducible refine (CM.out _).mono ?_); rintro q w1 ⟨rfl, hb⟩; have hr1 := HR.out.below hb; have G1 : Hid (Below B w w1) := Lib.hid (KT.out _ _ (KA.out _) hb); clear hb)
  have HR1 := Lib.hid hr1
  clear hr1
  have hB := HB.out
  rw [← hB]
  clear hB
  go_region_held3 (fun w' => w'.cell? ⟨B, 0, none⟩ = some (.int .i64 v) ∧ w'.cell? ⟨B, 1, none⟩ = some (.int .i64 r) ∧ w'.cell? ⟨B, 2, none⟩ = some (.int .i64 e) ∧ w'.cell? ⟨B, 3, none⟩ = some (.int .i64 p)) (first | exact HR1.out | exact HR3.out | exact HR4.out) (first
    | (go_at_call 43; (with_reducible refine (CB.out _).mono ?_); rintro q w3 ⟨A, c, rfl, hbs, hb⟩; (try replace hb := undrew hb); have HR3 := Lib.hid (HR1.out.below hb); have G3 : Hid (Below B w w3) := Lib.hid (KT.out _ _ G1.out hb); have X3 := Lib.hid hbs; clear hb hbs)
    | (go_at_call 42; (with_reducible refine (CK.out _ A c X3.out).mono ?_); rintro q w4 ⟨x, rfl, ho, hb⟩; (try replace hb := undrew hb); have HR4 := Lib.hid (HR3.out.below hb); have G4 : Hid (Below B w w4) := Lib.hid (KT.out _ _ G3.out hb); have O4 := Lib.hid (own_mono ho (HBl.out _ G3.out)); clear ho hb))
  go_wp2
  go_ret2
  have hB := HB.out
  subst hB
  exact ⟨x, rfl, O4.out, G4.out⟩

end Go.Proofs.YteljopjaolegaaaDoor
