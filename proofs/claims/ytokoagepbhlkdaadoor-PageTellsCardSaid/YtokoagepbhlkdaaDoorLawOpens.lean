/-
  THE WALK of coffretlaw12.PageOpens.
-/
import Derived.Test.YtokoagepbhlkdaaDoorLawMakes
namespace Go.Proofs.YtokoagepbhlkdaaDoor
open Go.RowKit
set_option maxRecDepth 100000
set_option linter.unusedVariables false

set_option maxHeartbeats 2000000 in
theorem pageOpens_ok (number : Int) (A : Option Addr) (n c : Nat) (l : List UInt8) (w : World) (hN : Nib w) (h : Bs w A n l) (hc : n ≤ c) (hm : n ≤ 140737488351232) (hlt : ∀ ad, A = some ad → ad.block < w.heap.size) (h0 : openCode l number = 0) :
    Calls Tryd.prog 4 #[.slice A n c, .int .i64 number] w fun e w' => e = .returned (.bool true) ∧ Below w.heap.size w w' := by
  have HN := Lib.hid hN
  have Hm := Lib.hid hm
  obtain ⟨B, hB⟩ : ∃ B, B = w.heap.size := ⟨_, rfl⟩
  have HBl : Hid (∀ wx, Below B w wx → B ≤ wx.heap.size) := Lib.hid (fun wx h => by rw [hB]; exact h.size)
  have Hlow : Hid (∀ wx, Below B w wx → Below w.heap.size w wx) := Lib.hid (fun wx h => by rw [← hB]; exact h)
  have Hup : Hid (∀ wx, Below w.heap.size w wx → Below B w wx) := Lib.hid (fun wx h => by rw [hB]; exact h)
  have K : Hid (∀ wx, Below B w wx → Bs wx A n l) := Lib.hid (fun wx hx => h.below (Hlow.out _ hx))
  have KN : Hid (∀ wx, Below B w wx → Nib wx) := Lib.hid (fun wx hx => hN.below (Hlow.out _ hx))
  have HAB : Hid (∀ ad, A = some ad → ad.block < B) := Lib.hid (fun ad e => by rw [hB]; exact hlt ad e)
  have HL := Lib.hid h.len
  have HLm := Lib.hid h.max
  obtain ⟨kb, hkb⟩ : ∃ k, k = openKind l := ⟨_, rfl⟩
  obtain ⟨P, hP⟩ : ∃ P, P = openBody l := ⟨_, rfl⟩
  obtain ⟨k, hk⟩ : ∃ k, k = openLen l := ⟨_, rfl⟩
  have CO : Hid (∀ wx Ax, Below B w wx → Bs wx Ax n l → Calls Tryd.prog 14 #[.slice Ax n (n + 3), .int .i64 number] wx fun e w' => ∃ v, e = .returned (.tuple #[.int .i64 (ub kb), v, .int .i64 0]) ∧ w'.ownsRow wx.heap.size 5 1 v k (bs P) ∧ Below wx.heap.size wx w') := Lib.hid (fun wx Ax hb hl => by
    rw [hkb, hP, hk]; exact open_yes Ax n (n + 3) l number wx (KN.out _ hb) hl (by omega) h0)
  have CR : Hid (∀ wx, Below B w wx → Calls Tryd.prog 15 #[.slice A n c, .int .i64 number] wx fun e w' => ∃ v, e = .returned (.tuple #[.int .i64 (ub kb), v, .int .i64 0]) ∧ w'.ownsRow wx.heap.size 5 1 v k (bs P) ∧ Below wx.heap.size wx w') := Lib.hid (fun wx hb => by
    rw [hkb, hP, hk]; exact ropen_yes A n c l number wx (K.out _ hb) hc h0)
  have HPl : Hid (P.length ≤ 1099511627776) := Lib.hid (by
    have hl : ¬ l.length ≠ 4096 := fun h => by rw [openCode, if_pos h] at h0; exact absurd h0 (by decide)
    rw [hP, openBody, List.length_take, List.length_drop]; omega)
  clear hN hB h hlt hkb hP hk hm h0 hc
  go_enter Tryd.func4, Tryd.ntmps4
  go_wp2_with (first
    | (go_at_call 8; refine (awake12 _ HN.out).mono ?_; rintro e w1 ⟨rfl, hb⟩; have G1 := Lib.hid (Hup.out _ hb); clear hb HN)
    | (go_at_call 9; refine (lent_any A n c l w1 (K.out _ G1.out) Hm.out).mono ?_; rintro e w2 ⟨rfl, hg, hb⟩; have HI2 := Lib.hid hg; have L2 := Lib.hid (lent_bs HL.out HLm.out hg); have G2 : Hid (Below B w w2) := Lib.hid (G1.out.trans (hb.mono (HBl.out _ G1.out))); obtain ⟨gl, hgl⟩ : ∃ g, g = w1.heap.size := ⟨_, rfl⟩; have Hgl : Hid (B ≤ gl ∧ gl < w2.heap.size) := Lib.hid ⟨by rw [hgl]; exact HBl.out _ G1.out, by rw [hgl]; exact lt_block hg⟩; rw [← hgl] at HI2 L2 ⊢; clear hg hb hgl)
    | (go_at_call 14; (with_reducible refine (CO.out w2 _ G2.out L2.out).mono ?_); rintro e w3 ⟨x, rfl, ho, hb⟩; have G3 : Hid (Below B w w3) := Lib.hid (G2.out.trans (hb.mono (HBl.out _ G2.out))); obtain ⟨Ax, cx, rfl, -, -, -⟩ := own_addr ho; have X3 := Lib.hid (own_mono ho (HBl.out _ G2.out)); have NX : Hid ((Value.slice Ax k cx).ownBlock ≠ some gl) := Lib.hid (fun e => by have := (own_lt ho e).1; have := Hgl.out.2; omega); have HI3 := Lib.hid ((hb.block gl Hgl.out.2).trans HI2.out); have L3 := Lib.hid (L2.out.below hb); clear ho hb)
    | (go_at_call 14; (with_reducible refine (CO.out w3 _ G3.out L3.out).mono ?_); rintro e w4 ⟨y, rfl, ho, hb⟩; have G4 : Hid (Below B w w4) := Lib.hid (G3.out.trans (hb.mono (HBl.out _ G3.out))); obtain ⟨Ay, cy, rfl, -, -, -⟩ := own_addr ho; have X4 := Lib.hid (own_below X3.out hb); have Y4 := Lib.hid (own_mono ho (HBl.out _ G3.out)); have D : Hid (∀ g, (Value.slice Ax k cx).ownBlock = some g → (Value.slice Ay k cy).ownBlock ≠ some g) := Lib.hid (fun g e1 e2 => by have := (own_lt X3.out e1).2; have := (own_lt ho e2).1; omega); have NY : Hid ((Value.slice Ay k cy).ownBlock ≠ some gl) := Lib.hid (fun e => by have := (own_lt ho e).1; have := lt_block HI3.out; omega); have HI4 := Lib.hid ((hb.block gl (lt_block HI3.out)).trans HI3.out); clear ho hb)
    | (go_at_call 11; refine (back_any A n c gl l w4 (K.out _ G4.out) Hm.out HI4.out (fun ad e => Nat.ne_of_lt (Nat.lt_of_lt_of_le (HAB.out ad e) Hgl.out.1))).mono ?_; rintro e w5 ⟨rfl, hg⟩; have G5 : Hid (Below B w w5) := Lib.hid (G4.out.grown hg (HBl.out _ G4.out) (fun i hi => by cases hi; exact Hgl.out.1)); have X5 := Lib.hid (own_grown X4.out hg NX.out); have Y5 := Lib.hid (own_grown Y4.out hg NY.out); clear hg)
    | (go_at_call 15; (with_reducible refine (CR.out w5 G5.out).mono ?_); rintro e w6 ⟨q, rfl, ho, hb⟩; have G6 : Hid (Below B w w6) := Lib.hid (G5.out.trans (hb.mono (HBl.out _ G5.out))); obtain ⟨Aq, cq, rfl, -, -, -⟩ := own_addr ho; have X6 := Lib.hid (own_below X5.out hb); have Y6 := Lib.hid (own_below Y5.out hb); have Q6 := Lib.hid (own_mono ho (HBl.out _ G5.out)); clear ho hb X3 X4 Y4 X5 Y5 HI2 HI3 HI4 L2 L3; have hcx := conv_own X6.out; have hcy := conv_own Y6.out; have hcq := conv_own Q6.out; have hPk : P.length = k := (by have := X6.out.1; rw [bs_length] at this; omega); have CW := Lib.hid (owned_two B _ _ P P w6 (by rw [hPk]; exact X6.out) (by rw [hPk]; exact Y6.out) D.out HPl.out HPl.out (HBl.out _ G6.out)); clear hPk)
    | (go_at_call 13; with_reducible refine CW.out.mono ?_; rintro e w8 ⟨rfl, hb⟩; have G8 : Hid (Below B w w8) := Lib.hid (G6.out.trans hb); clear hb))
  go_ret
  exact ⟨rfl, Hlow.out _ G8.out⟩

set_option maxHeartbeats 2000000 in
theorem pageOpens_bad (number : Int) (A : Option Addr) (n c : Nat) (l : List UInt8) (w : World) (hN : Nib w) (h : Bs w A n l) (hc : n ≤ c) (hm : n ≤ 140737488351232) (hlt : ∀ ad, A = some ad → ad.block < w.heap.size) (h0 : ¬ openCode l number = 0) :
    Calls Tryd.prog 4 #[.slice A n c, .int .i64 number] w fun e w' => e = .returned (.bool true) ∧ Below w.heap.size w w' := by
  have HN := Lib.hid hN
  have Hm := Lib.hid hm
  obtain ⟨B, hB⟩ : ∃ B, B = w.heap.size := ⟨_, rfl⟩
  have HBl : Hid (∀ wx, Below B w wx → B ≤ wx.heap.size) := Lib.hid (fun wx h => by rw [hB]; exact h.size)
  have Hlow : Hid (∀ wx, Below B w wx → Below w.heap.size w wx) := Lib.hid (fun wx h => by rw [← hB]; exact h)
  have Hup : Hid (∀ wx, Below w.heap.size w wx → Below B w wx) := Lib.hid (fun wx h => by rw [hB]; exact h)
  have K : Hid (∀ wx, Below B w wx → Bs wx A n l) := Lib.hid (fun wx hx => h.below (Hlow.out _ hx))
  have KN : Hid (∀ wx, Below B w wx → Nib wx) := Lib.hid (fun wx hx => hN.below (Hlow.out _ hx))
  have HAB : Hid (∀ ad, A = some ad → ad.block < B) := Lib.hid (fun ad e => by rw [hB]; exact hlt ad e)
  have HL := Lib.hid h.len
  have HLm := Lib.hid h.max
  obtain ⟨z, hz⟩ : ∃ z, z = openCode l number := ⟨_, rfl⟩
  have CO : Hid (∀ wx Ax, Below B w wx → Bs wx Ax n l → Calls Tryd.prog 14 #[.slice Ax n (n + 3), .int .i64 number] wx fun e w' => e = .returned (.tuple #[.int .i64 0, .slice none 0 0, .int .i64 z]) ∧ Below wx.heap.size wx w') := Lib.hid (fun wx Ax hb hl => by
    rw [hz]; exact open_no Ax n (n + 3) l number wx (KN.out _ hb) hl (by omega) h0)
  have CR : Hid (∀ wx, Below B w wx → Calls Tryd.prog 15 #[.slice A n c, .int .i64 number] wx fun e w' => e = .returned (.tuple #[.int .i64 0, .slice none 0 0, .int .i64 z]) ∧ Below wx.heap.size wx w') := Lib.hid (fun wx hb => by
    rw [hz]; exact ropen_no A n c l number wx (K.out _ hb) hc h0)
  have hcn := fun (wx : World) => run_convert_bs (Bs.nil wx none) 0
  clear hN hB h hlt hm h0 hz hc
  go_enter Tryd.func4, Tryd.ntmps4
  go_wp2_with (first
    | (go_at_call 8; refine (awake12 _ HN.out).mono ?_; rintro e w1 ⟨rfl, hb⟩; have G1 := Lib.hid (Hup.out _ hb); clear hb HN)
    | (go_at_call 9; refine (lent_any A n c l w1 (K.out _ G1.out) Hm.out).mono ?_; rintro e w2 ⟨rfl, hg, hb⟩; have HI2 := Lib.hid hg; have L2 := Lib.hid (lent_bs HL.out HLm.out hg); have G2 : Hid (Below B w w2) := Lib.hid (G1.out.trans (hb.mono (HBl.out _ G1.out))); obtain ⟨gl, hgl⟩ : ∃ g, g = w1.heap.size := ⟨_, rfl⟩; have Hgl : Hid (B ≤ gl ∧ gl < w2.heap.size) := Lib.hid ⟨by rw [hgl]; exact HBl.out _ G1.out, by rw [hgl]; exact lt_block hg⟩; rw [← hgl] at HI2 L2 ⊢; clear hg hb hgl)
    | (go_at_call 14; (with_reducible refine (CO.out w2 _ G2.out L2.out).mono ?_); rintro e w3 ⟨rfl, hb⟩; have G3 : Hid (Below B w w3) := Lib.hid (G2.out.trans (hb.mono (HBl.out _ G2.out))); have HI3 := Lib.hid ((hb.block gl Hgl.out.2).trans HI2.out); have L3 := Lib.hid (L2.out.below hb); clear hb)
    | (go_at_call 14; (with_reducible refine (CO.out w3 _ G3.out L3.out).mono ?_); rintro e w4 ⟨rfl, hb⟩; have G4 : Hid (Below B w w4) := Lib.hid (G3.out.trans (hb.mono (HBl.out _ G3.out))); have HI4 := Lib.hid ((hb.block gl (lt_block HI3.out)).trans HI3.out); clear hb)
    | (go_at_call 11; refine (back_any A n c gl l w4 (K.out _ G4.out) Hm.out HI4.out (fun ad e => Nat.ne_of_lt (Nat.lt_of_lt_of_le (HAB.out ad e) Hgl.out.1))).mono ?_; rintro e w5 ⟨rfl, hg⟩; have G5 : Hid (Below B w w5) := Lib.hid (G4.out.grown hg (HBl.out _ G4.out) (fun i hi => by cases hi; exact Hgl.out.1)); clear hg)
    | (go_at_call 15; (with_reducible refine (CR.out w5 G5.out).mono ?_); rintro e w6 ⟨rfl, hb⟩; have G6 : Hid (Below B w w6) := Lib.hid (G5.out.trans (hb.mono (HBl.out _ G5.out))); have CW := Lib.hid (owned_nil12 B w6 (HBl.out _ G6.out)); clear hb)
    | (go_at_call 13; with_reducible refine CW.out.mono ?_; rintro e w8 ⟨rfl, hb⟩; have G8 : Hid (Below B w w8) := Lib.hid (G6.out.trans hb); clear hb))
  go_ret
  exact ⟨rfl, Hlow.out _ G8.out⟩

theorem pageOpens_any (number : Int) (A : Option Addr) (n c : Nat) (l : List UInt8) (w : World) (hN : Nib w) (h : Bs w A n l) (hc : n ≤ c) (hm : n ≤ 140737488351232) (hlt : ∀ ad, A = some ad → ad.block < w.heap.size) :
    Calls Tryd.prog 4 #[.slice A n c, .int .i64 number] w fun e w' => e = .returned (.bool true) ∧ Below w.heap.size w w' := by
  by_cases h0 : openCode l number = 0
  · exact pageOpens_ok number A n c l w hN h hc hm hlt h0
  · exact pageOpens_bad number A n c l w hN h hc hm hlt h0

end Go.Proofs.YtokoagepbhlkdaaDoor
