/-
  CONTRACT: the laws' own first small case (layer 12).
-/
import Derived.Test.YtokoagepbhlkdaaDoorPageI
namespace Go.Proofs.YtokoagepbhlkdaaDoor
open Go.RowKit
set_option maxRecDepth 100000
set_option linter.unusedVariables false

set_option maxHeartbeats 2000000 in
theorem awake12 (w : World) (hN : Nib w) :
    Calls Tryd.prog 8 #[] w fun e w' => e = .returned (.bool true) ∧ Below w.heap.size w w' := by
  have HN := Lib.hid hN
  obtain ⟨L, hL⟩ : ∃ L, L = pageOf 3 2 [7, 8] := ⟨_, rfl⟩
  have Hl : Hid (L.length = 4096) := Lib.hid (by rw [hL]; exact pageOf_length _ _ _ (by decide))
  obtain ⟨B, hB⟩ : ∃ B, B = w.heap.size := ⟨_, rfl⟩
  have HBl : Hid (∀ wx, Below B w wx → B ≤ wx.heap.size) := Lib.hid (fun wx h => by rw [hB]; exact h.size)
  have Hlow : Hid (∀ wx, Below B w wx → Below w.heap.size w wx) := Lib.hid (fun wx h => by rw [← hB]; exact h)
  have KN : Hid (∀ wx, Below B w wx → Nib wx) := Lib.hid (fun wx h => hN.below (Hlow.out _ h))
  have CM : Hid (∀ wx Ax cx, Nib wx → Bs wx Ax 2 [7, 8] → Calls Tryd.prog 10 #[.int .i64 3, .int .i64 2, .slice Ax 2 cx] wx fun e w' => ∃ v, e = .returned (.tuple #[v, .int .i64 0]) ∧ w'.ownsRow wx.heap.size 5 1 v 4096 (bs L) ∧ Below wx.heap.size wx w') := Lib.hid (fun wx Ax cx hn hb => by
    rw [hL]; exact make_own 3 2 2 cx Ax [7, 8] wx hn hb (by omega) (by omega) (by omega) (by omega))
  have CO : Hid (∀ wx Ax cx, Nib wx → Bs wx Ax 4096 L → 4096 ≤ cx → Calls Tryd.prog 14 #[.slice Ax 4096 cx, .int .i64 3] wx fun e w' => ∃ v, e = .returned (.tuple #[.int .i64 2, v, .int .i64 0]) ∧ w'.ownsRow wx.heap.size 5 1 v 2 (bs [7, 8]) ∧ Below wx.heap.size wx w') := Lib.hid (fun wx Ax cx hn hb hc => by
    have h0 : openCode L ((3 : Nat) : Int) = 0 := by rw [hL, open_page 3 2 _ _ (by omega) (by omega) (by omega) (by decide), if_pos rfl]
    have hk : ub (openKind L) = 2 := by rw [hL, openKind, pageOf_kind]; rfl
    have := open_yes Ax 4096 cx L ((3 : Nat) : Int) wx hn hb hc h0
    rw [hk, hL, pageOf_len 3 2 _ (by decide), pageOf_body 3 2 _ (by decide)] at this
    exact this)
  have CP : Hid (∀ wx Ax cx, Nib wx → Bs wx Ax 4096 L → 4096 ≤ cx → Calls Tryd.prog 14 #[.slice Ax 4096 cx, .int .i64 4] wx fun e w' => e = .returned (.tuple #[.int .i64 0, .slice none 0 0, .int .i64 121]) ∧ Below wx.heap.size wx w') := Lib.hid (fun wx Ax cx hn hb hc => by
    have h0 : openCode L ((4 : Nat) : Int) = 121 := by rw [hL, open_page 3 2 _ _ (by omega) (by omega) (by omega) (by decide), if_neg (by decide)]
    have := open_no Ax 4096 cx L ((4 : Nat) : Int) wx hn hb hc (by rw [h0]; decide)
    rw [h0] at this
    exact this)
  have CZ : Hid (∀ wx, Calls Tryd.prog 14 #[.slice none 0 0, .int .i64 3] wx fun e w' => e = .returned (.tuple #[.int .i64 0, .slice none 0 0, .int .i64 122]) ∧ wx = w') := Lib.hid (fun wx => open_len none 0 0 [] 3 wx (by omega))
  have HL4 : Hid (L[4]? = some 3 ∧ L[11]? = some 7) := Lib.hid (by
    have h1 : (L.drop 4)[0]? = L[4]? := by rw [List.getElem?_drop]
    have h2 : (L.drop 11)[0]? = L[11]? := by rw [List.getElem?_drop]
    rw [← h1, ← h2, hL, pageOf_drop, pageOf_eleven]
    exact ⟨rfl, rfl⟩)
  clear hN hB hL
  go_enter Tryd.func8, Tryd.ntmps8
  have G0 : Hid (Below B w (w.alloc (.cells #[.int .u8 7, .int .u8 8] 5))) := Lib.hid ((Below.refl _ _).alloc (HBl.out _ (Below.refl _ _)) _)
  have HLb : Hid (Bs (w.alloc (.cells #[.int .u8 7, .int .u8 8] 5)) (some ⟨w.heap.size, 0, none⟩) 2 [7, 8]) := Lib.hid (lit_bytes _ _ _ 2 _ rfl rfl (by omega))
  go_wp2_with (first
    | (go_at_call 10; with_reducible refine (CM.out _ _ 2 (KN.out _ G0.out) HLb.out).mono ?_; rintro e w1 ⟨v, rfl, ho, hb⟩; have G1 : Hid (Below B w w1) := Lib.hid (G0.out.trans (hb.mono (HBl.out _ G0.out))); obtain ⟨Ax, cx, rfl, hcx, hbx, -⟩ := own_addr ho; have X1 := Lib.hid hbx; have hci : (4096 : Int) ≤ (cx : Int) := (by omega); obtain ⟨ad, x0, rfl, -, -⟩ := hbx.get (k := 0) (by omega); have Hcx := Lib.hid hcx; clear ho hb hbx G0 HLb CM hcx)
    | (go_at_call 14; with_reducible refine (CO.out w1 _ _ (KN.out _ G1.out) X1.out Hcx.out).mono ?_; rintro e w2 ⟨v, rfl, ho, hb⟩; have G2 : Hid (Below B w w2) := Lib.hid (G1.out.trans (hb.mono (HBl.out _ G1.out))); have X2 := Lib.hid (X1.out.below hb); obtain ⟨Ay, cy, rfl, hcy, hby, -⟩ := own_addr ho; have Y2 := Lib.hid hby; clear ho hb hby CO hcy)
    | (go_at_call 14; with_reducible refine (CP.out w2 _ _ (KN.out _ G2.out) X2.out Hcx.out).mono ?_; rintro e w3 ⟨rfl, hb⟩; have G3 : Hid (Below B w w3) := Lib.hid (G2.out.trans (hb.mono (HBl.out _ G2.out))); have X3 := Lib.hid (X2.out.below hb); have Y3 := Lib.hid (Y2.out.below hb); clear hb)
    | (go_at_call 14; (with_reducible refine (CZ.out w3).mono ?_); rintro e w' ⟨rfl, rfl⟩; obtain ⟨ady, y1, ey, hy1, hcy1⟩ := Y3.out.get (k := 1) (by omega); subst ey; obtain rfl : (8 : UInt8) = y1 := Option.some.inj hy1; have hc4 := (X3.out.2.2 4 3 HL4.out.1); have hc11 := (X3.out.2.2 11 7 HL4.out.2); obtain ⟨a4, e4, hc4⟩ := hc4; cases e4; obtain ⟨a11, e11, hc11⟩ := hc11; cases e11; have d4 : w3.cell? ⟨ad.block, ad.off + 4, none⟩ = some (.int .u8 3) := hc4; have d11 : w3.cell? ⟨ad.block, ad.off + 11, none⟩ = some (.int .u8 7) := hc11; have d1 : w3.cell? ⟨ady.block, ady.off + 1, none⟩ = some (.int .u8 8) := hcy1; clear hc4 hc11 hcy1))
  go_ret
  exact ⟨rfl, Hlow.out _ G3.out⟩

end Go.Proofs.YtokoagepbhlkdaaDoor
