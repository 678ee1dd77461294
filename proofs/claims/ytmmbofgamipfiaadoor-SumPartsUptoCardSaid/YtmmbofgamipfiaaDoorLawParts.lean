/-
  THE WALK of coffretlaw11.SumParts.
-/
import Derived.Test.YtmmbofgamipfiaaDoorAwakeA
namespace Go.Proofs.YtmmbofgamipfiaaDoor
open Go.RowKit

set_option maxRecDepth 100000 in
set_option maxHeartbeats 2000000 in
theorem sumParts_any (A1 A2 A3 : Option Addr) (n1 n2 n3 c1 c2 c3 : Nat) (l1 l2 l3 : List UInt8) (w : World) (hN : Nib w) (h1 : Bs w A1 n1 l1) (h2 : Bs w A2 n2 l2) (h3 : Bs w A3 n3 l3) (hm : n1 + n2 + n3 ≤ 140737488351232) :
    Calls Tryd.prog 6 #[.slice A1 n1 c1, .slice A2 n2 c2, .slice A3 n3 c3] w fun e w' => e = .returned (.bool true) ∧ Below w.heap.size w w' := by
  have Hinfo := Lib.hid info_u8
  have HN := Lib.hid hN
  have K1 := Lib.hid h1
  have K2 := Lib.hid h2
  have K3 := Lib.hid h3
  have Hm := Lib.hid hm
  have Hr1 : Hid (0 + n1 ≤ 140737488355328) := Lib.hid (by omega)
  have Hr2 : Hid (0 + n1 + n2 ≤ 140737488355328) := Lib.hid (by omega)
  have Hr3 : Hid (0 + n1 + n2 + n3 ≤ 140737488355328) := Lib.hid (by omega)
  have L2 : Hid (n2 ≤ 9223372036854775807) := Lib.hid (by omega)
  have L3 : Hid (n3 ≤ 9223372036854775807) := Lib.hid (by omega)
  have L23 : Hid (n2 + n3 ≤ 9223372036854775807) := Lib.hid (by omega)
  have m2 : (n2 : Int) + (n3 : Int) = ((n2 + n3 : Nat) : Int) := by omega
  obtain ⟨B, hB⟩ : ∃ B, B = w.heap.size := ⟨_, rfl⟩
  have HBl : Hid (∀ wx, Below B w wx → B ≤ wx.heap.size) := Lib.hid (fun wx h => by rw [hB]; exact h.size)
  have Hlow : Hid (∀ wx, Below B w wx → Below w.heap.size w wx) := Lib.hid (fun wx h => by rw [← hB]; exact h)
  have Hup : Hid (∀ wx, Below w.heap.size w wx → Below B w wx) := Lib.hid (fun wx h => by rw [hB]; exact h)
  have K1 : Hid (∀ wx, Below B w wx → Bs wx A1 n1 l1) := Lib.hid (fun wx h => h1.below (Hlow.out _ h))
  have K2 : Hid (∀ wx, Below B w wx → Bs wx A2 n2 l2) := Lib.hid (fun wx h => h2.below (Hlow.out _ h))
  have K3 : Hid (∀ wx, Below B w wx → Bs wx A3 n3 l3) := Lib.hid (fun wx h => h3.below (Hlow.out _ h))
  have KN : Hid (∀ wx, Below B w wx → Nib wx) := Lib.hid (fun wx h => HN.out.below (Hlow.out _ h))
  obtain ⟨s1, e1⟩ : ∃ s, s = Crc.sum l1 := ⟨_, rfl⟩
  obtain ⟨s2, e2⟩ : ∃ s, s = Crc.sum l2 := ⟨_, rfl⟩
  obtain ⟨s3, e3⟩ : ∃ s, s = Crc.sum l3 := ⟨_, rfl⟩
  obtain ⟨m, em⟩ : ∃ s, s = Crc.sum (l1 ++ l2) := ⟨_, rfl⟩
  obtain ⟨y, ey⟩ : ∃ s, s = Crc.sum (l2 ++ l3) := ⟨_, rfl⟩
  obtain ⟨t, et⟩ : ∃ s, s = Crc.sum ([] ++ l1 ++ l2 ++ l3) := ⟨_, rfl⟩
  have hk2 := h2.len
  have hk3 := h3.len
  have et2 : t = Crc.sum (l1 ++ l2 ++ l3) := by rw [et, List.nil_append]
  have C1 : Hid (∀ wx, Below B w wx → Calls Tryd.prog 12 #[.slice A1 n1 c1] wx fun e w' => e = .returned (.int .i64 (ui s1)) ∧ wx = w') := Lib.hid (fun wx h => by rw [e1]; exact sum_any _ _ _ _ _ (K1.out _ h) (KN.out _ h))
  have C2 : Hid (∀ wx, Below B w wx → Calls Tryd.prog 12 #[.slice A2 n2 c2] wx fun e w' => e = .returned (.int .i64 (ui s2)) ∧ wx = w') := Lib.hid (fun wx h => by rw [e2]; exact sum_any _ _ _ _ _ (K2.out _ h) (KN.out _ h))
  have C3 : Hid (∀ wx, Below B w wx → Calls Tryd.prog 12 #[.slice A3 n3 c3] wx fun e w' => e = .returned (.int .i64 (ui s3)) ∧ wx = w') := Lib.hid (fun wx h => by rw [e3]; exact sum_any _ _ _ _ _ (K3.out _ h) (KN.out _ h))
  have C4 : Hid (∀ wx A c, Below B w wx → Bs wx A (0 + n1 + n2 + n3) ([] ++ l1 ++ l2 ++ l3) → Calls Tryd.prog 12 #[.slice A (n1 + n2 + n3) c] wx fun e w' => e = .returned (.int .i64 (ui t)) ∧ wx = w') := Lib.hid (fun wx A c h hb => by rw [et]; exact sum_any _ _ _ _ _ (by rw [Nat.zero_add] at hb; exact hb) (KN.out _ h))
  have D1 : Hid (∀ wx, Below B w wx → Calls Tryd.prog 13 #[.int .i64 (ui s1), .slice A2 n2 c2] wx fun e w' => e = .returned (.tuple #[.int .i64 (ui m), .int .i64 0]) ∧ wx = w') := Lib.hid (fun wx h => by rw [em, e1, Crc.sum_append]; exact more_ok _ _ _ _ _ _ (K2.out _ h) (KN.out _ h))
  have D2 : Hid (∀ wx, Below B w wx → Calls Tryd.prog 13 #[.int .i64 (ui m), .slice A3 n3 c3] wx fun e w' => e = .returned (.tuple #[.int .i64 (ui t), .int .i64 0]) ∧ wx = w') := Lib.hid (fun wx h => by rw [et2, em, Crc.sum_append (l1 ++ l2) l3]; exact more_ok _ _ _ _ _ _ (K3.out _ h) (KN.out _ h))
  have J1 : Hid (∀ wx, Calls Tryd.prog 17 #[.int .i64 (ui s1), .int .i64 (ui s2), .int .i64 n2] wx fun e w' => e = .returned (.tuple #[.int .i64 (ui m), .int .i64 0]) ∧ Below wx.heap.size wx w') := Lib.hid (fun wx => by rw [em, e1, e2, Crc.sum_join, hk2]; exact join_ok _ _ _ _ L2.out)
  have J2 : Hid (∀ wx, Calls Tryd.prog 17 #[.int .i64 (ui m), .int .i64 (ui s3), .int .i64 n3] wx fun e w' => e = .returned (.tuple #[.int .i64 (ui t), .int .i64 0]) ∧ Below wx.heap.size wx w') := Lib.hid (fun wx => by rw [et2, em, e3, Crc.sum_join (l1 ++ l2) l3, hk3]; exact join_ok _ _ _ _ L3.out)
  have J3 : Hid (∀ wx, Calls Tryd.prog 17 #[.int .i64 (ui s2), .int .i64 (ui s3), .int .i64 n3] wx fun e w' => e = .returned (.tuple #[.int .i64 (ui y), .int .i64 0]) ∧ Below wx.heap.size wx w') := Lib.hid (fun wx => by rw [ey, e2, e3, Crc.sum_join, hk3]; exact join_ok _ _ _ _ L3.out)
  have J4 : Hid (∀ wx, Calls Tryd.prog 17 #[.int .i64 (ui s1), .int .i64 (ui y), .int .i64 ((n2 : Int) + (n3 : Int))] wx fun e w' => e = .returned (.tuple #[.int .i64 (ui t), .int .i64 0]) ∧ Below wx.heap.size wx w') := Lib.hid (fun wx => by
    have hl : (l2 ++ l3).length = n2 + n3 := by rw [List.length_append, hk2, hk3]
    rw [et2, ey, e1, List.append_assoc, Crc.sum_join l1 (l2 ++ l3), hl, m2]; exact join_ok _ _ _ _ L23.out)
  have q1 : (0 : Int) ≤ (n2 : Int) + (n3 : Int) := by omega
  have q2 : (n2 : Int) + (n3 : Int) ≤ 9223372036854775807 := by omega
  clear m2 hN hm hB h1 h2 h3 e1 e2 e3 em ey et et2 hk2 hk3
  have H0 : Hid (∀ wx : World, wx.ownsRow B 5 1 (.slice none 0 0) 0 []) := Lib.hid (fun wx => World.ownsRow_nil _ _ _ _)
  go_enter Tryd.func6, Tryd.ntmps6
  go_wp2_with (first
    | (go_at_call 10; refine (awake11 _ HN.out).mono ?_; rintro e w1 ⟨rfl, hb⟩; have G1 := Lib.hid (Hup.out _ hb); clear hb)
    | (at_builtin; refine wpList_append_bytes rfl _ _ 22 rfl B 5 (.int .u8 0) Tryd.underlying22 Hinfo.out rfl (.slice none 0 0) 0 [] rfl (H0.out _) A1 n1 c1 l1 rfl (K1.out _ G1.out) Hr1.out (HBl.out _ G1.out) ?_; intro va wa ho hg hla; have Oa : Hid (wa.ownsRow B 5 1 va (0 + n1) (bs ([] ++ l1))) := Lib.hid ho; have Ga : Hid (Below B w wa) := Lib.hid (G1.out.grown hg (HBl.out _ G1.out) (fun i hi => by cases hi)); clear hg ho hla)
    | (at_builtin; refine wpList_append_bytes rfl _ _ 22 rfl B 5 (.int .u8 0) Tryd.underlying22 Hinfo.out rfl va (0 + n1) (bs ([] ++ l1)) rfl Oa.out A2 n2 c2 l2 rfl (K2.out _ Ga.out) Hr2.out (HBl.out _ Ga.out) ?_; intro vb wb ho hg hla; have Ob : Hid (wb.ownsRow B 5 1 vb (0 + n1 + n2) (bs ([] ++ l1 ++ l2))) := Lib.hid (by rw [bs_append]; exact ho); have Gb : Hid (Below B w wb) := Lib.hid (Ga.out.grown hg (HBl.out _ Ga.out) (fun i hi => (Oa.out.lt i hi).1)); clear hg ho hla)
    | (at_builtin; refine wpList_append_bytes rfl _ _ 22 rfl B 5 (.int .u8 0) Tryd.underlying22 Hinfo.out rfl vb (0 + n1 + n2) (bs ([] ++ l1 ++ l2)) rfl Ob.out A3 n3 c3 l3 rfl (K3.out _ Gb.out) Hr3.out (HBl.out _ Gb.out) ?_; intro vc wc ho hg hla; have Oc : Hid (wc.ownsRow B 5 1 vc (0 + n1 + n2 + n3) (bs ([] ++ l1 ++ l2 ++ l3))) := Lib.hid (by rw [bs_append]; exact ho); have Gc : Hid (Below B w wc) := Lib.hid (Gb.out.grown hg (HBl.out _ Gb.out) (fun i hi => (Ob.out.lt i hi).1)); clear hg ho hla; have Hex := own_bytes Oc.out; obtain ⟨Ac, cc, rfl, hbc⟩ := Hex; have HBc := Lib.hid hbc; clear hbc Oa Ob)
    | (go_at_call 12; (first | with_reducible refine (C1.out _ Gc.out).mono ?_ | with_reducible refine (C2.out _ Gc.out).mono ?_ | with_reducible refine (C3.out _ Gc.out).mono ?_ | with_reducible refine (C4.out _ Ac cc Gc.out HBc.out).mono ?_); rintro e w' ⟨rfl, rfl⟩)
    | (go_at_call 13; (first | with_reducible refine (D1.out _ Gc.out).mono ?_ | with_reducible refine (D2.out _ Gc.out).mono ?_); rintro e w' ⟨rfl, rfl⟩)
    | (go_at_call 17; with_reducible refine (J1.out _).mono ?_; rintro e w5 ⟨rfl, hb⟩; have G5 : Hid (Below B w w5) := Lib.hid (Gc.out.trans (hb.mono (HBl.out _ Gc.out))); clear hb)
    | (go_at_call 17; with_reducible refine (J2.out _).mono ?_; rintro e w6 ⟨rfl, hb⟩; have G6 : Hid (Below B w w6) := Lib.hid (G5.out.trans (hb.mono (HBl.out _ G5.out))); clear hb)
    | (go_at_call 17; with_reducible refine (J3.out _).mono ?_; rintro e w7 ⟨rfl, hb⟩; have G7 : Hid (Below B w w7) := Lib.hid (G6.out.trans (hb.mono (HBl.out _ G6.out))); clear hb)
    | (go_at_call 17; with_reducible refine (J4.out _).mono ?_; rintro e w8 ⟨rfl, hb⟩; have G8 : Hid (Below B w w8) := Lib.hid (G7.out.trans (hb.mono (HBl.out _ G7.out))); clear hb))
  go_ret
  exact ⟨rfl, Hlow.out _ G8.out⟩

end Go.Proofs.YtmmbofgamipfiaaDoor
