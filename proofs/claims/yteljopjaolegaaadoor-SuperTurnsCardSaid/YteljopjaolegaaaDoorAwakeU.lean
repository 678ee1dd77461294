/-
  CONTRACT: the laws' own first small case (layer 14).
-/
import Derived.Test.YteljopjaolegaaaDoorSuperK
namespace Go.Proofs.YteljopjaolegaaaDoor
open Go.RowKit
set_option maxRecDepth 100000
set_option linter.unusedVariables false
set_option linter.unusedSimpArgs false

theorem plain14 (w : World) : Calls Tryd.prog 30 #[] w fun q w' => q = .returned (.agg #[.int .i64 3, .int .i64 9, .int .i64 2, .int .i64 20]) ∧ Below w.heap.size w w' := by
  go_enter Tryd.func30, Tryd.ntmps30
  go_wp2
  refine bodyPost_ret (results_cell_row rfl _ _ w.heap.size 30 #[.int .i64 3, .int .i64 9, .int .i64 2, .int .i64 20] (0, 0) _ rfl (heap_alloc_new w _) Tryd.underlying30 rfl (by kernel_rfl)) rfl ⟨rfl, ?_⟩
  exact (Below.refl _ _).alloc (Nat.le_refl _) _

set_option maxHeartbeats 4000000 in
theorem awake14 (w : World) (hN : Nib w) :
    Calls Tryd.prog 9 #[] w fun e w' => e = .returned (.bool true) ∧ Below w.heap.size w w' := by
  obtain ⟨L, hL⟩ : ∃ L, L = supPage supPlain := ⟨_, rfl⟩
  obtain ⟨B, hB⟩ : ∃ B, B = w.heap.size := ⟨_, rfl⟩
  have HBl : Hid (∀ wx, Below B w wx → B ≤ wx.heap.size) := Lib.hid (fun wx h => by rw [hB]; exact h.size)
  have Hlow : Hid (∀ wx, Below B w wx → Below w.heap.size w wx) := Lib.hid (fun wx h => by rw [← hB]; exact h)
  have KN : Hid (∀ wx, Below B w wx → Nib wx) := Lib.hid (fun wx h => hN.below (Hlow.out _ h))
  have KA : Hid (∀ wx o, Below B w wx → Below B w (wx.alloc o)) := Lib.hid (fun wx o h => h.alloc (HBl.out _ h) _)
  have KT : Hid (∀ wx wy, Below B w wx → Below wx.heap.size wx wy → Below B w wy) := Lib.hid (fun wx wy h1 h2 => h1.trans (h2.mono (HBl.out _ h1)))
  have CPl := Lib.hid plain14
  have CM : Hid (∀ wx, Nib wx → Calls Tryd.prog 15 #[.agg #[.int .i64 3, .int .i64 9, .int .i64 2, .int .i64 20]] wx fun q w' => ∃ ad cx, q = .returned (.tuple #[.slice (some ad) 4096 cx, .int .i64 0]) ∧ Bs w' (some ad) 4096 L ∧ 4096 ≤ cx ∧ Below wx.heap.size wx w') := Lib.hid (fun wx hn => (smake_ok supPlain wx hn supPlain_may).mono fun q w' ⟨v, he, ho, hb⟩ => by
    obtain ⟨Ax, cx, rfl, hbs, hcx⟩ := own_bytes_cap ho
    obtain ⟨ad, rfl⟩ := some_of_bs hbs (by omega)
    exact ⟨ad, cx, he, by rw [hL]; exact hbs, hcx, hb⟩)
  have CO1 : Hid (∀ wx ad cx, Nib wx → Bs wx (some ad) 4096 L → 4096 ≤ cx → Calls Tryd.prog 18 #[.slice (some ad) 4096 cx, .int .i64 1] wx fun q w' => q = .returned (.tuple #[.agg #[.int .i64 3, .int .i64 9, .int .i64 2, .int .i64 20], .int .i64 0]) ∧ Below wx.heap.size wx w') := Lib.hid (fun wx ad cx hn hb hc => by
    have h := sopen_any (some ad) 4096 cx L 1 wx hn hb hc
    obtain ⟨h1, h2⟩ := sup_back supPlain supPlain_may 1 (.inr rfl)
    rw [hL, h1, h2, if_pos (by decide), if_pos (by decide)] at h
    exact h)
  have CO2 : Hid (∀ wx ad cx, Calls Tryd.prog 18 #[.slice (some ad) 4096 cx, .int .i64 2] wx fun q w' => q = .returned (.tuple #[.agg #[.int .i64 0, .int .i64 0, .int .i64 0, .int .i64 0], .int .i64 1]) ∧ Below wx.heap.size wx w') := Lib.hid (fun wx ad cx => sopen_arg (some ad) 4096 cx 2 wx (by decide) (by decide))
  have CC1 : Hid (∀ wx ad cx, Nib wx → Bs wx (some ad) 4096 L → 4096 ≤ cx → Calls Tryd.prog 22 #[.slice none 0 0, .slice (some ad) 4096 cx] wx fun q w' => q = .returned (.tuple #[.agg #[.int .i64 3, .int .i64 9, .int .i64 2, .int .i64 20], .int .i64 0]) ∧ Below wx.heap.size wx w') := Lib.hid (fun wx ad cx hn hb hc => by
    have h := schoose_any none (some ad) 0 0 4096 cx [] L wx hn (Bs.nil _ _) hb (Nat.le_refl _) hc
    rw [hL, supChoose_plain] at h
    exact h)
  have CC2 : Hid (∀ wx, Nib wx → Calls Tryd.prog 22 #[.slice none 0 0, .slice none 0 0] wx fun q w' => q = .returned (.tuple #[.agg #[.int .i64 0, .int .i64 0, .int .i64 0, .int .i64 0], .int .i64 140]) ∧ Below wx.heap.size wx w') := Lib.hid (fun wx hn => by
    have h := schoose_any none none 0 0 0 0 [] [] wx hn (Bs.nil _ _) (Bs.nil _ _) (Nat.le_refl _) (Nat.le_refl _)
    rw [supChoose_none] at h
    exact h)
  have CZ : Hid (∀ wx, Calls Tryd.prog 15 #[.agg #[.int .i64 0, .int .i64 0, .int .i64 0, .int .i64 0]] wx fun q w' => q = .returned (.tuple #[.slice none 0 0, .int .i64 1]) ∧ Below wx.heap.size wx w') := Lib.hid (fun wx => smake_bad .zero wx (by decide))
  have G0 : Hid (Below B w w) := Lib.hid (Below.refl _ _)
  clear hN hB hL
  go_enter Tryd.func9, Tryd.ntmps9
  go_wp2_with (first
    | (go_at_call 30; (with_reducible refine (CPl.out _).mono ?_); rintro q w1 ⟨rfl, hb⟩; have G1 := Lib.hid (KT.out _ _ G0.out hb); clear hb)
    | (go_at_call 15; (with_reducible refine (CM.out _ (KN.out _ G1.out)).mono ?_); rintro q w2 ⟨ad, cx, rfl, hbs, hcx, hb⟩; have G2 := Lib.hid (KT.out _ _ G1.out hb); have X2 := Lib.hid hbs; have Hcx := Lib.hid hcx; clear hb hbs hcx)
    | (go_at_call 18; (with_reducible refine (CO1.out _ _ _ (KN.out _ G2.out) X2.out Hcx.out).mono ?_); rintro q w3 ⟨rfl, hb⟩; have G3 := Lib.hid (KT.out _ _ G2.out hb); have A3 := Lib.hid (KA.out _ (.cells #[.int .i64 3, .int .i64 9, .int .i64 2, .int .i64 20] 30) G3.out); have X3 := Lib.hid ((X2.out.below hb).below ((Below.refl w3.heap.size w3).alloc (Nat.le_refl _) (.cells #[.int .i64 3, .int .i64 9, .int .i64 2, .int .i64 20] 30))); have S3 := Lib.hid (SupAt.new w3 3 9 2 20); clear hb)
    | (go_at_call 18; (with_reducible refine (CO2.out _ _ _).mono ?_); rintro q w4 ⟨rfl, hb⟩; have G4 := Lib.hid (KT.out _ _ A3.out hb); have A4 := Lib.hid (KA.out _ (.cells #[.int .i64 0, .int .i64 0, .int .i64 0, .int .i64 0] 30) G4.out); have X4 := Lib.hid ((X3.out.below hb).below ((Below.refl w4.heap.size w4).alloc (Nat.le_refl _) (.cells #[.int .i64 0, .int .i64 0, .int .i64 0, .int .i64 0] 30))); have S4 := Lib.hid ((S3.out.below hb).below ((Below.refl w4.heap.size w4).alloc (Nat.le_refl _) (.cells #[.int .i64 0, .int .i64 0, .int .i64 0, .int .i64 0] 30))); clear hb)
    | (go_at_call 22; (with_reducible refine (CC1.out _ _ _ (KN.out _ A4.out) X4.out Hcx.out).mono ?_); rintro q w5 ⟨rfl, hb⟩; have G5 := Lib.hid (KT.out _ _ A4.out hb); have A5 := Lib.hid (KA.out _ (.cells #[.int .i64 3, .int .i64 9, .int .i64 2, .int .i64 20] 30) G5.out); have S5 := Lib.hid ((S4.out.below hb).below ((Below.refl w5.heap.size w5).alloc (Nat.le_refl _) (.cells #[.int .i64 3, .int .i64 9, .int .i64 2, .int .i64 20] 30))); have T5 := Lib.hid (SupAt.new w5 3 9 2 20); clear hb)
    | (go_at_call 22; (with_reducible refine (CC2.out _ (KN.out _ A5.out)).mono ?_); rintro q w6 ⟨rfl, hb⟩; have G6 := Lib.hid (KT.out _ _ A5.out hb); have A6 := Lib.hid (KA.out _ (.cells #[.int .i64 0, .int .i64 0, .int .i64 0, .int .i64 0] 30) G6.out); have S6 := Lib.hid ((S5.out.below hb).below ((Below.refl w6.heap.size w6).alloc (Nat.le_refl _) (.cells #[.int .i64 0, .int .i64 0, .int .i64 0, .int .i64 0] 30))); have T6 := Lib.hid ((T5.out.below hb).below ((Below.refl w6.heap.size w6).alloc (Nat.le_refl _) (.cells #[.int .i64 0, .int .i64 0, .int .i64 0, .int .i64 0] 30))); clear hb)
    | (go_at_call 15; (with_reducible refine (CZ.out _).mono ?_); rintro q w7 ⟨rfl, hb⟩; have G7 := Lib.hid (KT.out _ _ A6.out hb); have S7 := Lib.hid (S6.out.below hb); have T7 := Lib.hid (T6.out.below hb); clear hb))
  obtain ⟨g3, hg3⟩ : ∃ g, g = w3.heap.size := ⟨_, rfl⟩
  obtain ⟨g5, hg5⟩ : ∃ g, g = w5.heap.size := ⟨_, rfl⟩
  rw [← hg3] at S7 ⊢
  rw [← hg5] at T7 ⊢
  clear hg3 hg5 S3 S4 S5 S6 T5 T6
  have K7 : Hid (∀ wx, Below w7.heap.size w7 wx → (wx.cell? ⟨g3, 0, none⟩ = some (.int .i64 3) ∧ wx.cell? ⟨g3, 1, none⟩ = some (.int .i64 9) ∧ wx.cell? ⟨g3, 2, none⟩ = some (.int .i64 2) ∧ wx.cell? ⟨g3, 3, none⟩ = some (.int .i64 20)) ∧ (wx.cell? ⟨g5, 0, none⟩ = some (.int .i64 3) ∧ wx.cell? ⟨g5, 1, none⟩ = some (.int .i64 9) ∧ wx.cell? ⟨g5, 2, none⟩ = some (.int .i64 2) ∧ wx.cell? ⟨g5, 3, none⟩ = some (.int .i64 20))) := Lib.hid (fun wx h => ⟨(S7.out.below h).cells, (T7.out.below h).cells⟩)
  have E7 := Lib.hid (Below.refl w7.heap.size w7)
  go_region_held3 (fun wx => (wx.cell? ⟨g3, 0, none⟩ = some (.int .i64 3) ∧ wx.cell? ⟨g3, 1, none⟩ = some (.int .i64 9) ∧ wx.cell? ⟨g3, 2, none⟩ = some (.int .i64 2) ∧ wx.cell? ⟨g3, 3, none⟩ = some (.int .i64 20)) ∧ (wx.cell? ⟨g5, 0, none⟩ = some (.int .i64 3) ∧ wx.cell? ⟨g5, 1, none⟩ = some (.int .i64 9) ∧ wx.cell? ⟨g5, 2, none⟩ = some (.int .i64 2) ∧ wx.cell? ⟨g5, 3, none⟩ = some (.int .i64 20))) ((have h := K7.out _ E7.out; exact h)) (first | (go_at_call 30; (with_reducible refine (CPl.out _).mono ?_); rintro q w8 ⟨rfl, hb⟩; (try replace hb := undrew hb); have E7 := Lib.hid (E7.out.trans (hb.mono E7.out.size)); clear hb))
  go_wp2
  go_ret
  exact ⟨rfl, Hlow.out _ (KT.out _ _ G7.out E7.out)⟩

end Go.Proofs.YteljopjaolegaaaDoor
