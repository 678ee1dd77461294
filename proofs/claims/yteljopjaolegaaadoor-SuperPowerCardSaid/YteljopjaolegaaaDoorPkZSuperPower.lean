/-
  PROVED HERE: coffretlaw14.SuperPower answers true for every superblock, every two integers and number of acts, every bool and slice of bools, where the table of sixteen words reads as its initialiser lays it.
-/
import Derived.Test.YteljopjaolegaaaDoorRow
import Derived.Test.YteljopjaolegaaaDoorPkD
import Derived.Deep.Grids
import Derived.Test.YteljopjaolegaaaDoorPkE
import Derived.Test.YteljopjaolegaaaDoorAwakeU
import Derived.Test.YteljopjaolegaaaDoorRowS

namespace Go.Proofs.YteljopjaolegaaaDoor
open Go.ChangeShapes Go.WideShapes Go.ChangeAt Go.RowKit Go.Deep
set_option maxRecDepth 100000

theorem boolCells : Tryd.prog.cellsOf 4 = 1 := by kernel_rfl
theorem arg_bool {H : Type} {enc : TypeId × Value → H} {W : World} {base b0 : Nat} {sp : Nat → Bool} {held : Bool} {v : Value} {d : DataW H} {p : List MemPlace}
    (hval : Value.okWide Tryd.prog W .any b0 4 v) (h : DataW.Trod enc Tryd.prog W base sp held 4 v d p) : ∃ b, v = .bool b := by
  obtain ⟨b, rfl, _⟩ := open_bool Tryd.underlying4 hval h
  exact ⟨b, rfl⟩
theorem arg_bools {H : Type} {enc : TypeId × Value → H} {W : World} {base b0 : Nat} {held : Bool} {v : Value} {d : DataW H} {p : List MemPlace}
    (hval : Value.okWide Tryd.prog W .any b0 32 v) (h : DataW.Trod enc Tryd.prog W base (fun _ => true) held 32 v d p) : ∃ A n c l, v = .slice A n c ∧ Bls W A n l := by
  obtain ⟨A, n, c, rfl⟩ := okWide_slice Tryd.underlying32 hval
  obtain ⟨fuel, hf⟩ := h
  rcases open_bools Tryd.underlying32 Tryd.underlying4 boolCells hf with ⟨hcs, _⟩ | ⟨a, len, cap, B, hcs, _, hl, hm, _, hcell⟩
  · simp [Value.cells] at hcs
    obtain ⟨rfl, rfl, rfl⟩ := hcs
    exact ⟨none, 0, 0, [], rfl, rfl, by omega, fun j b h => by simp at h⟩
  · simp [Value.cells] at hcs
    obtain ⟨rfl, rfl, rfl⟩ := hcs
    refine ⟨some a, n, c, (List.range n).map B, rfl, by simp, by simp only [maxLen] at hm; omega, fun j b hj => ⟨a, rfl, ?_⟩⟩
    simp only [List.getElem?_map, Option.map_eq_some_iff] at hj
    obtain ⟨i, hi, rfl⟩ := hj
    have hij := (List.getElem?_eq_some_iff.1 hi)
    obtain ⟨hlt, hi2⟩ := hij
    rw [List.getElem_range] at hi2
    subst hi2
    rw [List.length_range] at hlt
    exact hcell j (by omega)

end Go.Proofs.YteljopjaolegaaaDoor

/-
  THE WALK of coffretlaw14.SuperPower. (Printed by suppower.py.)
-/
namespace Go.Proofs.YteljopjaolegaaaDoor
open Go.RowKit
set_option maxRecDepth 100000
set_option linter.unusedVariables false
set_option linter.unusedSimpArgs false

theorem SupAt.four4 {w : World} {g : Nat} {v r e p : Int} (h : SupAt w g v r e p) : Sup4 w g v r e p := h.cells
theorem DK.sup {wN wx : World} {h g b : Nat} {d : DiskV} {v r e p : Int} (k : DK wN wx h g d) (hs : SupAt wN b v r e p) : SupAt wx b v r e p := (k.base.block b hs.lt).trans hs


set_option maxHeartbeats 8000000 in
theorem power_no (v r e p root ep acts : Int) (done : Bool) (B : Option Addr) (kn kc : Nat) (keep : List Bool) (w : World) (hN : Nib w) (hk : Bls w B kn keep) (hac : acts ≤ 9223372036854775807) (h : supMay ⟨v, r, e, p⟩ = false) :
    Calls Tryd.prog 8 #[.agg #[.int .i64 v, .int .i64 r, .int .i64 e, .int .i64 p], .int .i64 root, .int .i64 ep, .int .i64 acts, .bool done, .slice B kn kc] w fun q w' => q = .returned (.bool true) ∧ Below w.heap.size w w' := by
  obtain ⟨B0, hB⟩ : ∃ B, B = w.heap.size := ⟨_, rfl⟩
  have HB := Lib.hid hB
  have HBl : Hid (∀ wx, Below B0 w wx → B0 ≤ wx.heap.size) := Lib.hid (fun wx h => by rw [hB]; exact h.size)
  have Hlow : Hid (∀ wx, Below B0 w wx → Below w.heap.size w wx) := Lib.hid (fun wx h => by rw [← hB]; exact h)
  have KT : Hid (∀ wx wy, Below B0 w wx → Below wx.heap.size wx wy → Below B0 w wy) := Lib.hid (fun wx wy h1 h2 => h1.trans (h2.mono (HBl.out _ h1)))
  have KA : Hid (∀ wx o, Below B0 w wx → Below B0 w (wx.alloc o)) := Lib.hid (fun wx o h => h.alloc (HBl.out _ h) _)
  have KN : Hid (∀ wx, Below B0 w wx → Nib wx) := Lib.hid (fun wx hx => hN.below (Hlow.out _ hx))
  have KK : Hid (∀ wx, Below B0 w wx → Bls wx B kn keep) := Lib.hid (fun wx hx => hk.kept (fun a u hc => cell_below (Hlow.out _ hx) hc))
  have G0 : Hid (Below B0 w (w.alloc (.cells #[.int .i64 v, .int .i64 r, .int .i64 e, .int .i64 p] 30))) := Lib.hid (KA.out _ _ (Below.refl _ _))
  have S0 : Hid (SupAt (w.alloc (.cells #[.int .i64 v, .int .i64 r, .int .i64 e, .int .i64 p] 30)) w.heap.size v r e p) := Lib.hid (SupAt.new w v r e p)
  have Ha : Hid (∀ wx, Below B0 w wx → Calls Tryd.prog 9 #[] wx fun q w' => q = .returned (.bool true) ∧ Below wx.heap.size wx w') := Lib.hid (fun wx hx => awake14 wx (KN.out _ hx))
  have HB_CM := h
  have CM : Hid (∀ wx, Below B0 w wx → Calls Tryd.prog 15 #[.agg #[.int .i64 v, .int .i64 r, .int .i64 e, .int .i64 p]] wx fun q w' => ∃ y, q = .returned (.tuple #[y, .int .i64 1]) ∧ Below wx.heap.size wx w') := Lib.hid (fun wx hx => (smake_bad ⟨v, r, e, p⟩ wx HB_CM).mono fun q w' ⟨h1, h2⟩ => ⟨_, h1, h2⟩)
  have CX : Hid (∀ nv wx, Below B0 w wx → Calls Tryd.prog 15 #[.agg #[.int .i64 nv, .int .i64 root, .int .i64 ep, .int .i64 p]] wx fun q w' => ∃ y code, q = .returned (.tuple #[y, .int .i64 code]) ∧ Below wx.heap.size wx w') := Lib.hid (fun nv wx hx => by
    cases hn : supMay ⟨nv, root, ep, p⟩ with
    | true => exact (smake_ok ⟨nv, root, ep, p⟩ wx (KN.out _ hx) hn).mono fun q w' ⟨y, h1, _, h2⟩ => ⟨y, 0, h1, h2⟩
    | false => exact (smake_bad ⟨nv, root, ep, p⟩ wx hn).mono fun q w' ⟨h1, h2⟩ => ⟨_, 1, h1, h2⟩)
  obtain ⟨nv, hnv⟩ : ∃ nv, nv = wrap64 (v + 1) := ⟨_, rfl⟩
  have hq : IntKind.i64.wrap (v + 1) = nv := by rw [hnv, IntKind.wrap_i64]; unfold wrap64; omega
  have hq2 : wrap64 (v + 1) = nv := hnv.symm
  clear h HB_CM hN hk hac hB hnv
  go_enter Tryd.func8, Tryd.ntmps8
  go_wp2_with (first
    | ((go_at_call 9; (with_reducible refine (Ha.out _ G0.out).mono ?_)); rintro q w1 ⟨rfl, hb⟩; have G1 : Hid (Below B0 w (w1.alloc (.cells #[.int .i64 nv, .int .i64 root, .int .i64 ep, .int .i64 p] 30))) := Lib.hid (KA.out _ _ (KT.out _ _ G0.out hb)); have S1' := Lib.hid (S0.out.below hb); have S1 : Hid (SupAt (w1.alloc (.cells #[.int .i64 nv, .int .i64 root, .int .i64 ep, .int .i64 p] 30)) w.heap.size v r e p) := Lib.hid (S1'.out.below ((Below.refl _ _).alloc (Nat.le_refl _) _)); have N1 : Hid (SupAt (w1.alloc (.cells #[.int .i64 nv, .int .i64 root, .int .i64 ep, .int .i64 p] 30)) w1.heap.size nv root ep p) := Lib.hid (SupAt.new w1 nv root ep p); obtain ⟨c0, c1, c2, c3⟩ := S1'.out.cells; obtain ⟨d0, d1, d2, d3⟩ := S1.out.cells; clear hb)
    | ((go_at_call 15; (with_reducible refine (CM.out _ G1.out).mono ?_)); rintro q w2 ⟨y, rfl, hb⟩; have G2 := Lib.hid (KT.out _ _ G1.out hb); have S2 := Lib.hid (S1.out.below hb); have N2 := Lib.hid (N1.out.below hb); obtain ⟨a0, a1, a2, a3⟩ := N2.out.cells; clear hb)
    | ((go_at_call 15; (with_reducible refine (CX.out nv _ G2.out).mono ?_)); rintro q w3 ⟨z, zc, rfl, hb⟩; have G3 := Lib.hid (KT.out _ _ G2.out hb); have S3 := Lib.hid (S2.out.below hb); have N3 := Lib.hid (N2.out.below hb); obtain ⟨b0, b1, b2, b3⟩ := S3.out.cells; clear hb))
  go_ret
  have hB := HB.out
  subst hB
  exact ⟨rfl, G3.out⟩


set_option maxHeartbeats 8000000 in
theorem power_next (v r e p root ep acts : Int) (done : Bool) (B : Option Addr) (kn kc : Nat) (keep : List Bool) (w : World) (hN : Nib w) (hk : Bls w B kn keep) (hac : acts ≤ 9223372036854775807) (h : supMay ⟨v, r, e, p⟩ = true) (hn : supMay ⟨v + 1, root, ep, p⟩ = false) :
    Calls Tryd.prog 8 #[.agg #[.int .i64 v, .int .i64 r, .int .i64 e, .int .i64 p], .int .i64 root, .int .i64 ep, .int .i64 acts, .bool done, .slice B kn kc] w fun q w' => q = .returned (.bool true) ∧ Below w.heap.size w w' := by
  have hm := of_decide_eq_true (show decide _ = true from h)
  simp only at hm
  have hv0 : 1 ≤ v := hm.1
  have hv1 : v ≤ 1099511627776 := hm.2.1
  obtain ⟨B0, hB⟩ : ∃ B, B = w.heap.size := ⟨_, rfl⟩
  have HB := Lib.hid hB
  have HBl : Hid (∀ wx, Below B0 w wx → B0 ≤ wx.heap.size) := Lib.hid (fun wx h => by rw [hB]; exact h.size)
  have Hlow : Hid (∀ wx, Below B0 w wx → Below w.heap.size w wx) := Lib.hid (fun wx h => by rw [← hB]; exact h)
  have KT : Hid (∀ wx wy, Below B0 w wx → Below wx.heap.size wx wy → Below B0 w wy) := Lib.hid (fun wx wy h1 h2 => h1.trans (h2.mono (HBl.out _ h1)))
  have KA : Hid (∀ wx o, Below B0 w wx → Below B0 w (wx.alloc o)) := Lib.hid (fun wx o h => h.alloc (HBl.out _ h) _)
  have KN : Hid (∀ wx, Below B0 w wx → Nib wx) := Lib.hid (fun wx hx => hN.below (Hlow.out _ hx))
  have KK : Hid (∀ wx, Below B0 w wx → Bls wx B kn keep) := Lib.hid (fun wx hx => hk.kept (fun a u hc => cell_below (Hlow.out _ hx) hc))
  have G0 : Hid (Below B0 w (w.alloc (.cells #[.int .i64 v, .int .i64 r, .int .i64 e, .int .i64 p] 30))) := Lib.hid (KA.out _ _ (Below.refl _ _))
  have S0 : Hid (SupAt (w.alloc (.cells #[.int .i64 v, .int .i64 r, .int .i64 e, .int .i64 p] 30)) w.heap.size v r e p) := Lib.hid (SupAt.new w v r e p)
  have Ha : Hid (∀ wx, Below B0 w wx → Calls Tryd.prog 9 #[] wx fun q w' => q = .returned (.bool true) ∧ Below wx.heap.size wx w') := Lib.hid (fun wx hx => awake14 wx (KN.out _ hx))
  have HB_CX := hn
  have CM : Hid (∀ wx, Below B0 w wx → Calls Tryd.prog 15 #[.agg #[.int .i64 v, .int .i64 r, .int .i64 e, .int .i64 p]] wx fun q w' => ∃ y, q = .returned (.tuple #[y, .int .i64 0]) ∧ Below wx.heap.size wx w') := Lib.hid (fun wx hx => (smake_ok ⟨v, r, e, p⟩ wx (KN.out _ hx) h).mono fun q w' ⟨y, h1, _, h2⟩ => ⟨y, h1, h2⟩)
  have CX : Hid (∀ wx, Below B0 w wx → Calls Tryd.prog 15 #[.agg #[.int .i64 (v + 1), .int .i64 root, .int .i64 ep, .int .i64 p]] wx fun q w' => ∃ y, q = .returned (.tuple #[y, .int .i64 1]) ∧ Below wx.heap.size wx w') := Lib.hid (fun wx hx => (smake_bad ⟨v + 1, root, ep, p⟩ wx HB_CX).mono fun q w' ⟨h1, h2⟩ => ⟨_, h1, h2⟩)
  clear h hn HB_CX hN hk hac hB hm
  go_enter Tryd.func8, Tryd.ntmps8
  go_wp2_with (first
    | ((go_at_call 9; (with_reducible refine (Ha.out _ G0.out).mono ?_)); rintro q w1 ⟨rfl, hb⟩; have G1 : Hid (Below B0 w (w1.alloc (.cells #[.int .i64 (v + 1), .int .i64 root, .int .i64 ep, .int .i64 p] 30))) := Lib.hid (KA.out _ _ (KT.out _ _ G0.out hb)); have S1' := Lib.hid (S0.out.below hb); have S1 : Hid (SupAt (w1.alloc (.cells #[.int .i64 (v + 1), .int .i64 root, .int .i64 ep, .int .i64 p] 30)) w.heap.size v r e p) := Lib.hid (S1'.out.below ((Below.refl _ _).alloc (Nat.le_refl _) _)); have N1 : Hid (SupAt (w1.alloc (.cells #[.int .i64 (v + 1), .int .i64 root, .int .i64 ep, .int .i64 p] 30)) w1.heap.size (v + 1) root ep p) := Lib.hid (SupAt.new w1 (v + 1) root ep p); obtain ⟨c0, c1, c2, c3⟩ := S1'.out.cells; obtain ⟨d0, d1, d2, d3⟩ := S1.out.cells; clear hb)
    | ((go_at_call 15; (with_reducible refine (CM.out _ G1.out).mono ?_)); rintro q w2 ⟨y, rfl, hb⟩; have G2 := Lib.hid (KT.out _ _ G1.out hb); have S2 := Lib.hid (S1.out.below hb); have N2 := Lib.hid (N1.out.below hb); obtain ⟨a0, a1, a2, a3⟩ := N2.out.cells; clear hb)
    | ((go_at_call 15; (with_reducible refine (CX.out _ G2.out).mono ?_)); rintro q w3 ⟨z, rfl, hb⟩; have G3 := Lib.hid (KT.out _ _ G2.out hb); have S3 := Lib.hid (S2.out.below hb); have N3 := Lib.hid (N2.out.below hb); obtain ⟨b0, b1, b2, b3⟩ := S3.out.cells; clear hb))
  go_ret
  have hB := HB.out
  subst hB
  exact ⟨rfl, G3.out⟩


set_option maxHeartbeats 8000000 in
theorem power_done (v r e p root ep acts : Int) (done : Bool) (B : Option Addr) (kn kc : Nat) (keep : List Bool) (w : World) (hN : Nib w) (hk : Bls w B kn keep) (hac : acts ≤ 9223372036854775807) (h : supMay ⟨v, r, e, p⟩ = true) (hn : supMay ⟨v + 1, root, ep, p⟩ = true) (he : (((((DiskV.new (8 * p)).swrite ⟨v, r, e, p⟩).1.arm acts done).swrite ⟨v + 1, root, ep, p⟩).2 = 0)) :
    Calls Tryd.prog 8 #[.agg #[.int .i64 v, .int .i64 r, .int .i64 e, .int .i64 p], .int .i64 root, .int .i64 ep, .int .i64 acts, .bool done, .slice B kn kc] w fun q w' => q = .returned (.bool true) ∧ Below w.heap.size w w' := by
  have hm := of_decide_eq_true (show decide _ = true from h)
  simp only at hm
  have hv0 : 1 ≤ v := hm.1
  have hv1 : v ≤ 1099511627776 := hm.2.1
  obtain ⟨B0, hB⟩ : ∃ B, B = w.heap.size := ⟨_, rfl⟩
  have HB := Lib.hid hB
  have HBl : Hid (∀ wx, Below B0 w wx → B0 ≤ wx.heap.size) := Lib.hid (fun wx h => by rw [hB]; exact h.size)
  have Hlow : Hid (∀ wx, Below B0 w wx → Below w.heap.size w wx) := Lib.hid (fun wx h => by rw [← hB]; exact h)
  have KT : Hid (∀ wx wy, Below B0 w wx → Below wx.heap.size wx wy → Below B0 w wy) := Lib.hid (fun wx wy h1 h2 => h1.trans (h2.mono (HBl.out _ h1)))
  have KA : Hid (∀ wx o, Below B0 w wx → Below B0 w (wx.alloc o)) := Lib.hid (fun wx o h => h.alloc (HBl.out _ h) _)
  have KN : Hid (∀ wx, Below B0 w wx → Nib wx) := Lib.hid (fun wx hx => hN.below (Hlow.out _ hx))
  have KK : Hid (∀ wx, Below B0 w wx → Bls wx B kn keep) := Lib.hid (fun wx hx => hk.kept (fun a u hc => cell_below (Hlow.out _ hx) hc))
  have G0 : Hid (Below B0 w (w.alloc (.cells #[.int .i64 v, .int .i64 r, .int .i64 e, .int .i64 p] 30))) := Lib.hid (KA.out _ _ (Below.refl _ _))
  have S0 : Hid (SupAt (w.alloc (.cells #[.int .i64 v, .int .i64 r, .int .i64 e, .int .i64 p] 30)) w.heap.size v r e p) := Lib.hid (SupAt.new w v r e p)
  have Ha : Hid (∀ wx, Below B0 w wx → Calls Tryd.prog 9 #[] wx fun q w' => q = .returned (.bool true) ∧ Below wx.heap.size wx w') := Lib.hid (fun wx hx => awake14 wx (KN.out _ hx))
  have CM : Hid (∀ wx, Below B0 w wx → Calls Tryd.prog 15 #[.agg #[.int .i64 v, .int .i64 r, .int .i64 e, .int .i64 p]] wx fun q w' => ∃ y, q = .returned (.tuple #[y, .int .i64 0]) ∧ Below wx.heap.size wx w') := Lib.hid (fun wx hx => (smake_ok ⟨v, r, e, p⟩ wx (KN.out _ hx) h).mono fun q w' ⟨y, h1, _, h2⟩ => ⟨y, h1, h2⟩)
  have CX : Hid (∀ wx, Below B0 w wx → Calls Tryd.prog 15 #[.agg #[.int .i64 (v + 1), .int .i64 root, .int .i64 ep, .int .i64 p]] wx fun q w' => ∃ y, q = .returned (.tuple #[y, .int .i64 0]) ∧ Below wx.heap.size wx w') := Lib.hid (fun wx hx => (smake_ok ⟨v + 1, root, ep, p⟩ wx (KN.out _ hx) hn).mono fun q w' ⟨y, h1, _, h2⟩ => ⟨y, h1, h2⟩)
  have hp16 : 16 ≤ p := hm.2.2.2.2.1
  have hp64 : p ≤ 65536 := hm.2.2.2.2.2.1
  obtain ⟨D0, hD0⟩ : ∃ D, D = DiskV.new (8 * p) := ⟨_, rfl⟩
  obtain ⟨q1, q2, q3, q4⟩ := DiskV.sup_power ⟨v, r, e, p⟩ ⟨v + 1, root, ep, p⟩ h hn rfl rfl acts done keep
  simp only at q1 q2 q3 q4
  rw [← hD0] at he q1 q2 q3 q4
  have hw0 : D0.wait.length = 0 := by rw [hD0]; rfl
  obtain ⟨D1, hD1⟩ : ∃ D, D = (D0.swrite ⟨v, r, e, p⟩).1 := ⟨_, rfl⟩
  have hw1 : D1.wait.length ≤ 8 := by have := swrite_len D0 ⟨v, r, e, p⟩; rw [← hD1] at this; omega
  rw [← hD1] at he q2 q3 q4
  obtain ⟨D2, hD2⟩ : ∃ D, D = ((D1.arm acts done).swrite ⟨v + 1, root, ep, p⟩).1 := ⟨_, rfl⟩
  obtain ⟨E2, hE2⟩ : ∃ E, E = ((D1.arm acts done).swrite ⟨v + 1, root, ep, p⟩).2 := ⟨_, rfl⟩
  have hw2 : D2.wait.length ≤ 16 := by have := swrite_len (D1.arm acts done) ⟨v + 1, root, ep, p⟩; rw [← hD2] at this; have e : (D1.arm acts done).wait = D1.wait := rfl; rw [e] at this; omega
  rw [← hD2] at q2 q3 q4
  rw [← hE2] at he q3
  have CN : Hid (∀ wN, Calls Tryd.prog 10 #[.int .i64 (8 * p)] wN fun x w' => ∃ h g, x = .returned (.pointer (some ⟨h, 0, none⟩)) ∧ DK wN w' h g D0) := Lib.hid (fun wN => by rw [hD0]; exact dk_new (8 * p) wN (by omega))
  have CW1 : Hid (∀ wN wx hh qq gg, DQ wN wx hh qq gg D0 → Nib wN → Calls Tryd.prog 24 #[.pointer (some ⟨qq, 0, none⟩), .agg #[.int .i64 v, .int .i64 r, .int .i64 e, .int .i64 p]] wx fun x w' => x = .returned .nilIface ∧ DK wN w' hh gg D1) := Lib.hid (fun wN wx hh qq gg k kn => (dq_swrite k kn ⟨v, r, e, p⟩ (by omega)).mono fun x w' ⟨h1, h2⟩ => ⟨by rw [h1, q1]; rfl, by rw [hD1]; exact h2.hand⟩)
  have CW2 : Hid (∀ wN wx hh qq gg, DQ wN wx hh qq gg (D1.arm acts done) → Nib wN → Calls Tryd.prog 24 #[.pointer (some ⟨qq, 0, none⟩), .agg #[.int .i64 (v + 1), .int .i64 root, .int .i64 ep, .int .i64 p]] wx fun x w' => x = .returned (.nilIface) ∧ DK wN w' hh gg D2) := Lib.hid (fun wN wx hh qq gg k kn => (dq_swrite k kn ⟨v + 1, root, ep, p⟩ (by have e : (D1.arm acts done).wait = D1.wait := rfl; rw [e]; omega)).mono fun x w' ⟨h1, h2⟩ => ⟨by rw [h1, ← hE2]; rw [he]; rfl, by rw [hD2]; exact h2.hand⟩)
  have CA : Hid (∀ wN wx hh gg, DK wN wx hh gg D1 → Calls Tryd.prog 28 #[.pointer (some ⟨hh, 0, none⟩), .int .i64 acts, .bool done] wx fun x w' => x = .returned (.tuple #[]) ∧ DK wN w' hh gg (D1.arm acts done)) := Lib.hid (fun wN wx hh gg k => dk_arm k acts done hac)
  have CC : Hid (∀ wN wx hh gg, DK wN wx hh gg D2 → Bls wN B kn keep → Calls Tryd.prog 29 #[.pointer (some ⟨hh, 0, none⟩), .slice B kn kc] wx fun x w' => x = .returned (.tuple #[]) ∧ DK wN w' hh gg (D2.crash keep)) := Lib.hid (fun wN wx hh gg k kb => dk_crash k B kn kc keep kb (by omega))
  have CR : Hid (∀ wN wx hh qq gg, DQ wN wx hh qq gg (D2.crash keep) → Nib wN → Calls Tryd.prog 26 #[.pointer (some ⟨qq, 0, none⟩)] wx fun x w' => x = .returned (.tuple #[.agg #[.int .i64 (v + 1), .int .i64 root, .int .i64 ep, .int .i64 p], .nilIface]) ∧ Below wx.heap.size wx w') := Lib.hid (fun wN wx hh qq gg k kn => by
    have := dq_sread k kn
    rw [q2, q3 he] at this
    exact this)
  have CD : Hid (∀ wN wx hh gg dd, DK wN wx hh gg dd → Calls Tryd.prog 25 #[.pointer (some ⟨hh, 0, none⟩)] wx fun x w' => ∃ qq, x = .returned (.pointer (some ⟨qq, 0, none⟩)) ∧ DQ wN w' hh qq gg dd ∧ Below wx.heap.size wx w') := Lib.hid (fun wN wx hh gg dd k => dk_disk k)
  clear h hn hN hk hac hB hm he q1 q2 q3 q4 hD0 hD1 hD2 hw0 hw1 hw2
  go_enter Tryd.func8, Tryd.ntmps8
  go_wp2_with (first
    | ((go_at_call 9; (with_reducible refine (Ha.out _ G0.out).mono ?_)); rintro q w1 ⟨rfl, hb⟩; have G1 : Hid (Below B0 w (w1.alloc (.cells #[.int .i64 (v + 1), .int .i64 root, .int .i64 ep, .int .i64 p] 30))) := Lib.hid (KA.out _ _ (KT.out _ _ G0.out hb)); have S1' := Lib.hid (S0.out.below hb); have S1 : Hid (SupAt (w1.alloc (.cells #[.int .i64 (v + 1), .int .i64 root, .int .i64 ep, .int .i64 p] 30)) w.heap.size v r e p) := Lib.hid (S1'.out.below ((Below.refl _ _).alloc (Nat.le_refl _) _)); have N1 : Hid (SupAt (w1.alloc (.cells #[.int .i64 (v + 1), .int .i64 root, .int .i64 ep, .int .i64 p] 30)) w1.heap.size (v + 1) root ep p) := Lib.hid (SupAt.new w1 (v + 1) root ep p); obtain ⟨c0, c1, c2, c3⟩ := S1'.out.cells; obtain ⟨d0, d1, d2, d3⟩ := S1.out.cells; clear hb)
    | ((go_at_call 15; (with_reducible refine (CM.out _ G1.out).mono ?_)); rintro q w2 ⟨y, rfl, hb⟩; have G2 := Lib.hid (KT.out _ _ G1.out hb); have S2 := Lib.hid (S1.out.below hb); have N2 := Lib.hid (N1.out.below hb); obtain ⟨a0, a1, a2, a3⟩ := N2.out.cells; clear hb)
    | ((go_at_call 15; (with_reducible refine (CX.out _ G2.out).mono ?_)); rintro q w3 ⟨z, rfl, hb⟩; have G3 := Lib.hid (KT.out _ _ G2.out hb); have S3 := Lib.hid (S2.out.below hb); have N3 := Lib.hid (N2.out.below hb); obtain ⟨b0, b1, b2, b3⟩ := S3.out.cells; clear hb)
    | ((go_at_call 10; (with_reducible refine (CN.out _).mono ?_)); rintro x w4 ⟨hh, gg, rfl, hk⟩; have K4 := Lib.hid hk; have NN := Lib.hid (KN.out _ G3.out); have BB := Lib.hid (KK.out _ G3.out); clear hk))
  obtain ⟨sb, hsb⟩ : ∃ sb, sb = w.heap.size := ⟨_, rfl⟩
  obtain ⟨nb, hnb⟩ : ∃ nb, nb = w1.heap.size := ⟨_, rfl⟩
  rw [← hsb] at S3
  rw [← hnb] at N3
  have Hsb := Lib.hid hsb
  have Hnb := Lib.hid hnb
  rw [← hsb, ← hnb]
  have SX : Hid (∀ wx hh gg dd, DK w3 wx hh gg dd → Sup4 wx sb v r e p) := Lib.hid (fun wx hh gg dd k => (k.sup S3.out).cells)
  have SY : Hid (∀ wx hh gg dd, DK w3 wx hh gg dd → Sup4 wx nb (v + 1) root ep p) := Lib.hid (fun wx hh gg dd k => (k.sup N3.out).cells)
  clear hsb hnb c0 c1 c2 c3 d0 d1 d2 d3 a0 a1 a2 a3 b0 b1 b2 b3
  have Y4 := Lib.hid (SX.out _ _ _ _ K4.out)
  go_region_held3 (fun w' => w'.cell? ⟨sb, 0, none⟩ = some (.int .i64 v) ∧ w'.cell? ⟨sb, 1, none⟩ = some (.int .i64 r) ∧ w'.cell? ⟨sb, 2, none⟩ = some (.int .i64 e) ∧ w'.cell? ⟨sb, 3, none⟩ = some (.int .i64 p)) (first | exact Y4.out | exact Y5.out | exact Y6.out) (first
    | ((go_at_call 25; (with_reducible refine (CD.out w3 _ hh gg D0 ?_).mono ?_)); (first | exact K4.out | exact K4.out.drew | exact K4.out.drew.drew); rintro x w5 ⟨qq, rfl, hk, hb⟩; have K5 := Lib.hid hk; have Y5 := Lib.hid (SX.out _ _ _ _ hk.hand); clear hk hb)
    | ((go_at_call 24; (with_reducible refine (CW1.out w3 _ hh qq gg ?_ NN.out).mono ?_)); (first | exact K5.out | exact K5.out.drew | exact K5.out.drew.drew); rintro x w6 ⟨rfl, hk⟩; have K6 := Lib.hid hk; have Y6 := Lib.hid (SX.out _ _ _ _ hk); clear hk))
  go_wp2_with (first
    | ((go_at_call 28; (with_reducible refine (CA.out w3 _ hh gg ?_).mono ?_)); (first | exact K6.out | exact K6.out.drew); rintro x w7 ⟨rfl, hk⟩; have K7 := Lib.hid hk; have Y7 := Lib.hid (SY.out _ _ _ _ hk); clear hk))
  go_region_held3 (fun w' => w'.cell? ⟨nb, 0, none⟩ = some (.int .i64 (v + 1)) ∧ w'.cell? ⟨nb, 1, none⟩ = some (.int .i64 root) ∧ w'.cell? ⟨nb, 2, none⟩ = some (.int .i64 ep) ∧ w'.cell? ⟨nb, 3, none⟩ = some (.int .i64 p)) (first | exact Y7.out | exact Y8.out | exact Y9.out) (first
    | ((go_at_call 25; (with_reducible refine (CD.out w3 _ hh gg (D1.arm acts done) ?_).mono ?_)); (first | exact K7.out | exact K7.out.drew | exact K7.out.drew.drew); rintro x w8 ⟨qz, rfl, hk, hb⟩; have K8 := Lib.hid hk; have Y8 := Lib.hid (SY.out _ _ _ _ hk.hand); clear hk hb)
    | ((go_at_call 24; (with_reducible refine (CW2.out w3 _ hh qz gg ?_ NN.out).mono ?_)); (first | exact K8.out | exact K8.out.drew | exact K8.out.drew.drew); rintro x w9 ⟨rfl, hk⟩; have K9 := Lib.hid hk; have Y9 := Lib.hid (SY.out _ _ _ _ hk); clear hk))
  go_wp2_with (first
    | ((go_at_call 29; (with_reducible refine (CC.out w3 _ hh gg ?_ BB.out).mono ?_)); (first | exact K9.out | exact K9.out.drew); rintro x wa ⟨rfl, hk⟩; have KA1 := Lib.hid hk; clear hk)
    | ((go_at_call 25; (with_reducible refine (CD.out w3 wa hh gg _ KA1.out).mono ?_)); rintro x wb ⟨qy, rfl, hk, hb⟩; have KB1 := Lib.hid hk; clear hk hb)
    | ((go_at_call 26; (with_reducible refine (CR.out w3 wb hh qy gg KB1.out NN.out).mono ?_)); rintro x wc ⟨rfl, hb⟩; have KC1 := Lib.hid ((KB1.out.hand.below hb).alloc (.cells #[.int .i64 (v + 1), .int .i64 root, .int .i64 ep, .int .i64 p] 30)); obtain ⟨c0, c1, c2, c3⟩ := SX.out _ _ _ _ KC1.out; obtain ⟨d0, d1, d2, d3⟩ := SY.out _ _ _ _ KC1.out; clear hb))
  all_goals (
    go_ret
    have hB := HB.out
    subst hB
    exact ⟨by simp, G3.out.trans (KC1.out.base.mono (HBl.out _ G3.out))⟩)


set_option maxHeartbeats 8000000 in
theorem power_old (v r e p root ep acts : Int) (done : Bool) (B : Option Addr) (kn kc : Nat) (keep : List Bool) (w : World) (hN : Nib w) (hk : Bls w B kn keep) (hac : acts ≤ 9223372036854775807) (h : supMay ⟨v, r, e, p⟩ = true) (hn : supMay ⟨v + 1, root, ep, p⟩ = true) (he : ¬ (((((DiskV.new (8 * p)).swrite ⟨v, r, e, p⟩).1.arm acts done).swrite ⟨v + 1, root, ep, p⟩).2) = 0 ∧ ((((((DiskV.new (8 * p)).swrite ⟨v, r, e, p⟩).1.arm acts done).swrite ⟨v + 1, root, ep, p⟩).1.crash keep).sread.1) = ⟨v, r, e, p⟩) :
    Calls Tryd.prog 8 #[.agg #[.int .i64 v, .int .i64 r, .int .i64 e, .int .i64 p], .int .i64 root, .int .i64 ep, .int .i64 acts, .bool done, .slice B kn kc] w fun q w' => q = .returned (.bool true) ∧ Below w.heap.size w w' := by
  have hm := of_decide_eq_true (show decide _ = true from h)
  simp only at hm
  have hv0 : 1 ≤ v := hm.1
  have hv1 : v ≤ 1099511627776 := hm.2.1
  obtain ⟨B0, hB⟩ : ∃ B, B = w.heap.size := ⟨_, rfl⟩
  have HB := Lib.hid hB
  have HBl : Hid (∀ wx, Below B0 w wx → B0 ≤ wx.heap.size) := Lib.hid (fun wx h => by rw [hB]; exact h.size)
  have Hlow : Hid (∀ wx, Below B0 w wx → Below w.heap.size w wx) := Lib.hid (fun wx h => by rw [← hB]; exact h)
  have KT : Hid (∀ wx wy, Below B0 w wx → Below wx.heap.size wx wy → Below B0 w wy) := Lib.hid (fun wx wy h1 h2 => h1.trans (h2.mono (HBl.out _ h1)))
  have KA : Hid (∀ wx o, Below B0 w wx → Below B0 w (wx.alloc o)) := Lib.hid (fun wx o h => h.alloc (HBl.out _ h) _)
  have KN : Hid (∀ wx, Below B0 w wx → Nib wx) := Lib.hid (fun wx hx => hN.below (Hlow.out _ hx))
  have KK : Hid (∀ wx, Below B0 w wx → Bls wx B kn keep) := Lib.hid (fun wx hx => hk.kept (fun a u hc => cell_below (Hlow.out _ hx) hc))
  have G0 : Hid (Below B0 w (w.alloc (.cells #[.int .i64 v, .int .i64 r, .int .i64 e, .int .i64 p] 30))) := Lib.hid (KA.out _ _ (Below.refl _ _))
  have S0 : Hid (SupAt (w.alloc (.cells #[.int .i64 v, .int .i64 r, .int .i64 e, .int .i64 p] 30)) w.heap.size v r e p) := Lib.hid (SupAt.new w v r e p)
  have Ha : Hid (∀ wx, Below B0 w wx → Calls Tryd.prog 9 #[] wx fun q w' => q = .returned (.bool true) ∧ Below wx.heap.size wx w') := Lib.hid (fun wx hx => awake14 wx (KN.out _ hx))
  have CM : Hid (∀ wx, Below B0 w wx → Calls Tryd.prog 15 #[.agg #[.int .i64 v, .int .i64 r, .int .i64 e, .int .i64 p]] wx fun q w' => ∃ y, q = .returned (.tuple #[y, .int .i64 0]) ∧ Below wx.heap.size wx w') := Lib.hid (fun wx hx => (smake_ok ⟨v, r, e, p⟩ wx (KN.out _ hx) h).mono fun q w' ⟨y, h1, _, h2⟩ => ⟨y, h1, h2⟩)
  have CX : Hid (∀ wx, Below B0 w wx → Calls Tryd.prog 15 #[.agg #[.int .i64 (v + 1), .int .i64 root, .int .i64 ep, .int .i64 p]] wx fun q w' => ∃ y, q = .returned (.tuple #[y, .int .i64 0]) ∧ Below wx.heap.size wx w') := Lib.hid (fun wx hx => (smake_ok ⟨v + 1, root, ep, p⟩ wx (KN.out _ hx) hn).mono fun q w' ⟨y, h1, _, h2⟩ => ⟨y, h1, h2⟩)
  have hp16 : 16 ≤ p := hm.2.2.2.2.1
  have hp64 : p ≤ 65536 := hm.2.2.2.2.2.1
  obtain ⟨D0, hD0⟩ : ∃ D, D = DiskV.new (8 * p) := ⟨_, rfl⟩
  obtain ⟨q1, q2, q3, q4⟩ := DiskV.sup_power ⟨v, r, e, p⟩ ⟨v + 1, root, ep, p⟩ h hn rfl rfl acts done keep
  simp only at q1 q2 q3 q4
  rw [← hD0] at he q1 q2 q3 q4
  have hw0 : D0.wait.length = 0 := by rw [hD0]; rfl
  obtain ⟨D1, hD1⟩ : ∃ D, D = (D0.swrite ⟨v, r, e, p⟩).1 := ⟨_, rfl⟩
  have hw1 : D1.wait.length ≤ 8 := by have := swrite_len D0 ⟨v, r, e, p⟩; rw [← hD1] at this; omega
  rw [← hD1] at he q2 q3 q4
  obtain ⟨D2, hD2⟩ : ∃ D, D = ((D1.arm acts done).swrite ⟨v + 1, root, ep, p⟩).1 := ⟨_, rfl⟩
  obtain ⟨E2, hE2⟩ : ∃ E, E = ((D1.arm acts done).swrite ⟨v + 1, root, ep, p⟩).2 := ⟨_, rfl⟩
  have hw2 : D2.wait.length ≤ 16 := by have := swrite_len (D1.arm acts done) ⟨v + 1, root, ep, p⟩; rw [← hD2] at this; have e : (D1.arm acts done).wait = D1.wait := rfl; rw [e] at this; omega
  rw [← hD2] at q2 q3 q4
  rw [← hE2, ← hD2] at he
  have CN : Hid (∀ wN, Calls Tryd.prog 10 #[.int .i64 (8 * p)] wN fun x w' => ∃ h g, x = .returned (.pointer (some ⟨h, 0, none⟩)) ∧ DK wN w' h g D0) := Lib.hid (fun wN => by rw [hD0]; exact dk_new (8 * p) wN (by omega))
  have CW1 : Hid (∀ wN wx hh qq gg, DQ wN wx hh qq gg D0 → Nib wN → Calls Tryd.prog 24 #[.pointer (some ⟨qq, 0, none⟩), .agg #[.int .i64 v, .int .i64 r, .int .i64 e, .int .i64 p]] wx fun x w' => x = .returned .nilIface ∧ DK wN w' hh gg D1) := Lib.hid (fun wN wx hh qq gg k kn => (dq_swrite k kn ⟨v, r, e, p⟩ (by omega)).mono fun x w' ⟨h1, h2⟩ => ⟨by rw [h1, q1]; rfl, by rw [hD1]; exact h2.hand⟩)
  have CW2 : Hid (∀ wN wx hh qq gg, DQ wN wx hh qq gg (D1.arm acts done) → Nib wN → Calls Tryd.prog 24 #[.pointer (some ⟨qq, 0, none⟩), .agg #[.int .i64 (v + 1), .int .i64 root, .int .i64 ep, .int .i64 p]] wx fun x w' => x = .returned (.iface 37 (.int .i64 E2)) ∧ DK wN w' hh gg D2) := Lib.hid (fun wN wx hh qq gg k kn => (dq_swrite k kn ⟨v + 1, root, ep, p⟩ (by have e : (D1.arm acts done).wait = D1.wait := rfl; rw [e]; omega)).mono fun x w' ⟨h1, h2⟩ => ⟨by rw [h1, ← hE2]; rw [errV_ne _ he.1], by rw [hD2]; exact h2.hand⟩)
  have CA : Hid (∀ wN wx hh gg, DK wN wx hh gg D1 → Calls Tryd.prog 28 #[.pointer (some ⟨hh, 0, none⟩), .int .i64 acts, .bool done] wx fun x w' => x = .returned (.tuple #[]) ∧ DK wN w' hh gg (D1.arm acts done)) := Lib.hid (fun wN wx hh gg k => dk_arm k acts done hac)
  have CC : Hid (∀ wN wx hh gg, DK wN wx hh gg D2 → Bls wN B kn keep → Calls Tryd.prog 29 #[.pointer (some ⟨hh, 0, none⟩), .slice B kn kc] wx fun x w' => x = .returned (.tuple #[]) ∧ DK wN w' hh gg (D2.crash keep)) := Lib.hid (fun wN wx hh gg k kb => dk_crash k B kn kc keep kb (by omega))
  have CR : Hid (∀ wN wx hh qq gg, DQ wN wx hh qq gg (D2.crash keep) → Nib wN → Calls Tryd.prog 26 #[.pointer (some ⟨qq, 0, none⟩)] wx fun x w' => x = .returned (.tuple #[.agg #[.int .i64 v, .int .i64 r, .int .i64 e, .int .i64 p], .nilIface]) ∧ Below wx.heap.size wx w') := Lib.hid (fun wN wx hh qq gg k kn => by
    have := dq_sread k kn
    rw [q2, he.2] at this
    exact this)
  have CD : Hid (∀ wN wx hh gg dd, DK wN wx hh gg dd → Calls Tryd.prog 25 #[.pointer (some ⟨hh, 0, none⟩)] wx fun x w' => ∃ qq, x = .returned (.pointer (some ⟨qq, 0, none⟩)) ∧ DQ wN w' hh qq gg dd ∧ Below wx.heap.size wx w') := Lib.hid (fun wN wx hh gg dd k => dk_disk k)
  clear h hn hN hk hac hB hm he q1 q2 q3 q4 hD0 hD1 hD2 hw0 hw1 hw2
  go_enter Tryd.func8, Tryd.ntmps8
  go_wp2_with (first
    | ((go_at_call 9; (with_reducible refine (Ha.out _ G0.out).mono ?_)); rintro q w1 ⟨rfl, hb⟩; have G1 : Hid (Below B0 w (w1.alloc (.cells #[.int .i64 (v + 1), .int .i64 root, .int .i64 ep, .int .i64 p] 30))) := Lib.hid (KA.out _ _ (KT.out _ _ G0.out hb)); have S1' := Lib.hid (S0.out.below hb); have S1 : Hid (SupAt (w1.alloc (.cells #[.int .i64 (v + 1), .int .i64 root, .int .i64 ep, .int .i64 p] 30)) w.heap.size v r e p) := Lib.hid (S1'.out.below ((Below.refl _ _).alloc (Nat.le_refl _) _)); have N1 : Hid (SupAt (w1.alloc (.cells #[.int .i64 (v + 1), .int .i64 root, .int .i64 ep, .int .i64 p] 30)) w1.heap.size (v + 1) root ep p) := Lib.hid (SupAt.new w1 (v + 1) root ep p); obtain ⟨c0, c1, c2, c3⟩ := S1'.out.cells; obtain ⟨d0, d1, d2, d3⟩ := S1.out.cells; clear hb)
    | ((go_at_call 15; (with_reducible refine (CM.out _ G1.out).mono ?_)); rintro q w2 ⟨y, rfl, hb⟩; have G2 := Lib.hid (KT.out _ _ G1.out hb); have S2 := Lib.hid (S1.out.below hb); have N2 := Lib.hid (N1.out.below hb); obtain ⟨a0, a1, a2, a3⟩ := N2.out.cells; clear hb)
    | ((go_at_call 15; (with_reducible refine (CX.out _ G2.out).mono ?_)); rintro q w3 ⟨z, rfl, hb⟩; have G3 := Lib.hid (KT.out _ _ G2.out hb); have S3 := Lib.hid (S2.out.below hb); have N3 := Lib.hid (N2.out.below hb); obtain ⟨b0, b1, b2, b3⟩ := S3.out.cells; clear hb)
    | ((go_at_call 10; (with_reducible refine (CN.out _).mono ?_)); rintro x w4 ⟨hh, gg, rfl, hk⟩; have K4 := Lib.hid hk; have NN := Lib.hid (KN.out _ G3.out); have BB := Lib.hid (KK.out _ G3.out); clear hk))
  obtain ⟨sb, hsb⟩ : ∃ sb, sb = w.heap.size := ⟨_, rfl⟩
  obtain ⟨nb, hnb⟩ : ∃ nb, nb = w1.heap.size := ⟨_, rfl⟩
  rw [← hsb] at S3
  rw [← hnb] at N3
  have Hsb := Lib.hid hsb
  have Hnb := Lib.hid hnb
  rw [← hsb, ← hnb]
  have SX : Hid (∀ wx hh gg dd, DK w3 wx hh gg dd → Sup4 wx sb v r e p) := Lib.hid (fun wx hh gg dd k => (k.sup S3.out).cells)
  have SY : Hid (∀ wx hh gg dd, DK w3 wx hh gg dd → Sup4 wx nb (v + 1) root ep p) := Lib.hid (fun wx hh gg dd k => (k.sup N3.out).cells)
  clear hsb hnb c0 c1 c2 c3 d0 d1 d2 d3 a0 a1 a2 a3 b0 b1 b2 b3
  have Y4 := Lib.hid (SX.out _ _ _ _ K4.out)
  go_region_held3 (fun w' => w'.cell? ⟨sb, 0, none⟩ = some (.int .i64 v) ∧ w'.cell? ⟨sb, 1, none⟩ = some (.int .i64 r) ∧ w'.cell? ⟨sb, 2, none⟩ = some (.int .i64 e) ∧ w'.cell? ⟨sb, 3, none⟩ = some (.int .i64 p)) (first | exact Y4.out | exact Y5.out | exact Y6.out) (first
    | ((go_at_call 25; (with_reducible refine (CD.out w3 _ hh gg D0 ?_).mono ?_)); (first | exact K4.out | exact K4.out.drew | exact K4.out.drew.drew); rintro x w5 ⟨qq, rfl, hk, hb⟩; have K5 := Lib.hid hk; have Y5 := Lib.hid (SX.out _ _ _ _ hk.hand); clear hk hb)
    | ((go_at_call 24; (with_reducible refine (CW1.out w3 _ hh qq gg ?_ NN.out).mono ?_)); (first | exact K5.out | exact K5.out.drew | exact K5.out.drew.drew); rintro x w6 ⟨rfl, hk⟩; have K6 := Lib.hid hk; have Y6 := Lib.hid (SX.out _ _ _ _ hk); clear hk))
  go_wp2_with (first
    | ((go_at_call 28; (with_reducible refine (CA.out w3 _ hh gg ?_).mono ?_)); (first | exact K6.out | exact K6.out.drew); rintro x w7 ⟨rfl, hk⟩; have K7 := Lib.hid hk; have Y7 := Lib.hid (SY.out _ _ _ _ hk); clear hk))
  go_region_held3 (fun w' => w'.cell? ⟨nb, 0, none⟩ = some (.int .i64 (v + 1)) ∧ w'.cell? ⟨nb, 1, none⟩ = some (.int .i64 root) ∧ w'.cell? ⟨nb, 2, none⟩ = some (.int .i64 ep) ∧ w'.cell? ⟨nb, 3, none⟩ = some (.int .i64 p)) (first | exact Y7.out | exact Y8.out | exact Y9.out) (first
    | ((go_at_call 25; (with_reducible refine (CD.out w3 _ hh gg (D1.arm acts done) ?_).mono ?_)); (first | exact K7.out | exact K7.out.drew | exact K7.out.drew.drew); rintro x w8 ⟨qz, rfl, hk, hb⟩; have K8 := Lib.hid hk; have Y8 := Lib.hid (SY.out _ _ _ _ hk.hand); clear hk hb)
    | ((go_at_call 24; (with_reducible refine (CW2.out w3 _ hh qz gg ?_ NN.out).mono ?_)); (first | exact K8.out | exact K8.out.drew | exact K8.out.drew.drew); rintro x w9 ⟨rfl, hk⟩; have K9 := Lib.hid hk; have Y9 := Lib.hid (SY.out _ _ _ _ hk); clear hk))
  go_wp2_with (first
    | ((go_at_call 29; (with_reducible refine (CC.out w3 _ hh gg ?_ BB.out).mono ?_)); (first | exact K9.out | exact K9.out.drew); rintro x wa ⟨rfl, hk⟩; have KA1 := Lib.hid hk; clear hk)
    | ((go_at_call 25; (with_reducible refine (CD.out w3 wa hh gg _ KA1.out).mono ?_)); rintro x wb ⟨qy, rfl, hk, hb⟩; have KB1 := Lib.hid hk; clear hk hb)
    | ((go_at_call 26; (with_reducible refine (CR.out w3 wb hh qy gg KB1.out NN.out).mono ?_)); rintro x wc ⟨rfl, hb⟩; have KC1 := Lib.hid ((KB1.out.hand.below hb).alloc (.cells #[.int .i64 v, .int .i64 r, .int .i64 e, .int .i64 p] 30)); obtain ⟨c0, c1, c2, c3⟩ := SX.out _ _ _ _ KC1.out; obtain ⟨d0, d1, d2, d3⟩ := SY.out _ _ _ _ KC1.out; clear hb))
  all_goals (
    go_ret
    have hB := HB.out
    subst hB
    exact ⟨by simp, G3.out.trans (KC1.out.base.mono (HBl.out _ G3.out))⟩)


set_option maxHeartbeats 8000000 in
theorem power_new (v r e p root ep acts : Int) (done : Bool) (B : Option Addr) (kn kc : Nat) (keep : List Bool) (w : World) (hN : Nib w) (hk : Bls w B kn keep) (hac : acts ≤ 9223372036854775807) (h : supMay ⟨v, r, e, p⟩ = true) (hn : supMay ⟨v + 1, root, ep, p⟩ = true) (he : ¬ (((((DiskV.new (8 * p)).swrite ⟨v, r, e, p⟩).1.arm acts done).swrite ⟨v + 1, root, ep, p⟩).2) = 0 ∧ ((((((DiskV.new (8 * p)).swrite ⟨v, r, e, p⟩).1.arm acts done).swrite ⟨v + 1, root, ep, p⟩).1.crash keep).sread.1) = ⟨v + 1, root, ep, p⟩) :
    Calls Tryd.prog 8 #[.agg #[.int .i64 v, .int .i64 r, .int .i64 e, .int .i64 p], .int .i64 root, .int .i64 ep, .int .i64 acts, .bool done, .slice B kn kc] w fun q w' => q = .returned (.bool true) ∧ Below w.heap.size w w' := by
  have hm := of_decide_eq_true (show decide _ = true from h)
  simp only at hm
  have hv0 : 1 ≤ v := hm.1
  have hv1 : v ≤ 1099511627776 := hm.2.1
  obtain ⟨B0, hB⟩ : ∃ B, B = w.heap.size := ⟨_, rfl⟩
  have HB := Lib.hid hB
  have HBl : Hid (∀ wx, Below B0 w wx → B0 ≤ wx.heap.size) := Lib.hid (fun wx h => by rw [hB]; exact h.size)
  have Hlow : Hid (∀ wx, Below B0 w wx → Below w.heap.size w wx) := Lib.hid (fun wx h => by rw [← hB]; exact h)
  have KT : Hid (∀ wx wy, Below B0 w wx → Below wx.heap.size wx wy → Below B0 w wy) := Lib.hid (fun wx wy h1 h2 => h1.trans (h2.mono (HBl.out _ h1)))
  have KA : Hid (∀ wx o, Below B0 w wx → Below B0 w (wx.alloc o)) := Lib.hid (fun wx o h => h.alloc (HBl.out _ h) _)
  have KN : Hid (∀ wx, Below B0 w wx → Nib wx) := Lib.hid (fun wx hx => hN.below (Hlow.out _ hx))
  have KK : Hid (∀ wx, Below B0 w wx → Bls wx B kn keep) := Lib.hid (fun wx hx => hk.kept (fun a u hc => cell_below (Hlow.out _ hx) hc))
  have G0 : Hid (Below B0 w (w.alloc (.cells #[.int .i64 v, .int .i64 r, .int .i64 e, .int .i64 p] 30))) := Lib.hid (KA.out _ _ (Below.refl _ _))
  have S0 : Hid (SupAt (w.alloc (.cells #[.int .i64 v, .int .i64 r, .int .i64 e, .int .i64 p] 30)) w.heap.size v r e p) := Lib.hid (SupAt.new w v r e p)
  have Ha : Hid (∀ wx, Below B0 w wx → Calls Tryd.prog 9 #[] wx fun q w' => q = .returned (.bool true) ∧ Below wx.heap.size wx w') := Lib.hid (fun wx hx => awake14 wx (KN.out _ hx))
  have CM : Hid (∀ wx, Below B0 w wx → Calls Tryd.prog 15 #[.agg #[.int .i64 v, .int .i64 r, .int .i64 e, .int .i64 p]] wx fun q w' => ∃ y, q = .returned (.tuple #[y, .int .i64 0]) ∧ Below wx.heap.size wx w') := Lib.hid (fun wx hx => (smake_ok ⟨v, r, e, p⟩ wx (KN.out _ hx) h).mono fun q w' ⟨y, h1, _, h2⟩ => ⟨y, h1, h2⟩)
  have CX : Hid (∀ wx, Below B0 w wx → Calls Tryd.prog 15 #[.agg #[.int .i64 (v + 1), .int .i64 root, .int .i64 ep, .int .i64 p]] wx fun q w' => ∃ y, q = .returned (.tuple #[y, .int .i64 0]) ∧ Below wx.heap.size wx w') := Lib.hid (fun wx hx => (smake_ok ⟨v + 1, root, ep, p⟩ wx (KN.out _ hx) hn).mono fun q w' ⟨y, h1, _, h2⟩ => ⟨y, h1, h2⟩)
  have hp16 : 16 ≤ p := hm.2.2.2.2.1
  have hp64 : p ≤ 65536 := hm.2.2.2.2.2.1
  obtain ⟨D0, hD0⟩ : ∃ D, D = DiskV.new (8 * p) := ⟨_, rfl⟩
  obtain ⟨q1, q2, q3, q4⟩ := DiskV.sup_power ⟨v, r, e, p⟩ ⟨v + 1, root, ep, p⟩ h hn rfl rfl acts done keep
  simp only at q1 q2 q3 q4
  rw [← hD0] at he q1 q2 q3 q4
  have hw0 : D0.wait.length = 0 := by rw [hD0]; rfl
  obtain ⟨D1, hD1⟩ : ∃ D, D = (D0.swrite ⟨v, r, e, p⟩).1 := ⟨_, rfl⟩
  have hw1 : D1.wait.length ≤ 8 := by have := swrite_len D0 ⟨v, r, e, p⟩; rw [← hD1] at this; omega
  rw [← hD1] at he q2 q3 q4
  obtain ⟨D2, hD2⟩ : ∃ D, D = ((D1.arm acts done).swrite ⟨v + 1, root, ep, p⟩).1 := ⟨_, rfl⟩
  obtain ⟨E2, hE2⟩ : ∃ E, E = ((D1.arm acts done).swrite ⟨v + 1, root, ep, p⟩).2 := ⟨_, rfl⟩
  have hw2 : D2.wait.length ≤ 16 := by have := swrite_len (D1.arm acts done) ⟨v + 1, root, ep, p⟩; rw [← hD2] at this; have e : (D1.arm acts done).wait = D1.wait := rfl; rw [e] at this; omega
  rw [← hD2] at q2 q3 q4
  rw [← hE2, ← hD2] at he
  have CN : Hid (∀ wN, Calls Tryd.prog 10 #[.int .i64 (8 * p)] wN fun x w' => ∃ h g, x = .returned (.pointer (some ⟨h, 0, none⟩)) ∧ DK wN w' h g D0) := Lib.hid (fun wN => by rw [hD0]; exact dk_new (8 * p) wN (by omega))
  have CW1 : Hid (∀ wN wx hh qq gg, DQ wN wx hh qq gg D0 → Nib wN → Calls Tryd.prog 24 #[.pointer (some ⟨qq, 0, none⟩), .agg #[.int .i64 v, .int .i64 r, .int .i64 e, .int .i64 p]] wx fun x w' => x = .returned .nilIface ∧ DK wN w' hh gg D1) := Lib.hid (fun wN wx hh qq gg k kn => (dq_swrite k kn ⟨v, r, e, p⟩ (by omega)).mono fun x w' ⟨h1, h2⟩ => ⟨by rw [h1, q1]; rfl, by rw [hD1]; exact h2.hand⟩)
  have CW2 : Hid (∀ wN wx hh qq gg, DQ wN wx hh qq gg (D1.arm acts done) → Nib wN → Calls Tryd.prog 24 #[.pointer (some ⟨qq, 0, none⟩), .agg #[.int .i64 (v + 1), .int .i64 root, .int .i64 ep, .int .i64 p]] wx fun x w' => x = .returned (.iface 37 (.int .i64 E2)) ∧ DK wN w' hh gg D2) := Lib.hid (fun wN wx hh qq gg k kn => (dq_swrite k kn ⟨v + 1, root, ep, p⟩ (by have e : (D1.arm acts done).wait = D1.wait := rfl; rw [e]; omega)).mono fun x w' ⟨h1, h2⟩ => ⟨by rw [h1, ← hE2]; rw [errV_ne _ he.1], by rw [hD2]; exact h2.hand⟩)
  have CA : Hid (∀ wN wx hh gg, DK wN wx hh gg D1 → Calls Tryd.prog 28 #[.pointer (some ⟨hh, 0, none⟩), .int .i64 acts, .bool done] wx fun x w' => x = .returned (.tuple #[]) ∧ DK wN w' hh gg (D1.arm acts done)) := Lib.hid (fun wN wx hh gg k => dk_arm k acts done hac)
  have CC : Hid (∀ wN wx hh gg, DK wN wx hh gg D2 → Bls wN B kn keep → Calls Tryd.prog 29 #[.pointer (some ⟨hh, 0, none⟩), .slice B kn kc] wx fun x w' => x = .returned (.tuple #[]) ∧ DK wN w' hh gg (D2.crash keep)) := Lib.hid (fun wN wx hh gg k kb => dk_crash k B kn kc keep kb (by omega))
  have CR : Hid (∀ wN wx hh qq gg, DQ wN wx hh qq gg (D2.crash keep) → Nib wN → Calls Tryd.prog 26 #[.pointer (some ⟨qq, 0, none⟩)] wx fun x w' => x = .returned (.tuple #[.agg #[.int .i64 (v + 1), .int .i64 root, .int .i64 ep, .int .i64 p], .nilIface]) ∧ Below wx.heap.size wx w') := Lib.hid (fun wN wx hh qq gg k kn => by
    have := dq_sread k kn
    rw [q2, he.2] at this
    exact this)
  have CD : Hid (∀ wN wx hh gg dd, DK wN wx hh gg dd → Calls Tryd.prog 25 #[.pointer (some ⟨hh, 0, none⟩)] wx fun x w' => ∃ qq, x = .returned (.pointer (some ⟨qq, 0, none⟩)) ∧ DQ wN w' hh qq gg dd ∧ Below wx.heap.size wx w') := Lib.hid (fun wN wx hh gg dd k => dk_disk k)
  clear h hn hN hk hac hB hm he q1 q2 q3 q4 hD0 hD1 hD2 hw0 hw1 hw2
  go_enter Tryd.func8, Tryd.ntmps8
  go_wp2_with (first
    | ((go_at_call 9; (with_reducible refine (Ha.out _ G0.out).mono ?_)); rintro q w1 ⟨rfl, hb⟩; have G1 : Hid (Below B0 w (w1.alloc (.cells #[.int .i64 (v + 1), .int .i64 root, .int .i64 ep, .int .i64 p] 30))) := Lib.hid (KA.out _ _ (KT.out _ _ G0.out hb)); have S1' := Lib.hid (S0.out.below hb); have S1 : Hid (SupAt (w1.alloc (.cells #[.int .i64 (v + 1), .int .i64 root, .int .i64 ep, .int .i64 p] 30)) w.heap.size v r e p) := Lib.hid (S1'.out.below ((Below.refl _ _).alloc (Nat.le_refl _) _)); have N1 : Hid (SupAt (w1.alloc (.cells #[.int .i64 (v + 1), .int .i64 root, .int .i64 ep, .int .i64 p] 30)) w1.heap.size (v + 1) root ep p) := Lib.hid (SupAt.new w1 (v + 1) root ep p); obtain ⟨c0, c1, c2, c3⟩ := S1'.out.cells; obtain ⟨d0, d1, d2, d3⟩ := S1.out.cells; clear hb)
    | ((go_at_call 15; (with_reducible refine (CM.out _ G1.out).mono ?_)); rintro q w2 ⟨y, rfl, hb⟩; have G2 := Lib.hid (KT.out _ _ G1.out hb); have S2 := Lib.hid (S1.out.below hb); have N2 := Lib.hid (N1.out.below hb); obtain ⟨a0, a1, a2, a3⟩ := N2.out.cells; clear hb)
    | ((go_at_call 15; (with_reducible refine (CX.out _ G2.out).mono ?_)); rintro q w3 ⟨z, rfl, hb⟩; have G3 := Lib.hid (KT.out _ _ G2.out hb); have S3 := Lib.hid (S2.out.below hb); have N3 := Lib.hid (N2.out.below hb); obtain ⟨b0, b1, b2, b3⟩ := S3.out.cells; clear hb)
    | ((go_at_call 10; (with_reducible refine (CN.out _).mono ?_)); rintro x w4 ⟨hh, gg, rfl, hk⟩; have K4 := Lib.hid hk; have NN := Lib.hid (KN.out _ G3.out); have BB := Lib.hid (KK.out _ G3.out); clear hk))
  obtain ⟨sb, hsb⟩ : ∃ sb, sb = w.heap.size := ⟨_, rfl⟩
  obtain ⟨nb, hnb⟩ : ∃ nb, nb = w1.heap.size := ⟨_, rfl⟩
  rw [← hsb] at S3
  rw [← hnb] at N3
  have Hsb := Lib.hid hsb
  have Hnb := Lib.hid hnb
  rw [← hsb, ← hnb]
  have SX : Hid (∀ wx hh gg dd, DK w3 wx hh gg dd → Sup4 wx sb v r e p) := Lib.hid (fun wx hh gg dd k => (k.sup S3.out).cells)
  have SY : Hid (∀ wx hh gg dd, DK w3 wx hh gg dd → Sup4 wx nb (v + 1) root ep p) := Lib.hid (fun wx hh gg dd k => (k.sup N3.out).cells)
  clear hsb hnb c0 c1 c2 c3 d0 d1 d2 d3 a0 a1 a2 a3 b0 b1 b2 b3
  have Y4 := Lib.hid (SX.out _ _ _ _ K4.out)
  go_region_held3 (fun w' => w'.cell? ⟨sb, 0, none⟩ = some (.int .i64 v) ∧ w'.cell? ⟨sb, 1, none⟩ = some (.int .i64 r) ∧ w'.cell? ⟨sb, 2, none⟩ = some (.int .i64 e) ∧ w'.cell? ⟨sb, 3, none⟩ = some (.int .i64 p)) (first | exact Y4.out | exact Y5.out | exact Y6.out) (first
    | ((go_at_call 25; (with_reducible refine (CD.out w3 _ hh gg D0 ?_).mono ?_)); (first | exact K4.out | exact K4.out.drew | exact K4.out.drew.drew); rintro x w5 ⟨qq, rfl, hk, hb⟩; have K5 := Lib.hid hk; have Y5 := Lib.hid (SX.out _ _ _ _ hk.hand); clear hk hb)
    | ((go_at_call 24; (with_reducible refine (CW1.out w3 _ hh qq gg ?_ NN.out).mono ?_)); (first | exact K5.out | exact K5.out.drew | exact K5.out.drew.drew); rintro x w6 ⟨rfl, hk⟩; have K6 := Lib.hid hk; have Y6 := Lib.hid (SX.out _ _ _ _ hk); clear hk))
  go_wp2_with (first
    | ((go_at_call 28; (with_reducible refine (CA.out w3 _ hh gg ?_).mono ?_)); (first | exact K6.out | exact K6.out.drew); rintro x w7 ⟨rfl, hk⟩; have K7 := Lib.hid hk; have Y7 := Lib.hid (SY.out _ _ _ _ hk); clear hk))
  go_region_held3 (fun w' => w'.cell? ⟨nb, 0, none⟩ = some (.int .i64 (v + 1)) ∧ w'.cell? ⟨nb, 1, none⟩ = some (.int .i64 root) ∧ w'.cell? ⟨nb, 2, none⟩ = some (.int .i64 ep) ∧ w'.cell? ⟨nb, 3, none⟩ = some (.int .i64 p)) (first | exact Y7.out | exact Y8.out | exact Y9.out) (first
    | ((go_at_call 25; (with_reducible refine (CD.out w3 _ hh gg (D1.arm acts done) ?_).mono ?_)); (first | exact K7.out | exact K7.out.drew | exact K7.out.drew.drew); rintro x w8 ⟨qz, rfl, hk, hb⟩; have K8 := Lib.hid hk; have Y8 := Lib.hid (SY.out _ _ _ _ hk.hand); clear hk hb)
    | ((go_at_call 24; (with_reducible refine (CW2.out w3 _ hh qz gg ?_ NN.out).mono ?_)); (first | exact K8.out | exact K8.out.drew | exact K8.out.drew.drew); rintro x w9 ⟨rfl, hk⟩; have K9 := Lib.hid hk; have Y9 := Lib.hid (SY.out _ _ _ _ hk); clear hk))
  go_wp2_with (first
    | ((go_at_call 29; (with_reducible refine (CC.out w3 _ hh gg ?_ BB.out).mono ?_)); (first | exact K9.out | exact K9.out.drew); rintro x wa ⟨rfl, hk⟩; have KA1 := Lib.hid hk; clear hk)
    | ((go_at_call 25; (with_reducible refine (CD.out w3 wa hh gg _ KA1.out).mono ?_)); rintro x wb ⟨qy, rfl, hk, hb⟩; have KB1 := Lib.hid hk; clear hk hb)
    | ((go_at_call 26; (with_reducible refine (CR.out w3 wb hh qy gg KB1.out NN.out).mono ?_)); rintro x wc ⟨rfl, hb⟩; have KC1 := Lib.hid ((KB1.out.hand.below hb).alloc (.cells #[.int .i64 (v + 1), .int .i64 root, .int .i64 ep, .int .i64 p] 30)); obtain ⟨c0, c1, c2, c3⟩ := SX.out _ _ _ _ KC1.out; obtain ⟨d0, d1, d2, d3⟩ := SY.out _ _ _ _ KC1.out; clear hb))
  all_goals (
    go_ret
    have hB := HB.out
    subst hB
    exact ⟨by simp, G3.out.trans (KC1.out.base.mono (HBl.out _ G3.out))⟩)


theorem superPower_any (v r e p root ep acts : Int) (done : Bool) (B : Option Addr) (kn kc : Nat) (keep : List Bool) (w : World) (hN : Nib w) (hk : Bls w B kn keep) (hac : acts ≤ 9223372036854775807) :
    Calls Tryd.prog 8 #[.agg #[.int .i64 v, .int .i64 r, .int .i64 e, .int .i64 p], .int .i64 root, .int .i64 ep, .int .i64 acts, .bool done, .slice B kn kc] w fun q w' => q = .returned (.bool true) ∧ Below w.heap.size w w' := by
  cases h : supMay ⟨v, r, e, p⟩ with
  | false => exact power_no v r e p root ep acts done B kn kc keep w hN hk hac h
  | true =>
    cases hn : supMay ⟨v + 1, root, ep, p⟩ with
    | false => exact power_next v r e p root ep acts done B kn kc keep w hN hk hac h hn
    | true =>
      obtain ⟨q1, q2, q3, q4⟩ := DiskV.sup_power ⟨v, r, e, p⟩ ⟨v + 1, root, ep, p⟩ h hn rfl rfl acts done keep
      simp only at q1 q2 q3 q4
      by_cases he : (((((DiskV.new (8 * p)).swrite ⟨v, r, e, p⟩).1.arm acts done).swrite ⟨v + 1, root, ep, p⟩).2 = 0)
      · exact power_done v r e p root ep acts done B kn kc keep w hN hk hac h hn he
      · rcases q4 with q4 | q4
        · exact power_old v r e p root ep acts done B kn kc keep w hN hk hac h hn ⟨he, q4⟩
        · exact power_new v r e p root ep acts done B kn kc keep w hN hk hac h hn ⟨he, q4⟩

end Go.Proofs.YteljopjaolegaaaDoor

/-
  PROVED HERE: coffretlaw14.SuperPower answers true for every superblock, every two integers and number of acts, every bool and slice of bools, where the table of sixteen words reads as its initialiser lays it.
-/
namespace Go.Proofs.YteljopjaolegaaaDoor.superPower
open Go.ChangeShapes Go.WideShapes Go.ChangeAt Go.RowKit
set_option maxRecDepth 100000

/-- The law's answer, for every argument and every world that holds the table. -/
theorem contract (H : Type) (enc : TypeId × Value → H) (W : World) (base : Nat) (args : Array Value) (ds gs : List (DataW H)) (before : List MemPlace)
    (hval : ∀ (j : Nat) t v, Tryd.f8.params[j]? = some t → args[j]? = some v → Value.okWide Tryd.prog W .any base t v)
    (hW : DataW.Whole enc Tryd.prog Tryd.f8.params.toList Rows.superPowerSpec.vars false W args.toList ds gs before)
    (hz : (DataW.weightsEach Tryd.prog Tryd.f8.params.toList ds).all (· ≤ reachBytes) = true) (hL : laidMet Tryd.prog Rows.superPowerRow.laid W) :
    Calls Tryd.prog 8 args W fun e W' => ∃ v, e = .returned v ∧ Rows.superPowerSpec.post enc Tryd.prog Tryd.f8 false true false false W args v W' := by
  have hN : Nib W := nib_of hL
  have hW' := hW
  obtain ⟨p, q, hA0, hV, rfl, _, _⟩ := hW
  have hA : DataW.TrodAll enc Tryd.prog W 0 (fun _ => true) true Tryd.f8.params.toList args.toList ds p := hA0
  rw [Tryd.params8] at hA hval hz
  clear hA0
  obtain ⟨v0, vs0, d0, ds0, p0, q0, hargs, rfl, rfl, h0, r0⟩ := trodAll_cons hA
  obtain ⟨v1, vs1, d1, ds1, p1, q1, rfl, rfl, rfl, h1, r1⟩ := trodAll_cons r0
  obtain ⟨v2, vs2, d2, ds2, p2, q2, rfl, rfl, rfl, h2, r2⟩ := trodAll_cons r1
  obtain ⟨v3, vs3, d3, ds3, p3, q3, rfl, rfl, rfl, h3, r3⟩ := trodAll_cons r2
  obtain ⟨v4, vs4, d4, ds4, p4, q4, rfl, rfl, rfl, h4, r4⟩ := trodAll_cons r3
  obtain ⟨v5, vs5, d5, ds5, p5, q5, rfl, rfl, rfl, h5, r5⟩ := trodAll_cons r4
  obtain ⟨rfl, rfl, rfl⟩ := trodAll_nil r5
  obtain rfl : args = #[v0, v1, v2, v3, v4, v5] := by cases args; simp_all
  obtain ⟨s0a, s0b, s0c, s0d, rfl⟩ := arg_sup (hval 0 30 v0 rfl rfl)
  obtain ⟨n1, rfl, lo1, hi1⟩ := arg_int (hval 1 3 v1 rfl rfl) h1
  obtain ⟨n2, rfl, lo2, hi2⟩ := arg_int (hval 2 3 v2 rfl rfl) h2
  obtain ⟨n3, rfl, lo3, hi3⟩ := arg_int (hval 3 3 v3 rfl rfl) h3
  obtain ⟨n4, rfl⟩ := arg_bool (hval 4 4 v4 rfl rfl) h4
  obtain ⟨A5, n5, c5, l5, rfl, hb5⟩ := arg_bools (hval 5 32 v5 rfl rfl) h5
  refine (superPower_any s0a s0b s0c s0d n1 n2 n3 n4 A5 n5 c5 l5 W hN hb5 hi3).mono fun e W' ⟨he, hb⟩ => ?_
  subst he
  exact post_true rfl (by kernel_rfl) rfl hW' rfl hb

theorem laid_met (os : Os) : laidMet Tryd.prog Rows.superPowerRow.laid ((laidWorld os).forCall (fun _ _ => 0) ⟨#[], #[.agg #[.int .i64 0, .int .i64 0, .int .i64 0, .int .i64 0], .int .i64 0, .int .i64 0, .int .i64 0, .bool false, .slice none 0 0], []⟩).memory :=
  laidMet_of_run' 8 (by kernel_rfl) (by kernel_rfl)
theorem reads (os : Os) {H : Type} (enc : TypeId × Value → H) : ∃ places, DataW.whole enc Tryd.prog ((laidWorld os).forCall (fun _ _ => 0) ⟨#[], #[.agg #[.int .i64 0, .int .i64 0, .int .i64 0, .int .i64 0], .int .i64 0, .int .i64 0, .int .i64 0, .bool false, .slice none 0 0], []⟩).memory Tryd.f8.params.toList Rows.superPowerSpec.vars false #[.agg #[.int .i64 0, .int .i64 0, .int .i64 0, .int .i64 0], .int .i64 0, .int .i64 0, .int .i64 0, .bool false, .slice none 0 0].toList 8 = some ([.agg [.lit (.int .i64 0), .lit (.int .i64 0), .lit (.int .i64 0), .lit (.int .i64 0)], .lit (.int .i64 0), .lit (.int .i64 0), .lit (.int .i64 0), .lit (.bool false), .nil], [], places) :=
  ⟨[], by kernel_rfl⟩

set_option maxRecDepth 100000 in
theorem lifted (os : Os) (started : os.Started) (H : Type) (enc : TypeId × Value → H) (F : Stop.Interp) :
    ReturnsInHanded {} Tryd.checked os 8 .any ((OpenSpec.ofChange Rows.superPowerSpec).preRow enc Tryd.prog Tryd.f8 Rows.superPowerRow.domain false Rows.superPowerRow.laid) (((OpenSpec.ofChange Rows.superPowerSpec).at F).post enc Tryd.prog Tryd.f8 false true false false) := by
  obtain ⟨places, hx⟩ := reads os enc
  refine returnsInHanded_of_row (C := Tryd.checked) (s := OpenSpec.ofChange Rows.superPowerSpec) ownK started (by kernel_rfl) Tryd.func8
    (witness_row_at (enc := enc) (C := Tryd.checked) false (laidWorld os) #[.agg #[.int .i64 0, .int .i64 0, .int .i64 0, .int .i64 0], .int .i64 0, .int .i64 0, .int .i64 0, .bool false, .slice none 0 0] rfl (by kernel_rfl) (by kernel_rfl) (by kernel_rfl)
      (OpenSpec.preRow_of_cond 8 hx (by kernel_rfl) (fun k hk => by cases hk) (by kernel_rfl) (laid_met os))) ?_
  intro W base args ds gs before hval hW _ hcond hz hL _ _
  have hgs : gs = [] := by
    obtain ⟨_, _, _, hV, _⟩ := hW
    exact (trodVars_none hV).1
  subst hgs
  have hz' : (DataW.weightsEach Tryd.prog Tryd.f8.params.toList ds).all (· ≤ reachBytes) = true := by
    have e : (OpenSpec.ofChange Rows.superPowerSpec).bare.plain.varTypes Tryd.checked.prog = [] := rfl
    rw [e, List.append_nil, List.append_nil] at hz
    exact hz
  exact contract H enc W base args ds [] before hval hW hz' hL

theorem said : Rows.SuperPowerSaid :=
  OpenClaim.holds_of_cond 8 Tryd.f8 rfl rfl rfl rfl rfl rfl rfl ⟨rfl, rfl, rfl, rfl, rfl⟩ rfl rfl rfl rfl rfl (by kernel_rfl) Tryd.func8 (by kernel_rfl)
    (of_decide_eq_true (by kernel_rfl)) (by unfold Func.isWrapper; first | (rw [if_pos (by decide +kernel)]; kernel_rfl) | (rw [if_neg (by decide +kernel)]; exact ⟨rfl, rfl⟩))
    (fun os started H enc _ F => by rw [OpenClaim.pre_eq_preRow]; exact lifted os started H enc F)

theorem plain (f : FuncId) (fn : Func) (hf : Tryd.pinned.checked.prog.funcNamed "coffret/coffretlaw14.SuperPower" = some f) (hfn : Tryd.pinned.checked.prog.funcs[f]? = some fn) :
    true = Tryd.pinned.checked.prog.looks [] ∧ ∀ (j : Nat) t, fn.params[j]? = some t → Tryd.pinned.checked.prog.wantsStandIn t = false := by
  obtain rfl : f = 8 := Option.some.inj ((show Tryd.prog.funcNamed "coffret/coffretlaw14.SuperPower" = some 8 by kernel_rfl).symm.trans hf) |>.symm
  obtain rfl : fn = Tryd.f8 := (Option.some.inj (Tryd.func8.symm.trans hfn)).symm
  refine ⟨by kernel_rfl, fun j t ht => ?_⟩
  rw [Tryd.params8] at ht
  have hall : ∀ t ∈ (#[30, 3, 3, 3, 4, 32] : Array TypeId), Tryd.prog.wantsStandIn t = false := by
    intro t ht
    simp only [List.mem_toArray, List.mem_cons, List.not_mem_nil, or_false] at ht
    rcases ht with rfl | rfl | rfl | rfl | rfl | rfl <;> kernel_rfl
  exact hall t (Array.mem_of_getElem? ht)

/-- THE CARD. -/
theorem card : Rows.SuperPowerCardSaid :=
  Claim7.holds_tied_plain_at .later [] _ _ _ _ said (fun _ h => by cases h) (by kernel_rfl) (fun _ h => by cases h) superPower_row_tie rfl ⟨rfl, rfl⟩ (by kernel_rfl) rfl plain (by kernel_rfl)
end Go.Proofs.YteljopjaolegaaaDoor.superPower
