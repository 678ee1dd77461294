/-
  THE WALK of coffretlaw14.SuperChooses.
-/
import Derived.Test.YteljopjaolegaaaDoorAwakeU
namespace Go.Proofs.YteljopjaolegaaaDoor
open Go.RowKit
set_option maxRecDepth 100000
set_option linter.unusedVariables false
set_option linter.unusedSimpArgs false

theorem SupAt.grown {w w1 : World} {g k : Nat} {v r e p : Int} (h : SupAt w k v r e p) (hg : w.grownBy w1 (some g)) (hne : k ≠ g) : SupAt w1 k v r e p :=
  (hg.block k h.lt (fun e => hne (Option.some.inj e))).trans h

set_option maxHeartbeats 4000000 in
theorem superChooses_any (A B : Option Addr) (n c m d : Nat) (a b : List UInt8) (w : World) (hN : Nib w) (ha : Bs w A n a) (hb : Bs w B m b) (hc : n ≤ c) (hd : m ≤ d) (hm : n ≤ 140737488351232) (hm2 : m ≤ 140737488351232) (hlt : ∀ ad, A = some ad → ad.block < w.heap.size) (hlt2 : ∀ ad, B = some ad → ad.block < w.heap.size) :
    Calls Tryd.prog 5 #[.slice A n c, .slice B m d] w fun q w' => q = .returned (.bool true) ∧ Below w.heap.size w w' := by
  have HN := Lib.hid hN
  have Hm := Lib.hid hm
  have Hm2 := Lib.hid hm2
  obtain ⟨B0, hB⟩ : ∃ B, B = w.heap.size := ⟨_, rfl⟩
  have HBl : Hid (∀ wx, Below B0 w wx → B0 ≤ wx.heap.size) := Lib.hid (fun wx h => by rw [hB]; exact h.size)
  have Hlow : Hid (∀ wx, Below B0 w wx → Below w.heap.size w wx) := Lib.hid (fun wx h => by rw [← hB]; exact h)
  have Hup : Hid (∀ wx, Below w.heap.size w wx → Below B0 w wx) := Lib.hid (fun wx h => by rw [hB]; exact h)
  have KT : Hid (∀ wx wy, Below B0 w wx → Below wx.heap.size wx wy → Below B0 w wy) := Lib.hid (fun wx wy h1 h2 => h1.trans (h2.mono (HBl.out _ h1)))
  have KA : Hid (∀ wx o, Below B0 w wx → Below B0 w (wx.alloc o)) := Lib.hid (fun wx o h => h.alloc (HBl.out _ h) _)
  have Ka : Hid (∀ wx, Below B0 w wx → Bs wx A n a) := Lib.hid (fun wx hx => ha.below (Hlow.out _ hx))
  have Kb : Hid (∀ wx, Below B0 w wx → Bs wx B m b) := Lib.hid (fun wx hx => hb.below (Hlow.out _ hx))
  have KN : Hid (∀ wx, Below B0 w wx → Nib wx) := Lib.hid (fun wx hx => hN.below (Hlow.out _ hx))
  have HAB : Hid (∀ ad, A = some ad → ad.block < B0) := Lib.hid (fun ad e => by rw [hB]; exact hlt ad e)
  have HBB : Hid (∀ ad, B = some ad → ad.block < B0) := Lib.hid (fun ad e => by rw [hB]; exact hlt2 ad e)
  have HL := Lib.hid ha.len
  have HLm := Lib.hid ha.max
  have HM := Lib.hid hb.len
  have HMm := Lib.hid hb.max
  obtain ⟨v, r, e, p, k, hk⟩ : ∃ v r e p k, supChoose a b = (⟨v, r, e, p⟩, k) := ⟨_, _, _, _, _, rfl⟩
  have CC : Hid (∀ wx Ax Bx, Below B0 w wx → Bs wx Ax n a → Bs wx Bx m b → Calls Tryd.prog 22 #[.slice Ax n (n + 3), .slice Bx m (m + 3)] wx fun q w' => q = .returned (.tuple #[.agg #[.int .i64 v, .int .i64 r, .int .i64 e, .int .i64 p], .int .i64 k]) ∧ Below wx.heap.size wx w') := Lib.hid (fun wx Ax Bx hx h1 h2 => by
    have h := schoose_any Ax Bx n (n + 3) m (m + 3) a b wx (KN.out _ hx) h1 h2 (by omega) (by omega)
    rw [hk] at h
    exact h)
  have CR : Hid (∀ wx, Below B0 w wx → Calls Tryd.prog 23 #[.slice A n c, .slice B m d] wx fun q w' => q = .returned (.tuple #[.agg #[.int .i64 v, .int .i64 r, .int .i64 e, .int .i64 p], .int .i64 k]) ∧ Below wx.heap.size wx w') := Lib.hid (fun wx hx => by
    have h := rschoose_any A B n c m d a b wx (Ka.out _ hx) (Kb.out _ hx) hc hd
    rw [hk] at h
    exact h)
  clear hN hB ha hb hlt hlt2 hm hm2 hc hd hk
  go_enter Tryd.func5, Tryd.ntmps5
  go_wp2_with (first
    | (go_at_call 9; refine (awake14 _ HN.out).mono ?_; rintro q w1 ⟨rfl, hb⟩; have G1 := Lib.hid (Hup.out _ hb); clear hb HN)
    | (go_at_call 17; (with_reducible refine (lent_any A n c a w1 (Ka.out _ G1.out) Hm.out).mono ?_); rintro q w2 ⟨rfl, hg, hb⟩; have HI2 := Lib.hid hg; have L2 := Lib.hid (lent_bs HL.out HLm.out hg); have G2 : Hid (Below B0 w w2) := Lib.hid (KT.out _ _ G1.out hb); obtain ⟨gl, hgl⟩ : ∃ g, g = w1.heap.size := ⟨_, rfl⟩; have Hgl : Hid (B0 ≤ gl ∧ gl < w2.heap.size) := Lib.hid ⟨by rw [hgl]; exact HBl.out _ G1.out, by rw [hgl]; exact lt_block hg⟩; rw [← hgl] at HI2 L2 ⊢; clear hg hb hgl)
    | (go_at_call 17; (with_reducible refine (lent_any B m d b w2 (Kb.out _ G2.out) Hm2.out).mono ?_); rintro q w3 ⟨rfl, hg, hb⟩; have HJ3 := Lib.hid hg; have M3 := Lib.hid (lent_bs HM.out HMm.out hg); have G3 : Hid (Below B0 w w3) := Lib.hid (KT.out _ _ G2.out hb); have HI3 := Lib.hid ((hb.block gl Hgl.out.2).trans HI2.out); have L3 := Lib.hid (L2.out.below hb); obtain ⟨gm, hgm⟩ : ∃ g, g = w2.heap.size := ⟨_, rfl⟩; have Hgm : Hid (gl < gm ∧ gm < w3.heap.size) := Lib.hid ⟨by rw [hgm]; exact Hgl.out.2, by rw [hgm]; exact lt_block hg⟩; rw [← hgm] at HJ3 M3 ⊢; clear hg hb hgm)
    | (go_at_call 22; (with_reducible refine (CC.out w3 _ _ G3.out L3.out M3.out).mono ?_); rintro q w4 ⟨rfl, hb⟩; have G4 : Hid (Below B0 w (w4.alloc (.cells #[.int .i64 v, .int .i64 r, .int .i64 e, .int .i64 p] 30))) := Lib.hid (KA.out _ _ (KT.out _ _ G3.out hb)); have hb5 := (hb.alloc hb.size (.cells #[.int .i64 v, .int .i64 r, .int .i64 e, .int .i64 p] 30)); have HI4 := Lib.hid ((hb5.block gl (lt_block HI3.out)).trans HI3.out); have HJ4 := Lib.hid ((hb5.block gm Hgm.out.2).trans HJ3.out); have S4 := Lib.hid (SupAt.new w4 v r e p); have Hs4 : Hid (gl ≠ w4.heap.size ∧ gm ≠ w4.heap.size) := Lib.hid (by have := hb.size; have := Hgm.out.2; have := Hgm.out.1; omega); clear hb hb5)
    | (go_at_call 19; (with_reducible refine (back_any A n c gl a _ (Ka.out _ G4.out) Hm.out HI4.out (fun ad e => Nat.ne_of_lt (Nat.lt_of_lt_of_le (HAB.out ad e) Hgl.out.1))).mono ?_); rintro q w5 ⟨rfl, hg⟩; have G5 : Hid (Below B0 w w5) := Lib.hid (G4.out.grown hg (HBl.out _ G4.out) (fun i hi => by cases hi; exact Hgl.out.1)); have HJ5 := Lib.hid ((hg.block gm (lt_block HJ4.out) (fun e => by have := Option.some.inj e; have := Hgm.out.1; omega)).trans HJ4.out); have S5 := Lib.hid (S4.out.grown hg (fun e => Hs4.out.1 e.symm)); clear hg)
    | (go_at_call 19; (with_reducible refine (back_any B m d gm b _ (Kb.out _ G5.out) Hm2.out HJ5.out (fun ad e => Nat.ne_of_lt (Nat.lt_of_lt_of_le (HBB.out ad e) (Nat.le_trans Hgl.out.1 (Nat.le_of_lt Hgm.out.1))))).mono ?_); rintro q w6 ⟨rfl, hg⟩; have G6 : Hid (Below B0 w w6) := Lib.hid (G5.out.grown hg (HBl.out _ G5.out) (fun i hi => by cases hi; exact Nat.le_trans Hgl.out.1 (Nat.le_of_lt Hgm.out.1))); have S6 := Lib.hid (S5.out.grown hg (fun e => Hs4.out.2 e.symm)); clear hg)
    | (go_at_call 23; (with_reducible refine (CR.out w6 G6.out).mono ?_); rintro q w7 ⟨rfl, hb⟩; have G7 : Hid (Below B0 w (w7.alloc (.cells #[.int .i64 v, .int .i64 r, .int .i64 e, .int .i64 p] 30))) := Lib.hid (KA.out _ _ (KT.out _ _ G6.out hb)); have S7 := Lib.hid ((S6.out.below hb).below ((Below.refl w7.heap.size w7).alloc (Nat.le_refl _) (.cells #[.int .i64 v, .int .i64 r, .int .i64 e, .int .i64 p] 30))); obtain ⟨c0, c1, c2, c3⟩ := S7.out.cells; clear hb))
  go_ret
  exact ⟨rfl, Hlow.out _ G7.out⟩

end Go.Proofs.YteljopjaolegaaaDoor
