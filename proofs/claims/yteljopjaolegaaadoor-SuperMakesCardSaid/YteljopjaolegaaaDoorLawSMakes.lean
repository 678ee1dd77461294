/-
  THE WALK of coffretlaw14.SuperMakes. (Printed by supermakes.py.)
-/
import Derived.Test.YteljopjaolegaaaDoorLawChooses
namespace Go.Proofs.YteljopjaolegaaaDoor
open Go.RowKit
set_option maxRecDepth 100000
set_option linter.unusedVariables false
set_option linter.unusedSimpArgs false

theorem owned_nil14 (B : Nat) (w : World) (hb : B ≤ w.heap.size) :
    Calls Tryd.prog 21 #[.slice (some ⟨w.heap.size, 0, none⟩) 2 2] (w.alloc (.cells #[.slice none 0 0, .slice none 0 0] 31)) fun e w' => e = .returned (.bool true) ∧ Below B w w' :=
  owned_two B (.slice none 0 0) (.slice none 0 0) [] [] w (World.ownsRow_nil _ _ _ _) (World.ownsRow_nil _ _ _ _) (fun g e => by simp [Value.ownBlock] at e) (by simp) (by simp) hb

set_option maxHeartbeats 8000000 in
theorem superMakes_ok (v r e p z : Int) (A : Option Addr) (n c : Nat) (l : List UInt8) (w : World) (hN : Nib w) (h : Bs w A n l) (hc : n ≤ c) (hm : n ≤ 140737488351232) (hlt : ∀ ad, A = some ad → ad.block < w.heap.size) (hs : supMay ⟨v, r, e, p⟩ = true) :
    Calls Tryd.prog 4 #[.agg #[.int .i64 v, .int .i64 r, .int .i64 e, .int .i64 p], .slice A n c, .int .i64 z] w fun q w' => q = .returned (.bool true) ∧ Below w.heap.size w w' := by
  have Hm := Lib.hid hm
  obtain ⟨B0, hB⟩ : ∃ B, B = w.heap.size := ⟨_, rfl⟩
  have HBl : Hid (∀ wx, Below B0 w wx → B0 ≤ wx.heap.size) := Lib.hid (fun wx h => by rw [hB]; exact h.size)
  have Hlow : Hid (∀ wx, Below B0 w wx → Below w.heap.size w wx) := Lib.hid (fun wx h => by rw [← hB]; exact h)
  have KT : Hid (∀ wx wy, Below B0 w wx → Below wx.heap.size wx wy → Below B0 w wy) := Lib.hid (fun wx wy h1 h2 => h1.trans (h2.mono (HBl.out _ h1)))
  have KA : Hid (∀ wx o, Below B0 w wx → Below B0 w (wx.alloc o)) := Lib.hid (fun wx o h => h.alloc (HBl.out _ h) _)
  have Ka : Hid (∀ wx, Below B0 w wx → Bs wx A n l) := Lib.hid (fun wx hx => h.below (Hlow.out _ hx))
  have KN : Hid (∀ wx, Below B0 w wx → Nib wx) := Lib.hid (fun wx hx => hN.below (Hlow.out _ hx))
  have HAB : Hid (∀ ad, A = some ad → ad.block < B0) := Lib.hid (fun ad e => by rw [hB]; exact hlt ad e)
  have HL := Lib.hid h.len
  have HLm := Lib.hid h.max
  have G0 : Hid (Below B0 w (w.alloc (.cells #[.int .i64 v, .int .i64 r, .int .i64 e, .int .i64 p] 30))) := Lib.hid (KA.out _ _ (Below.refl _ _))
  have S0 : Hid (SupAt (w.alloc (.cells #[.int .i64 v, .int .i64 r, .int .i64 e, .int .i64 p] 30)) w.heap.size v r e p) := Lib.hid (SupAt.new w v r e p)
  obtain ⟨t0, t1, t2, t3, ht⟩ : ∃ t0 t1 t2 t3, supOpen l z = ⟨t0, t1, t2, t3⟩ := ⟨_, _, _, _, rfl⟩
  obtain ⟨k, hk⟩ : ∃ k, k = supCode l z := ⟨_, rfl⟩
  have CO : Hid (∀ wx Ax, Below B0 w wx → Bs wx Ax n l → Calls Tryd.prog 18 #[.slice Ax n (n + 3), .int .i64 z] wx fun q w' => q = .returned (.tuple #[.agg #[.int .i64 t0, .int .i64 t1, .int .i64 t2, .int .i64 t3], .int .i64 k]) ∧ Below wx.heap.size wx w') := Lib.hid (fun wx Ax hx hl => by
    have h := sopen_any Ax n (n + 3) l z wx (KN.out _ hx) hl (by omega)
    rw [ht, ← hk] at h
    exact h)
  have CP : Hid (∀ wx, Below B0 w wx → Calls Tryd.prog 20 #[.slice A n c, .int .i64 z] wx fun q w' => q = .returned (.tuple #[.agg #[.int .i64 t0, .int .i64 t1, .int .i64 t2, .int .i64 t3], .int .i64 k]) ∧ Below wx.heap.size wx w') := Lib.hid (fun wx hx => by
    have h := rsopen_any A n c l z wx (Ka.out _ hx) hc
    rw [ht, ← hk] at h
    exact h)
  obtain ⟨P, hP⟩ : ∃ P, P = supPage ⟨v, r, e, p⟩ := ⟨_, rfl⟩
  obtain ⟨N4, hN4⟩ : ∃ N : Nat, N = 4096 := ⟨_, rfl⟩
  have HPl : Hid (P.length = N4) := Lib.hid (by rw [hP, hN4]; exact supPage_length _)
  have HN4 := Lib.hid hN4
  have CM : Hid (∀ wx, Below B0 w wx → Calls Tryd.prog 15 #[.agg #[.int .i64 v, .int .i64 r, .int .i64 e, .int .i64 p]] wx fun q w' => ∃ x, q = .returned (.tuple #[x, .int .i64 0]) ∧ w'.ownsRow wx.heap.size 5 1 x N4 (bs P) ∧ Below wx.heap.size wx w') := Lib.hid (fun wx hx => by
    rw [hP, hN4]; exact smake_ok ⟨v, r, e, p⟩ wx (KN.out _ hx) hs)
  have CR : Hid (∀ wx, Calls Tryd.prog 16 #[.agg #[.int .i64 v, .int .i64 r, .int .i64 e, .int .i64 p]] wx fun q w' => ∃ x, q = .returned (.tuple #[x, .int .i64 0]) ∧ w'.ownsRow wx.heap.size 5 1 x N4 (bs P) ∧ Below wx.heap.size wx w') := Lib.hid (fun wx => by
    rw [hP, hN4]; exact rsmake_ok ⟨v, r, e, p⟩ wx hs)
  clear hP hN4
  have Ha : Hid (∀ wx, Below B0 w wx → Calls Tryd.prog 9 #[] wx fun q w' => q = .returned (.bool true) ∧ Below wx.heap.size wx w') := Lib.hid (fun wx hx => awake14 wx (KN.out _ hx))
  clear hN h hlt hm hc ht hk hs hB
  go_enter Tryd.func4, Tryd.ntmps4
  go_wp2_with (first
    | (go_at_call 9; (with_reducible refine (Ha.out _ G0.out).mono ?_); rintro q w1 ⟨rfl, hb⟩; have G1 := Lib.hid (KT.out _ _ G0.out hb); have S1 := Lib.hid (S0.out.below hb); obtain ⟨c0, c1, c2, c3⟩ := S1.out.cells; clear hb)
    | (go_at_call 15; (with_reducible refine (CM.out w1 G1.out).mono ?_); rintro q w2 ⟨x, rfl, ho, hb⟩; have G2 := Lib.hid (KT.out _ _ G1.out hb); have S2 := Lib.hid (S1.out.below hb); obtain ⟨c0, c1, c2, c3⟩ := S2.out.cells; obtain ⟨Ax, cx, rfl, -, -, -⟩ := own_addr ho; have X2 := Lib.hid (own_mono ho (HBl.out _ G1.out)); clear ho hb)
    | (go_at_call 15; (with_reducible refine (CM.out w2 G2.out).mono ?_); rintro q w3 ⟨y, rfl, ho, hb⟩; have G3 := Lib.hid (KT.out _ _ G2.out hb); have S3 := Lib.hid (S2.out.below hb); obtain ⟨c0, c1, c2, c3⟩ := S3.out.cells; obtain ⟨Ay, cy, rfl, -, -, -⟩ := own_addr ho; have X3 := Lib.hid (own_below X2.out hb); have Y3 := Lib.hid (own_mono ho (HBl.out _ G2.out)); have D : Hid (∀ g, (Value.slice Ax N4 cx).ownBlock = some g → (Value.slice Ay N4 cy).ownBlock ≠ some g) := Lib.hid (fun g e1 e2 => by have := (own_lt X2.out e1).2; have := (own_lt ho e2).1; omega); clear ho hb)
    | (go_at_call 16; (with_reducible refine (CR.out w3).mono ?_); rintro q w4 ⟨q4, rfl, ho, hb⟩; have G4 := Lib.hid (KT.out _ _ G3.out hb); obtain ⟨Aq, cq, rfl, -, -, -⟩ := own_addr ho; have X4 := Lib.hid (own_below X3.out hb); have Y4 := Lib.hid (own_below Y3.out hb); have Q4 := Lib.hid (own_mono ho (HBl.out _ G3.out)); clear ho hb)
    | (go_at_call 17; (with_reducible refine (lent_any A n c l w4 (Ka.out _ G4.out) Hm.out).mono ?_); rintro q w5 ⟨rfl, hg, hb⟩; have HI5 := Lib.hid hg; have L5 := Lib.hid (lent_bs HL.out HLm.out hg); have G5 := Lib.hid (KT.out _ _ G4.out hb); have X5 := Lib.hid (own_below X4.out hb); have Y5 := Lib.hid (own_below Y4.out hb); have Q5 := Lib.hid (own_below Q4.out hb); obtain ⟨gl, hgl⟩ : ∃ g, g = w4.heap.size := ⟨_, rfl⟩; have Hgl : Hid (B0 ≤ gl ∧ gl < w5.heap.size) := Lib.hid ⟨by rw [hgl]; exact HBl.out _ G4.out, by rw [hgl]; exact lt_block hg⟩; have NX : Hid ((Value.slice Ax N4 cx).ownBlock ≠ some gl) := Lib.hid (fun e => by have := (own_lt X4.out e).2; omega); have NY : Hid ((Value.slice Ay N4 cy).ownBlock ≠ some gl) := Lib.hid (fun e => by have := (own_lt Y4.out e).2; omega); have NQ : Hid ((Value.slice Aq N4 cq).ownBlock ≠ some gl) := Lib.hid (fun e => by have := (own_lt Q4.out e).2; omega); rw [← hgl] at HI5 L5 ⊢; clear hg hb hgl)
    | (go_at_call 18; (with_reducible refine (CO.out w5 _ G5.out L5.out).mono ?_); rintro q w6 ⟨rfl, hb⟩; have G6 : Hid (Below B0 w (w6.alloc (.cells #[.int .i64 t0, .int .i64 t1, .int .i64 t2, .int .i64 t3] 30))) := Lib.hid (KA.out _ _ (KT.out _ _ G5.out hb)); have hb5 := (hb.alloc hb.size (.cells #[.int .i64 t0, .int .i64 t1, .int .i64 t2, .int .i64 t3] 30)); have X6 := Lib.hid (own_below X5.out hb5); have Y6 := Lib.hid (own_below Y5.out hb5); have Q6 := Lib.hid (own_below Q5.out hb5); have HI6 := Lib.hid ((hb5.block gl (lt_block HI5.out)).trans HI5.out); have S6 := Lib.hid (SupAt.new w6 t0 t1 t2 t3); have Hs6 : Hid (w6.heap.size ≠ gl) := Lib.hid (by have := hb.size; have := Hgl.out.2; omega); clear hb hb5)
    | (go_at_call 19; (with_reducible refine (back_any A n c gl l _ (Ka.out _ G6.out) Hm.out HI6.out (fun ad e => Nat.ne_of_lt (Nat.lt_of_lt_of_le (HAB.out ad e) Hgl.out.1))).mono ?_); rintro q w7 ⟨rfl, hg⟩; have G7 : Hid (Below B0 w w7) := Lib.hid (G6.out.grown hg (HBl.out _ G6.out) (fun i hi => by cases hi; exact Hgl.out.1)); have X7 := Lib.hid (own_grown X6.out hg NX.out); have Y7 := Lib.hid (own_grown Y6.out hg NY.out); have Q7 := Lib.hid (own_grown Q6.out hg NQ.out); have S7 := Lib.hid (S6.out.grown hg Hs6.out); clear hg)
    | (go_at_call 20; (with_reducible refine (CP.out w7 G7.out).mono ?_); rintro q w8 ⟨rfl, hb⟩; have G8 : Hid (Below B0 w (w8.alloc (.cells #[.int .i64 t0, .int .i64 t1, .int .i64 t2, .int .i64 t3] 30))) := Lib.hid (KA.out _ _ (KT.out _ _ G7.out hb)); have hb8 := (hb.alloc hb.size (.cells #[.int .i64 t0, .int .i64 t1, .int .i64 t2, .int .i64 t3] 30)); have S8 := Lib.hid (S7.out.below hb8); obtain ⟨d0, d1, d2, d3⟩ := S8.out.cells; have X8 := Lib.hid (own_below X7.out hb8); have Y8 := Lib.hid (own_below Y7.out hb8); have Q8 := Lib.hid (own_below Q7.out hb8); have hcx := conv_own X8.out; have hcy := conv_own Y8.out; have hcq := conv_own Q8.out; have hsz8 : (w8.alloc (.cells #[.int .i64 t0, .int .i64 t1, .int .i64 t2, .int .i64 t3] 30)).heap.size = w8.heap.size + 1 := (by simp); have CW0 := owned_two B0 _ _ P P (w8.alloc (.cells #[.int .i64 t0, .int .i64 t1, .int .i64 t2, .int .i64 t3] 30)) (by rw [HPl.out]; exact X8.out) (by rw [HPl.out]; exact Y8.out) D.out (by rw [HPl.out, HN4.out]; omega) (by rw [HPl.out, HN4.out]; omega) (HBl.out _ G8.out); rw [hsz8] at CW0; have CW := Lib.hid CW0; clear CW0 hsz8; clear hb hb8)
    | (go_at_call 21; (with_reducible refine CW.out.mono ?_); rintro q w9 ⟨rfl, hb⟩; have G9 : Hid (Below B0 w w9) := Lib.hid (G8.out.trans hb); clear hb))
  go_ret
  exact ⟨rfl, Hlow.out _ G9.out⟩

set_option maxHeartbeats 8000000 in
theorem superMakes_bad (v r e p z : Int) (A : Option Addr) (n c : Nat) (l : List UInt8) (w : World) (hN : Nib w) (h : Bs w A n l) (hc : n ≤ c) (hm : n ≤ 140737488351232) (hlt : ∀ ad, A = some ad → ad.block < w.heap.size) (hs : supMay ⟨v, r, e, p⟩ = false) :
    Calls Tryd.prog 4 #[.agg #[.int .i64 v, .int .i64 r, .int .i64 e, .int .i64 p], .slice A n c, .int .i64 z] w fun q w' => q = .returned (.bool true) ∧ Below w.heap.size w w' := by
  have Hm := Lib.hid hm
  obtain ⟨B0, hB⟩ : ∃ B, B = w.heap.size := ⟨_, rfl⟩
  have HBl : Hid (∀ wx, Below B0 w wx → B0 ≤ wx.heap.size) := Lib.hid (fun wx h => by rw [hB]; exact h.size)
  have Hlow : Hid (∀ wx, Below B0 w wx → Below w.heap.size w wx) := Lib.hid (fun wx h => by rw [← hB]; exact h)
  have KT : Hid (∀ wx wy, Below B0 w wx → Below wx.heap.size wx wy → Below B0 w wy) := Lib.hid (fun wx wy h1 h2 => h1.trans (h2.mono (HBl.out _ h1)))
  have KA : Hid (∀ wx o, Below B0 w wx → Below B0 w (wx.alloc o)) := Lib.hid (fun wx o h => h.alloc (HBl.out _ h) _)
  have Ka : Hid (∀ wx, Below B0 w wx → Bs wx A n l) := Lib.hid (fun wx hx => h.below (Hlow.out _ hx))
  have KN : Hid (∀ wx, Below B0 w wx → Nib wx) := Lib.hid (fun wx hx => hN.below (Hlow.out _ hx))
  have HAB : Hid (∀ ad, A = some ad → ad.block < B0) := Lib.hid (fun ad e => by rw [hB]; exact hlt ad e)
  have HL := Lib.hid h.len
  have HLm := Lib.hid h.max
  have G0 : Hid (Below B0 w (w.alloc (.cells #[.int .i64 v, .int .i64 r, .int .i64 e, .int .i64 p] 30))) := Lib.hid (KA.out _ _ (Below.refl _ _))
  have S0 : Hid (SupAt (w.alloc (.cells #[.int .i64 v, .int .i64 r, .int .i64 e, .int .i64 p] 30)) w.heap.size v r e p) := Lib.hid (SupAt.new w v r e p)
  obtain ⟨t0, t1, t2, t3, ht⟩ : ∃ t0 t1 t2 t3, supOpen l z = ⟨t0, t1, t2, t3⟩ := ⟨_, _, _, _, rfl⟩
  obtain ⟨k, hk⟩ : ∃ k, k = supCode l z := ⟨_, rfl⟩
  have CO : Hid (∀ wx Ax, Below B0 w wx → Bs wx Ax n l → Calls Tryd.prog 18 #[.slice Ax n (n + 3), .int .i64 z] wx fun q w' => q = .returned (.tuple #[.agg #[.int .i64 t0, .int .i64 t1, .int .i64 t2, .int .i64 t3], .int .i64 k]) ∧ Below wx.heap.size wx w') := Lib.hid (fun wx Ax hx hl => by
    have h := sopen_any Ax n (n + 3) l z wx (KN.out _ hx) hl (by omega)
    rw [ht, ← hk] at h
    exact h)
  have CP : Hid (∀ wx, Below B0 w wx → Calls Tryd.prog 20 #[.slice A n c, .int .i64 z] wx fun q w' => q = .returned (.tuple #[.agg #[.int .i64 t0, .int .i64 t1, .int .i64 t2, .int .i64 t3], .int .i64 k]) ∧ Below wx.heap.size wx w') := Lib.hid (fun wx hx => by
    have h := rsopen_any A n c l z wx (Ka.out _ hx) hc
    rw [ht, ← hk] at h
    exact h)
  have CM : Hid (∀ wx, Calls Tryd.prog 15 #[.agg #[.int .i64 v, .int .i64 r, .int .i64 e, .int .i64 p]] wx fun q w' => q = .returned (.tuple #[.slice none 0 0, .int .i64 1]) ∧ Below wx.heap.size wx w') := Lib.hid (fun wx => smake_bad ⟨v, r, e, p⟩ wx hs)
  have CR : Hid (∀ wx, Calls Tryd.prog 16 #[.agg #[.int .i64 v, .int .i64 r, .int .i64 e, .int .i64 p]] wx fun q w' => q = .returned (.tuple #[.slice none 0 0, .int .i64 1]) ∧ Below wx.heap.size wx w') := Lib.hid (fun wx => rsmake_bad ⟨v, r, e, p⟩ wx hs)
  have hcn := fun (wx : World) => run_convert_bs (Bs.nil wx none) 0
  have Ha : Hid (∀ wx, Below B0 w wx → Calls Tryd.prog 9 #[] wx fun q w' => q = .returned (.bool true) ∧ Below wx.heap.size wx w') := Lib.hid (fun wx hx => awake14 wx (KN.out _ hx))
  clear hN h hlt hm hc ht hk hs hB
  go_enter Tryd.func4, Tryd.ntmps4
  go_wp2_with (first
    | (go_at_call 9; (with_reducible refine (Ha.out _ G0.out).mono ?_); rintro q w1 ⟨rfl, hb⟩; have G1 := Lib.hid (KT.out _ _ G0.out hb); have S1 := Lib.hid (S0.out.below hb); obtain ⟨c0, c1, c2, c3⟩ := S1.out.cells; clear hb)
    | (go_at_call 15; (with_reducible refine (CM.out w1).mono ?_); rintro q w2 ⟨rfl, hb⟩; have G2 := Lib.hid (KT.out _ _ G1.out hb); have S2 := Lib.hid (S1.out.below hb); obtain ⟨c0, c1, c2, c3⟩ := S2.out.cells; clear hb)
    | (go_at_call 15; (with_reducible refine (CM.out w2).mono ?_); rintro q w3 ⟨rfl, hb⟩; have G3 := Lib.hid (KT.out _ _ G2.out hb); have S3 := Lib.hid (S2.out.below hb); obtain ⟨c0, c1, c2, c3⟩ := S3.out.cells; clear hb)
    | (go_at_call 16; (with_reducible refine (CR.out w3).mono ?_); rintro q w4 ⟨rfl, hb⟩; have G4 := Lib.hid (KT.out _ _ G3.out hb); clear hb)
    | (go_at_call 17; (with_reducible refine (lent_any A n c l w4 (Ka.out _ G4.out) Hm.out).mono ?_); rintro q w5 ⟨rfl, hg, hb⟩; have HI5 := Lib.hid hg; have L5 := Lib.hid (lent_bs HL.out HLm.out hg); have G5 := Lib.hid (KT.out _ _ G4.out hb); obtain ⟨gl, hgl⟩ : ∃ g, g = w4.heap.size := ⟨_, rfl⟩; have Hgl : Hid (B0 ≤ gl ∧ gl < w5.heap.size) := Lib.hid ⟨by rw [hgl]; exact HBl.out _ G4.out, by rw [hgl]; exact lt_block hg⟩; rw [← hgl] at HI5 L5 ⊢; clear hg hb hgl)
    | (go_at_call 18; (with_reducible refine (CO.out w5 _ G5.out L5.out).mono ?_); rintro q w6 ⟨rfl, hb⟩; have G6 : Hid (Below B0 w (w6.alloc (.cells #[.int .i64 t0, .int .i64 t1, .int .i64 t2, .int .i64 t3] 30))) := Lib.hid (KA.out _ _ (KT.out _ _ G5.out hb)); have hb5 := (hb.alloc hb.size (.cells #[.int .i64 t0, .int .i64 t1, .int .i64 t2, .int .i64 t3] 30)); have HI6 := Lib.hid ((hb5.block gl (lt_block HI5.out)).trans HI5.out); have S6 := Lib.hid (SupAt.new w6 t0 t1 t2 t3); have Hs6 : Hid (w6.heap.size ≠ gl) := Lib.hid (by have := hb.size; have := Hgl.out.2; omega); clear hb hb5)
    | (go_at_call 19; (with_reducible refine (back_any A n c gl l _ (Ka.out _ G6.out) Hm.out HI6.out (fun ad e => Nat.ne_of_lt (Nat.lt_of_lt_of_le (HAB.out ad e) Hgl.out.1))).mono ?_); rintro q w7 ⟨rfl, hg⟩; have G7 : Hid (Below B0 w w7) := Lib.hid (G6.out.grown hg (HBl.out _ G6.out) (fun i hi => by cases hi; exact Hgl.out.1)); have S7 := Lib.hid (S6.out.grown hg Hs6.out); clear hg)
    | (go_at_call 20; (with_reducible refine (CP.out w7 G7.out).mono ?_); rintro q w8 ⟨rfl, hb⟩; have G8 : Hid (Below B0 w (w8.alloc (.cells #[.int .i64 t0, .int .i64 t1, .int .i64 t2, .int .i64 t3] 30))) := Lib.hid (KA.out _ _ (KT.out _ _ G7.out hb)); have hb8 := (hb.alloc hb.size (.cells #[.int .i64 t0, .int .i64 t1, .int .i64 t2, .int .i64 t3] 30)); have S8 := Lib.hid (S7.out.below hb8); obtain ⟨d0, d1, d2, d3⟩ := S8.out.cells; have hsz8 : (w8.alloc (.cells #[.int .i64 t0, .int .i64 t1, .int .i64 t2, .int .i64 t3] 30)).heap.size = w8.heap.size + 1 := (by simp); have CW0 := owned_nil14 B0 (w8.alloc (.cells #[.int .i64 t0, .int .i64 t1, .int .i64 t2, .int .i64 t3] 30)) (HBl.out _ G8.out); rw [hsz8] at CW0; have CW := Lib.hid CW0; clear CW0 hsz8; clear hb hb8)
    | (go_at_call 21; (with_reducible refine CW.out.mono ?_); rintro q w9 ⟨rfl, hb⟩; have G9 : Hid (Below B0 w w9) := Lib.hid (G8.out.trans hb); clear hb))
  go_ret
  exact ⟨rfl, Hlow.out _ G9.out⟩

theorem superMakes_any (v r e p z : Int) (A : Option Addr) (n c : Nat) (l : List UInt8) (w : World) (hN : Nib w) (h : Bs w A n l) (hc : n ≤ c) (hm : n ≤ 140737488351232) (hlt : ∀ ad, A = some ad → ad.block < w.heap.size) :
    Calls Tryd.prog 4 #[.agg #[.int .i64 v, .int .i64 r, .int .i64 e, .int .i64 p], .slice A n c, .int .i64 z] w fun q w' => q = .returned (.bool true) ∧ Below w.heap.size w w' := by
  by_cases hs : supMay ⟨v, r, e, p⟩ = true
  · exact superMakes_ok v r e p z A n c l w hN h hc hm hlt hs
  · exact superMakes_bad v r e p z A n c l w hN h hc hm hlt (by simpa using hs)

end Go.Proofs.YteljopjaolegaaaDoor
