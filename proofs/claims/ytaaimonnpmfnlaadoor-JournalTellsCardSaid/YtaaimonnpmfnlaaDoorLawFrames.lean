/-
  THE WALK of coffretlaw15.JournalFrames.
-/
import Derived.Test.YtaaimonnpmfnlaaDoorJourE
namespace Go.Proofs.YtaaimonnpmfnlaaDoor
open Go.RowKit
set_option maxRecDepth 100000
set_option linter.unusedVariables false

theorem owned_nil15 (B : Nat) (w : World) (hb : B ≤ w.heap.size) :
    Calls Tryd.prog 14 #[.slice (some ⟨w.heap.size, 0, none⟩) 2 2] (w.alloc (.cells #[.slice none 0 0, .slice none 0 0] 22)) fun e w' => e = .returned (.bool true) ∧ Below B w w' :=
  owned_two B (.slice none 0 0) (.slice none 0 0) [] [] w (World.ownsRow_nil _ _ _ _) (World.ownsRow_nil _ _ _ _) (fun g e => by simp [Value.ownBlock] at e) (by simp) (by simp) hb

set_option maxHeartbeats 2000000 in
theorem journalFrames_ok (e0 number : Nat) (A : Option Addr) (n c : Nat) (l : List UInt8) (w : World) (hN : Nib w) (h : Bs w A n l) (hm : n ≤ 140737488351232) (hlt : ∀ ad, A = some ad → ad.block < w.heap.size) (h1 : 1 ≤ e0) (h2 : e0 ≤ 1099511627776) (h3 : number < 2147483648) (h4 : n ≤ 268435456) :
    Calls Tryd.prog 3 #[.int .i64 e0, .int .i64 number, .slice A n c] w fun e w' => e = .returned (.bool true) ∧ Below w.heap.size w w' := by
  have HN := Lib.hid hN
  have Hm := Lib.hid hm
  obtain ⟨B, hB⟩ : ∃ B, B = w.heap.size := ⟨_, rfl⟩
  have HBl : Hid (∀ wx, Below B w wx → B ≤ wx.heap.size) := Lib.hid (fun wx h => by rw [hB]; exact h.size)
  have Hlow : Hid (∀ wx, Below B w wx → Below w.heap.size w wx) := Lib.hid (fun wx h => by rw [← hB]; exact h)
  have Hup : Hid (∀ wx, Below w.heap.size w wx → Below B w wx) := Lib.hid (fun wx h => by rw [hB]; exact h)
  have K : Hid (∀ wx, Below B w wx → Bs wx A n l) := Lib.hid (fun wx hx => h.below (Hlow.out _ hx))
  have KN : Hid (∀ wx, Below B w wx → Nib wx) := Lib.hid (fun wx hx => hN.below (Hlow.out _ hx))
  have HAB : Hid (∀ ad, A = some ad → ad.block < B) := Lib.hid (fun ad e => by rw [hB]; exact hlt ad e)
  have HL := Lib.hid h.len
  have HLm := Lib.hid h.max
  obtain ⟨zi, hzi⟩ : ∃ z : Int, z = (e0 : Int) := ⟨_, rfl⟩
  obtain ⟨kz, hkz⟩ : ∃ z : Int, z = (number : Int) := ⟨_, rfl⟩
  obtain ⟨P, hP⟩ : ∃ P, P = frameOf e0 number l := ⟨_, rfl⟩
  obtain ⟨N4, hN4⟩ : ∃ N : Nat, N = 20 + n := ⟨_, rfl⟩
  have HPl : Hid (P.length = N4) := Lib.hid (by rw [hP, hN4, frameOf_length, h.len])
  have HN4 : Hid (N4 ≤ 1099511627776) := Lib.hid (by omega)
  have CM : Hid (∀ wx Ax cx, Below B w wx → Bs wx Ax n l → Calls Tryd.prog 11 #[.int .i64 zi, .int .i64 kz, .slice Ax n cx] wx fun e w' => ∃ v, e = .returned (.tuple #[v, .int .i64 0]) ∧ w'.ownsRow wx.heap.size 5 1 v N4 (bs P) ∧ Below wx.heap.size wx w') := Lib.hid (fun wx Ax cx hb hl => by
    rw [hzi, hkz, hP, hN4]; exact frame_ok e0 number n cx Ax l wx (KN.out _ hb) hl h1 h2 h3 h4)
  have CR : Hid (∀ wx, Below B w wx → Calls Tryd.prog 13 #[.int .i64 zi, .int .i64 kz, .slice A n c] wx fun e w' => ∃ v, e = .returned (.tuple #[v, .int .i64 0]) ∧ w'.ownsRow wx.heap.size 5 1 v N4 (bs P) ∧ Below wx.heap.size wx w') := Lib.hid (fun wx hb => by
    rw [hzi, hkz, hP, hN4]; exact rframe_ok e0 number n c A l wx (K.out _ hb) h1 h2 h3 h4)
  rw [← hzi, ← hkz]
  clear hN hB h hlt h1 h2 h3 h4 hzi hkz hP hm hN4
  go_enter Tryd.func3, Tryd.ntmps3
  go_wp2_with (first
    | (go_at_call 9; refine (awake15 _ HN.out).mono ?_; rintro e w1 ⟨rfl, hb⟩; have G1 := Lib.hid (Hup.out _ hb); clear hb HN)
    | (go_at_call 10; refine (lent_any A n c l w1 (K.out _ G1.out) Hm.out).mono ?_; rintro e w2 ⟨rfl, hg, hb⟩; have HI2 := Lib.hid hg; have L2 := Lib.hid (lent_bs HL.out HLm.out hg); have G2 : Hid (Below B w w2) := Lib.hid (G1.out.trans (hb.mono (HBl.out _ G1.out))); obtain ⟨gl, hgl⟩ : ∃ g, g = w1.heap.size := ⟨_, rfl⟩; have Hgl : Hid (B ≤ gl ∧ gl < w2.heap.size) := Lib.hid ⟨by rw [hgl]; exact HBl.out _ G1.out, by rw [hgl]; exact lt_block hg⟩; rw [← hgl] at HI2 L2 ⊢; clear hg hb hgl)
    | (go_at_call 11; (with_reducible refine (CM.out w2 _ (n + 3) G2.out L2.out).mono ?_); rintro e w3 ⟨x, rfl, ho, hb⟩; have G3 : Hid (Below B w w3) := Lib.hid (G2.out.trans (hb.mono (HBl.out _ G2.out))); obtain ⟨Ax, cx, rfl, -, -, -⟩ := own_addr ho; have X3 := Lib.hid (own_mono ho (HBl.out _ G2.out)); have NX : Hid ((Value.slice Ax N4 cx).ownBlock ≠ some gl) := Lib.hid (fun e => by have := (own_lt ho e).1; have := Hgl.out.2; omega); have HI3 := Lib.hid ((hb.block gl Hgl.out.2).trans HI2.out); have L3 := Lib.hid (L2.out.below hb); clear ho hb)
    | (go_at_call 11; (with_reducible refine (CM.out w3 _ (n + 3) G3.out L3.out).mono ?_); rintro e w4 ⟨y, rfl, ho, hb⟩; have G4 : Hid (Below B w w4) := Lib.hid (G3.out.trans (hb.mono (HBl.out _ G3.out))); obtain ⟨Ay, cy, rfl, -, -, -⟩ := own_addr ho; have X4 := Lib.hid (own_below X3.out hb); have Y4 := Lib.hid (own_mono ho (HBl.out _ G3.out)); have D : Hid (∀ g, (Value.slice Ax N4 cx).ownBlock = some g → (Value.slice Ay N4 cy).ownBlock ≠ some g) := Lib.hid (fun g e1 e2 => by have := (own_lt X3.out e1).2; have := (own_lt ho e2).1; omega); have NY : Hid ((Value.slice Ay N4 cy).ownBlock ≠ some gl) := Lib.hid (fun e => by have := (own_lt ho e).1; have := lt_block HI3.out; omega); have HI4 := Lib.hid ((hb.block gl (lt_block HI3.out)).trans HI3.out); clear ho hb)
    | (go_at_call 12; refine (back_any A n c gl l w4 (K.out _ G4.out) Hm.out HI4.out (fun ad e => Nat.ne_of_lt (Nat.lt_of_lt_of_le (HAB.out ad e) Hgl.out.1))).mono ?_; rintro e w5 ⟨rfl, hg⟩; have G5 : Hid (Below B w w5) := Lib.hid (G4.out.grown hg (HBl.out _ G4.out) (fun i hi => by cases hi; exact Hgl.out.1)); have X5 := Lib.hid (own_grown X4.out hg NX.out); have Y5 := Lib.hid (own_grown Y4.out hg NY.out); clear hg)
    | (go_at_call 13; (with_reducible refine (CR.out w5 G5.out).mono ?_); rintro e w6 ⟨q, rfl, ho, hb⟩; have G6 : Hid (Below B w w6) := Lib.hid (G5.out.trans (hb.mono (HBl.out _ G5.out))); obtain ⟨Aq, cq, rfl, -, -, -⟩ := own_addr ho; have X6 := Lib.hid (own_below X5.out hb); have Y6 := Lib.hid (own_below Y5.out hb); have Q6 := Lib.hid (own_mono ho (HBl.out _ G5.out)); clear ho hb X3 X4 Y4 X5 Y5 HI2 HI3 HI4 L2 L3; have hcx := conv_own X6.out; have hcy := conv_own Y6.out; have hcq := conv_own Q6.out; have CO := Lib.hid (owned_two B _ _ P P w6 (by rw [HPl.out]; exact X6.out) (by rw [HPl.out]; exact Y6.out) D.out (by rw [HPl.out]; exact HN4.out) (by rw [HPl.out]; exact HN4.out) (HBl.out _ G6.out)))
    | (go_at_call 14; with_reducible refine CO.out.mono ?_; rintro e w8 ⟨rfl, hb⟩; have G8 : Hid (Below B w w8) := Lib.hid (G6.out.trans hb); clear hb))
  go_ret
  exact ⟨rfl, Hlow.out _ G8.out⟩

set_option maxHeartbeats 2000000 in
theorem journalFrames_bad (zi kz : Int) (A : Option Addr) (n c : Nat) (l : List UInt8) (w : World) (hN : Nib w) (h : Bs w A n l) (hm : n ≤ 140737488351232) (hlt : ∀ ad, A = some ad → ad.block < w.heap.size) (z : Int) (hbad : (FrOk zi kz = false ∧ z = 1) ∨ (FrOk zi kz = true ∧ 268435456 < n ∧ z = 2)) :
    Calls Tryd.prog 3 #[.int .i64 zi, .int .i64 kz, .slice A n c] w fun e w' => e = .returned (.bool true) ∧ Below w.heap.size w w' := by
  have HN := Lib.hid hN
  have Hm := Lib.hid hm
  obtain ⟨B, hB⟩ : ∃ B, B = w.heap.size := ⟨_, rfl⟩
  have HBl : Hid (∀ wx, Below B w wx → B ≤ wx.heap.size) := Lib.hid (fun wx h => by rw [hB]; exact h.size)
  have Hlow : Hid (∀ wx, Below B w wx → Below w.heap.size w wx) := Lib.hid (fun wx h => by rw [← hB]; exact h)
  have Hup : Hid (∀ wx, Below w.heap.size w wx → Below B w wx) := Lib.hid (fun wx h => by rw [hB]; exact h)
  have K : Hid (∀ wx, Below B w wx → Bs wx A n l) := Lib.hid (fun wx hx => h.below (Hlow.out _ hx))
  have KN : Hid (∀ wx, Below B w wx → Nib wx) := Lib.hid (fun wx hx => hN.below (Hlow.out _ hx))
  have HAB : Hid (∀ ad, A = some ad → ad.block < B) := Lib.hid (fun ad e => by rw [hB]; exact hlt ad e)
  have HL := Lib.hid h.len
  have HLm := Lib.hid h.max
  have CM : Hid (∀ wx Ax cx, Calls Tryd.prog 11 #[.int .i64 zi, .int .i64 kz, .slice Ax n cx] wx fun e w' => e = .returned (.tuple #[.slice none 0 0, .int .i64 z]) ∧ wx = w') := Lib.hid (fun wx Ax cx => by
    rcases hbad with ⟨h1, rfl⟩ | ⟨h1, h2, rfl⟩
    · exact frame_bad zi kz n cx Ax wx h1
    · exact frame_long zi kz n cx Ax wx h1 h2)
  have CR : Hid (∀ wx, Calls Tryd.prog 13 #[.int .i64 zi, .int .i64 kz, .slice A n c] wx fun e w' => e = .returned (.tuple #[.slice none 0 0, .int .i64 z]) ∧ wx = w') := Lib.hid (fun wx => by
    rcases hbad with ⟨h1, rfl⟩ | ⟨h1, h2, rfl⟩
    · exact rframe_bad zi kz n c A wx h1
    · exact rframe_long zi kz n c A wx h1 h2)
  have hcn := fun (wx : World) => run_convert_bs (Bs.nil wx none) 0
  clear hN hB h hlt hm hbad
  go_enter Tryd.func3, Tryd.ntmps3
  go_wp2_with (first
    | (go_at_call 9; refine (awake15 _ HN.out).mono ?_; rintro e w1 ⟨rfl, hb⟩; have G1 := Lib.hid (Hup.out _ hb); clear hb HN)
    | (go_at_call 10; refine (lent_any A n c l w1 (K.out _ G1.out) Hm.out).mono ?_; rintro e w2 ⟨rfl, hg, hb⟩; have HI2 := Lib.hid hg; have L2 := Lib.hid (lent_bs HL.out HLm.out hg); have G2 : Hid (Below B w w2) := Lib.hid (G1.out.trans (hb.mono (HBl.out _ G1.out))); obtain ⟨gl, hgl⟩ : ∃ g, g = w1.heap.size := ⟨_, rfl⟩; have Hgl : Hid (B ≤ gl ∧ gl < w2.heap.size) := Lib.hid ⟨by rw [hgl]; exact HBl.out _ G1.out, by rw [hgl]; exact lt_block hg⟩; rw [← hgl] at HI2 L2 ⊢; clear hg hb hgl)
    | (go_at_call 11; (with_reducible refine (CM.out w2 _ (n + 3)).mono ?_); rintro e w' ⟨rfl, rfl⟩)
    | (go_at_call 12; refine (back_any A n c gl l w2 (K.out _ G2.out) Hm.out HI2.out (fun ad e => Nat.ne_of_lt (Nat.lt_of_lt_of_le (HAB.out ad e) Hgl.out.1))).mono ?_; rintro e w5 ⟨rfl, hg⟩; have G5 : Hid (Below B w w5) := Lib.hid (G2.out.grown hg (HBl.out _ G2.out) (fun i hi => by cases hi; exact Hgl.out.1)); clear hg)
    | (go_at_call 13; (with_reducible refine (CR.out w5).mono ?_); rintro e w' ⟨rfl, rfl⟩; have CO := Lib.hid (owned_nil15 B w5 (HBl.out _ G5.out)))
    | (go_at_call 14; with_reducible refine CO.out.mono ?_; rintro e w8 ⟨rfl, hb⟩; have G8 : Hid (Below B w w8) := Lib.hid (G5.out.trans hb); clear hb))
  go_ret
  exact ⟨rfl, Hlow.out _ G8.out⟩

theorem journalFrames_any (zi kz : Int) (A : Option Addr) (n c : Nat) (l : List UInt8) (w : World) (hN : Nib w) (h : Bs w A n l) (hm : n ≤ 140737488351232) (hlt : ∀ ad, A = some ad → ad.block < w.heap.size) :
    Calls Tryd.prog 3 #[.int .i64 zi, .int .i64 kz, .slice A n c] w fun e w' => e = .returned (.bool true) ∧ Below w.heap.size w w' := by
  cases hk : FrOk zi kz with
  | false => exact journalFrames_bad zi kz A n c l w hN h hm hlt 1 (.inl ⟨hk, rfl⟩)
  | true =>
    by_cases hl : n ≤ 268435456
    · simp only [FrOk, decide_eq_true_eq] at hk
      obtain ⟨e0, rfl⟩ : ∃ k : Nat, zi = k := ⟨zi.toNat, by omega⟩
      obtain ⟨number, rfl⟩ : ∃ k : Nat, kz = k := ⟨kz.toNat, by omega⟩
      exact journalFrames_ok e0 number A n c l w hN h hm hlt (by omega) (by omega) (by omega) hl
    · exact journalFrames_bad zi kz A n c l w hN h hm hlt 2 (.inr ⟨hk, by omega, rfl⟩)

end Go.Proofs.YtaaimonnpmfnlaaDoor
