/-
  THE WALK of coffretlaw11.SumNumbers.
-/
import Derived.Test.YtmmbofgamipfiaaDoorOwnedB
import Derived.Test.YtmmbofgamipfiaaDoorLawAdds
namespace Go.Proofs.YtmmbofgamipfiaaDoor
open Go.RowKit
set_option linter.unusedVariables false

theorem conv_own {w : World} {B : Nat} {A : Option Addr} {n c : Nat} {l : List UInt8} (h : w.ownsRow B 5 1 (.slice A n c) n (bs l)) :
    (convert 22 9 (.slice A n c)).run Tryd.prog w = .ok (.string (strB l)) w := by
  obtain ⟨A', c', e, hb⟩ := own_bytes h
  cases e
  exact run_convert_bs hb c
theorem owned_nil (B : Nat) (w : World) (hb : B ≤ w.heap.size) :
    Calls Tryd.prog 23 #[.slice (some ⟨w.heap.size, 0, none⟩) 2 2] (w.alloc (.cells #[.slice none 0 0, .slice none 0 0] 22)) fun e w' => e = .returned (.bool true) ∧ Below B w w' :=
  owned_two B (.slice none 0 0) (.slice none 0 0) [] [] w (World.ownsRow_nil _ _ _ _) (World.ownsRow_nil _ _ _ _) (fun g e => by simp [Value.ownBlock] at e) (by simp) (by simp) hb
theorem below_of_alloc {B : Nat} {w w' : World} (h : Below B w w') : Below B w w' := h

set_option maxRecDepth 100000 in
set_option maxHeartbeats 2000000 in
theorem sumNumbers_ok (N k : Nat) (hk1 : 1 ≤ k) (hk8 : k ≤ 8) (hNm : N ≤ 9223372036854775807) (hNk : N < 256 ^ k) (A : Option Addr) (n c : Nat) (at0 : Int) (l : List UInt8) (w : World) (hN : Nib w) (h : Bs w A n l) (hc : n ≤ c) (hm : n ≤ 140737488351232) (hlt : ∀ ad, A = some ad → ad.block < w.heap.size) :
    Calls Tryd.prog 5 #[.int .i64 N, .int .i64 k, .slice A n c, .int .i64 at0] w fun e w' => e = .returned (.bool true) ∧ Below w.heap.size w w' := by
  have HN := Lib.hid hN
  have Hm := Lib.hid hm
  obtain ⟨B, hB⟩ : ∃ B, B = w.heap.size := ⟨_, rfl⟩
  have HBl : Hid (∀ wx, Below B w wx → B ≤ wx.heap.size) := Lib.hid (fun wx h => by rw [hB]; exact h.size)
  have Hlow : Hid (∀ wx, Below B w wx → Below w.heap.size w wx) := Lib.hid (fun wx h => by rw [← hB]; exact h)
  have Hup : Hid (∀ wx, Below w.heap.size w wx → Below B w wx) := Lib.hid (fun wx h => by rw [hB]; exact h)
  have K : Hid (∀ wx, Below B w wx → Bs wx A n l) := Lib.hid (fun wx hx => h.below (Hlow.out _ hx))
  have HAB : Hid (∀ ad, A = some ad → ad.block < B) := Lib.hid (fun ad e => by rw [hB]; exact hlt ad e)
  have HL := Lib.hid h.len
  have HLm := Lib.hid h.max
  obtain ⟨r1, hr1⟩ : ∃ r, r = (rd n l at0 k).1 := ⟨_, rfl⟩
  obtain ⟨r2, hr2⟩ : ∃ r, r = (rd n l at0 k).2 := ⟨_, rfl⟩
  have CR : Hid (∀ wx Ax cx, Bs wx Ax n l → n ≤ cx → Calls Tryd.prog 21 #[.slice Ax n cx, .int .i64 at0, .int .i64 k] wx fun e w' => e = .returned (.tuple #[.int .i64 r1, .int .i64 r2]) ∧ wx = w') := Lib.hid (fun wx Ax cx hb hc => by rw [hr1, hr2]; exact read_any Ax n cx at0 _ l wx hb hc)
  have CQ : Hid (∀ wx, Below B w wx → Calls Tryd.prog 22 #[.slice A n c, .int .i64 at0, .int .i64 k] wx fun e w' => e = .returned (.tuple #[.int .i64 r1, .int .i64 r2]) ∧ wx = w') := Lib.hid (fun wx hx => by rw [hr1, hr2]; exact rread_any A n c at0 _ l wx (K.out _ hx))
  have CN : Hid (∀ wx, Calls Tryd.prog 19 #[.int .i64 N, .int .i64 k] wx fun e w' => ∃ v, e = .returned (.tuple #[v, .int .i64 0]) ∧ w'.ownsRow wx.heap.size 5 1 v k (bs (le k N)) ∧ Below wx.heap.size wx w') := Lib.hid (fun wx => number_ok N k wx hk1 hk8 hNm hNk)
  have CM : Hid (∀ wx, Calls Tryd.prog 20 #[.int .i64 N, .int .i64 k] wx fun e w' => ∃ v, e = .returned (.tuple #[v, .int .i64 0]) ∧ w'.ownsRow wx.heap.size 5 1 v k (bs (le k N)) ∧ Below wx.heap.size wx w') := Lib.hid (fun wx => rnumber_ok N k wx hk1 hk8 hNm hNk)
  have Hkl : Hid ((le k N).length = k) := Lib.hid (le_length k N)
  clear hN hB h hlt hr1 hr2 hNm hNk hm hc
  go_enter Tryd.func5, Tryd.ntmps5
  go_wp2_with (first
    | (go_at_call 10; refine (awake11 _ HN.out).mono ?_; rintro e w1 ⟨rfl, hb⟩; have G1 := Lib.hid (Hup.out _ hb); clear hb HN)
    | (go_at_call 19; with_reducible refine (CN.out w1).mono ?_; rintro e w2 ⟨x, rfl, ho, hb⟩; have G2 : Hid (Below B w w2) := Lib.hid (G1.out.trans (hb.mono (HBl.out _ G1.out))); obtain ⟨Ax, cx, hxe, _, _, _⟩ := own_addr ho; subst hxe; have X2 := Lib.hid (own_mono ho (HBl.out _ G1.out)); clear ho hb)
    | (go_at_call 19; with_reducible refine (CN.out w2).mono ?_; rintro e w3 ⟨y, rfl, ho, hb⟩; have G3 : Hid (Below B w w3) := Lib.hid (G2.out.trans (hb.mono (HBl.out _ G2.out))); obtain ⟨Ay, cy, hye, _, _, _⟩ := own_addr ho; subst hye; have X3 := Lib.hid (own_below X2.out hb); have Y3 := Lib.hid (own_mono ho (HBl.out _ G2.out)); have D : Hid (∀ g, (Value.slice Ax k cx).ownBlock = some g → (Value.slice Ay k cy).ownBlock ≠ some g) := Lib.hid (fun g e1 e2 => by have := (own_lt X2.out e1).2; have := (own_lt ho e2).1; omega); clear ho hb)
    | (go_at_call 20; with_reducible refine (CM.out w3).mono ?_; rintro e w4 ⟨q, rfl, ho, hb⟩; have G4 : Hid (Below B w w4) := Lib.hid (G3.out.trans (hb.mono (HBl.out _ G3.out))); obtain ⟨Aq, cq, hqe, _, _, _⟩ := own_addr ho; subst hqe; have X4 := Lib.hid (own_below X3.out hb); have Y4 := Lib.hid (own_below Y3.out hb); have Q4 := Lib.hid (own_mono ho (HBl.out _ G3.out)); clear ho hb)
    | (go_at_call 11; refine (lent_any A n c l w4 (K.out _ G4.out) Hm.out).mono ?_; rintro e w5 ⟨rfl, hg, hb⟩; have HI := Lib.hid hg; have HLt := Lib.hid (lent_bs HL.out HLm.out hg); have G5 : Hid (Below B w w5) := Lib.hid (G4.out.trans (hb.mono (HBl.out _ G4.out))); have X5 := Lib.hid (own_below X4.out hb); have Y5 := Lib.hid (own_below Y4.out hb); have Q5 := Lib.hid (own_below Q4.out hb); clear hg hb)
    | (go_at_call 21; with_reducible refine (CR.out w5 _ (n + 3) HLt.out (by omega)).mono ?_; rintro e w' ⟨rfl, rfl⟩)
    | (go_at_call 14; refine (back_any A n c _ l w5 (K.out _ G5.out) Hm.out HI.out (fun ad e => Nat.ne_of_lt (Nat.lt_of_lt_of_le (HAB.out ad e) (HBl.out _ G4.out)))).mono ?_; rintro e w6 ⟨rfl, hg⟩; have G6 : Hid (Below B w w6) := Lib.hid (G5.out.grown hg (HBl.out _ G5.out) (fun i hi => by cases hi; exact HBl.out _ G4.out)); have X6 := Lib.hid (own_grown X5.out hg (fun e => by have := (own_lt X4.out e).2; omega)); have Y6 := Lib.hid (own_grown Y5.out hg (fun e => by have := (own_lt Y4.out e).2; omega)); have Q6 := Lib.hid (own_grown Q5.out hg (fun e => by have := (own_lt Q4.out e).2; omega)); clear hg)
    | (go_at_call 22; with_reducible refine (CQ.out w6 G6.out).mono ?_; rintro e w' ⟨rfl, rfl⟩; clear X2 X3 Y3 X4 Y4 Q4 X5 Y5 Q5; have hcx := conv_own X6.out; have hcy := conv_own Y6.out; have hcq := conv_own Q6.out; have CO := Lib.hid (owned_two B _ _ (le k N) (le k N) w6 (by rw [Hkl.out]; exact X6.out) (by rw [Hkl.out]; exact Y6.out) D.out (by rw [Hkl.out]; omega) (by rw [Hkl.out]; omega) (HBl.out _ G6.out)))
    | (go_at_call 23; with_reducible refine CO.out.mono ?_; rintro e w8 ⟨rfl, hb⟩; have G8 : Hid (Below B w w8) := Lib.hid (G6.out.trans ((below_of_alloc hb))); clear hb))
  go_ret
  exact ⟨rfl, Hlow.out _ G8.out⟩

set_option maxRecDepth 100000 in
set_option maxHeartbeats 2000000 in
theorem sumNumbers_bad (z1 k1 : Int) (hbad : NumOk z1 k1 = false) (hnm : z1 ≤ 9223372036854775807) (A : Option Addr) (n c : Nat) (at0 : Int) (l : List UInt8) (w : World) (hN : Nib w) (h : Bs w A n l) (hc : n ≤ c) (hm : n ≤ 140737488351232) (hlt : ∀ ad, A = some ad → ad.block < w.heap.size) :
    Calls Tryd.prog 5 #[.int .i64 z1, .int .i64 k1, .slice A n c, .int .i64 at0] w fun e w' => e = .returned (.bool true) ∧ Below w.heap.size w w' := by
  have HN := Lib.hid hN
  have Hm := Lib.hid hm
  obtain ⟨B, hB⟩ : ∃ B, B = w.heap.size := ⟨_, rfl⟩
  have HBl : Hid (∀ wx, Below B w wx → B ≤ wx.heap.size) := Lib.hid (fun wx h => by rw [hB]; exact h.size)
  have Hlow : Hid (∀ wx, Below B w wx → Below w.heap.size w wx) := Lib.hid (fun wx h => by rw [← hB]; exact h)
  have Hup : Hid (∀ wx, Below w.heap.size w wx → Below B w wx) := Lib.hid (fun wx h => by rw [hB]; exact h)
  have K : Hid (∀ wx, Below B w wx → Bs wx A n l) := Lib.hid (fun wx hx => h.below (Hlow.out _ hx))
  have HAB : Hid (∀ ad, A = some ad → ad.block < B) := Lib.hid (fun ad e => by rw [hB]; exact hlt ad e)
  have HL := Lib.hid h.len
  have HLm := Lib.hid h.max
  obtain ⟨r1, hr1⟩ : ∃ r, r = (rd n l at0 k1).1 := ⟨_, rfl⟩
  obtain ⟨r2, hr2⟩ : ∃ r, r = (rd n l at0 k1).2 := ⟨_, rfl⟩
  have CR : Hid (∀ wx Ax cx, Bs wx Ax n l → n ≤ cx → Calls Tryd.prog 21 #[.slice Ax n cx, .int .i64 at0, .int .i64 k1] wx fun e w' => e = .returned (.tuple #[.int .i64 r1, .int .i64 r2]) ∧ wx = w') := Lib.hid (fun wx Ax cx hb hc => by rw [hr1, hr2]; exact read_any Ax n cx at0 _ l wx hb hc)
  have CQ : Hid (∀ wx, Below B w wx → Calls Tryd.prog 22 #[.slice A n c, .int .i64 at0, .int .i64 k1] wx fun e w' => e = .returned (.tuple #[.int .i64 r1, .int .i64 r2]) ∧ wx = w') := Lib.hid (fun wx hx => by rw [hr1, hr2]; exact rread_any A n c at0 _ l wx (K.out _ hx))
  have CN : Hid (∀ wx, Calls Tryd.prog 19 #[.int .i64 z1, .int .i64 k1] wx fun e w' => e = .returned (.tuple #[.slice none 0 0, .int .i64 1]) ∧ wx = w') := Lib.hid (fun wx => number_bad _ _ _ hbad hnm)
  have CM : Hid (∀ wx, Calls Tryd.prog 20 #[.int .i64 z1, .int .i64 k1] wx fun e w' => e = .returned (.tuple #[.slice none 0 0, .int .i64 1]) ∧ Below wx.heap.size wx w') := Lib.hid (fun wx => rnumber_bad _ _ _ hbad hnm)
  have hcn := fun (wx : World) => run_convert_bs (Bs.nil wx none) 0
  clear hN hB h hlt hr1 hr2 hbad hnm hm hc
  go_enter Tryd.func5, Tryd.ntmps5
  go_wp2_with (first
    | (go_at_call 10; refine (awake11 _ HN.out).mono ?_; rintro e w1 ⟨rfl, hb⟩; have G1 := Lib.hid (Hup.out _ hb); clear hb HN)
    | (go_at_call 19; with_reducible refine (CN.out w1).mono ?_; rintro e w' ⟨rfl, rfl⟩)
    | (go_at_call 20; with_reducible refine (CM.out w1).mono ?_; rintro e w4 ⟨rfl, hb⟩; have G4 : Hid (Below B w w4) := Lib.hid (G1.out.trans (hb.mono (HBl.out _ G1.out))); clear hb)
    | (go_at_call 11; refine (lent_any A n c l w4 (K.out _ G4.out) Hm.out).mono ?_; rintro e w5 ⟨rfl, hg, hb⟩; have HI := Lib.hid hg; have HLt := Lib.hid (lent_bs HL.out HLm.out hg); have G5 : Hid (Below B w w5) := Lib.hid (G4.out.trans (hb.mono (HBl.out _ G4.out))); clear hg hb)
    | (go_at_call 21; with_reducible refine (CR.out w5 _ (n + 3) HLt.out (by omega)).mono ?_; rintro e w' ⟨rfl, rfl⟩)
    | (go_at_call 14; refine (back_any A n c _ l w5 (K.out _ G5.out) Hm.out HI.out (fun ad e => Nat.ne_of_lt (Nat.lt_of_lt_of_le (HAB.out ad e) (HBl.out _ G4.out)))).mono ?_; rintro e w6 ⟨rfl, hg⟩; have G6 : Hid (Below B w w6) := Lib.hid (G5.out.grown hg (HBl.out _ G5.out) (fun i hi => by cases hi; exact HBl.out _ G4.out)); clear hg)
    | (go_at_call 22; with_reducible refine (CQ.out w6 G6.out).mono ?_; rintro e w' ⟨rfl, rfl⟩; have CO := Lib.hid (owned_nil B w6 (HBl.out _ G6.out)))
    | (go_at_call 23; with_reducible refine CO.out.mono ?_; rintro e w8 ⟨rfl, hb⟩; have G8 : Hid (Below B w w8) := Lib.hid (G6.out.trans ((below_of_alloc hb))); clear hb))
  go_ret
  exact ⟨rfl, Hlow.out _ G8.out⟩

theorem sumNumbers_any (n1 z : Int) (A : Option Addr) (n c : Nat) (at0 : Int) (l : List UInt8) (w : World) (hN : Nib w) (h : Bs w A n l) (hc : n ≤ c) (hm : n ≤ 140737488351232) (hlt : ∀ ad, A = some ad → ad.block < w.heap.size) (hn : n1 ≤ 9223372036854775807) :
    Calls Tryd.prog 5 #[.int .i64 n1, .int .i64 z, .slice A n c, .int .i64 at0] w fun e w' => e = .returned (.bool true) ∧ Below w.heap.size w w' := by
  cases hk : NumOk n1 z with
  | true =>
    simp only [NumOk, decide_eq_true_eq] at hk
    obtain ⟨k, rfl⟩ : ∃ k : Nat, z = k := ⟨z.toNat, by omega⟩
    obtain ⟨N, rfl⟩ : ∃ N : Nat, n1 = N := ⟨n1.toNat, by omega⟩
    have hNk : N < 256 ^ k := by
      have h4 := hk.2.2.2
      rw [Int.toNat_natCast] at h4
      have e : (256 : Int) ^ k = ((256 ^ k : Nat) : Int) := by rw [Int.natCast_pow]; rfl
      rw [e] at h4
      omega
    exact sumNumbers_ok N k (by omega) (by omega) (by omega) hNk A n c at0 l w hN h hc hm hlt
  | false => exact sumNumbers_bad n1 z hk hn A n c at0 l w hN h hc hm hlt

end Go.Proofs.YtmmbofgamipfiaaDoor
